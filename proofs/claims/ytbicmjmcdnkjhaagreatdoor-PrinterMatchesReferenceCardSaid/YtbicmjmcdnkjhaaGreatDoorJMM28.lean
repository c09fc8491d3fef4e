/- (*words).text: are all names names? is the text one of the language? A replacer run over a text. A replacer's Replace. A replacer: made, and run. -/
import Derived.Test.YtbicmjmcdnkjhaaGreatDoorJMM1
import Derived.Test.YtbicmjmcdnkjhaaGreatDoorJMM7
import Derived.Test.YtbicmjmcdnkjhaaGreatDoorJMM27
import Derived.Test.YtbicmjmcdnkjhaaGreatDoorJMM4
import Derived.Test.YtbicmjmcdnkjhaaGreatDoorJMM17
import Derived.Test.YtbicmjmcdnkjhaaGreatDoorJMM26
import Derived.Deep.RegionHeld3
import Derived.Laws.IdiomStrings
import Derived.Laws.MakeOwn
import Derived.Laws.BytesArg
set_option linter.unusedVariables false
set_option linter.unusedSimpArgs false
set_option maxRecDepth 20000
set_option maxHeartbeats 4000000
namespace Go.Proofs.YtbicmjmcdnkjhaaGreatDoor
open Go.RowKit
def oneN (K : List Bytes) (s : Bytes) : Bool := match lexF s with
 | .ok [t] => t.kind == 1 && t.text == s && !K.contains s
 | _ => false
def textA (K N : List Bytes) (j : Bytes) : Bytes × Nat := if N.all (oneN K) = true then (match lexF j with | .ok _ => (j, 0) | .error _ => ([], 2)) else ([], 7)
theorem all_drop {K N : List Bytes} {k : Nat} {s : Bytes} (h : N[k]? = some s) : (N.drop k).all (oneN K) = (oneN K s && (N.drop (k + 1)).all (oneN K)) := by
 obtain ⟨h1, rfl⟩ := List.getElem?_eq_some_iff.1 h
 rw [List.drop_eq_getElem_cons h1, List.all_cons]
theorem text_any (W w : World) (p : Nat) (T : TypeId) (S : Nat → Prop) (L N : List Bytes) (mb : Nat) (K : List Bytes) (j : Bytes) (h : Wr W w p T S L N) (hk : KS w mb K) (hn : ∀ s ∈ N, s.length ≤ 1000000) (hlen : N.length ≤ 1000000) :
 Calls Tryz.prog 33 #[.pointer (some ⟨p, 0, none⟩), .map (some mb), vs j] w fun e w' => e = .returned (.tuple #[vs (textA K N j).1, .int .i64 ((textA K N j).2 : Nat)]) ∧ Below w.heap.size w w' := by
 obtain ⟨v1, v2, h⟩ := h
 have H := Hi h
 have HKS := Hi hk
 have HN := Hi hn
 have c1 : w.cell? ⟨p, 1, none⟩ = some v2 := cOb (o := 1) h.is rfl
 have hpl := h.lt p h.mem
 obtain ⟨A, cap, rfl, hcap, hrd, -⟩ := h.n.form
 have HRD := Hi hrd
 clear h hk hn hrd
 go_enter Tryz.func33, Tryz.ntmps33
 go_wp2_with fail
 go_loopw [21] (fun v21 wr => ∃ k : Nat, k ≤ N.length ∧ v21 = .int .i64 k ∧ N.all (oneN K) = (N.drop k).all (oneN K) ∧ Below w.heap.size w wr) (fun v21 _ => N.length - (intOf v21).toNat)
 case atStart => exact ⟨0, Nat.zero_le _, rfl, rfl, Below.refl _ _⟩
 case round =>
  obtain ⟨k, hk, rfl, hall, hb⟩ := hrel
  have HALL := Hi hall
  have HB := Hi hb
  clear hall hb c1
  by_cases hlt : k < N.length
  · obtain ⟨s, hs⟩ := gLt hlt
    have hsl := HN.out s (List.mem_of_getElem? hs)
    have HD := Hi (all_drop (K := K) hs)
    obtain ⟨b, o, rfl, hbl, hc⟩ := HRD.out.item hs
    have z0 : wr.cell? ⟨b, o + k, none⟩ = some (vs s) := (HB.out.cell (p := ⟨b, o + k, none⟩) hbl).trans hc
    have hk1 : (k : Int) < N.length := by omega
    have hk0 : (0 : Int) ≤ k := by omega
    clear hc hs
    go_wp2_with fail
    refine (lex_any s _).mono ?_
    rintro e w1 ⟨hb1, hpost⟩
    have hbw := HB.out.trans (hb1.mono HB.out.size)
    have hlk := (HKS.out.keep (hbw.block mb HKS.out.lt)).look (s := s) hsl
    have HBW := Hi hbw
    clear hb1 hbw z0
    cases hlx : lexF s with
    | error er =>
      obtain ⟨er, a⟩ := er
      rw [hlx] at hpost
      simp only at hpost
      obtain rfl := hpost
      have hne : ((er : Int) != 0) = true := by
       have := lexF_err_ne hlx
       simp; omega
      have HO : Hid (oneN K s = false) := Hi (by unfold oneN; rw [hlx])
      clear hlx hlk
      go_wp2_with fail
      refine bodyPost_ret (v := .tuple #[vs (textA K N j).1, .int .i64 ((textA K N j).2 : Nat)]) ?_ rfl ⟨rfl, HBW.out⟩
      have : textA K N j = ([], 7) := by unfold textA; rw [HALL.out, HD.out, HO.out]; rfl
      rw [this]
      simp [results, Tryz.results33, go_sem]
    | ok ts =>
      rw [hlx] at hpost
      simp only at hpost
      obtain ⟨A', c', rfl, hrt, hA', hc1, hc2⟩ := hpost
      by_cases hl1 : ts.length = 1
      case neg =>
       have hne : ((ts.length : Int) != 1) = true := by simp; omega
       have HO : Hid (oneN K s = false) := Hi (by
        unfold oneN; rw [hlx]
        match ts, hl1 with
        | [], _ => rfl
        | [t], h => exact absurd rfl h
        | _ :: _ :: _, _ => rfl)
       have HX := Hi (And.intro hl1 (And.intro hrt hA'))
       clear hlx hlk hl1 hrt hA'
       go_wp2_with fail
       refine bodyPost_ret (v := .tuple #[vs (textA K N j).1, .int .i64 ((textA K N j).2 : Nat)]) ?_ rfl ⟨rfl, HBW.out⟩
       have : textA K N j = ([], 7) := by unfold textA; rw [HALL.out, HD.out, HO.out]; rfl
       rw [this]
       simp [results, Tryz.results33, go_sem]
      case pos =>
       obtain ⟨t, rfl⟩ : ∃ t, ts = [t] := by
        match ts, hl1 with
        | [t], _ => exact ⟨t, rfl⟩
       obtain ⟨b', o', rfl, hbl', y0, y1, -, -, -⟩ := hrt.head
       have HO : Hid (oneN K s = (t.kind == 1 && t.text == s && !K.contains s)) := Hi (by unfold oneN; rw [hlx])
       clear hlx hl1 hrt hA'
       cases hkd : (t.kind == 1) with
       | false =>
         have hne : ((t.kind : Int) != 1) = true := by simp at hkd ⊢; omega
         have HO2 : Hid (oneN K s = false) := Hi (by rw [HO.out, hkd]; rfl)
         clear hkd hlk
         go_wp2_with fail
         refine bodyPost_ret (v := .tuple #[vs (textA K N j).1, .int .i64 ((textA K N j).2 : Nat)]) ?_ rfl ⟨rfl, HBW.out⟩
         have : textA K N j = ([], 7) := by unfold textA; rw [HALL.out, HD.out, HO2.out]; rfl
         rw [this]
         simp [results, Tryz.results33, go_sem]
       | true =>
         have hkd' : ((t.kind : Int) != 1) = false := by simp at hkd ⊢; omega
         cases htx : (t.text == s) with
         | false =>
           have hne : ¬ t.text = s := by simpa using htx
           have hne2 : (t.text != s) = true := by rw [bne, htx]; rfl
           have HO2 : Hid (oneN K s = false) := Hi (by rw [HO.out, hkd, htx]; rfl)
           clear hkd htx hlk
           go_wp2_with fail
           refine bodyPost_ret (v := .tuple #[vs (textA K N j).1, .int .i64 ((textA K N j).2 : Nat)]) ?_ rfl ⟨rfl, HBW.out⟩
           have : textA K N j = ([], 7) := by unfold textA; rw [HALL.out, HD.out, HO2.out]; rfl
           rw [this]
           simp [results, Tryz.results33, go_sem]
         | true =>
           have hte : t.text = s := by simpa using htx
           subst hte
           cases hkc : K.contains t.text with
           | true =>
             rw [hkc] at hlk
             have HO2 : Hid (oneN K t.text = false) := Hi (by rw [HO.out, hkd, htx, hkc]; rfl)
             clear hkd htx hkc
             go_wp2_with fail
             refine bodyPost_ret (v := .tuple #[vs (textA K N j).1, .int .i64 ((textA K N j).2 : Nat)]) ?_ rfl ⟨rfl, HBW.out⟩
             have : textA K N j = ([], 7) := by unfold textA; rw [HALL.out, HD.out, HO2.out]; rfl
             rw [this]
             simp [results, Tryz.results33, go_sem]
           | false =>
             rw [hkc] at hlk
             have HO2 : Hid (oneN K t.text = true) := Hi (by rw [HO.out, hkd, htx, hkc]; rfl)
             clear hkd htx hkc
             go_wp2_with fail
             exact ⟨⟨k + 1, by omega, by go_num, by rw [HALL.out, HD.out, HO2.out, Bool.true_and], HBW.out⟩, by simp [intOf]; omega⟩
  · have hk' : k = N.length := by omega
    subst hk'
    have hlt2 : ¬ ((N.length : Nat) : Int) < N.length := by omega
    have HAL : Hid (N.all (oneN K) = true) := Hi (by rw [HALL.out, List.drop_length]; rfl)
    go_wp2_with fail
    refine (lex_any j _).mono ?_
    rintro e w1 ⟨hb1, hpost⟩
    have HBW := Hi (HB.out.trans (hb1.mono HB.out.size))
    clear hb1
    cases hlx : lexF j with
    | error er =>
      obtain ⟨er, a⟩ := er
      rw [hlx] at hpost
      simp only at hpost
      obtain rfl := hpost
      have hne : ((er : Int) != 0) = true := by
       have := lexF_err_ne hlx
       simp; omega
      have HX := Hi hlx
      clear hlx
      go_wp2_with fail
      refine bodyPost_ret (v := .tuple #[vs (textA K N j).1, .int .i64 ((textA K N j).2 : Nat)]) ?_ rfl ⟨rfl, HBW.out⟩
      have : textA K N j = ([], 2) := by unfold textA; rw [HAL.out, if_pos rfl, HX.out]
      rw [this]
      simp [results, Tryz.results33, go_sem]
    | ok ts =>
      rw [hlx] at hpost
      simp only at hpost
      obtain ⟨A', c', rfl, hrt, hA', hc1, hc2⟩ := hpost
      have HX := Hi hlx
      have HY := Hi (And.intro hrt hA')
      clear hlx hrt hA'
      go_wp2_with fail
      refine bodyPost_ret (v := .tuple #[vs (textA K N j).1, .int .i64 ((textA K N j).2 : Nat)]) ?_ rfl ⟨rfl, HBW.out⟩
      have : textA K N j = (j, 0) := by unfold textA; rw [HAL.out, if_pos rfl, HX.out]
      rw [this]
      simp [results, Tryz.results33, go_sem]
end Go.Proofs.YtbicmjmcdnkjhaaGreatDoor
set_option maxRecDepth 100000
set_option maxHeartbeats 16000000
namespace Go.Proofs.YtbicmjmcdnkjhaaGreatDoor
open Go.RowKit
attribute [local go_sem ↓] Go.wp_at_zero Go.wp_at_succ
theorem index_str (s : List UInt8) (i : Nat) (x : UInt8) (h : s[i]? = some x) (w : World) : (Instr.index 9 (vs s) (.int .i64 i)).run Tryz.prog w = .ok (.int .u8 (x.toNat : Int)) w := by
 have hi : i < s.length := (List.getElem?_eq_some_iff.1 h).1
 have e : (({ data := s.toArray } : ByteArray)[i]?) = some x := by
  have hs : i < ({ data := s.toArray } : ByteArray).size := by show i < s.toArray.size; simpa using hi
  rw [getElem?_pos ({ data := s.toArray } : ByteArray) i hs]
  exact congrArg some (byte_at h hs)
 simp [Instr.index, run_underlying Tryz.underlying9, asIntOf, e, go_sem]
theorem replF_len (o c : List UInt8) : ∀ s : Bytes, (replF o c s).length ≤ s.length
 | [] => lR _
 | [x] => lR _
 | x :: y :: r => by
   have h1 := replF_len o c r
   have h2 := replF_len o c (y :: r)
   rw [replF]
   simp only [List.length_cons] at h2 ⊢
   split
   · simp only [List.length_cons]; omega
   · split <;> simp only [List.length_cons] <;> omega
theorem Aw.keep {w w' : World} {b0 ab : Nat} {s : List UInt8} (h : Aw w b0 ab s) (hk : ∀ b, b < w.heap.size → w'.heap[b]? = w.heap[b]?) : Aw w' b0 ab s := by
 obtain ⟨v, h⟩ := h
 refine ⟨v, (hk ab h.lt).trans h.blk, ⟨h.own.1, ?_⟩, h.le⟩
 rcases h.own.2 with h1 | ⟨g, cap, cur, h1, h2, h3, h4⟩
 · exact Or.inl h1
 · exact Or.inr ⟨g, cap, cur, h1, h2, (hk g (lHp h3)).trans h3, h4⟩
theorem Aw.lt {w : World} {b0 ab : Nat} {s : List UInt8} (h : Aw w b0 ab s) : b0 < w.heap.size := by obtain ⟨v, h⟩ := h; exact Nat.lt_of_le_of_lt h.le h.lt
theorem ScanR.len {o c : List UInt8} {s : Bytes} {last i : Nat} {buf : Bytes} (h : ScanR o c s last i buf) : buf.length ≤ s.length ∧ buf.length + (i - last) ≤ s.length := by
 have h3 := congrArg List.length h.2.2
 have h4 := replF_len o c s
 have := h.1
 have := h.2.1
 simp only [List.length_append, List.length_take, List.length_drop] at h3
 omega
def GwRel (o c : List UInt8) (s : Bytes) (b0 ab : Nat) (w : World) (v6 v7 v9 v11 v12 : Value) (wr : World) : Prop :=
 Below b0 w wr ∧ v7 = .nilIface ∧ v11 = .bool false ∧ ∃ (last : Nat) (buf : List UInt8), Aw wr b0 ab buf ∧ v6 = .int .i64 buf.length ∧ v9 = .int .i64 last ∧
  ((∃ i : Nat, v12 = .int .i64 i ∧ ScanR o c s last i buf) ∨ (v12 = .int .i64 ((s.length + 1 : Nat) : Int) ∧ ScanR o c s last s.length buf))
theorem nil_ahead (ab : Nat) (w : World) : (nilAhead 424 312 (.pointer (some ⟨ab, 0, none⟩)) "WriteString").run Tryz.prog w = .ok (some false) w := by kernel_rfl
theorem ws_method (ab : Nat) (w : World) : (method 424 312 (.pointer (some ⟨ab, 0, none⟩)) "WriteString").run Tryz.prog w = .ok (262, .pointer (some ⟨ab, 0, none⟩)) w := by kernel_rfl
theorem gws_any (mp : Nat → Nat) (ts B : Nat) (w0 w : World) (r tb : Nat) (st : Nat → Sub) (h : Trie mp ts B w0 r tb st) (hok : StOk mp ts st) (o c : List UInt8) (hlk : ∀ s, lookB mp ts st s = (hitR o c s).map fun b => [b]) (hb0 : Below w0.heap.size w0 w) (ab : Nat) (hA : Aw w w0.heap.size ab []) (s : Bytes) (hs : s.length ≤ 1000000000) :
 Calls Tryz.prog 247 #[ptrB r, awV ab, vs s] w fun e w' => (∃ n : Int, e = .returned (.tuple #[.int .i64 n, .nilIface])) ∧ Aw w' w0.heap.size ab (replF o c s) ∧ Below w0.heap.size w w' := by
 obtain ⟨b0, hab⟩ : ∃ b0, w0.heap.size = b0 := ⟨_, rfl⟩
 have hT : ∀ wr, Below b0 w wr → Trie mp ts B wr r tb st := fun wr hb => h.keep (by have := hb0.size; have := hb.size; omega) (fun b _ hlt => (hb.block b (by omega)).trans (hb0.block b hlt))
 rw [hab] at hb0 hA ⊢
 have HOK := Hi hok
 have HT := Hi hT
 have HLK := Hi hlk
 have HA := Hi hA
 clear h hok hlk hb0 hA hT hab
 have hna := nil_ahead ab
 have hme := ws_method ab
 go_enter Tryz.func247, Tryz.ntmps247
 go_wp2_with (go_at_call 248; refine (gsw_any w ab).mono ?_; rintro e w' ⟨rfl, hw⟩; subst w')
 go_loopw [6, 7, 9, 10, 11, 12, 13, 14, 15, 16] (fun v6 v7 v9 v10 v11 v12 v13 v14 v15 v16 wr => GwRel o c s b0 ab w v6 v7 v9 v11 v12 wr) (fun _ _ _ _ _ v12 _ _ _ _ _ => s.length + 2 - (intOf v12).toNat)
 case atStart => exact ⟨Below.refl _ _, rfl, rfl, 0, [], HA.out, rfl, rfl, Or.inl ⟨0, rfl, ScanR.start o c s⟩⟩
 case round =>
  obtain ⟨hb, rfl, rfl, last, buf, haw, rfl, rfl, hend⟩ := hrel
  have HB := Hi hb
  have HAW := Hi haw
  clear hb haw
  rcases hend with ⟨i, rfl, hsc⟩ | ⟨rfl, hsc⟩
  · have HSC := Hi hsc
    have hil := hsc.2.1
    clear hsc
    have ht : (i : Int) ≤ (s.length : Int) := by omega
    have HTr := Hi (HT.out wr HB.out)
    obtain ⟨-, c1, -, -, c4, c5, rm⟩ := HTr.out.gr.cells
    have hrl := HTr.out.gr.lt
    have hw1 : wrap64 ((i : Int) + 1) = ((i + 1 : Nat) : Int) := by unfold wrap64; omega
    by_cases hi2 : i = s.length
    · subst hi2
      clear rm
      have hm : hitR o c (s.drop s.length) = none := by rw [List.drop_length]; rfl
      have hno : lookB mp ts st [] = none := rfl
      go_wp2_with fail
      have hcl : Calls Tryz.prog 249 #[ptrB r, .string ByteArray.empty, .bool false] wr fun e w' => e = .returned (lkOut (lookB mp ts st [])) ∧ Below wr.heap.size wr w' := lookup_any mp ts B wr r tb st HTr.out HOK.out [] false (by simp)
      refine hcl.mono ?_
      (rintro e w2 ⟨rfl, hw2⟩; rw [show lkOut (lookB mp ts st []) = .tuple #[vs [], .int .i64 0, .bool false] from rfl]; have HAW2 := Hi (HAW.out.keep (fun b hb => hw2.block b hb)); have HB2 := Hi (HB.out.trans (hw2.mono (Nat.le_of_lt (HAW.out.lt)))); clear hw2 hcl c1 c4 c5 hrl)
      go_wp2_with fail
      go_roundw
      case measure =>
       show s.length + 2 - ((s.length : Int) + 1).toNat < s.length + 2 - (s.length : Int).toNat
       omega
      case rel => exact ⟨HB2.out, rfl, rfl, last, buf, HAW2.out, rfl, rfl, Or.inr ⟨by push_cast; rfl, HSC.out⟩⟩
    · have hlt : i < s.length := by omega
      obtain ⟨x, hx⟩ : ∃ x, s[i]? = some x := ⟨_, List.getElem?_eq_getElem hlt⟩
      have hdr : s.drop i = x :: s.drop (i + 1) := by
       rw [List.drop_eq_getElem_cons hlt]
       congr 1
       have := List.getElem?_eq_getElem hlt
       rw [hx] at this
       exact (Option.some.inj this).symm
      have hne : ¬ ((i : Int) = (s.length : Int)) := by omega
      have hs0 := index_str s i x hx
      have j0 : (0 : Int) ≤ (x.toNat : Int) := by omega
      have j1 : (x.toNat : Int) < 256 := by have := UInt8.toNat_lt x; omega
      have r0 := rm x.toNat (UInt8.toNat_lt x)
      have hwr := wrap_small (HTr.out.gr.mpl x.toNat) HTr.out.gr.small
      have HDR := Hi hdr
      have HML : Hid (s.length + 2 - ((i : Int) + 1).toNat < s.length + 2 - ((i : Nat) : Int).toNat) := Hi (by omega)
      clear hdr hx rm
      by_cases hx : mp x.toNat < ts
      · have e1 : (wrap64 (mp x.toNat : Int) == (ts : Int)) = false := by rw [hwr]; simp; omega
        obtain ⟨D, h1, h2, F, h3, h4, h5⟩ := HTr.out.root
        obtain ⟨pv, hpv, hsub⟩ := h5 _ hx
        have ct : wr.cell? ⟨tb, mp x.toNat, none⟩ = some pv := cOb h1 hpv
        have htl := lHp h1
        have i0 : (0 : Int) ≤ (mp x.toNat : Int) := by omega
        have i1 : (mp x.toNat : Int) < ts := by omega
        have hp : (pv = nilP ∧ st (mp x.toNat) = .no) ∨ ∃ n, pv = ptrB n := by
         cases hst : st (mp x.toNat) with
         | no => rw [hst] at hsub; exact Or.inl ⟨hsub, rfl⟩
         | pre y v q => rw [hst] at hsub; obtain ⟨n, l, e, -⟩ := hsub; exact Or.inr ⟨n, e⟩
         | tab L => rw [hst] at hsub; obtain ⟨n, t, C, e, -⟩ := hsub; exact Or.inr ⟨n, e⟩
        clear h1 h2 h3 h4 h5 hpv hsub
        rcases hp with ⟨rfl, hst⟩ | ⟨nb, rfl⟩
        · have hm : hitR o c (s.drop i) = none := by
            have e2 := HLK.out (s.drop i)
            have e3 : lookB mp ts st (s.drop i) = none := by
             rw [HDR.out]
             cases s.drop (i + 1) with
             | nil => rfl
             | cons y r => simp only [lookB]; rw [if_pos hx, hst]
            rw [e3] at e2
            cases hh : hitR o c (s.drop i) with
            | none => rfl
            | some v => rw [hh] at e2; cases e2
          have HM := Hi hm
          have e1' : ((mp x.toNat : Int) == (ts : Int)) = false := by simp; omega
          clear hm hx hst e1
          go_upto_region 7 with fail
          go_quiet (fail)
          go_wp2_with fail
          go_roundw
          case measure => exact HML.out
          case rel => exact ⟨HB.out.trans ⟨rfl, rfl, rfl, lR _, fun _ _ => rfl⟩, rfl, rfl, last, buf, HAW.out.keep (fun _ _ => rfl), rfl, rfl, Or.inl ⟨i + 1, by push_cast; rfl, HSC.out.miss hlt HM.out⟩⟩
        · have HX := Hi hx
          have e1' : ((mp x.toNat : Int) == (ts : Int)) = false := by simp; omega
          clear hx e1
          go_upto_region 7 with fail
          go_quiet (fail)
          go_wp2_with fail
          have harg : Value.string (({ data := s.toArray } : ByteArray).extract i s.length) = vs (s.drop i) := by
           rw [text_slice, List.take_of_length_le (by rw [List.length_drop]; omega)]
          rw [harg]
          have HBX : Hid (Below b0 w (wr.drewN nq)) := Hi (HB.out.trans ⟨rfl, rfl, rfl, lR _, fun _ _ => rfl⟩)
          have HAX : Hid (Aw (wr.drewN nq) b0 ab buf) := Hi (HAW.out.keep (fun _ _ => rfl))
          revert HBX HAX
          generalize wr.drewN nq = X
          intro HBX HAX
          refine (lookup_any mp ts B X r tb st (HT.out X HBX.out) HOK.out (s.drop i) false (by rw [List.length_drop]; omega)).mono ?_
          rintro e w2 ⟨rfl, hw2⟩
          have HB2 := Hi (HBX.out.trans (hw2.mono (Nat.le_of_lt HAX.out.lt)))
          have HA2 := Hi (HAX.out.keep (fun b hb => hw2.block b hb))
          clear hw2 HBX HAX harg c1 c4 c5 ct hrl htl r0 hs0 j0 j1 i0 i1 e1' hwr HTr HB HAW HX
          rw [HLK.out]
          cases hm : hitR o c (s.drop i) with
          | none =>
            rw [show lkOut (Option.map (fun b => [b]) none) = .tuple #[vs [], .int .i64 0, .bool false] from rfl]
            have HM := Hi hm
            clear hm
            go_wp2_with fail
            go_roundw
            case measure => exact HML.out
            case rel => exact ⟨HB2.out, rfl, rfl, last, buf, HA2.out, rfl, rfl, Or.inl ⟨i + 1, by push_cast; rfl, HSC.out.miss hlt HM.out⟩⟩
          | some v =>
            rw [show lkOut (Option.map (fun b => [b]) (some v)) = .tuple #[vs [v], .int .i64 2, .bool true] from rfl]
            have HM := Hi hm
            clear hm
            have hll : last ≤ i := HSC.out.1
            have hll1 : (last : Int) ≤ (i : Int) := by omega
            go_upto_region 13 with fail
            have hll2 : (i : Int) ≤ (s.length : Int) := by omega
            obtain ⟨seg, hseg⟩ : ∃ seg, (s.drop last).take (i - last) = seg := ⟨_, rfl⟩
            have harg : Value.string (({ data := s.toArray } : ByteArray).extract last i) = vs seg := by rw [text_slice, hseg]
            have hbl := HSC.out.len
            have hb1 : buf.length ≤ 1000000000 := by omega
            have hb2 : seg.length ≤ 1000000000 := by rw [← hseg, List.length_take, List.length_drop]; omega
            have hsc2 := HSC.out.hit HM.out
            rw [hseg] at hsc2
            have HSC2 := Hi hsc2
            have HNE : Hid (s.length + 2 - ((i : Int) + 2).toNat < s.length + 2 - ((i : Nat) : Int).toNat) := Hi (by omega)
            clear hseg hbl hsc2
            go_region_held3 (fun _ => True) (exact trivial) ((go_at_call 262; refine (aw_any w2.drew b0 ab buf seg (HA2.out.keep (fun _ _ => rfl)) (by omega)).mono ?_; rintro e w3 ⟨rfl, hA3, hB3⟩; have HA3 := Hi hA3; have HB3 := Hi (HB2.out.drew.trans hB3); clear hA3 hB3 harg))
            go_wp2_with (go_at_call 262; refine (aw_any w3 b0 ab (buf ++ seg) [v] HA3.out (by simp; omega)).mono ?_; rintro e w4 ⟨rfl, hA4, hB4⟩; have HA4 := Hi hA4; have HB4 := Hi (HB3.out.trans hB4); clear hA4 hB4)
            go_roundw
            case measure => exact HNE.out
            case rel => exact ⟨HB4.out, rfl, rfl, i + 2, buf ++ (seg ++ [v]), by rw [← List.append_assoc]; exact HA4.out, by simp; omega, by push_cast; rfl, Or.inl ⟨i + 2, by push_cast; rfl, HSC2.out⟩⟩
      · have e1 : (wrap64 (mp x.toNat : Int) == (ts : Int)) = true := by have := HTr.out.gr.mpl x.toNat; rw [hwr]; simp; omega
        have hm : hitR o c (s.drop i) = none := by
         have e2 := HLK.out (s.drop i)
         have e3 : lookB mp ts st (s.drop i) = none := by
          rw [HDR.out]
          cases s.drop (i + 1) with
          | nil => rfl
          | cons y r => simp only [lookB]; rw [if_neg hx]
         rw [e3] at e2
         cases hh : hitR o c (s.drop i) with
         | none => rfl
         | some v => rw [hh] at e2; cases e2
        have HM := Hi hm
        clear hm hx hwr
        go_upto_region 7 with fail
        go_quiet (fail)
        go_wp2_with fail
        go_roundw
        case measure => exact HML.out
        case rel => exact ⟨HB.out.trans ⟨rfl, rfl, rfl, lR _, fun _ _ => rfl⟩, rfl, rfl, last, buf, HAW.out.keep (fun _ _ => rfl), rfl, rfl, Or.inl ⟨i + 1, by push_cast; rfl, HSC.out.miss hlt HM.out⟩⟩
  · have ht : ¬ (((s.length + 1 : Nat) : Int) ≤ (s.length : Int)) := by omega
    have hfin := hsc.fin
    have hll : last ≤ s.length := hsc.1
    have hbl := hsc.len
    have hll1 : (last : Int) ≤ (s.length : Int) := by omega
    by_cases hl2 : last = s.length
    · subst hl2
      rw [List.drop_length, List.append_nil] at hfin
      have HF := Hi hfin
      clear hsc hfin hbl
      go_wp2_with fail
      exact bodyPost_ret (v := .tuple #[.int .i64 buf.length, .nilIface]) (by simp [results, Tryz.results247, go_sem]) rfl ⟨⟨_, rfl⟩, by rw [HF.out]; exact HAW.out, HB.out⟩
    · have hne : ¬ ((last : Int) = (s.length : Int)) := by omega
      obtain ⟨seg, hseg⟩ : ∃ seg, s.drop last = seg := ⟨_, rfl⟩
      have harg : Value.string (({ data := s.toArray } : ByteArray).extract last s.length) = vs seg := by rw [text_slice, List.take_of_length_le (by rw [List.length_drop]; omega), hseg]
      have hb1 : buf.length ≤ 1000000000 := by omega
      have hb2 : seg.length ≤ 1000000000 := by rw [← hseg, List.length_drop]; omega
      rw [hseg] at hfin
      have HF := Hi hfin
      clear hsc hfin hbl hseg
      go_upto_region 23 with fail
      go_region_held3 (fun _ => True) (exact trivial) ((go_at_call 262; refine (aw_any wr.drew b0 ab buf seg (HAW.out.keep (fun _ _ => rfl)) (by omega)).mono ?_; rintro e w3 ⟨rfl, hA3, hB3⟩; have HA3 := Hi hA3; have HB3 := Hi (HB.out.drew.trans hB3); clear hA3 hB3 harg))
      go_wp2_with fail
      exact bodyPost_ret (v := .tuple #[.int .i64 (buf.length + seg.length), .nilIface]) (by simp [results, Tryz.results247, go_sem]) rfl ⟨⟨_, rfl⟩, by rw [HF.out]; exact HA3.out, HB3.out⟩
end Go.Proofs.YtbicmjmcdnkjhaaGreatDoor
set_option maxRecDepth 100000
set_option maxHeartbeats 16000000
namespace Go.Proofs.YtbicmjmcdnkjhaaGreatDoor
open Go.RowKit
attribute [local go_sem ↓] Go.wp_at_zero Go.wp_at_succ
theorem mk_bytes (n : Nat) (hn : n ≤ 1000000000) (w : World) : (Instr.makeSlice 311 (.int .i64 0) (.int .i64 n)).run Tryz.prog w = .ok (.slice (some ⟨w.heap.size, 0, none⟩) 0 n) (w.alloc (.cells (madeCells #[.int .u8 0] n) 5)) := by
 obtain ⟨i0, hi0, hz0, hz1, hz2⟩ := info_parts info_u8
 have h := run_make (P := Tryz.prog) w 311 5 i0 (.int .u8 0) Tryz.underlying311 hi0 hz0 .i64 .i64 0 n (Int.le_refl _) (by omega) (by rw [hz2]; omega) (by omega)
 rw [hz1, Nat.mul_one, Int.toNat_natCast] at h
 exact h
theorem aw_start (w : World) (n : Nat) (hn : n ≤ 1000000000) : Aw ((w.alloc (.cells (madeCells #[.int .u8 0] n) 5)).alloc (.cells #[.slice (some ⟨w.heap.size, 0, none⟩) 0 n] 311)) w.heap.size (w.heap.size + 1) [] := by
 have hs : (w.alloc (.cells (madeCells #[.int .u8 0] n) 5)).heap.size = w.heap.size + 1 := by simp
 have h1 := heap_alloc_new (w.alloc (.cells (madeCells #[.int .u8 0] n) 5)) (.cells #[.slice (some ⟨w.heap.size, 0, none⟩) 0 n] 311)
 rw [hs] at h1
 refine ⟨_, h1, ⟨rfl, Or.inr ⟨w.heap.size, n, _, rfl, lR _, (Below.heap_alloc _ _ _ (by simp)).trans (heap_alloc_new w _), by simp, by unfold maxLen; omega, ?_, by simp [cB]⟩⟩, Nat.le_succ _⟩
 rw [← Array.length_toList, toList_madeCells_one]
 simp
theorem conv_bytes (w : World) (b0 ab : Nat) (v : Value) (s : List UInt8) (h : AwV w b0 ab v s) : (convert 311 9 v).run Tryz.prog w = .ok (vs s) w := by
 rcases h.own.2 with ⟨rfl, h0⟩ | ⟨g, cap, cur, rfl, hbg, hg, h1, h2, h3, h4⟩
 · have e : s = [] := List.eq_nil_of_length_eq_zero h0
   subst e
   exact run_convert_bytes_nil (P := Tryz.prog) w _ _ Tryz.underlying311 Tryz.underlying5 0 0 _ Tryz.underlying9
 · refine run_convert_bytes_back w _ _ _ ⟨g, 0, none⟩ cap s Tryz.underlying311 Tryz.underlying5 Tryz.underlying9 (fun j hj => ?_)
   rw [Addr.add_lit, Nat.zero_add]
   refine cOb hg ?_
   have h5 : (cur.toList.take (s.length * 1))[j]? = (cB s)[j]? := by rw [h4]
   rw [List.getElem?_take_of_lt (by omega), Array.getElem?_toList] at h5
   rw [h5]
   simp [cB, List.getElem?_eq_getElem hj]
theorem grep_any (mp : Nat → Nat) (ts B : Nat) (w : World) (r tb : Nat) (st : Nat → Sub) (h : Trie mp ts B w r tb st) (hok : StOk mp ts st) (o c : List UInt8) (hlk : ∀ s, lookB mp ts st s = (hitR o c s).map fun b => [b]) (s : Bytes) (hs : s.length ≤ 1000000000) :
 Calls Tryz.prog 246 #[ptrB r, vs s] w fun e w' => e = .returned (vs (replF o c s)) ∧ Below w.heap.size w w' := by
 have HT := Hi h
 have HOK := Hi hok
 have HLK := Hi hlk
 have hmk := mk_bytes s.length hs
 have HAS := Hi (aw_start w s.length hs)
 have HB : Hid (Below w.heap.size w ((w.alloc (.cells (madeCells #[.int .u8 0] s.length) 5)).alloc (.cells #[.slice (some ⟨w.heap.size, 0, none⟩) 0 s.length] 311))) := Hi (((Below.refl _ _).alloc (lR _) _).alloc (by simp) _)
 clear h hok hlk
 go_enter Tryz.func246, Tryz.ntmps246
 go_wp2_with fail
 have hX := HAS.out
 have HBX := HB
 revert hX HBX
 generalize (w.alloc (.cells (madeCells #[.int .u8 0] s.length) 5)).alloc (.cells #[.slice (some ⟨w.heap.size, 0, none⟩) 0 s.length] 311) = X
 intro hX HBX
 refine (gws_any mp ts B w X r tb st HT.out HOK.out o c HLK.out HBX.out (w.heap.size + 1) hX s hs).mono ?_
 rintro e w2 ⟨⟨n, rfl⟩, ⟨v, hv⟩, hB2⟩
 have c0 := cOb (o := 0) hv.blk rfl
 have hlt := hv.lt
 have hcv := conv_bytes w2 _ _ v _ hv
 have HB2 := Hi (HBX.out.trans hB2)
 clear hB2 hv hX
 go_wp2_with fail
 exact bodyPost_ret (v := vs (replF o c s)) (by simp [results, Tryz.results246, go_sem]) rfl ⟨rfl, HB2.out⟩
end Go.Proofs.YtbicmjmcdnkjhaaGreatDoor
namespace Go.Proofs.YtbicmjmcdnkjhaaGreatDoor
open Go.RowKit
attribute [local go_sem ↓] Go.wp_at_zero Go.wp_at_succ
set_option maxRecDepth 100000
set_option maxHeartbeats 16000000
def flatK : List Pr → List (List UInt8)
 | [] => []
 | (x, y, v) :: r => [x, y] :: v :: flatK r
theorem flatK_len (P : List Pr) : (flatK P).length = 2 * P.length := by
 induction P with
 | nil => rfl
 | cons p P ih => obtain ⟨a, b, c⟩ := p; simp only [flatK, List.length_cons, ih]; omega
theorem flatK_at : ∀ (P : List Pr) (i : Nat) (x y : UInt8) (v : Bytes), P[i]? = some (x, y, v) → (flatK P)[2 * i]? = some [x, y] ∧ (flatK P)[2 * i + 1]? = some v
 | [], i, x, y, v, h => by simp at h
 | (a, b, c) :: P, 0, x, y, v, h => by
   have e : (a, b, c) = (x, y, v) := by simpa using h
   injection e with e1 e2
   injection e2 with e2 e3
   subst e1 e2 e3
   exact ⟨rfl, rfl⟩
 | (a, b, c) :: P, i + 1, x, y, v, h => by
   have ih := flatK_at P i x y v (by simpa using h)
   rw [show 2 * (i + 1) = 2 * i + 1 + 1 by omega]
   simpa [flatK] using ih
theorem own_new {w2 : World} {v' : Value} {l : List (List UInt8)} {N : Nat} (h : OwnS w2 0 v' l) (hl : l ≠ []) (hb : v'.ownBlock = (Value.slice none 0 0).ownBlock ∨ v'.ownBlock = some N) : ∃ cap, v' = .slice (some ⟨N, 0, none⟩) l.length cap ∧ N < w2.heap.size ∧ ∀ (j : Nat) x, l[j]? = some x → w2.cell? ⟨N, j, none⟩ = some (vs x) := by
 have h1 := h.1
 rcases h.2 with ⟨-, h0⟩ | ⟨g, cap, cur, rfl, r2, r3, r4, r5, r6, r7⟩
 · exact absurd (List.eq_nil_of_length_eq_zero h0) hl
 · have e : g = N := by simpa [Value.ownBlock] using hb
   subst e
   refine ⟨cap, rfl, lHp r3, fun j x hj => cOb r3 ?_⟩
   have h5 : (cur.toList.take (l.length * 1))[j]? = (l.map vs)[j]? := by rw [r7]
   have hj2 := (List.getElem?_eq_some_iff.1 hj).1
   rw [List.getElem?_take_of_lt (by omega), Array.getElem?_toList] at h5
   rw [h5, List.getElem?_map, hj]
   rfl
theorem Eff.drew {p : Nat} {a b : World} (h : Eff p a b) : Eff p a b.drew := ⟨h.os, h.tape, h.output, h.size, h.block⟩
structure NewRep (P : List Pr) (w w' : World) (rb kb c : Nat) : Prop where
 blk : w'.heap[rb]? = some (.cells #[.int .u32 0, .int .i32 0, .int .u32 0, .nilIface, .slice (some ⟨kb, 0, none⟩) (2 * P.length) c] 120 (0, 0))
 keys : KeysAt w' kb P
 ne : kb ≠ rb
 new : w.heap.size ≤ rb
 below : Below w.heap.size w w'
theorem newrep_any (w : World) (g c : Nat) (P : List Pr) (h1 : 1 ≤ P.length) (h2 : P.length ≤ 100) (hX : ∀ (j : Nat) x, (flatK P)[j]? = some x → w.cell? ⟨g, j, none⟩ = some (vs x)) :
 Calls Tryz.prog 32 #[.slice (some ⟨g, 0, none⟩) (flatK P).length c] w fun e w' => ∃ rb kb c, e = .returned (.pointer (some ⟨rb, 0, none⟩)) ∧ NewRep P w w' rb kb c := by
 have HX := Hi hX
 have hfl := flatK_len P
 clear hX
 have HFL := Hi hfl
 have hr0 : ((flatK P).length : Int).tmod 2 = 0 := by rw [hfl]; push_cast; simp
 have hl1 : (flatK P).length ≤ 200 := by omega
 have hne : flatK P ≠ [] := fun e => by rw [e] at hfl; simp at hfl; omega
 have HNE := Hi hne
 have HW : Hid (Below w.heap.size w w) := Hi (Below.refl _ _)
 clear hfl hne
 go_enter Tryz.func32, Tryz.ntmps32
 go_wp2_with (at_builtin; refine wpList_append_words rfl (.const (.slice none 0 0)) (.tmp 8) rfl (.slice none 0 0) [] (flatK P) g c rfl rfl OwnS.nil HX.out (by simp; omega) ?_; intro v' w2 ho hg hb; obtain ⟨cap, hv, hN, hcl⟩ := own_new (l := flatK P) ho HNE.out hb; subst hv; have HCL := Hi hcl; have hsz := hN; have HB2 : Hid (Below w.heap.size w w2) := Hi ⟨hg.os, hg.tape, hg.output, hg.size, fun b hb => hg.block b hb (by simp [Value.ownBlock])⟩; clear ho hg hb hcl)
 refine bodyPost_ret (v := .pointer (some ⟨w2.heap.size, 0, none⟩)) (by simp [results, Tryz.results32, go_sem]) rfl ⟨w2.heap.size, w.heap.size, cap, rfl, ⟨?_, ⟨by simp; omega, fun i x y v hp => ?_⟩, by omega, by omega, HB2.out.alloc (by omega) _⟩⟩
 · rw [heap_alloc_new, HFL.out]
 · obtain ⟨a1, a2⟩ := flatK_at P i x y v hp
   have hk : ∀ o, (w2.alloc (.cells #[.int .u32 0, .int .i32 0, .int .u32 0, .nilIface, .slice (some ⟨w.heap.size, 0, none⟩) (flatK P).length cap] 120)).cell? ⟨w.heap.size, o, none⟩ = w2.cell? ⟨w.heap.size, o, none⟩ := fun o => cOh (Below.heap_alloc _ _ _ hN) o
   exact ⟨(hk _).trans (HCL.out _ _ a1), (hk _).trans (HCL.out _ _ a2)⟩
theorem rp_method (r : Nat) (w : World) : (method 424 206 (ptrB r) "Replace").run Tryz.prog w = .ok (246, ptrB r) w := by kernel_rfl
structure RepOk (P : List Pr) (ts : Nat) (o c : List UInt8) : Prop where
 keys : KeysOk P ts
 st : StOk (mpF (markF (bytesP P)) ts) ts (stP (mpF (markF (bytesP P)) ts) (2 * P.length) 0 st0 P)
 look : ∀ s, lookB (mpF (markF (bytesP P)) ts) ts (stP (mpF (markF (bytesP P)) ts) (2 * P.length) 0 st0 P) s = (hitR o c s).map fun b => [b]
theorem replace_any (W : World) (rb kb q : Nat) (P : List Pr) (ts : Nat) (o c : List UInt8) (h : RepOk P ts o c) (hb : W.heap[rb]? = some (.cells #[.int .u32 0, .int .i32 0, .int .u32 0, .nilIface, .slice (some ⟨kb, 0, none⟩) (2 * P.length) q] 120 (0, 0))) (hK : KeysAt W kb P) (hne : kb ≠ rb) (s : Bytes) (hs : s.length ≤ 1000000000) :
 Calls Tryz.prog 35 #[.pointer (some ⟨rb, 0, none⟩), vs s] W fun e w' => e = .returned (vs (replF o c s)) ∧ Eff rb W w' := by
 have hrb := lHp hb
 have hD : Calls Tryz.prog 67 #[.pointer (some ⟨rb, 0, none⟩), boF rb] W (OncePost rb (fun w1 => RepDone P ts (W.setCell ⟨rb, 1, none⟩ (.int .i32 1)) w1 rb W.heap.size)) := by
  refine do_any rb _ W (cOb hb rfl) (cOb hb rfl) (fOb hb) (fOb hb) ?_
  have := bo_any (W.setCell ⟨rb, 1, none⟩ (.int .i32 1)) rb kb q P ts h.keys (hK.keep (by simp) (Below.heap_setCell _ _ _ _ hne)) (by rw [rSc hb]; rfl)
  rwa [show (W.setCell ⟨rb, 1, none⟩ (.int .i32 1)).heap.size = W.heap.size by simp] at this
 have HD := Hi hD
 have HR := Hi h
 have hmf : ∀ (fn : Fn) (first cap : Array Value) (w : World), (Instr.makeFunc fn first cap).run Tryz.prog w = .ok (.func fn first cap) w := fun _ _ _ _ => rfl
 have hme := rp_method W.heap.size
 clear hD h hb hK
 go_enter Tryz.func35, Tryz.ntmps35
 go_wp2_with fail
 (refine HD.out.mono ?_; rintro e w2 ⟨rfl, w1, hR, hw2⟩; have hb1 := hR.blk; have hk : w2.heap[rb]? = some (.cells #[.int .u32 1, .int .i32 0, .int .u32 0, .iface 206 (ptrB W.heap.size), .slice none 0 0] 120 (0, 0)) := (by rw [hw2, rSc (rSc (show w1.drew.heap[rb]? = _ from hb1))]; rfl); have hT := hR.trie; have HE : Hid (Eff rb W w2) := Hi (by rw [hw2]; exact ((((Eff.refl rb W).setCell ⟨rb, 1, none⟩ (Or.inl rfl) _).trans hR.eff).drew.setCell ⟨rb, 0, none⟩ (Or.inl rfl) _).setCell ⟨rb, 1, none⟩ (Or.inl rfl) _); have HT : Hid (Trie (mpF (markF (bytesP P)) ts) ts W.heap.size w2 W.heap.size (W.heap.size + 1) (stP (mpF (markF (bytesP P)) ts) (2 * P.length) 0 st0 P)) := Hi (hT.keep (by rw [hw2]; simp) (fun b hb _ => by rw [hw2, Below.heap_setCell _ _ _ _ (by show b ≠ rb; omega), Below.heap_setCell _ _ _ _ (by show b ≠ rb; omega)]; rfl)); have c3 := cOb (o := 3) hk rfl; have hl := lHp hk; clear hb1 hk hT hR hw2)
 go_wp2_with (go_at_call 246; refine (grep_any _ ts W.heap.size w2 W.heap.size (W.heap.size + 1) _ HT.out HR.out.st o c HR.out.look s hs).mono ?_; rintro e w3 ⟨rfl, hB3⟩; have HB3 := Hi hB3; clear hB3)
 exact bodyPost_ret (v := vs (replF o c s)) (by simp [results, Tryz.results35, go_sem]) rfl ⟨rfl, HE.out.trans (Eff.of_below HB3.out)⟩
theorem repOkN : RepOk prN 6 [40] [58, 44, 46, 41] where
 keys := ⟨by decide, by decide, sumN.symm, by decide, by rw [mpN_eq]; exact okPN⟩
 st := by rw [mpN_eq]; exact stOkN
 look := by rw [mpN_eq]; exact lookN
theorem repOkS : RepOk prS 5 [40, 91] [41, 93] where
 keys := ⟨by decide, by decide, sumS.symm, by decide, by rw [mpS_eq]; exact okPS⟩
 st := by rw [mpS_eq]; exact stOkS
 look := by rw [mpS_eq]; exact lookS
end Go.Proofs.YtbicmjmcdnkjhaaGreatDoor
