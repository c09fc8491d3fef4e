/- A replacer built, once. A replacer's tree asked for the bytes at hand. A slice of bytes that is written to: getStringWriter, WriteString. The keys of the two replacers and their trees. -/
import Derived.Test.YtbicmjmcdnkjhaaGreatDoorJMM1
import Derived.Test.YtbicmjmcdnkjhaaGreatDoorJMM16
import Derived.Test.YtbicmjmcdnkjhaaGreatDoorJMM15
import Derived.Test.YtbicmjmcdnkjhaaGreatDoorShelf
import Derived.LaidEqlPtr
import Derived.Test.YtbicmjmcdnkjhaaGreatDoorJMM4
import Derived.OwnWalk
import Derived.Stop.Asserts
import Derived.Lib.AppendStr
import Derived.OneCell
set_option linter.unusedVariables false
set_option linter.unusedSimpArgs false
namespace Go.Proofs.YtbicmjmcdnkjhaaGreatDoor
open Go.RowKit
attribute [local go_sem ↓] Go.wp_at_zero Go.wp_at_succ
set_option maxRecDepth 100000
set_option maxHeartbeats 16000000
structure KeysOk (P : List Pr) (ts : Nat) : Prop where
 two : 2 ≤ P.length
 few : P.length ≤ 100
 tse : ts = sumF (markF (bytesP P)) 256
 small : ts ≤ 10
 ok : okP (mpF (markF (bytesP P)) ts) ts (2 * P.length) P
def KeysAt (w : World) (kb : Nat) (P : List Pr) : Prop := kb < w.heap.size ∧ ∀ (i : Nat) x y v, P[i]? = some (x, y, v) → w.cell? ⟨kb, 2 * i, none⟩ = some (vs [x, y]) ∧ w.cell? ⟨kb, 2 * i + 1, none⟩ = some (vs v)
theorem KeysAt.keep {w w' : World} {kb : Nat} {P : List Pr} (h : KeysAt w kb P) (hs : w.heap.size ≤ w'.heap.size) (hk : w'.heap[kb]? = w.heap[kb]?) : KeysAt w' kb P :=
 ⟨Nat.lt_of_lt_of_le h.1 hs, fun i x y v hp => ⟨(cOh hk _).trans (h.2 i x y v hp).1, (cOh hk _).trans (h.2 i x y v hp).2⟩⟩
def BuiltR (P : List Pr) (ts : Nat) (w : World) (w' : World) : Prop := Trie (mpF (markF (bytesP P)) ts) ts w.heap.size w' w.heap.size (w.heap.size + 1) (stP (mpF (markF (bytesP P)) ts) (2 * P.length) 0 st0 P) ∧ Below w.heap.size w w'
theorem build_any (w : World) (rb kb c : Nat) (P : List Pr) (ts : Nat) (h : KeysOk P ts) (hK : KeysAt w kb P) (h4 : w.cell? ⟨rb, 4, none⟩ = some (.slice (some ⟨kb, 0, none⟩) (2 * P.length) c)) :
 Calls Tryz.prog 106 #[.pointer (some ⟨rb, 0, none⟩)] w fun e w' => e = .returned (.iface 206 (ptrB w.heap.size)) ∧ BuiltR P ts w w' := by
 have htwo := h.two
 obtain ⟨p0, hp0⟩ : ∃ p, P[0]? = some p := ⟨_, List.getElem?_eq_getElem (by omega)⟩
 obtain ⟨x0, y0, v0⟩ := p0
 have hk0 : w.cell? ⟨kb, 0, none⟩ = some (vs [x0, y0]) := (hK.2 0 x0 y0 v0 hp0).1
 have HMK : Hid (Calls Tryz.prog 156 #[.slice (some ⟨kb, 0, none⟩) (2 * P.length) c] w fun e w' => e = .returned (ptrB w.heap.size) ∧ BuiltR P ts w w') := Hi (make_any w kb c P h.few hK.2 ts h.tse h.small h.ok hK.1)
 obtain ⟨n, hn⟩ : ∃ n, n = 2 * P.length := ⟨_, rfl⟩
 rw [← hn] at h4 HMK
 have n2 : ((n : Int) == 2) = false := by simp; omega
 have n0 : (0 : Int) < (n : Int) := by omega
 clear h hK hp0 htwo hn
 go_enter Tryz.func106, Tryz.ntmps106
 go_wp2_with fail
 go_loopw [2, 4, 5] (fun v2 v4 v5 wr => v5 = .int .i64 0 ∧ wr = w) (fun _ _ _ _ => 0)
 case atStart => exact ⟨rfl, rfl⟩
 case round =>
  obtain ⟨rfl, rfl⟩ := hrel
  go_wp2_with (go_at_call 156; refine HMK.out.mono ?_; rintro e w2 ⟨rfl, hR⟩; have HR := Hi hR; clear hR)
  exact bodyPost_ret (v := .iface 206 (ptrB wr.heap.size)) (by simp [results, Tryz.results106, go_sem]) rfl ⟨rfl, HR.out⟩
structure RepDone (P : List Pr) (ts : Nat) (w W : World) (rb r : Nat) : Prop where
 blk : W.heap[rb]? = some (.cells #[.int .u32 0, .int .i32 1, .int .u32 0, .iface 206 (ptrB r), .slice none 0 0] 120 (0, 0))
 trie : Trie (mpF (markF (bytesP P)) ts) ts r W r (r + 1) (stP (mpF (markF (bytesP P)) ts) (2 * P.length) 0 st0 P)
 eff : Eff rb w W
theorem bo_any (w : World) (rb kb c : Nat) (P : List Pr) (ts : Nat) (h : KeysOk P ts) (hK : KeysAt w kb P) (hb : w.heap[rb]? = some (.cells #[.int .u32 0, .int .i32 1, .int .u32 0, .nilIface, .slice (some ⟨kb, 0, none⟩) (2 * P.length) c] 120 (0, 0))) :
 Calls Tryz.prog 68 #[.pointer (some ⟨rb, 0, none⟩)] w (OnceIn rb (fun W => RepDone P ts w W rb w.heap.size)) := by
 have HC := Hi (build_any w rb kb c P ts h hK (cOb hb rfl))
 have HB := Hi hb
 have hrb := lHp hb
 clear h hK hb
 go_enter Tryz.func68, Tryz.ntmps68
 go_wp2_with (go_at_call 106; refine HC.out.mono ?_; rintro e w2 ⟨rfl, hR⟩; have HR := Hi hR; have hk : w2.heap[rb]? = w.heap[rb]? := hR.2.block rb hrb; have hb2 := hk.trans HB.out; have c3 := cOb (o := 3) hb2 rfl; have c4 := cOb (o := 4) hb2 rfl; have z3 := fOb (o := 3) hb2; have z4 := fOb (o := 4) hb2; have hl2 := lHp hb2; have HB2 := Hi hb2; clear hR hk hb2)
 go_end0
 have hb3 : ((w2.setCell ⟨rb, 3, none⟩ (.iface 206 (ptrB w.heap.size))).setCell ⟨rb, 4, none⟩ (.slice none 0 0)).heap[rb]? = some (.cells #[.int .u32 0, .int .i32 1, .int .u32 0, .iface 206 (ptrB w.heap.size), .slice none 0 0] 120 (0, 0)) := by
  rw [rSc (rSc HB2.out)]
  rfl
 refine ⟨rfl, ⟨hb3, HR.out.1.keep (by simp) (fun b hb _ => ?_), ?_⟩, cOb hb3 rfl, cOb hb3 rfl, fOb hb3, fOb hb3⟩
 · rw [Below.heap_setCell _ _ _ _ (by show b ≠ rb; omega), Below.heap_setCell _ _ _ _ (by show b ≠ rb; omega)]
 · have := HR.out.2
   exact ⟨this.os, this.tape, this.output, by simpa using this.size, fun k hk hn => by rw [Below.heap_setCell _ _ _ _ (by exact hn), Below.heap_setCell _ _ _ _ (by exact hn)]; exact this.block k hk⟩
end Go.Proofs.YtbicmjmcdnkjhaaGreatDoor
set_option maxRecDepth 100000
set_option maxHeartbeats 16000000
namespace Go.Proofs.YtbicmjmcdnkjhaaGreatDoor
open Go.RowKit
attribute [local go_sem ↓] Go.wp_at_zero Go.wp_at_succ
def lookB (mp : Nat → Nat) (ts : Nat) (st : Nat → Sub) : Bytes → Option Bytes
 | x :: y :: _ => if mp x.toNat < ts then (match st (mp x.toNat) with
   | .no => none
   | .pre y0 v _ => if y = y0 then some v else none
   | .tab L => (L.find? fun e => e.1 == y).map fun e => e.2.1) else none
 | _ => none
structure StOk (mp : Nat → Nat) (ts : Nat) (st : Nat → Sub) : Prop where
 inj : ∀ a b : UInt8, mp a.toNat < ts → mp a.toNat = mp b.toNat → a = b
 pre : ∀ m y v q, st m = .pre y v q → 0 < q ∧ q ≤ 1000
 tab : ∀ m L, st m = .tab L → (∀ y v q, (y, v, q) ∈ L → 0 < q ∧ q ≤ 1000 ∧ mp y.toNat < ts) ∧ ∀ y v q v' q', (y, v, q) ∈ L → (y, v', q') ∈ L → v = v'
def lkOut (o : Option Bytes) : Value := match o with
 | some v => .tuple #[vs v, .int .i64 2, .bool true]
 | none => .tuple #[vs [], .int .i64 0, .bool false]
def LkRel (mp : Nat → Nat) (ts : Nat) (st : Nat → Sub) (w : World) (r : Nat) (F : Nat → Nat → Prop) (s : Bytes) (v1 v6 v7 v8 v9 v10 v11 : Value) (wr : World) : Prop :=
 Below w.heap.size w wr ∧ v6 = vs [] ∧ v7 = .int .i64 0 ∧ v8 = .bool false ∧ v9 = .int .i64 0 ∧
 ((v1 = vs s ∧ v10 = ptrB r ∧ v11 = .int .i64 0) ∨
  (∃ x s1 pv, s = x :: s1 ∧ mp x.toNat < ts ∧ v1 = vs s1 ∧ v10 = pv ∧ SubAt mp ts w (F (mp x.toNat)) pv (st (mp x.toNat)) ∧ v11 = .int .i64 1) ∨
  (∃ s2, v1 = vs s2 ∧ v11 = .int .i64 2 ∧ ((v10 = nilP ∧ lookB mp ts st s = none) ∨ ∃ l v q, v10 = ptrB l ∧ LeafB w l v q ∧ 0 < q ∧ q ≤ 1000 ∧ l ≠ r ∧ lookB mp ts st s = some v)))
theorem vs_ext1 (x : UInt8) (s1 : Bytes) : Value.string (({ data := (x :: s1).toArray } : ByteArray).extract 1 (s1.length + 1)) = vs s1 := by
 refine congrArg Value.string ?_
 apply ByteArray.ext
 simp [ByteArray.data_extract]
theorem wrap_small {k ts : Nat} (h : k ≤ ts) (hts : ts ≤ 10) : wrap64 (k : Int) = k := by unfold wrap64; omega
theorem hasPre1 (y y0 : UInt8) (s2 : Bytes) : Lib.hasPrefix (y :: s2) [y0] = (y0 == y) := by simp [Lib.hasPrefix, List.isPrefixOf]
theorem lookup_any (mp : Nat → Nat) (ts B : Nat) (w : World) (r tb : Nat) (st : Nat → Sub) (h : Trie mp ts B w r tb st) (hok : StOk mp ts st) (s : Bytes) (ig : Bool) (hs : s.length ≤ 1000000000) :
 Calls Tryz.prog 249 #[ptrB r, vs s, .bool ig] w fun e w' => e = .returned (lkOut (lookB mp ts st s)) ∧ Below w.heap.size w w' := by
 obtain ⟨c0, c1, c2, c3, c4, c5, rm⟩ := h.gr.cells
 obtain ⟨D, h1, h2, F, h3, h4, h5⟩ := h.root
 have HOK := Hi hok
 have HG := Hi h.gr
 have H1 := Hi h1
 have H2 := Hi h2
 have H3 := Hi h3
 have H5 := Hi h5
 have RM := Hi rm
 have hrl := h.gr.lt
 have htl := lHp h1
 obtain ⟨lk, hlk⟩ : ∃ lk, lookB mp ts st s = lk := ⟨_, rfl⟩
 have HLK := Hi hlk
 clear h hok h1 h2 h3 h4 h5 rm
 rw [hlk]
 clear hlk
 go_enter Tryz.func249, Tryz.ntmps249
 go_wp2_with fail
 go_loopw [1, 6, 7, 8, 9, 10, 11] (fun v1 v6 v7 v8 v9 v10 v11 wr => LkRel mp ts st w r F s v1 v6 v7 v8 v9 v10 v11 wr) (fun _ _ _ _ _ _ v11 _ => 3 - (intOf v11).toNat)
 case atStart => exact ⟨Below.refl _ _, rfl, rfl, rfl, rfl, Or.inl ⟨rfl, rfl, rfl⟩⟩
 case round =>
  obtain ⟨hb, rfl, rfl, rfl, rfl, hst⟩ := hrel
  have HB := Hi hb
  have hc : ∀ o, wr.cell? ⟨r, o, none⟩ = w.cell? ⟨r, o, none⟩ := fun o => hb.cell (p := ⟨r, o, none⟩) hrl
  have q1 := (hc 1).trans c1
  have q2 := (hc 2).trans c2
  have q3 := (hc 3).trans c3
  have q4 := (hc 4).trans c4
  have q5 := (hc 5).trans c5
  have HQ := Hi hc
  have hrl' : r < wr.heap.size := Nat.lt_of_lt_of_le hrl hb.size
  have htl' : tb < wr.heap.size := Nat.lt_of_lt_of_le htl hb.size
  clear hc hb c0 c1 c2 c3 c4 c5
  rcases hst with ⟨rfl, rfl, rfl⟩ | ⟨x, s1, pv, rfl, hx, rfl, rfl, hsub, rfl⟩ | ⟨s2, rfl, rfl, hend⟩
  · -- at the root
    cases s with
    | nil =>
      have HL : Hid (lkOut lk = lkOut none) := Hi (by rw [← HLK.out]; rfl)
      go_wp2_with fail
      exact bodyPost_ret (v := lkOut none) (by simp [lkOut, results, Tryz.results249, go_sem]) rfl ⟨by rw [HL.out], HB.out⟩
    | cons x s1 =>
      have hs0 : ∀ w, (Instr.index 9 (vs (x :: s1)) (.int .i64 0)).run Tryz.prog w = .ok (.int .u8 (x.toNat : Int)) w := fun _ => by kernel_rfl
      have j0 : (0 : Int) ≤ (x.toNat : Int) := by omega
      have j1 : (x.toNat : Int) < 256 := by have := UInt8.toNat_lt x; omega
      have r0 := (HQ.out _).trans (RM.out x.toNat (UInt8.toNat_lt x))
      have hwr := wrap_small (HG.out.mpl x.toNat) HG.out.small
      by_cases hx : mp x.toNat < ts
      · have e1 : (wrap64 (mp x.toNat : Int) == (ts : Int)) = false := by rw [hwr]; simp; omega
        obtain ⟨pv, hpv, hsub⟩ := H5.out _ hx
        have ct : wr.cell? ⟨tb, mp x.toNat, none⟩ = some pv := (HB.out.cell (p := ⟨tb, mp x.toNat, none⟩) htl).trans (cOb H1.out hpv)
        have i0 : (0 : Int) ≤ (mp x.toNat : Int) := by omega
        have i1 : (mp x.toNat : Int) < ts := by omega
        have HSUB := Hi hsub
        have HX := Hi hx
        clear hwr hx hsub hpv
        go_upto_region 12 with fail
        go_quiet (fail)
        go_wp2_with fail
        rw [vs_ext1]
        exact ⟨⟨HB.out.trans ⟨rfl, rfl, rfl, lR _, fun _ _ => rfl⟩, rfl, rfl, rfl, rfl, Or.inr (Or.inl ⟨x, s1, pv, rfl, HX.out, rfl, rfl, HSUB.out, rfl⟩)⟩, by simp [intOf]⟩
      · have e1 : (wrap64 (mp x.toNat : Int) == (ts : Int)) = true := by have := HG.out.mpl x.toNat; rw [hwr]; simp; omega
        have HL : Hid (lkOut lk = lkOut none) := Hi (by
         rw [← HLK.out]
         cases s1 with
         | nil => rfl
         | cons y s2 => simp only [lookB]; rw [if_neg hx])
        clear hwr hx
        go_upto_region 12 with fail
        go_quiet (fail)
        go_wp2_with fail
        exact bodyPost_ret (v := lkOut none) (by simp [lkOut, results, Tryz.results249, go_sem]) rfl ⟨by rw [HL.out], HB.out.trans ⟨rfl, rfl, rfl, lR _, fun _ _ => rfl⟩⟩
  · -- below a byte
    cases hs2 : st (mp x.toNat) with
    | no =>
      rw [hs2] at hsub
      obtain rfl : _ = nilP := hsub
      have HL : Hid (lkOut lk = lkOut none) := Hi (by
       rw [← HLK.out]
       cases s1 with
       | nil => rfl
       | cons y s2 => simp only [lookB]; rw [if_pos hx, hs2])
      clear hs2
      go_wp2_with fail
      exact bodyPost_ret (v := lkOut none) (by simp [lkOut, results, Tryz.results249, go_sem]) rfl ⟨by rw [HL.out], HB.out⟩
    | pre y0 v q =>
      rw [hs2] at hsub
      obtain ⟨n, l, rfl, f1, f2, f3, f4⟩ := hsub
      have f3' : NodeB wr n [] 0 [y0] (ptrB l) (.slice none 0 0) := (HB.out.block n f3.lt).trans f3
      obtain ⟨n0, n1, n2, n3, n4, -⟩ := f3'.cells
      have hnl := f3'.lt
      have HF4 := Hi f4
      have HQP := Hi (HOK.out.pre _ _ _ _ hs2)
      have HLR := Hi ((H3.out _ _ f2).1)
      clear f1 f2 f3 f3' f4
      cases s1 with
      | nil =>
        have HL : Hid (lkOut lk = lkOut none) := Hi (by rw [← HLK.out]; rfl)
        clear hs2
        go_wp2_with fail
        exact bodyPost_ret (v := lkOut none) (by simp [lkOut, results, Tryz.results249, go_sem]) rfl ⟨by rw [HL.out], HB.out⟩
      | cons y s2 =>
        have HLB : Hid (lookB mp ts st (x :: y :: s2) = if y = y0 then some v else none) := Hi (by simp only [lookB]; rw [if_pos hx, hs2])
        clear hs2
        go_wp2_with fail
        refine (Tryz.strings_HasPrefix _ _ _).mono ?_
        rintro e w1 ⟨rfl, rfl⟩
        rw [show Lib.hasPrefix ({ data := (y :: s2).toArray } : ByteArray).data.toList ({ data := [y0].toArray } : ByteArray).data.toList = (y0 == y) from hasPre1 y y0 s2]
        cases hyy : (y0 == y) with
        | true =>
          have e : y0 = y := by simpa using hyy
          have HL2 : Hid (lookB mp ts st (x :: y :: s2) = some v) := Hi (by rw [HLB.out, if_pos e.symm])
          clear hyy e
          go_wp2_with fail
          rw [vs_ext1]
          exact ⟨⟨HB.out, rfl, rfl, rfl, rfl, Or.inr (Or.inr ⟨s2, rfl, rfl, Or.inr ⟨l, v, q, rfl, HF4.out, HQP.out.1, HQP.out.2, HLR.out, HL2.out⟩⟩)⟩, by simp [intOf]⟩
        | false =>
          have e : ¬ y = y0 := by
           rintro rfl
           simp at hyy
          have HL : Hid (lkOut lk = lkOut none) := Hi (by rw [← HLK.out, HLB.out, if_neg e])
          clear hyy e
          go_wp2_with fail
          exact bodyPost_ret (v := lkOut none) (by simp [lkOut, results, Tryz.results249, go_sem]) rfl ⟨by rw [HL.out], HB.out⟩
    | tab L =>
      rw [hs2] at hsub
      obtain ⟨n, t, C, rfl, f1, f2, f3, f4, f5, f6⟩ := hsub
      have f3' : NodeB wr n [] 0 [] nilP (.slice (some ⟨t, 0, none⟩) ts ts) := (HB.out.block n f3.lt).trans f3
      obtain ⟨n0, n1, n2, n3, n4, -⟩ := f3'.cells
      have hnl := f3'.lt
      have htt := lHp f4
      have htt' : t < wr.heap.size := Nat.lt_of_lt_of_le htt HB.out.size
      have HF4 := Hi f4
      have HF6 := Hi f6
      have HQP := Hi (HOK.out.tab _ _ hs2)
      clear f1 f2 f3 f3' f4 f5 f6
      cases s1 with
      | nil =>
        have HL : Hid (lkOut lk = lkOut none) := Hi (by rw [← HLK.out]; rfl)
        clear hs2
        go_wp2_with fail
        exact bodyPost_ret (v := lkOut none) (by simp [lkOut, results, Tryz.results249, go_sem]) rfl ⟨by rw [HL.out], HB.out⟩
      | cons y s2 =>
        have HLB : Hid (lookB mp ts st (x :: y :: s2) = (L.find? fun e => e.1 == y).map fun e => e.2.1) := Hi (by simp only [lookB]; rw [if_pos hx, hs2])
        have hs0 : ∀ w, (Instr.index 9 (vs (y :: s2)) (.int .i64 0)).run Tryz.prog w = .ok (.int .u8 (y.toNat : Int)) w := fun _ => by kernel_rfl
        have j0 : (0 : Int) ≤ (y.toNat : Int) := by omega
        have j1 : (y.toNat : Int) < 256 := by have := UInt8.toNat_lt y; omega
        have r0 := (HQ.out _).trans (RM.out y.toNat (UInt8.toNat_lt y))
        have hwr := wrap_small (HG.out.mpl y.toNat) HG.out.small
        clear hs2
        by_cases hy : mp y.toNat < ts
        · have e1 : (wrap64 (mp y.toNat : Int) == (ts : Int)) = false := by rw [hwr]; simp; omega
          obtain ⟨pv, hpv, htab⟩ := HF6.out _ hy
          have ct : wr.cell? ⟨t, mp y.toNat, none⟩ = some pv := (HB.out.cell (p := ⟨t, mp y.toNat, none⟩) htt).trans (cOb HF4.out hpv)
          have i0 : (0 : Int) ≤ (mp y.toNat : Int) := by omega
          have i1 : (mp y.toNat : Int) < ts := by omega
          have hend : (pv = nilP ∧ lookB mp ts st (x :: y :: s2) = none) ∨ ∃ l v q, pv = ptrB l ∧ LeafB w l v q ∧ 0 < q ∧ q ≤ 1000 ∧ l ≠ r ∧ lookB mp ts st (x :: y :: s2) = some v := by
           rcases htab with ⟨y', v, q, l, a1, a2, a3, a4, a5⟩ | ⟨a1, a2⟩
           · right
             obtain ⟨b1, b2, b3⟩ := HQP.out.1 _ _ _ a1
             obtain rfl := HOK.out.inj _ _ b3 a2
             refine ⟨l, v, q, a3, a5, b1, b2, (H3.out _ _ a4).1, ?_⟩
             rw [HLB.out]
             cases hfd : L.find? fun e => e.1 == y' with
             | none =>
               rw [List.find?_eq_none] at hfd
               exact absurd (by simp) (hfd _ a1)
             | some e0 =>
               obtain ⟨y2, v2, q2⟩ := e0
               have c1 := List.mem_of_find?_eq_some hfd
               have c2 := List.find?_some hfd
               simp at c2
               subst c2
               simp [HQP.out.2 _ _ _ _ _ a1 c1]
           · left
             refine ⟨a1, ?_⟩
             rw [HLB.out]
             have : (L.find? fun e => e.1 == y) = none := by
              rw [List.find?_eq_none]
              rintro ⟨y', v, q⟩ hm
              have := a2 _ _ _ hm
              simp
              rintro rfl
              exact this rfl
             rw [this]
             rfl
          have HEND := Hi hend
          clear hwr hy hend htab hpv
          go_upto_region 12 with fail
          go_quiet (fail)
          go_wp2_with fail
          rw [vs_ext1]
          exact ⟨⟨HB.out.trans ⟨rfl, rfl, rfl, lR _, fun _ _ => rfl⟩, rfl, rfl, rfl, rfl, Or.inr (Or.inr ⟨s2, rfl, rfl, HEND.out⟩)⟩, by simp [intOf]⟩
        · have e1 : (wrap64 (mp y.toNat : Int) == (ts : Int)) = true := by have := HG.out.mpl y.toNat; rw [hwr]; simp; omega
          have HL : Hid (lkOut lk = lkOut none) := Hi (by
           rw [← HLK.out, HLB.out]
           have : (L.find? fun e => e.1 == y) = none := by
            rw [List.find?_eq_none]
            rintro ⟨y', v, q⟩ hm
            have := (HQP.out.1 _ _ _ hm).2.2
            simp
            rintro rfl
            exact hy this
           rw [this]
           rfl)
          clear hwr hy
          go_upto_region 12 with fail
          go_quiet (fail)
          go_wp2_with fail
          exact bodyPost_ret (v := lkOut none) (by simp [lkOut, results, Tryz.results249, go_sem]) rfl ⟨by rw [HL.out], HB.out.trans ⟨rfl, rfl, rfl, lR _, fun _ _ => rfl⟩⟩
  · -- behind two bytes
    rcases hend with ⟨rfl, hno⟩ | ⟨l, v, q, rfl, hleaf, hq0, hq1, hlr, hyes⟩
    · have HL : Hid (lkOut lk = lkOut none) := Hi (by rw [← HLK.out, hno])
      clear hno
      go_wp2_with fail
      exact bodyPost_ret (v := lkOut none) (by simp [lkOut, results, Tryz.results249, go_sem]) rfl ⟨by rw [HL.out], HB.out⟩
    · have hl' : LeafB wr l v q := (HB.out.block l hleaf.lt).trans hleaf
      obtain ⟨n0, n1, n2, n3, n4, -⟩ := hl'.cells
      have hnl := hl'.lt
      have HL : Hid (lkOut lk = lkOut (some v)) := Hi (by rw [← HLK.out, hyes])
      have hpe : (binOp .eql 249 (ptrB l) (.pointer (some ⟨r, 0, none⟩))).run Tryz.prog wr = .ok (.bool false) wr := by
       obtain ⟨C, g0, -⟩ := HG.out.is
       exact run_eql_ptr_other (P := Tryz.prog) wr (tp := 249) (te := 252) (j := (Tryz.prog.info? 252).getD default) (by kernel_rfl) (by kernel_rfl) (fun e => absurd (congrArg (fun n => n == 5) e) (by decide)) (fun e => hlr (congrArg Addr.block e)) hl' ((HB.out.block r hrl).trans g0)
      clear hl' hleaf hyes
      cases ig <;> cases s2
      all_goals
       go_wp2_with fail
       exact bodyPost_ret (v := lkOut (some v)) (by simp [lkOut, results, Tryz.results249, go_sem]) rfl ⟨by rw [HL.out], HB.out⟩
end Go.Proofs.YtbicmjmcdnkjhaaGreatDoor
set_option maxRecDepth 100000
set_option maxHeartbeats 4000000
namespace Go.Proofs.YtbicmjmcdnkjhaaGreatDoor
open Go.RowKit
abbrev awV (ab : Nat) : Value := .iface 312 (.pointer (some ⟨ab, 0, none⟩))
def cB (s : List UInt8) : List Value := s.map fun b => .int .u8 b.toNat
structure AwV (w : World) (b0 ab : Nat) (v : Value) (s : List UInt8) : Prop where
 blk : w.heap[ab]? = some (.cells #[v] 311 (0, 0))
 own : w.ownsRow b0 5 1 v s.length (cB s)
 le : b0 ≤ ab
def Aw (w : World) (b0 ab : Nat) (s : List UInt8) : Prop := ∃ v, AwV w b0 ab v s
theorem AwV.lt {w : World} {b0 ab : Nat} {v : Value} {s : List UInt8} (h : AwV w b0 ab v s) : ab < w.heap.size := lHp h.blk
theorem own_row {w : World} {b0 ab n : Nat} {v u : Value} {xs : List Value} (ho : w.ownsRow b0 5 1 v n xs) (hb : w.heap[ab]? = some (.cells #[u] 311 (0, 0))) : ∀ b, v.ownBlock = some b → b0 ≤ b ∧ b ≠ ab := by
 intro b hb2
 rcases ho.2 with ⟨rfl, -⟩ | ⟨g, cap, cur, rfl, hbg, hg, -⟩
 · simp [Value.ownBlock] at hb2
 · simp [Value.ownBlock] at hb2
   subst hb2
   refine ⟨hbg, ?_⟩
   rintro rfl
   rw [hb] at hg
   simp at hg
theorem AwV.row {w : World} {b0 ab : Nat} {v : Value} {s : List UInt8} (h : AwV w b0 ab v s) : ∀ b, v.ownBlock = some b → b0 ≤ b ∧ b ≠ ab := own_row h.own h.blk
theorem AwV.sl {w : World} {b0 ab : Nat} {v : Value} {s : List UInt8} (h : AwV w b0 ab v s) : ∃ A n c, v = .slice A n c := by
 rcases h.own.2 with ⟨rfl, -⟩ | ⟨g, cap, cur, rfl, hbg, -⟩
 · exact ⟨_, _, _, rfl⟩
 · exact ⟨_, _, _, rfl⟩
theorem info_u8 : (Tryz.prog.info? 5).map (fun i => (i.zero, i.size, i.bytes)) = some (some (.int .u8 0), 1, 1) := by kernel_rfl
theorem wpList_append_bytes {ops : Array Oper} {rest : List Oper} {o : Oper} {a : Act} {w : World} {Q : Exit → Act → World → Prop} (hgd : o.guard = none) (sl x : Operand) (hop : o.op = Op.call { callee := Callee.builtin Builtin.append, args := #[sl, x], argTypes := #[311, 9] })
 (base : Nat) (v : Value) (xs : List UInt8) (hs : a.eval sl = v) (hown : w.ownsRow base 5 1 v xs.length (cB xs)) (s : List UInt8) (hx : a.eval x = vs s) (hlen : xs.length + s.length ≤ 100000000000) (hbase : base ≤ w.heap.size)
 (h : ∀ v' w', w'.ownsRow base 5 1 v' (xs ++ s).length (cB (xs ++ s)) → w.grownBy w' v.ownBlock → wpList Tryz.prog ops Q rest (a.put o.dst v') w') : wpList Tryz.prog ops Q (o :: rest) a w := by
 obtain ⟨i0, hi0, hz0, hz1, hz2⟩ := info_parts info_u8
 have e1 : ({ data := s.toArray } : ByteArray).size = s.length := by show s.toArray.size = _; simp
 refine Lib.wpList_append_own_string w hgd sl x _ _ hop base 5 i0 Tryz.underlying311 Tryz.underlying9 hi0 hz0 hz1 hz2 v xs.length (cB xs) hs hown { data := s.toArray } hx (by rw [e1]; unfold maxLen; omega) (by rw [e1]; omega) hbase ?_
 intro v' w' ho hg _
 refine h v' w' ?_ hg
 rw [e1] at ho
 have e2 : cB xs ++ Lib.strCells ({ data := s.toArray } : ByteArray) = cB (xs ++ s) := by simp [cB, Lib.strCells]
 rw [e2] at ho
 rwa [List.length_append]
theorem gsw_any (w : World) (ab : Nat) : Calls Tryz.prog 248 #[awV ab] w fun e w' => e = .returned (awV ab) ∧ w' = w := by
 have hta : ∀ w, (Instr.typeAssert (.iface 312 (.pointer (some ⟨ab, 0, none⟩))) 314 316 true).run Tryz.prog w = .ok (.tuple #[.iface 312 (.pointer (some ⟨ab, 0, none⟩)), .bool true]) w := fun w => run_typeAssert_hasB Tryz.underlying316 (by kernel_rfl) _ _ w
 go_enter Tryz.func248, Tryz.ntmps248
 go_wp2_with fail
 exact bodyPost_ret (v := awV ab) (by simp [results, Tryz.results248, go_sem]) rfl ⟨rfl, rfl⟩
theorem AwV.stay {w w2 : World} {b0 ab : Nat} {v : Value} {s : List UInt8} (h : AwV w b0 ab v s) (hg : w.grownBy w2 v.ownBlock) : w2.heap[ab]? = some (.cells #[v] 311 (0, 0)) := (hg.block ab h.lt (fun e => (h.row ab e.symm).2 rfl)).trans h.blk
theorem AwV.step {w w2 : World} {b0 ab : Nat} {v v' : Value} {s : List UInt8} {x : List UInt8} (h : AwV w b0 ab v s) (ho : w2.ownsRow b0 5 1 v' (s ++ x).length (cB (s ++ x))) (hg : w.grownBy w2 v.ownBlock) : AwV (w2.setCell ⟨ab, 0, none⟩ v') b0 ab v' (s ++ x) ∧ Below b0 w (w2.setCell ⟨ab, 0, none⟩ v') := by
 have hk := h.stay hg
 refine ⟨⟨by rw [rSc hk]; rfl, ?_, h.le⟩, ?_⟩
 · exact ownsRow_setCell_other ho (fun e => (own_row ho hk ab e).2 rfl) _
 · exact (⟨hg.os, hg.tape, hg.output, hg.size, fun b hb => hg.block b (by have := h.lt; have := h.le; omega) (fun e => by have := (h.row b e.symm).1; omega)⟩ : Below b0 w w2).setCell h.le _
theorem aw_any (w : World) (b0 ab : Nat) (s x : List UInt8) (h : Aw w b0 ab s) (hlen : s.length + x.length ≤ 100000000000) :
 Calls Tryz.prog 262 #[.pointer (some ⟨ab, 0, none⟩), vs x] w fun e w' => e = .returned (.tuple #[.int .i64 x.length, .nilIface]) ∧ Aw w' b0 ab (s ++ x) ∧ Below b0 w w' := by
 obtain ⟨v, h⟩ := h
 have c0 := cOb (o := 0) h.blk rfl
 have hlt := h.lt
 have H := Hi h
 clear h
 go_enter Tryz.func262, Tryz.ntmps262
 go_wp2_with (at_builtin; refine wpList_append_bytes rfl (.tmp 9) (.tmp 10) rfl b0 v s rfl H.out.own x rfl hlen (Nat.le_of_lt (Nat.lt_of_le_of_lt H.out.le H.out.lt)) ?_; intro v' w2 ho hg; have hk := H.out.stay hg; have k1 := cOb (o := 0) hk rfl; have kl := lHp hk; have k2 := fOb (o := 0) hk; have hst := H.out.step ho hg; obtain ⟨A', n', cap', rfl⟩ := hst.1.sl; have HO := Hi hst; clear hst ho hg hk c0)
 exact bodyPost_ret (v := .tuple #[.int .i64 x.length, .nilIface]) (by simp [results, Tryz.results262, go_sem]) rfl ⟨rfl, ⟨_, HO.out.1⟩, HO.out.2⟩
def prN : List Pr := [(32, 58, [58]), (32, 44, [44]), (32, 46, [46]), (40, 32, [40]), (32, 41, [41])]
def mpN (k : Nat) : Nat := if k = 32 then 0 else if k = 40 then 1 else if k = 41 then 2 else if k = 44 then 3 else if k = 46 then 4 else if k = 58 then 5 else 6
theorem sumN : sumF (markF (bytesP prN)) 256 = 6 := by decide +kernel
theorem mpN_small : ∀ k, k < 256 → mpF (markF (bytesP prN)) 6 k = mpN k := by
 have h : (List.range 256).all (fun k => mpF (markF (bytesP prN)) 6 k == mpN k) = true := by decide +kernel
 intro k hk
 rw [List.all_eq_true] at h
 simpa using h k (List.mem_range.2 hk)
theorem mpN_eq : mpF (markF (bytesP prN)) 6 = mpN := by
 funext k
 by_cases hk : k < 256
 · exact mpN_small k hk
 · have e : markF (bytesP prN) k = 0 := by
     rcases Nat.eq_zero_or_pos (markF (bytesP prN) k) with h | h
     · exact h
     · exact absurd (markF_lt (Nat.pos_iff_ne_zero.1 h)) hk
   unfold mpF mpN
   rw [if_pos e, if_neg (by omega), if_neg (by omega), if_neg (by omega), if_neg (by omega), if_neg (by omega), if_neg (by omega)]
def stN : Nat → Sub := stP mpN 10 0 st0 prN
theorem stN_0 : stN 0 = .tab [(58, [58], 10), (44, [44], 8), (46, [46], 6), (41, [41], 2)] := rfl
theorem stN_1 : stN 1 = .pre 32 [40] 4 := rfl
theorem stN_no (m : Nat) (h0 : m ≠ 0) (h1 : m ≠ 1) : stN m = .no := by
 simp [stN, prN, stP, setAt, st0, mpN, h0, h1]
theorem okPN : okP mpN 6 10 prN := by
 intro i x y v h
 have hi : i < 5 := (List.getElem?_eq_some_iff.1 h).1
 have hc : i = 0 ∨ i = 1 ∨ i = 2 ∨ i = 3 ∨ i = 4 := by omega
 rcases hc with rfl | rfl | rfl | rfl | rfl
 · have e : ((32 : UInt8), (58 : UInt8), ([58] : Bytes)) = (x, y, v) := Option.some.inj h
   injection e with e1 e2
   injection e2 with e2 e3
   subst e1 e2 e3
   have hs : stP mpN 10 0 st0 (prN.take 0) (mpN (32 : UInt8).toNat) = .no := rfl
   rw [hs]
   exact ⟨by decide, by decide, trivial, fun _ _ _ h => by cases h⟩
 · have e : ((32 : UInt8), (44 : UInt8), ([44] : Bytes)) = (x, y, v) := Option.some.inj h
   injection e with e1 e2
   injection e2 with e2 e3
   subst e1 e2 e3
   have hs : stP mpN 10 0 st0 (prN.take 1) (mpN (32 : UInt8).toNat) = .pre 58 [58] 10 := rfl
   rw [hs]
   exact ⟨by decide, by decide, ⟨by decide, by decide⟩, fun _ _ _ h => by cases h; decide⟩
 · have e : ((32 : UInt8), (46 : UInt8), ([46] : Bytes)) = (x, y, v) := Option.some.inj h
   injection e with e1 e2
   injection e2 with e2 e3
   subst e1 e2 e3
   have hs : stP mpN 10 0 st0 (prN.take 2) (mpN (32 : UInt8).toNat) = .tab [(58, [58], 10), (44, [44], 8)] := rfl
   rw [hs]
   refine ⟨by decide, by decide, fun y0 v0 q0 h => ?_, fun _ _ _ h => by cases h⟩
   simp only [List.mem_cons, List.not_mem_nil, or_false, Prod.mk.injEq] at h
   rcases h with ⟨rfl, -⟩ | ⟨rfl, -⟩ <;> decide
 · have e : ((40 : UInt8), (32 : UInt8), ([40] : Bytes)) = (x, y, v) := Option.some.inj h
   injection e with e1 e2
   injection e2 with e2 e3
   subst e1 e2 e3
   have hs : stP mpN 10 0 st0 (prN.take 3) (mpN (40 : UInt8).toNat) = .no := rfl
   rw [hs]
   exact ⟨by decide, by decide, trivial, fun _ _ _ h => by cases h⟩
 · have e : ((32 : UInt8), (41 : UInt8), ([41] : Bytes)) = (x, y, v) := Option.some.inj h
   injection e with e1 e2
   injection e2 with e2 e3
   subst e1 e2 e3
   have hs : stP mpN 10 0 st0 (prN.take 4) (mpN (32 : UInt8).toNat) = .tab [(58, [58], 10), (44, [44], 8), (46, [46], 6)] := rfl
   rw [hs]
   refine ⟨by decide, by decide, fun y0 v0 q0 h => ?_, fun _ _ _ h => by cases h⟩
   simp only [List.mem_cons, List.not_mem_nil, or_false, Prod.mk.injEq] at h
   rcases h with ⟨rfl, -⟩ | ⟨rfl, -⟩ | ⟨rfl, -⟩ <;> decide
theorem stOkN : StOk mpN 6 stN where
 inj a b ha hab := by
  rw [← mpN_eq] at ha hab
  have h := mpF_inj sumN.symm _ _ ha hab
  have := congrArg UInt8.ofNat h
  simpa using this
 pre m y v q h := by
  by_cases h0 : m = 0
  · subst h0; rw [stN_0] at h; cases h; try omega
  by_cases h1 : m = 1
  · subst h1; rw [stN_1] at h; cases h; try omega
  rw [stN_no m h0 h1] at h; cases h
 tab m L h := by
  by_cases h0 : m = 0
  · subst h0; rw [stN_0] at h; cases h
    refine ⟨fun y v q h => ?_, fun y v q v' q' h h' => ?_⟩
    · simp only [List.mem_cons, List.not_mem_nil, or_false, Prod.mk.injEq] at h
      rcases h with ⟨rfl, rfl, rfl⟩ | ⟨rfl, rfl, rfl⟩ | ⟨rfl, rfl, rfl⟩ | ⟨rfl, rfl, rfl⟩ <;> exact ⟨by omega, by omega, by decide⟩
    · simp only [List.mem_cons, List.not_mem_nil, or_false, Prod.mk.injEq] at h h'
      rcases h with ⟨rfl, rfl, rfl⟩ | ⟨rfl, rfl, rfl⟩ | ⟨rfl, rfl, rfl⟩ | ⟨rfl, rfl, rfl⟩ <;> rcases h' with ⟨e, rfl, rfl⟩ | ⟨e, rfl, rfl⟩ | ⟨e, rfl, rfl⟩ | ⟨e, rfl, rfl⟩ <;> first | rfl | exact absurd e (by decide)
  by_cases h1 : m = 1
  · subst h1; rw [stN_1] at h; cases h
  rw [stN_no m h0 h1] at h; cases h
theorem mpN_inv (x : UInt8) (m b : Nat) (hb : mpN b = m) (hm : m < 6) (hbb : b < 256) (h : mpN x.toNat = m) : x = UInt8.ofNat b := by
 have e := stOkN.inj x (UInt8.ofNat b) (by rw [h]; exact hm) (by rw [h, UInt8.toNat_ofNat', Nat.mod_eq_of_lt hbb, hb])
 exact e
theorem lookN (s : Bytes) : lookB mpN 6 stN s = (hitR [40] [58, 44, 46, 41] s).map fun b => [b] := by
 match s with
 | [] => rfl
 | [x] => rfl
 | x :: y :: r =>
   by_cases h32 : x = 32
   · subst h32
     simp only [lookB, hitR]
     rw [show mpN (32 : UInt8).toNat = 0 from rfl, stN_0, if_pos (by omega)]
     by_cases y58 : y = 58
     · subst y58; rfl
     by_cases y44 : y = 44
     · subst y44; rfl
     by_cases y46 : y = 46
     · subst y46; rfl
     by_cases y41 : y = 41
     · subst y41; rfl
     have z58 : ¬ 58 = y := fun e => y58 e.symm
     have z44 : ¬ 44 = y := fun e => y44 e.symm
     have z46 : ¬ 46 = y := fun e => y46 e.symm
     have z41 : ¬ 41 = y := fun e => y41 e.symm
     simp [y58, z58, y44, z44, y46, z46, y41, z41]
   by_cases h40 : x = 40
   · subst h40
     simp only [lookB, hitR]
     rw [show mpN (40 : UInt8).toNat = 1 from rfl, stN_1, if_pos (by omega)]
     by_cases y32 : y = 32
     · subst y32; rfl
     have z32 : ¬ 32 = y := fun e => y32 e.symm
     simp [y32, z32]
   have hno : lookB mpN 6 stN (x :: y :: r) = none := by
    simp only [lookB]
    split
    · rw [stN_no (mpN x.toNat) (fun e => h32 (mpN_inv x 0 32 rfl (by decide) (by decide) e)) (fun e => h40 (mpN_inv x 1 40 rfl (by decide) (by decide) e))]
    · rfl
   rw [hno]
   simp [hitR, h32, h40]
def prS : List Pr := [(40, 32, [40]), (32, 41, [41]), (91, 32, [91]), (32, 93, [93])]
def mpS (k : Nat) : Nat := if k = 32 then 0 else if k = 40 then 1 else if k = 41 then 2 else if k = 91 then 3 else if k = 93 then 4 else 5
theorem sumS : sumF (markF (bytesP prS)) 256 = 5 := by decide +kernel
theorem mpS_small : ∀ k, k < 256 → mpF (markF (bytesP prS)) 5 k = mpS k := by
 have h : (List.range 256).all (fun k => mpF (markF (bytesP prS)) 5 k == mpS k) = true := by decide +kernel
 intro k hk
 rw [List.all_eq_true] at h
 simpa using h k (List.mem_range.2 hk)
theorem mpS_eq : mpF (markF (bytesP prS)) 5 = mpS := by
 funext k
 by_cases hk : k < 256
 · exact mpS_small k hk
 · have e : markF (bytesP prS) k = 0 := by
     rcases Nat.eq_zero_or_pos (markF (bytesP prS) k) with h | h
     · exact h
     · exact absurd (markF_lt (Nat.pos_iff_ne_zero.1 h)) hk
   unfold mpF mpS
   rw [if_pos e, if_neg (by omega), if_neg (by omega), if_neg (by omega), if_neg (by omega), if_neg (by omega)]
def stS : Nat → Sub := stP mpS 8 0 st0 prS
theorem stS_0 : stS 0 = .tab [(41, [41], 6), (93, [93], 2)] := rfl
theorem stS_1 : stS 1 = .pre 32 [40] 8 := rfl
theorem stS_3 : stS 3 = .pre 32 [91] 4 := rfl
theorem stS_no (m : Nat) (h0 : m ≠ 0) (h1 : m ≠ 1) (h3 : m ≠ 3) : stS m = .no := by
 simp [stS, prS, stP, setAt, st0, mpS, h0, h1, h3]
theorem okPS : okP mpS 5 8 prS := by
 intro i x y v h
 have hi : i < 4 := (List.getElem?_eq_some_iff.1 h).1
 have hc : i = 0 ∨ i = 1 ∨ i = 2 ∨ i = 3 := by omega
 rcases hc with rfl | rfl | rfl | rfl
 · have e : ((40 : UInt8), (32 : UInt8), ([40] : Bytes)) = (x, y, v) := Option.some.inj h
   injection e with e1 e2
   injection e2 with e2 e3
   subst e1 e2 e3
   have hs : stP mpS 8 0 st0 (prS.take 0) (mpS (40 : UInt8).toNat) = .no := rfl
   rw [hs]
   exact ⟨by decide, by decide, trivial, fun _ _ _ h => by cases h⟩
 · have e : ((32 : UInt8), (41 : UInt8), ([41] : Bytes)) = (x, y, v) := Option.some.inj h
   injection e with e1 e2
   injection e2 with e2 e3
   subst e1 e2 e3
   have hs : stP mpS 8 0 st0 (prS.take 1) (mpS (32 : UInt8).toNat) = .no := rfl
   rw [hs]
   exact ⟨by decide, by decide, trivial, fun _ _ _ h => by cases h⟩
 · have e : ((91 : UInt8), (32 : UInt8), ([91] : Bytes)) = (x, y, v) := Option.some.inj h
   injection e with e1 e2
   injection e2 with e2 e3
   subst e1 e2 e3
   have hs : stP mpS 8 0 st0 (prS.take 2) (mpS (91 : UInt8).toNat) = .no := rfl
   rw [hs]
   exact ⟨by decide, by decide, trivial, fun _ _ _ h => by cases h⟩
 · have e : ((32 : UInt8), (93 : UInt8), ([93] : Bytes)) = (x, y, v) := Option.some.inj h
   injection e with e1 e2
   injection e2 with e2 e3
   subst e1 e2 e3
   have hs : stP mpS 8 0 st0 (prS.take 3) (mpS (32 : UInt8).toNat) = .pre 41 [41] 6 := rfl
   rw [hs]
   exact ⟨by decide, by decide, ⟨by decide, by decide⟩, fun _ _ _ h => by cases h; decide⟩
theorem stOkS : StOk mpS 5 stS where
 inj a b ha hab := by
  rw [← mpS_eq] at ha hab
  have h := mpF_inj sumS.symm _ _ ha hab
  have := congrArg UInt8.ofNat h
  simpa using this
 pre m y v q h := by
  by_cases h0 : m = 0
  · subst h0; rw [stS_0] at h; cases h; try omega
  by_cases h1 : m = 1
  · subst h1; rw [stS_1] at h; cases h; try omega
  by_cases h3 : m = 3
  · subst h3; rw [stS_3] at h; cases h; try omega
  rw [stS_no m h0 h1 h3] at h; cases h
 tab m L h := by
  by_cases h0 : m = 0
  · subst h0; rw [stS_0] at h; cases h
    refine ⟨fun y v q h => ?_, fun y v q v' q' h h' => ?_⟩
    · simp only [List.mem_cons, List.not_mem_nil, or_false, Prod.mk.injEq] at h
      rcases h with ⟨rfl, rfl, rfl⟩ | ⟨rfl, rfl, rfl⟩ <;> exact ⟨by omega, by omega, by decide⟩
    · simp only [List.mem_cons, List.not_mem_nil, or_false, Prod.mk.injEq] at h h'
      rcases h with ⟨rfl, rfl, rfl⟩ | ⟨rfl, rfl, rfl⟩ <;> rcases h' with ⟨e, rfl, rfl⟩ | ⟨e, rfl, rfl⟩ <;> first | rfl | exact absurd e (by decide)
  by_cases h1 : m = 1
  · subst h1; rw [stS_1] at h; cases h
  by_cases h3 : m = 3
  · subst h3; rw [stS_3] at h; cases h
  rw [stS_no m h0 h1 h3] at h; cases h
theorem mpS_inv (x : UInt8) (m b : Nat) (hb : mpS b = m) (hm : m < 5) (hbb : b < 256) (h : mpS x.toNat = m) : x = UInt8.ofNat b := by
 have e := stOkS.inj x (UInt8.ofNat b) (by rw [h]; exact hm) (by rw [h, UInt8.toNat_ofNat', Nat.mod_eq_of_lt hbb, hb])
 exact e
theorem lookS (s : Bytes) : lookB mpS 5 stS s = (hitR [40, 91] [41, 93] s).map fun b => [b] := by
 match s with
 | [] => rfl
 | [x] => rfl
 | x :: y :: r =>
   by_cases h32 : x = 32
   · subst h32
     simp only [lookB, hitR]
     rw [show mpS (32 : UInt8).toNat = 0 from rfl, stS_0, if_pos (by omega)]
     by_cases y41 : y = 41
     · subst y41; rfl
     by_cases y93 : y = 93
     · subst y93; rfl
     have z41 : ¬ 41 = y := fun e => y41 e.symm
     have z93 : ¬ 93 = y := fun e => y93 e.symm
     simp [y41, z41, y93, z93]
   by_cases h40 : x = 40
   · subst h40
     simp only [lookB, hitR]
     rw [show mpS (40 : UInt8).toNat = 1 from rfl, stS_1, if_pos (by omega)]
     by_cases y32 : y = 32
     · subst y32; rfl
     have z32 : ¬ 32 = y := fun e => y32 e.symm
     simp [y32, z32]
   by_cases h91 : x = 91
   · subst h91
     simp only [lookB, hitR]
     rw [show mpS (91 : UInt8).toNat = 3 from rfl, stS_3, if_pos (by omega)]
     by_cases y32 : y = 32
     · subst y32; rfl
     have z32 : ¬ 32 = y := fun e => y32 e.symm
     simp [y32, z32]
   have hno : lookB mpS 5 stS (x :: y :: r) = none := by
    simp only [lookB]
    split
    · rw [stS_no (mpS x.toNat) (fun e => h32 (mpS_inv x 0 32 rfl (by decide) (by decide) e)) (fun e => h40 (mpS_inv x 1 40 rfl (by decide) (by decide) e)) (fun e => h91 (mpS_inv x 3 91 rfl (by decide) (by decide) e))]
    · rfl
   rw [hno]
   simp [hitR, h32, h40, h91]
end Go.Proofs.YtbicmjmcdnkjhaaGreatDoor
