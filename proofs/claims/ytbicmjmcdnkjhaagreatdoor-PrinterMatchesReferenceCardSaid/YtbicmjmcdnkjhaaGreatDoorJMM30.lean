/- The end of both printers: the words joined, blanks taken away, the names looked at: contracts that serve both. printer.North: its end: the replacer, the set of key words, the text. -/
import Derived.Test.YtbicmjmcdnkjhaaGreatDoorJMM29
import Derived.Test.YtbicmjmcdnkjhaaGreatDoorJMM1
set_option linter.unusedVariables false
set_option linter.unusedSimpArgs false
namespace Go.Proofs.YtbicmjmcdnkjhaaGreatDoor
open Go.RowKit
theorem lib_join : ∀ L : List Bytes, Lib.join L [32] = joinB L
 | [] => rfl
 | [w] => Lib.join_one w [32]
 | w :: w' :: r => by
   have ih := lib_join (w' :: r)
   rw [Lib.join_cons] at ih
   rw [Lib.join_cons, show joinB (w :: w' :: r) = w ++ 32 :: joinB (w' :: r) from rfl, ← ih]
   simp [Lib.joinTail]
theorem join_any (w : World) (A : Option Addr) (l : List Bytes) (c : Nat) (hr : RdS w A l) (hc : l.length ≤ c) (hne : l ≠ []) (hlen : (joinB l).length ≤ 1000000000) (hl : l.length ≤ 1000000) :
 Calls Tryz.prog 36 #[.slice A l.length c, .string ⟨#[32]⟩] w fun e w' => e = .returned (vs (joinB l)) ∧ Below w.heap.size w w' := by
 obtain ⟨b, o, rfl, hlt, hcell⟩ := hr hne
 have he : (l.map fun s => (⟨s.toArray⟩ : ByteArray)).map (·.data.toList) = l := by
  rw [List.map_map]
  conv => rhs; rw [← List.map_id l]
  rfl
 have h := Tryz.strings_Join b o c (l.map fun s => ⟨s.toArray⟩) ⟨#[32]⟩ w (fun j x hx => by
  rw [List.getElem?_map] at hx
  cases hj : l[j]? with
  | none => rw [hj] at hx; cases hx
  | some y =>
    rw [hj] at hx
    injection hx with hx
    subst hx
    have := hcell j y hj 0 _ rfl
    simpa using this) hlt (by rw [List.length_map]; omega) (by rw [List.length_map]; omega) (by rw [he]; show (Lib.join l [32]).length ≤ _; rw [lib_join]; omega)
 rw [List.length_map, he] at h
 rw [show (⟨#[32]⟩ : ByteArray).data.toList = [32] from rfl, lib_join] at h
 exact h
theorem oneN_eq {K kw : List Bytes} (hK : ∀ s, K.contains s = kw.contains s) (s : Bytes) : oneN K s = ((coreW s).1 == 1 && !kw.contains s) := by
 rw [← hK]
 unfold oneN
 by_cases h : (coreW s).1 = 1
 · obtain ⟨t, h1, h2, h3⟩ := one_name.2 h
   rw [h1, h]
   simp [h2, h3]
 · have hn : ¬ ∃ t, lexF s = .ok [t] ∧ t.kind = 1 ∧ t.text = s := fun hh => h (one_name.1 hh)
   have h0 : ((coreW s).1 == 1) = false := by simpa using h
   rw [h0]
   simp only [Bool.false_and]
   split
   · rename_i t ht
     cases hk : (t.kind == 1 && t.text == s && !K.contains s) with
     | false => rfl
     | true =>
       simp only [Bool.and_eq_true, beq_iff_eq] at hk
       exact absurd ⟨t, ht, hk.1.1, hk.1.2⟩ hn
   · rfl
theorem textA_eq {K kw N N' : List Bytes} {j : Bytes} {ok : Bytes → Bool} (hK : ∀ s, K.contains s = kw.contains s) (hok : ∀ s, ok s = ((coreW s).1 == 1 && !kw.contains s)) (hN : ∀ f : Bytes → Bool, N.all f = N'.all f) :
 textA K N j = if N'.all ok = true then (match lexF j with | .ok _ => (j, 0) | .error _ => ([], 2)) else ([], 7) := by
 have : N.all (oneN K) = N'.all ok := by
  rw [hN]
  congr 1
  funext s
  rw [oneN_eq hK, hok]
 unfold textA
 rw [this]
 rfl
theorem textA_north {p : Prov} {N : List Bytes} (h : WrOk p) (hN : ∀ f : Bytes → Bool, N.all f = (namesP p).all f) : textA (setF keyWords) N (replF opN clN (joinB (wP p))) = northA (upP p) := by
 rw [textA_eq (kw := keyWords) (ok := nameOk) (setF_contains keyWords) (fun s => rfl) hN]
 unfold northA ansP
 rw [if_pos (written_up h), down_upP]
 by_cases ha : (namesP p).all nameOk = true
 · rw [if_pos ha, if_pos ha, north_text (ok_wr.2 ⟨h, fun s hs => List.all_eq_true.1 ha s hs⟩)]
   cases lexF (textN p) <;> rfl
 · rw [if_neg ha, if_neg ha]
theorem textA_south {p : Prov} {N : List Bytes} (h : WrOk p) (hN : ∀ f : Bytes → Bool, N.all f = (namesP p).all f) : textA (setF So.keyWords) N (replF So.opS' So.clS' (joinB (So.wP p))) = southA (upP p) := by
 rw [textA_eq (kw := So.keyWords) (ok := So.nameOk) (setF_contains So.keyWords) (fun s => rfl) hN]
 unfold southA ansP
 rw [if_pos (written_up h), down_upP]
 by_cases ha : (namesP p).all So.nameOk = true
 · rw [if_pos ha, if_pos ha, So.south_text (ok_wrS.2 ⟨h, fun s hs => List.all_eq_true.1 ha s hs⟩)]
   cases lexF (So.textS p) <;> rfl
 · rw [if_neg ha, if_neg ha]
/- the sets of key words -/
theorem fields_north : Lib.fields (joinB keyWords) = keyWords := by decide +kernel
theorem fields_south : Lib.fields (joinB So.keyWords) = So.keyWords := by decide +kernel
theorem set_words (w : World) (kw : List Bytes) (s : ByteArray) (hs : s.data.toList = joinB kw) (hf : Lib.fields (joinB kw) = kw) (hl : kw.length ≤ 100) (hw : kw.all (fun x => decide (x.length ≤ 100)) = true) (hj : (joinB kw).length ≤ 1000) (ha : (joinB kw).all (fun b => decide (b.toNat < 128)) = true) (ht : Tabs w) :
 Calls Tryz.prog 34 #[.string s] w fun e w' => ∃ mb, e = .returned (.map (some mb)) ∧ KS w' mb (setF kw) ∧ w.heap.size ≤ mb ∧ Below w.heap.size w w' :=
 set_any w w s kw (by rw [hs, hf]) (by omega) (fun x hx => by have := List.all_eq_true.1 hw x hx; have := of_decide_eq_true this; omega) (by rw [show s.size = s.data.toList.length from rfl, hs]; exact Nat.lt_of_le_of_lt hj (by decide)) (fun j b hb => by rw [hs] at hb; exact of_decide_eq_true (List.all_eq_true.1 ha b (List.mem_of_getElem? hb))) ht (Below.refl _ _)
/- the state at the text's end: w0: ahead of NewReplacer; w1: behind it -/
structure TA (W w0 w1 : World) (p : Nat) (T : TypeId) (L N : List Bytes) (P : List Pr) (rb kb q : Nat) (w : World) : Prop where
 st : St W w0 p T L N
 rep : NewRep P w0 w1 rb kb q
 below : Below w1.heap.size w1 w
structure TB (W w0 w1 : World) (p : Nat) (T : TypeId) (L N : List Bytes) (P : List Pr) (rb kb q mb : Nat) (K : List Bytes) (w : World) : Prop where
 a : TA W w0 w1 p T L N P rb kb q w
 ks : KS w mb K
 lo : w1.heap.size ≤ mb
structure TC (W w0 : World) (p : Nat) (T : TypeId) (L N : List Bytes) (mb : Nat) (K : List Bytes) (w : World) : Prop where
 st : St W w0 p T L N
 below : Below w0.heap.size w0 w
 ks : KS w mb K
section
variable {W w0 w1 w w' : World} {p : Nat} {T : TypeId} {L N : List Bytes} {P : List Pr} {rb kb q mb : Nat} {K : List Bytes}
theorem TA.drew (h : TA W w0 w1 p T L N P rb kb q w) : TA W w0 w1 p T L N P rb kb q w.drew := ⟨h.st, h.rep, h.below.drew⟩
theorem TA.below0 (h : TA W w0 w1 p T L N P rb kb q w) : Below w0.heap.size w0 w := h.rep.below.trans (h.below.mono h.rep.below.size)
theorem TA.sp (h : TA W w0 w1 p T L N P rb kb q w) : St W w p T L N := h.st.keep h.below0
/- what the list's field holds -/
theorem TA.list (h : TA W w0 w1 p T L N P rb kb q w1) : ∃ A c, L.length ≤ c ∧ ∀ w, TA W w0 w1 p T L N P rb kb q w → w.cell? ⟨p, 0, none⟩ = some (.slice A L.length c) ∧ RdS w A L := by
 obtain ⟨S, v1, v2, hw⟩ := h.st.wr
 obtain ⟨A, c, rfl, hc, hr, -⟩ := hw.l.form
 refine ⟨A, c, hc, fun w k => ⟨?_, hr.below k.below0⟩⟩
 have := (k.below0.block p (hw.lt p hw.mem)).trans hw.is
 exact cOb this rfl
theorem TA.set (h : TA W w0 w1 p T L N P rb kb q w) (hb : Below w.heap.size w w') (hk : KS w' mb K) (hm : w.heap.size ≤ mb) : TB W w0 w1 p T L N P rb kb q mb K w' :=
 ⟨⟨h.st, h.rep, h.below.trans (hb.mono h.below.size)⟩, hk, Nat.le_trans h.below.size hm⟩
theorem TB.grow (h : TB W w0 w1 p T L N P rb kb q mb K w) (hb : Below w.heap.size w w') : TB W w0 w1 p T L N P rb kb q mb K w' :=
 ⟨⟨h.a.st, h.a.rep, h.a.below.trans (hb.mono h.a.below.size)⟩, h.ks.keep (hb.block mb h.ks.lt), h.lo⟩
theorem TB.rblk (h : TB W w0 w1 p T L N P rb kb q mb K w) : w.heap[rb]? = some (.cells #[.int .u32 0, .int .i32 0, .int .u32 0, .nilIface, .slice (some ⟨kb, 0, none⟩) (2 * P.length) q] 120 (0, 0)) :=
 (h.a.below.block rb (lHp h.a.rep.blk)).trans h.a.rep.blk
theorem TB.keys (h : TB W w0 w1 p T L N P rb kb q mb K w) : KeysAt w kb P := h.a.rep.keys.keep h.a.below.size (h.a.below.block kb h.a.rep.keys.1)
theorem TB.repl (h : TB W w0 w1 p T L N P rb kb q mb K w) (he : Eff rb w w') : TC W w0 p T L N mb K w' := by
 have hlt := lHp h.a.rep.blk
 have hlo := h.lo
 exact ⟨h.a.st, h.a.below0.trans (he.below h.a.rep.new h.a.below0.size), h.ks.keep (he.block mb h.ks.lt (by omega))⟩
theorem TC.sp (h : TC W w0 p T L N mb K w) : St W w p T L N := h.st.keep h.below
theorem TC.text (h : TC W w0 p T L N mb K w) (j : Bytes) (hn : ∀ s ∈ N, s.length ≤ 1000000) (hlen : N.length ≤ 1000000) :
 Calls Tryz.prog 33 #[.pointer (some ⟨p, 0, none⟩), .map (some mb), vs j] w fun e w' => e = .returned (.tuple #[vs (textA K N j).1, .int .i64 ((textA K N j).2 : Nat)]) ∧ Below w.heap.size w w' := by
 obtain ⟨S, hw⟩ := h.sp.wr
 exact text_any W w p T S L N mb K j hw h.ks hn hlen
end
end Go.Proofs.YtbicmjmcdnkjhaaGreatDoor
set_option maxRecDepth 100000
set_option maxHeartbeats 4000000
namespace Go.Proofs.YtbicmjmcdnkjhaaGreatDoor
open Go.RowKit
attribute [local go_sem ↓] Go.wp_at_zero Go.wp_at_succ
/- the code from a region on -/
def fromReg (i : Nat) : Code → Option Code
 | .seq (.region j o d) b => if j = i then some (.seq (.region j o d) b) else fromReg i b
 | .seq a b => match fromReg i a with | some c => some c | none => fromReg i b
 | .block _ c => fromReg i c
 | .scope c => fromReg i c
 | _ => none
noncomputable def ntail : Code := (Tryz.f12.body.bind (fromReg 33)).getD .skip
theorem set_north (w : World) (ht : Tabs w) : Calls Tryz.prog 34 #[.string ⟨#[99, 111, 110, 115, 116, 105, 116, 117, 116, 105, 111, 110, 32, 97, 99, 116, 32, 114, 101, 103, 117, 108, 97, 116, 105, 111, 110, 32, 98, 121, 108, 97, 119, 32, 100, 101, 102, 105, 110, 101, 32, 97, 110, 115, 119, 101, 114, 32, 105, 115, 32, 105, 102, 32, 110, 111, 116, 119, 105, 116, 104, 115, 116, 97, 110, 100, 105, 110, 103, 32, 102, 114, 111, 109, 32, 117, 110, 116, 105, 108, 32, 97, 103, 97, 105, 110, 32, 111, 114, 32, 97, 110, 100, 32, 110, 111, 116, 32, 116, 114, 117, 101, 32, 102, 97, 108, 115, 101, 32, 97, 108, 119, 97, 121, 115, 32, 110, 101, 118, 101, 114, 32, 100, 97, 121, 32, 111, 114, 100, 101, 114, 32, 101, 118, 101, 110, 116, 32, 98, 101, 103, 117, 110, 32, 111, 118, 101, 114]⟩] w fun e w' => ∃ mb, e = .returned (.map (some mb)) ∧ KS w' mb (setF keyWords) ∧ w.heap.size ≤ mb ∧ Below w.heap.size w w' :=
 set_words w keyWords _ (by decide +kernel) fields_north (by decide) (by decide +kernel) (by decide +kernel) (by decide +kernel) ht
theorem newrep_n (w : World) : Calls Tryz.prog 32 #[.slice (some ⟨w.heap.size, 0, none⟩) 10 10] (w.alloc (.cells #[vs [32, 58], vs [58], vs [32, 44], vs [44], vs [32, 46], vs [46], vs [40, 32], vs [40], vs [32, 41], vs [41]] 9)) fun e w' => ∃ rb kb c, e = .returned (.pointer (some ⟨rb, 0, none⟩)) ∧ NewRep prN (w.alloc (.cells #[vs [32, 58], vs [58], vs [32, 44], vs [44], vs [32, 46], vs [46], vs [40, 32], vs [40], vs [32, 41], vs [41]] 9)) w' rb kb c :=
 newrep_any _ w.heap.size 10 prN (by decide) (by decide) (fun j x hx => by
  refine cOb (heap_alloc_new w _) ?_
  have h : ∀ j < 10, ∀ x, (flatK prN)[j]? = some x → (#[vs [32, 58], vs [58], vs [32, 44], vs [44], vs [32, 46], vs [46], vs [40, 32], vs [40], vs [32, 41], vs [41]] : Array Value)[j]? = some (vs x) := by
   intro j hj x hx
   have : j = 0 ∨ j = 1 ∨ j = 2 ∨ j = 3 ∨ j = 4 ∨ j = 5 ∨ j = 6 ∨ j = 7 ∨ j = 8 ∨ j = 9 := by omega
   rcases this with rfl | rfl | rfl | rfl | rfl | rfl | rfl | rfl | rfl | rfl <;> (injection hx with hx; subst hx; rfl)
  exact h j (by have := (List.getElem?_eq_some_iff.1 hx).1; exact this) x hx)
theorem nend (Q : Exit → Act → World → Prop) (W w : World) (L N : List Bytes) (ht : Tabs W) (hL : L.length ≤ 900000) (hN : N.length ≤ 900000) (hn : ∀ s ∈ N, s.length ≤ 1000000) (LL : List Bytes) (hLL : L ++ [[46]] = LL) (hj : (joinB LL).length ≤ 1000000000) (hS : St W w W.heap.size 52 L N)
 (u0 u1 u2 u3 u5 u6 u7 u8 u9 u10 u11 u12 u13 u14 u15 u16 u17 u18 u19 u20 u21 u22 u23 u24 u25 u26 u27 u28 u29 u30 u31 u32 u33 u34 u35 u36 u37 u38 u39 u40 u41 u42 u43 u44 u45 u46 u47 u48 u49 u50 u51 u52 u53 u54 u55 u56 u57 u58 u59 u60 u61 u62 u63 u64 u65 u66 u67 u68 u69 u70 u71 u72 u73 u74 u75 u76 u77 u78 u79 u80 u81 u82 u83 u84 u85 u86 u87 u88 u89 u90 u91 u92 u93 u94 u95 u96 u97 u98 u99 u100 u101 u102 u103 u104 u105 u106 u107 u108 u109 u110 u111 u112 u113 u114 u115 u116 u117 u118 u119 u120 u121 u122 : Value)
 (hend : ∀ (v10 v107 v108 v109 v110 v111 v112 v113 v114 v115 v116 v117 v118 v119 v120 v121 v122 : Value) (w' : World), Below W.heap.size W w' → Q .ret ⟨#[u0, u1, vs (textA (setF keyWords) N (replF [40] [58, 44, 46, 41] (joinB LL))).1, .int .i64 ((textA (setF keyWords) N (replF [40] [58, 44, 46, 41] (joinB LL))).2 : Nat), .pointer (some ⟨W.heap.size, 0, none⟩), u5, u6, u7, u8, u9, v10, u11, u12, u13, u14, u15, u16, u17, u18, u19, u20, u21, u22, u23, u24, u25, u26, u27, u28, u29, u30, u31, u32, u33, u34, u35, u36, u37, u38, u39, u40, u41, u42, u43, u44, u45, u46, u47, u48, u49, u50, u51, u52, u53, u54, u55, u56, u57, u58, u59, u60, u61, u62, u63, u64, u65, u66, u67, u68, u69, u70, u71, u72, u73, u74, u75, u76, u77, u78, u79, u80, u81, u82, u83, u84, u85, u86, u87, u88, u89, u90, u91, u92, u93, u94, u95, u96, u97, u98, u99, u100, u101, u102, u103, u104, u105, u106, v107, v108, v109, v110, v111, v112, v113, v114, v115, v116, v117, v118, v119, v120, v121, v122], []⟩ w') :
 Code.wp Tryz.prog ntail Q ⟨#[u0, u1, u2, u3, .pointer (some ⟨W.heap.size, 0, none⟩), u5, u6, u7, u8, u9, u10, u11, u12, u13, u14, u15, u16, u17, u18, u19, u20, u21, u22, u23, u24, u25, u26, u27, u28, u29, u30, u31, u32, u33, u34, u35, u36, u37, u38, u39, u40, u41, u42, u43, u44, u45, u46, u47, u48, u49, u50, u51, u52, u53, u54, u55, u56, u57, u58, u59, u60, u61, u62, u63, u64, u65, u66, u67, u68, u69, u70, u71, u72, u73, u74, u75, u76, u77, u78, u79, u80, u81, u82, u83, u84, u85, u86, u87, u88, u89, u90, u91, u92, u93, u94, u95, u96, u97, u98, u99, u100, u101, u102, u103, u104, u105, u106, u107, u108, u109, u110, u111, u112, u113, u114, u115, u116, u117, u118, u119, u120, u121, u122], []⟩ w := by
 have HE := Hi hend
 have HT := Hi ht
 have HS := Hi hS
 have HN := Hi hn
 have HJ := Hi hj
 have hLl : LL.length ≤ 900001 := by rw [← hLL]; simp; omega
 have hLn : LL ≠ [] := by rw [← hLL]; simp
 have HLN := Hi hLn
 have HLL := Hi hLL
 clear hend ht hS hn hj hLL hLn
 conv => arg 2; whnf
 go_wp2_with (go_at_call 27; refine (word_s W _ _ _ _ _ _ _ (by simp) HS.out (by omega)).mono ?_; rintro e w9 ⟨rfl, hS⟩; have HS9 := Hi hS; clear HS hS; have HS := HS9; clear HS9)
 refine (newrep_n w9).mono ?_
 rintro e w1 ⟨rb, kb, q, rfl, hR⟩
 obtain ⟨w0, hw0⟩ : ∃ x, w9.alloc (.cells #[vs [32, 58], vs [58], vs [32, 44], vs [44], vs [32, 46], vs [46], vs [40, 32], vs [40], vs [32, 41], vs [41]] 9) = x := ⟨_, rfl⟩
 have hS0 := HS.out.alloc (.cells #[vs [32, 58], vs [58], vs [32, 44], vs [44], vs [32, 46], vs [46], vs [40, 32], vs [40], vs [32, 41], vs [41]] 9)
 rw [hw0, HLL.out] at hS0
 rw [hw0] at hR
 have hTA : TA W w0 w1 W.heap.size 52 LL N prN rb kb q w1 := ⟨hS0, hR, Below.refl _ _⟩
 obtain ⟨A, c, hc, hl⟩ := hTA.list
 have HL := Hi hl
 have HTA := Hi hTA
 have q1 := (hl w1 hTA).1
 have hlt : W.heap.size < w1.heap.size := Nat.lt_of_lt_of_le hTA.sp.lt.2 (lR _)
 have HLA : Hid (∀ w mb, TC W w0 W.heap.size 52 LL N mb (setF keyWords) w → w.cell? ⟨W.heap.size, 0, none⟩ = some (.slice A LL.length c)) := Hi (fun w mb h => (cOh (h.below.block _ hS0.lt.2) 0).trans ((cOh (hR.below.block _ hS0.lt.2) 0).symm.trans q1))
 clear hS0 hR hTA hl hw0 HS
 go_upto_region 35 with fail
 go_region_held3 (fun w' => w'.cell? ⟨W.heap.size, 0, none⟩ = some (.slice A LL.length c)) (go_keep) ((first | (go_at_call 34; (with_reducible refine (set_north _ (HT.out.below HTA.out.drew.sp.below)).mono ?_); rintro e w2 ⟨mb, rfl, hk, hm, hb⟩; have hTB := HTA.out.drew.set hb hk hm; have q2 := (HL.out w2 hTB.a).1; have HTB := Hi hTB; clear hk hm hb hTB) | (go_at_call 36; (with_reducible refine (join_any _ A LL c (HL.out _ HTB.out.a).2 hc HLN.out HJ.out (by omega)).mono ?_); rintro e w3 ⟨rfl, hb⟩; have hTB := HTB.out.grow hb; have q3 := (HL.out w3 hTB.a).1; have HTB3 := Hi hTB; clear hb hTB) | (go_at_call 35; (with_reducible refine (replace_any _ rb kb q prN 6 _ _ repOkN HTB3.out.rblk HTB3.out.keys HTA.out.rep.ne _ HJ.out).mono ?_); rintro e w4 ⟨rfl, he⟩; have hTC := HTB3.out.repl he; have q4 := HLA.out w4 _ hTC; have HTC := Hi hTC; clear he hTC) | (go_at_call 33; (with_reducible refine (HTC.out.text _ HN.out (by omega)).mono ?_); rintro e w5 ⟨rfl, hb⟩; have q5 := (hb.cell (p := ⟨W.heap.size, 0, none⟩) HTC.out.sp.lt.2).trans q4; have HB5 := Hi hb; clear hb)))
 go_wp2_with fail
 exact HE.out _ _ _ _ _ _ _ _ _ _ _ _ _ _ _ _ _ _ (HTC.out.sp.below.trans (HB5.out.mono HTC.out.sp.below.size))
end Go.Proofs.YtbicmjmcdnkjhaaGreatDoor

