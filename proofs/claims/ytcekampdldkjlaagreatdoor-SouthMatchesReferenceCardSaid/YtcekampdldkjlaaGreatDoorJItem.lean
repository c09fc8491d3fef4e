/- The reference's reader: item. The reference's reader: item. The reference's reader: sitem. -/
import Derived.Test.YtcekampdldkjlaaGreatDoorJTree
set_option linter.unusedVariables false
set_option linter.unusedSimpArgs false
namespace Go.Proofs.YtcekampdldkjlaaGreatDoor
open Go.RowKit
theorem RR.grown {w w' : World} {p fin : Nat} {ts : List Tok} {s : Rs} {row : Option Nat} (h : RR w p fin ts s) (hg : w.grownBy w' row) (hr : ∀ k, row = some k → p < k) : RR w' p fin ts s :=
  h.keep hg.size (fun b hb => hg.block b (Nat.lt_of_le_of_lt hb h.lt) (fun e => by have := hr b e.symm; omega))
theorem pushed {w wk wa w' : World} {p base fin : Nat} {ts : List Tok} {s : Rs} {v : Value} (he : Eff p w wk) (ha : Below wk.heap.size wk wa) (hg : wa.grownBy w' v.ownBlock) (hob : ∀ b, v.ownBlock = some b → base ≤ b) (hpb : p < base) (hbw : base ≤ w.heap.size) (hr : RR wk p fin ts s) : RR w' p fin ts s ∧ EffB p base w w' :=
  ⟨(hr.below ha).grown hg (fun k hk => by have := hob k hk; omega), ((EffB.of he hbw).trans (EffB.below ha (Nat.le_trans hbw he.size))).trans (EffB.grown hg (Nat.le_trans (Nat.le_trans hbw he.size) ha.size) hob)⟩
theorem one_le (ts : List Tok) (fin : Nat) (s : Rs) (ws : List (List UInt8)) : (oneA ts fin s ws).1 ≤ ws.length := by
  unfold oneA
  split
  · rename_i k h
    rw [List.findIdx?_eq_some_iff_getElem] at h
    have := h.1
    show k ≤ _
    omega
  · exact Nat.zero_le _
set_option maxRecDepth 20000 in
set_option maxHeartbeats 2000000 in
theorem ritem_1 (p base fin D : Nat) (ts : List Tok) (s : Rs) (v : Value) (st : Stack) (w : World) (hp : RR w p fin ts s) (ho : OwnU (fun b => base ≤ b) w base v st) (hpb : p < base) (hbw : base ≤ w.heap.size) (hl : st.length ≤ 300) (hD : D ≤ 900) (hd : ∀ x ∈ st, x.2 ≤ D) (hn : ∀ t ∈ ts, t.n ≤ 9999999) (h1 : seesA ts s [121, 101, 115] = true) :
    Calls Tryz.prog 40 #[.pointer (some ⟨p, 0, none⟩), v] w fun r w' => ∃ v', r = .returned v' ∧ OwnU (fun b => base ≤ b) w' base v' (itemA ts fin st s).1 ∧ RR w' p fin ts (itemA ts fin st s).2 ∧ EffB p base w w' := by
  have HP0 := Lib.hid hp
  have HO := Lib.hid ho
  have HD := Lib.hid hd
  have HN := Lib.hid hn
  have HE0 : Hid (Eff p w w) := Lib.hid (Eff.refl p w)
  obtain ⟨VA, vc, rfl⟩ := ho.form
  have HQ : Hid (itemA ts fin st s = (st ++ [(leafT 1, 1)], s.next)) := Lib.hid (by unfold itemA; rw [if_pos h1])
  have H1 := Lib.hid h1
  clear h1
  clear hp ho hd hn
  go_enter Tryz.func40, Tryz.ntmps40
  go_wp2_with fail
  refine (ris_any [121, 101, 115] p fin ts s _ HP0.out).mono ?_
  rintro r w1 ⟨rfl, hr, he⟩
  rw [H1.out]
  have HP1 : Hid (RR w1 p fin ts (s).next) := Lib.hid (by have := hr; rwa [show isA ts s [121, 101, 115] = (s).next by unfold isA; rw [H1.out]; rfl] at this)
  have HE1 := Lib.hid (HE0.out.trans he)
  clear hr he
  have hal : Below w1.heap.size w1 (w1.alloc (.cells #[.int .i64 1, .string ⟨#[]⟩, .int .i64 0, .int .i64 0, .slice none 0 0, .int .i64 1] 52 (0, 0))) := (Below.refl _ _).alloc (Nat.le_refl _) _
  have HAL := Lib.hid hal
  have HOA : Hid (OwnU (fun b => base ≤ b) (w1.alloc (.cells #[.int .i64 1, .string ⟨#[]⟩, .int .i64 0, .int .i64 0, .slice none 0 0, .int .i64 1] 52 (0, 0))) base (.slice VA st.length vc) st) := Lib.hid ((HO.out.later HE1.out hpb).later (Eff.of_below (p := p) hal) hpb)
  have HCA : Hid (∀ (j : Nat) u, ([.int .i64 1, .string ⟨#[]⟩, .int .i64 0, .int .i64 0, .slice none 0 0, .int .i64 1] : List Value)[j]? = some u → (w1.alloc (.cells #[.int .i64 1, .string ⟨#[]⟩, .int .i64 0, .int .i64 0, .slice none 0 0, .int .i64 1] 52 (0, 0))).cell? ⟨w1.heap.size, 0 + j, none⟩ = some u) := Lib.hid (fun j u hu => by
    rw [Nat.zero_add]
    exact cell_of_blk (heap_alloc_new w1 _) (by simpa using hu))
  have HRA : Hid (RdU (fun b => base ≤ b ∧ (Value.slice VA st.length vc).ownBlock ≠ some b) (w1.alloc (.cells #[.int .i64 1, .string ⟨#[]⟩, .int .i64 0, .int .i64 0, .slice none 0 0, .int .i64 1] 52 (0, 0))) [.int .i64 1, .string ⟨#[]⟩, .int .i64 0, .int .i64 0, .slice none 0 0, .int .i64 1] ((leafT 1, 1) : Tree × Nat).2 ((leafT 1, 1) : Tree × Nat).1) := Lib.hid (by
    exact RdU.leaf _ _ _ _ _ none 0)
  have HLN : Hid (st.length + 1 ≤ 1000000) := Lib.hid (by omega)
  have HBA : Hid (base ≤ (w1.alloc (.cells #[.int .i64 1, .string ⟨#[]⟩, .int .i64 0, .int .i64 0, .slice none 0 0, .int .i64 1] 52 (0, 0))).heap.size) := Lib.hid (Nat.le_trans (Nat.le_trans hbw HE1.out.size) hal.size)
  clear hal
  go_wp2_with (refine wpList_push_u rfl (.tmp 10) (.tmp 12) rfl (fun b => base ≤ b) base (.slice VA st.length vc) st w1.heap.size [.int .i64 1, .string ⟨#[]⟩, .int .i64 0, .int .i64 0, .slice none 0 0, .int .i64 1] (leafT 1, 1) rfl rfl HOA.out HCA.out HRA.out HLN.out HBA.out ?_; intro v' w' ho hg; have HVO := Lib.hid ho; have HVG := Lib.hid (pushed HE1.out HAL.out hg (fun b hb => (HO.out.own b hb).1) hpb hbw HP1.out); clear ho hg)
  go_ret
  exact ⟨_, rfl, by rw [HQ.out]; exact HVO.out, by rw [HQ.out]; exact HVG.out.1, HVG.out.2⟩
set_option maxRecDepth 20000 in
set_option maxHeartbeats 2000000 in
theorem ritem_2 (p base fin D : Nat) (ts : List Tok) (s : Rs) (v : Value) (st : Stack) (w : World) (hp : RR w p fin ts s) (ho : OwnU (fun b => base ≤ b) w base v st) (hpb : p < base) (hbw : base ≤ w.heap.size) (hl : st.length ≤ 300) (hD : D ≤ 900) (hd : ∀ x ∈ st, x.2 ≤ D) (hn : ∀ t ∈ ts, t.n ≤ 9999999) (h1 : seesA ts s [121, 101, 115] = false) (h2 : seesA ts s [110, 111] = true) :
    Calls Tryz.prog 40 #[.pointer (some ⟨p, 0, none⟩), v] w fun r w' => ∃ v', r = .returned v' ∧ OwnU (fun b => base ≤ b) w' base v' (itemA ts fin st s).1 ∧ RR w' p fin ts (itemA ts fin st s).2 ∧ EffB p base w w' := by
  have HP0 := Lib.hid hp
  have HO := Lib.hid ho
  have HD := Lib.hid hd
  have HN := Lib.hid hn
  have HE0 : Hid (Eff p w w) := Lib.hid (Eff.refl p w)
  obtain ⟨VA, vc, rfl⟩ := ho.form
  have HQ : Hid (itemA ts fin st s = (st ++ [(leafT 2, 1)], s.next)) := Lib.hid (by unfold itemA; rw [if_neg (by rw [h1]; decide)]; rw [if_pos h2])
  have H1 := Lib.hid h1
  have H2 := Lib.hid h2
  clear h1 h2
  clear hp ho hd hn
  go_enter Tryz.func40, Tryz.ntmps40
  go_wp2_with fail
  refine (ris_any [121, 101, 115] p fin ts s _ HP0.out).mono ?_
  rintro r w1 ⟨rfl, hr, he⟩
  rw [H1.out]
  have HP1 : Hid (RR w1 p fin ts s) := Lib.hid (by have := hr; rwa [show isA ts s [121, 101, 115] = s by unfold isA; rw [H1.out]; rfl] at this)
  have HE1 := Lib.hid (HE0.out.trans he)
  clear hr he
  go_wp2_with fail
  refine (ris_any [110, 111] p fin ts s _ HP1.out).mono ?_
  rintro r w2 ⟨rfl, hr, he⟩
  rw [H2.out]
  have HP2 : Hid (RR w2 p fin ts (s).next) := Lib.hid (by have := hr; rwa [show isA ts s [110, 111] = (s).next by unfold isA; rw [H2.out]; rfl] at this)
  have HE2 := Lib.hid (HE1.out.trans he)
  clear hr he
  have hal : Below w2.heap.size w2 (w2.alloc (.cells #[.int .i64 2, .string ⟨#[]⟩, .int .i64 0, .int .i64 0, .slice none 0 0, .int .i64 1] 52 (0, 0))) := (Below.refl _ _).alloc (Nat.le_refl _) _
  have HAL := Lib.hid hal
  have HOA : Hid (OwnU (fun b => base ≤ b) (w2.alloc (.cells #[.int .i64 2, .string ⟨#[]⟩, .int .i64 0, .int .i64 0, .slice none 0 0, .int .i64 1] 52 (0, 0))) base (.slice VA st.length vc) st) := Lib.hid ((HO.out.later HE2.out hpb).later (Eff.of_below (p := p) hal) hpb)
  have HCA : Hid (∀ (j : Nat) u, ([.int .i64 2, .string ⟨#[]⟩, .int .i64 0, .int .i64 0, .slice none 0 0, .int .i64 1] : List Value)[j]? = some u → (w2.alloc (.cells #[.int .i64 2, .string ⟨#[]⟩, .int .i64 0, .int .i64 0, .slice none 0 0, .int .i64 1] 52 (0, 0))).cell? ⟨w2.heap.size, 0 + j, none⟩ = some u) := Lib.hid (fun j u hu => by
    rw [Nat.zero_add]
    exact cell_of_blk (heap_alloc_new w2 _) (by simpa using hu))
  have HRA : Hid (RdU (fun b => base ≤ b ∧ (Value.slice VA st.length vc).ownBlock ≠ some b) (w2.alloc (.cells #[.int .i64 2, .string ⟨#[]⟩, .int .i64 0, .int .i64 0, .slice none 0 0, .int .i64 1] 52 (0, 0))) [.int .i64 2, .string ⟨#[]⟩, .int .i64 0, .int .i64 0, .slice none 0 0, .int .i64 1] ((leafT 2, 1) : Tree × Nat).2 ((leafT 2, 1) : Tree × Nat).1) := Lib.hid (by
    exact RdU.leaf _ _ _ _ _ none 0)
  have HLN : Hid (st.length + 1 ≤ 1000000) := Lib.hid (by omega)
  have HBA : Hid (base ≤ (w2.alloc (.cells #[.int .i64 2, .string ⟨#[]⟩, .int .i64 0, .int .i64 0, .slice none 0 0, .int .i64 1] 52 (0, 0))).heap.size) := Lib.hid (Nat.le_trans (Nat.le_trans hbw HE2.out.size) hal.size)
  clear hal
  go_wp2_with (refine wpList_push_u rfl (.tmp 16) (.tmp 18) rfl (fun b => base ≤ b) base (.slice VA st.length vc) st w2.heap.size [.int .i64 2, .string ⟨#[]⟩, .int .i64 0, .int .i64 0, .slice none 0 0, .int .i64 1] (leafT 2, 1) rfl rfl HOA.out HCA.out HRA.out HLN.out HBA.out ?_; intro v' w' ho hg; have HVO := Lib.hid ho; have HVG := Lib.hid (pushed HE2.out HAL.out hg (fun b hb => (HO.out.own b hb).1) hpb hbw HP2.out); clear ho hg)
  go_ret
  exact ⟨_, rfl, by rw [HQ.out]; exact HVO.out, by rw [HQ.out]; exact HVG.out.1, HVG.out.2⟩
set_option maxRecDepth 20000 in
set_option maxHeartbeats 2000000 in
theorem ritem_3 (p base fin D : Nat) (ts : List Tok) (s : Rs) (v : Value) (st : Stack) (w : World) (hp : RR w p fin ts s) (ho : OwnU (fun b => base ≤ b) w base v st) (hpb : p < base) (hbw : base ≤ w.heap.size) (hl : st.length ≤ 300) (hD : D ≤ 900) (hd : ∀ x ∈ st, x.2 ≤ D) (hn : ∀ t ∈ ts, t.n ≤ 9999999) (h1 : seesA ts s [121, 101, 115] = false) (h2 : seesA ts s [110, 111] = false) (h3 : seesA ts s [110, 101, 103, 97, 116, 101, 100] = true) :
    Calls Tryz.prog 40 #[.pointer (some ⟨p, 0, none⟩), v] w fun r w' => ∃ v', r = .returned v' ∧ OwnU (fun b => base ≤ b) w' base v' (itemA ts fin st s).1 ∧ RR w' p fin ts (itemA ts fin st s).2 ∧ EffB p base w w' := by
  have HP0 := Lib.hid hp
  have HO := Lib.hid ho
  have HD := Lib.hid hd
  have HN := Lib.hid hn
  have HE0 : Hid (Eff p w w) := Lib.hid (Eff.refl p w)
  obtain ⟨VA, vc, rfl⟩ := ho.form
  have HQ : Hid (itemA ts fin st s = combineA st 5 1 (tokA ts s).pos s.next) := Lib.hid (by unfold itemA; rw [if_neg (by rw [h1]; decide)]; rw [if_neg (by rw [h2]; decide)]; rw [if_pos h3])
  have hi := sees_lt h3
  have HI := Lib.hid hi
  obtain ⟨t, hx⟩ : ∃ t, ts[s.i]? = some t := get_of_lt (by omega)
  have HTX := Lib.hid hx
  have HT : Hid (tokA ts s = t) := Lib.hid (by simp [tokA, hx])
  have H1 := Lib.hid h1
  have H2 := Lib.hid h2
  have H3 := Lib.hid h3
  clear h1 h2 h3 hx hi
  clear hp ho hd hn
  go_enter Tryz.func40, Tryz.ntmps40
  go_wp2_with fail
  refine (ris_any [121, 101, 115] p fin ts s _ HP0.out).mono ?_
  rintro r w1 ⟨rfl, hr, he⟩
  rw [H1.out]
  have HP1 : Hid (RR w1 p fin ts s) := Lib.hid (by have := hr; rwa [show isA ts s [121, 101, 115] = s by unfold isA; rw [H1.out]; rfl] at this)
  have HE1 := Lib.hid (HE0.out.trans he)
  clear hr he
  go_wp2_with fail
  refine (ris_any [110, 111] p fin ts s _ HP1.out).mono ?_
  rintro r w2 ⟨rfl, hr, he⟩
  rw [H2.out]
  have HP2 : Hid (RR w2 p fin ts s) := Lib.hid (by have := hr; rwa [show isA ts s [110, 111] = s by unfold isA; rw [H2.out]; rfl] at this)
  have HE2 := Lib.hid (HE1.out.trans he)
  clear hr he
  go_wp2_with fail
  refine (rsees_any [110, 101, 103, 97, 116, 101, 100] p fin ts s _ HP2.out).mono ?_
  rintro r w3 ⟨rfl, hb⟩
  rw [H3.out]
  have HP3 := Lib.hid (HP2.out.below hb)
  have HE3 := Lib.hid (HE2.out.trans (Eff.of_below hb))
  clear hb
  obtain ⟨A, c, hh, hr, hnn, hc1⟩ := HP3.out.is
  have HH := Lib.hid hh
  have HR := Lib.hid hr
  have HNN := Lib.hid hnn
  have HC1 := Lib.hid hc1
  have c1 := cell_of_blk (o := 1) hh rfl
  have f1 := frozen_of_blk (o := 1) hh
  have hpl := lt_of_heap' hh
  have hle : (s.i : Int) ≤ 5000 := by have := HP0.out.few; have := HI.out; omega
  clear hh hr hnn hc1
  go_upto_region 7 with fail
  have he : Eff p w3 (w3.setCell ⟨p, 1, none⟩ (.int .i64 ((s.i : Int) + 1))) := (Eff.refl p w3).setCell ⟨p, 1, none⟩ (.inl rfl) _
  have HPN := Lib.hid (HP3.out.set (s' := s.next) HI.out (row_setCell HH.out) HR.out HNN.out HC1.out he)
  have HEN := Lib.hid (HE3.out.trans he)
  generalize w3.setCell ⟨p, 1, none⟩ (.int .i64 ((s.i : Int) + 1)) = wn at *
  clear he HH HR HNN HC1 c1 f1 hpl HP3 HE3
  obtain ⟨A', c', hh, hr, hnn, hc1⟩ := HPN.out.is
  obtain ⟨bt, ot, rfl, hbl, t0, t1, t2, t3⟩ := tok_cells hr HTX.out
  have c0 := cell_of_blk (o := 0) hh rfl
  have c1 := cell_of_blk (o := 1) hh rfl
  have hpl := lt_of_heap' hh
  have k0 : (0 : Int) ≤ s.i := by omega
  have k1 : (s.i : Int) < ts.length := by have := HI.out; omega
  have k2 : ((s.next.i : Nat) : Int) = (s.i : Int) + 1 := by simp [Rs.next]
  rw [k2] at c1
  have kw : IntKind.i64.wrap (s.i : Int) = s.i := IntWalk.i64_in _ (by omega)
  clear hh hr hnn hc1 k2 t0 t1 t2
  go_wp2_with fail
  go_still_tail 14, (by kernel_rfl)
  change wpList _ _ _ _ _ wn.drew
  have HPD := Lib.hid (HPN.out.below (Below.refl _ _).drew)
  have HED := Lib.hid (HEN.out.trans (Eff.of_below (Below.refl wn.heap.size wn).drew))
  generalize wn.drew = wd at HPD HED ⊢
  clear c0 c1 t3 hpl hbl
  have HOD := Lib.hid (HO.out.later HED.out hpb)
  have HBD : Hid (base ≤ wd.heap.size) := Lib.hid (Nat.le_trans hbw HED.out.size)
  go_wp2_with fail
  refine (rcombine_any 5 1 t.pos p base fin D ts _ _ st _ HPD.out HOD.out hpb HBD.out hl hD HD.out (fun _ => Nat.le_refl _)).mono ?_
  rintro r w4 ⟨v4, rfl, ho4, hr4, he4⟩
  have HO4 := Lib.hid ho4
  have HR4 := Lib.hid hr4
  have HE4 := Lib.hid ((EffB.of HED.out hbw).trans he4)
  clear ho4 hr4 he4
  go_wp2_with fail
  go_ret
  exact ⟨_, rfl, by rw [HQ.out, HT.out]; exact HO4.out, by rw [HQ.out, HT.out]; exact HR4.out, HE4.out⟩
set_option maxRecDepth 20000 in
set_option maxHeartbeats 2000000 in
theorem ritem_4 (p base fin D : Nat) (ts : List Tok) (s : Rs) (v : Value) (st : Stack) (w : World) (hp : RR w p fin ts s) (ho : OwnU (fun b => base ≤ b) w base v st) (hpb : p < base) (hbw : base ≤ w.heap.size) (hl : st.length ≤ 300) (hD : D ≤ 900) (hd : ∀ x ∈ st, x.2 ≤ D) (hn : ∀ t ∈ ts, t.n ≤ 9999999) (h1 : seesA ts s [121, 101, 115] = false) (h2 : seesA ts s [110, 111] = false) (h3 : seesA ts s [110, 101, 103, 97, 116, 101, 100] = false) (h4 : seesA ts s [97, 108, 108] = true) :
    Calls Tryz.prog 40 #[.pointer (some ⟨p, 0, none⟩), v] w fun r w' => ∃ v', r = .returned v' ∧ OwnU (fun b => base ≤ b) w' base v' (itemA ts fin st s).1 ∧ RR w' p fin ts (itemA ts fin st s).2 ∧ EffB p base w w' := by
  have HP0 := Lib.hid hp
  have HO := Lib.hid ho
  have HD := Lib.hid hd
  have HN := Lib.hid hn
  have HE0 : Hid (Eff p w w) := Lib.hid (Eff.refl p w)
  obtain ⟨VA, vc, rfl⟩ := ho.form
  have HS : Hid ((seesA ts s [97, 108, 108] || seesA ts s [97, 110, 121]) = true) := Lib.hid (by rw [h4]; rfl)
  have HQ : Hid (itemA ts fin st s = groupA ts fin st 6 7 s) := Lib.hid (by unfold itemA; rw [if_neg (by rw [h1]; decide)]; rw [if_neg (by rw [h2]; decide)]; rw [if_neg (by rw [h3]; decide)]; rw [if_pos HS.out])
  have H1 := Lib.hid h1
  have H2 := Lib.hid h2
  have H3 := Lib.hid h3
  have H4 := Lib.hid h4
  clear h1 h2 h3 h4
  clear hp ho hd hn
  go_enter Tryz.func40, Tryz.ntmps40
  go_wp2_with fail
  refine (ris_any [121, 101, 115] p fin ts s _ HP0.out).mono ?_
  rintro r w1 ⟨rfl, hr, he⟩
  rw [H1.out]
  have HP1 : Hid (RR w1 p fin ts s) := Lib.hid (by have := hr; rwa [show isA ts s [121, 101, 115] = s by unfold isA; rw [H1.out]; rfl] at this)
  have HE1 := Lib.hid (HE0.out.trans he)
  clear hr he
  go_wp2_with fail
  refine (ris_any [110, 111] p fin ts s _ HP1.out).mono ?_
  rintro r w2 ⟨rfl, hr, he⟩
  rw [H2.out]
  have HP2 : Hid (RR w2 p fin ts s) := Lib.hid (by have := hr; rwa [show isA ts s [110, 111] = s by unfold isA; rw [H2.out]; rfl] at this)
  have HE2 := Lib.hid (HE1.out.trans he)
  clear hr he
  go_wp2_with fail
  refine (rsees_any [110, 101, 103, 97, 116, 101, 100] p fin ts s _ HP2.out).mono ?_
  rintro r w3 ⟨rfl, hb⟩
  rw [H3.out]
  have HP3 := Lib.hid (HP2.out.below hb)
  have HE3 := Lib.hid (HE2.out.trans (Eff.of_below hb))
  clear hb
  go_wp2_with fail
  refine (rsees_any [97, 108, 108] p fin ts s _ HP3.out).mono ?_
  rintro r w4 ⟨rfl, hb⟩
  rw [H4.out]
  have HP4 := Lib.hid (HP3.out.below hb)
  have HE4 := Lib.hid (HE3.out.trans (Eff.of_below hb))
  clear hb
  have hal : Below w4.heap.size w4 (w4.alloc (.cells #[.int .i64 6, .int .i64 7] 3 (0, 0))) := (Below.refl _ _).alloc (Nat.le_refl _) _
  have HPA := Lib.hid (HP4.out.below hal)
  have HEA := Lib.hid (HE4.out.trans (Eff.of_below hal))
  have HOA := Lib.hid (HO.out.later HEA.out hpb)
  have HBA : Hid (base ≤ (w4.alloc (.cells #[.int .i64 6, .int .i64 7] 3 (0, 0))).heap.size) := Lib.hid (Nat.le_trans hbw HEA.out.size)
  have HG0 : Hid ((w4.alloc (.cells #[.int .i64 6, .int .i64 7] 3 (0, 0))).cell? ⟨w4.heap.size, 0, none⟩ = some (.int .i64 6)) := Lib.hid (cell_of_blk (o := 0) (heap_alloc_new w4 _) rfl)
  have HG1 : Hid ((w4.alloc (.cells #[.int .i64 6, .int .i64 7] 3 (0, 0))).cell? ⟨w4.heap.size, 1, none⟩ = some (.int .i64 7)) := Lib.hid (cell_of_blk (o := 1) (heap_alloc_new w4 _) rfl)
  have HNP : Hid (w4.heap.size ≠ p) := Lib.hid (by have := HP4.out.lt; omega)
  clear hal
  go_wp2_with fail
  refine (rgroup_any 6 7 w4.heap.size p base fin D ts s _ st _ HPA.out HOA.out hpb HBA.out hl hD HD.out HN.out HS.out HG0.out HG1.out HNP.out).mono ?_
  rintro r wz ⟨vz, rfl, hoz, hrz, hez⟩
  have HOZ := Lib.hid hoz
  have HRZ := Lib.hid hrz
  have HEZ := Lib.hid ((EffB.of HEA.out hbw).trans hez)
  clear hoz hrz hez
  go_wp2_with fail
  go_ret
  exact ⟨_, rfl, by rw [HQ.out]; exact HOZ.out, by rw [HQ.out]; exact HRZ.out, HEZ.out⟩
set_option maxRecDepth 20000 in
set_option maxHeartbeats 2000000 in
theorem ritem_5 (p base fin D : Nat) (ts : List Tok) (s : Rs) (v : Value) (st : Stack) (w : World) (hp : RR w p fin ts s) (ho : OwnU (fun b => base ≤ b) w base v st) (hpb : p < base) (hbw : base ≤ w.heap.size) (hl : st.length ≤ 300) (hD : D ≤ 900) (hd : ∀ x ∈ st, x.2 ≤ D) (hn : ∀ t ∈ ts, t.n ≤ 9999999) (h1 : seesA ts s [121, 101, 115] = false) (h2 : seesA ts s [110, 111] = false) (h3 : seesA ts s [110, 101, 103, 97, 116, 101, 100] = false) (h4 : seesA ts s [97, 108, 108] = false) (h5 : seesA ts s [97, 110, 121] = true) :
    Calls Tryz.prog 40 #[.pointer (some ⟨p, 0, none⟩), v] w fun r w' => ∃ v', r = .returned v' ∧ OwnU (fun b => base ≤ b) w' base v' (itemA ts fin st s).1 ∧ RR w' p fin ts (itemA ts fin st s).2 ∧ EffB p base w w' := by
  have HP0 := Lib.hid hp
  have HO := Lib.hid ho
  have HD := Lib.hid hd
  have HN := Lib.hid hn
  have HE0 : Hid (Eff p w w) := Lib.hid (Eff.refl p w)
  obtain ⟨VA, vc, rfl⟩ := ho.form
  have HS : Hid ((seesA ts s [97, 108, 108] || seesA ts s [97, 110, 121]) = true) := Lib.hid (by rw [h4, h5]; rfl)
  have HQ : Hid (itemA ts fin st s = groupA ts fin st 6 7 s) := Lib.hid (by unfold itemA; rw [if_neg (by rw [h1]; decide)]; rw [if_neg (by rw [h2]; decide)]; rw [if_neg (by rw [h3]; decide)]; rw [if_pos HS.out])
  have H1 := Lib.hid h1
  have H2 := Lib.hid h2
  have H3 := Lib.hid h3
  have H4 := Lib.hid h4
  have H5 := Lib.hid h5
  clear h1 h2 h3 h4 h5
  clear hp ho hd hn
  go_enter Tryz.func40, Tryz.ntmps40
  go_wp2_with fail
  refine (ris_any [121, 101, 115] p fin ts s _ HP0.out).mono ?_
  rintro r w1 ⟨rfl, hr, he⟩
  rw [H1.out]
  have HP1 : Hid (RR w1 p fin ts s) := Lib.hid (by have := hr; rwa [show isA ts s [121, 101, 115] = s by unfold isA; rw [H1.out]; rfl] at this)
  have HE1 := Lib.hid (HE0.out.trans he)
  clear hr he
  go_wp2_with fail
  refine (ris_any [110, 111] p fin ts s _ HP1.out).mono ?_
  rintro r w2 ⟨rfl, hr, he⟩
  rw [H2.out]
  have HP2 : Hid (RR w2 p fin ts s) := Lib.hid (by have := hr; rwa [show isA ts s [110, 111] = s by unfold isA; rw [H2.out]; rfl] at this)
  have HE2 := Lib.hid (HE1.out.trans he)
  clear hr he
  go_wp2_with fail
  refine (rsees_any [110, 101, 103, 97, 116, 101, 100] p fin ts s _ HP2.out).mono ?_
  rintro r w3 ⟨rfl, hb⟩
  rw [H3.out]
  have HP3 := Lib.hid (HP2.out.below hb)
  have HE3 := Lib.hid (HE2.out.trans (Eff.of_below hb))
  clear hb
  go_wp2_with fail
  refine (rsees_any [97, 108, 108] p fin ts s _ HP3.out).mono ?_
  rintro r w4 ⟨rfl, hb⟩
  rw [H4.out]
  have HP4 := Lib.hid (HP3.out.below hb)
  have HE4 := Lib.hid (HE3.out.trans (Eff.of_below hb))
  clear hb
  go_wp2_with fail
  refine (rsees_any [97, 110, 121] p fin ts s _ HP4.out).mono ?_
  rintro r w5 ⟨rfl, hb⟩
  rw [H5.out]
  have HP5 := Lib.hid (HP4.out.below hb)
  have HE5 := Lib.hid (HE4.out.trans (Eff.of_below hb))
  clear hb
  have hal : Below w5.heap.size w5 (w5.alloc (.cells #[.int .i64 6, .int .i64 7] 3 (0, 0))) := (Below.refl _ _).alloc (Nat.le_refl _) _
  have HPA := Lib.hid (HP5.out.below hal)
  have HEA := Lib.hid (HE5.out.trans (Eff.of_below hal))
  have HOA := Lib.hid (HO.out.later HEA.out hpb)
  have HBA : Hid (base ≤ (w5.alloc (.cells #[.int .i64 6, .int .i64 7] 3 (0, 0))).heap.size) := Lib.hid (Nat.le_trans hbw HEA.out.size)
  have HG0 : Hid ((w5.alloc (.cells #[.int .i64 6, .int .i64 7] 3 (0, 0))).cell? ⟨w5.heap.size, 0, none⟩ = some (.int .i64 6)) := Lib.hid (cell_of_blk (o := 0) (heap_alloc_new w5 _) rfl)
  have HG1 : Hid ((w5.alloc (.cells #[.int .i64 6, .int .i64 7] 3 (0, 0))).cell? ⟨w5.heap.size, 1, none⟩ = some (.int .i64 7)) := Lib.hid (cell_of_blk (o := 1) (heap_alloc_new w5 _) rfl)
  have HNP : Hid (w5.heap.size ≠ p) := Lib.hid (by have := HP5.out.lt; omega)
  clear hal
  go_wp2_with fail
  refine (rgroup_any 6 7 w5.heap.size p base fin D ts s _ st _ HPA.out HOA.out hpb HBA.out hl hD HD.out HN.out HS.out HG0.out HG1.out HNP.out).mono ?_
  rintro r wz ⟨vz, rfl, hoz, hrz, hez⟩
  have HOZ := Lib.hid hoz
  have HRZ := Lib.hid hrz
  have HEZ := Lib.hid ((EffB.of HEA.out hbw).trans hez)
  clear hoz hrz hez
  go_wp2_with fail
  go_ret
  exact ⟨_, rfl, by rw [HQ.out]; exact HOZ.out, by rw [HQ.out]; exact HRZ.out, HEZ.out⟩
end Go.Proofs.YtcekampdldkjlaaGreatDoor
namespace Go.Proofs.YtcekampdldkjlaaGreatDoor
open Go.RowKit
set_option maxRecDepth 20000 in
set_option maxHeartbeats 2000000 in
theorem ritem_6 (p base fin D : Nat) (ts : List Tok) (s : Rs) (v : Value) (st : Stack) (w : World) (hp : RR w p fin ts s) (ho : OwnU (fun b => base ≤ b) w base v st) (hpb : p < base) (hbw : base ≤ w.heap.size) (hl : st.length ≤ 300) (hD : D ≤ 900) (hd : ∀ x ∈ st, x.2 ≤ D) (hn : ∀ t ∈ ts, t.n ≤ 9999999) (h1 : seesA ts s [121, 101, 115] = false) (h2 : seesA ts s [110, 111] = false) (h3 : seesA ts s [110, 101, 103, 97, 116, 101, 100] = false) (h4 : seesA ts s [97, 108, 108] = false) (h5 : seesA ts s [97, 110, 121] = false) (h6 : seesA ts (nameA ts fin s).2 [100, 101, 102, 105, 110, 101, 100] = true) :
    Calls Tryz.prog 40 #[.pointer (some ⟨p, 0, none⟩), v] w fun r w' => ∃ v', r = .returned v' ∧ OwnU (fun b => base ≤ b) w' base v' (itemA ts fin st s).1 ∧ RR w' p fin ts (itemA ts fin st s).2 ∧ EffB p base w w' := by
  have HP0 := Lib.hid hp
  have HO := Lib.hid ho
  have HD := Lib.hid hd
  have HN := Lib.hid hn
  have HE0 : Hid (Eff p w w) := Lib.hid (Eff.refl p w)
  obtain ⟨VA, vc, rfl⟩ := ho.form
  have HQ : Hid (itemA ts fin st s = (st ++ [(.mk 4 (nameA ts fin s).1.text 0 0 [], 1)], (nameA ts fin s).2.next)) := Lib.hid (by unfold itemA; rw [if_neg (by rw [h1]; decide)]; rw [if_neg (by rw [h2]; decide)]; rw [if_neg (by rw [h3]; decide)]; rw [if_neg (by rw [h4, h5]; decide)]; rw [if_pos h6])
  have H1 := Lib.hid h1
  have H2 := Lib.hid h2
  have H3 := Lib.hid h3
  have H4 := Lib.hid h4
  have H5 := Lib.hid h5
  have H6 := Lib.hid h6
  clear h1 h2 h3 h4 h5 h6
  clear hp ho hd hn
  go_enter Tryz.func40, Tryz.ntmps40
  go_wp2_with fail
  refine (ris_any [121, 101, 115] p fin ts s _ HP0.out).mono ?_
  rintro r w1 ⟨rfl, hr, he⟩
  rw [H1.out]
  have HP1 : Hid (RR w1 p fin ts s) := Lib.hid (by have := hr; rwa [show isA ts s [121, 101, 115] = s by unfold isA; rw [H1.out]; rfl] at this)
  have HE1 := Lib.hid (HE0.out.trans he)
  clear hr he
  go_wp2_with fail
  refine (ris_any [110, 111] p fin ts s _ HP1.out).mono ?_
  rintro r w2 ⟨rfl, hr, he⟩
  rw [H2.out]
  have HP2 : Hid (RR w2 p fin ts s) := Lib.hid (by have := hr; rwa [show isA ts s [110, 111] = s by unfold isA; rw [H2.out]; rfl] at this)
  have HE2 := Lib.hid (HE1.out.trans he)
  clear hr he
  go_wp2_with fail
  refine (rsees_any [110, 101, 103, 97, 116, 101, 100] p fin ts s _ HP2.out).mono ?_
  rintro r w3 ⟨rfl, hb⟩
  rw [H3.out]
  have HP3 := Lib.hid (HP2.out.below hb)
  have HE3 := Lib.hid (HE2.out.trans (Eff.of_below hb))
  clear hb
  go_wp2_with fail
  refine (rsees_any [97, 108, 108] p fin ts s _ HP3.out).mono ?_
  rintro r w4 ⟨rfl, hb⟩
  rw [H4.out]
  have HP4 := Lib.hid (HP3.out.below hb)
  have HE4 := Lib.hid (HE3.out.trans (Eff.of_below hb))
  clear hb
  go_wp2_with fail
  refine (rsees_any [97, 110, 121] p fin ts s _ HP4.out).mono ?_
  rintro r w5 ⟨rfl, hb⟩
  rw [H5.out]
  have HP5 := Lib.hid (HP4.out.below hb)
  have HE5 := Lib.hid (HE4.out.trans (Eff.of_below hb))
  clear hb
  go_wp2_with fail
  refine (rname_any p fin ts s _ HP5.out).mono ?_
  rintro r w6 ⟨rfl, hr, he⟩
  have HP6 := Lib.hid hr
  have HE6 := Lib.hid (HE5.out.trans he)
  clear hr he
  obtain ⟨T, hT⟩ : ∃ T, nameA ts fin s = T := ⟨_, rfl⟩
  rw [hT] at H6 HP6 HQ ⊢
  clear hT
  obtain ⟨⟨tk, tx, tn, tp⟩, S1⟩ := T
  simp only [Tok.agg] at H6 HP6 HQ ⊢
  go_upto_region 11 with fail
  have hal : Below w6.heap.size w6 (w6.alloc (.cells #[.int .i64 tk, vs tx, .int .i64 tn, .int .i64 tp] 55 (0, 0))) := (Below.refl _ _).alloc (Nat.le_refl _) _
  have HP7 := Lib.hid (HP6.out.below hal)
  have HE7 := Lib.hid (HE6.out.trans (Eff.of_below hal))
  have HTB := Lib.hid (heap_alloc_new w6 (.cells #[.int .i64 tk, vs tx, .int .i64 tn, .int .i64 tp] 55 (0, 0)))
  have HTP : Hid (w6.heap.size ≠ p) := Lib.hid (by have := HP6.out.lt; omega)
  generalize hbt : w6.heap.size = bt at *
  generalize w6.alloc (.cells #[.int .i64 tk, vs tx, .int .i64 tn, .int .i64 tp] 55 (0, 0)) = w7 at *
  clear hal hbt
  go_wp2_with fail
  refine (ris_any [100, 101, 102, 105, 110, 101, 100] p fin ts S1 _ HP7.out).mono ?_
  rintro r w8 ⟨rfl, hr, he⟩
  rw [H6.out]
  have HP8 : Hid (RR w8 p fin ts (S1).next) := Lib.hid (by have := hr; rwa [show isA ts S1 [100, 101, 102, 105, 110, 101, 100] = (S1).next by unfold isA; rw [H6.out]; rfl] at this)
  have HE8 := Lib.hid (HE7.out.trans he)
  have HX1 : Hid (∀ u, w7.cell? ⟨bt, 1, none⟩ = some u → w8.cell? ⟨bt, 1, none⟩ = some u) := Lib.hid (fun u hu => he.cell hu HTP.out)
  clear hr he
  have c1 : w8.cell? ⟨bt, 1, none⟩ = some (vs tx) := by
    have hx := cell_of_blk (o := 1) HTB.out rfl
    exact HX1.out _ hx
  have c2 : bt < w8.heap.size := World.block_lt_of_cell? _ _ c1
  have hal : Below w8.heap.size w8 (w8.alloc (.cells #[.int .i64 4, vs tx, .int .i64 0, .int .i64 0, .slice none 0 0, .int .i64 1] 52 (0, 0))) := (Below.refl _ _).alloc (Nat.le_refl _) _
  have HAL := Lib.hid hal
  have HOA : Hid (OwnU (fun b => base ≤ b) (w8.alloc (.cells #[.int .i64 4, vs tx, .int .i64 0, .int .i64 0, .slice none 0 0, .int .i64 1] 52 (0, 0))) base (.slice VA st.length vc) st) := Lib.hid ((HO.out.later HE8.out hpb).later (Eff.of_below (p := p) hal) hpb)
  have HCA : Hid (∀ (j : Nat) u, ([.int .i64 4, vs tx, .int .i64 0, .int .i64 0, .slice none 0 0, .int .i64 1] : List Value)[j]? = some u → (w8.alloc (.cells #[.int .i64 4, vs tx, .int .i64 0, .int .i64 0, .slice none 0 0, .int .i64 1] 52 (0, 0))).cell? ⟨w8.heap.size, 0 + j, none⟩ = some u) := Lib.hid (fun j u hu => by
    rw [Nat.zero_add]
    exact cell_of_blk (heap_alloc_new w8 _) (by simpa using hu))
  have HRA : Hid (RdU (fun b => base ≤ b ∧ (Value.slice VA st.length vc).ownBlock ≠ some b) (w8.alloc (.cells #[.int .i64 4, vs tx, .int .i64 0, .int .i64 0, .slice none 0 0, .int .i64 1] 52 (0, 0))) [.int .i64 4, vs tx, .int .i64 0, .int .i64 0, .slice none 0 0, .int .i64 1] ((.mk 4 tx 0 0 [], 1) : Tree × Nat).2 ((.mk 4 tx 0 0 [], 1) : Tree × Nat).1) := Lib.hid (by
    exact RdU.leaf _ _ _ _ _ none 0)
  have HLN : Hid (st.length + 1 ≤ 1000000) := Lib.hid (by omega)
  have HBA : Hid (base ≤ (w8.alloc (.cells #[.int .i64 4, vs tx, .int .i64 0, .int .i64 0, .slice none 0 0, .int .i64 1] 52 (0, 0))).heap.size) := Lib.hid (Nat.le_trans (Nat.le_trans hbw HE8.out.size) hal.size)
  clear hal
  go_wp2_with (refine wpList_push_u rfl (.tmp 58) (.tmp 62) rfl (fun b => base ≤ b) base (.slice VA st.length vc) st w8.heap.size [.int .i64 4, vs tx, .int .i64 0, .int .i64 0, .slice none 0 0, .int .i64 1] (.mk 4 tx 0 0 [], 1) rfl rfl HOA.out HCA.out HRA.out HLN.out HBA.out ?_; intro v' w' ho hg; have HVO := Lib.hid ho; have HVG := Lib.hid (pushed HE8.out HAL.out hg (fun b hb => (HO.out.own b hb).1) hpb hbw HP8.out); clear ho hg)
  go_ret
  exact ⟨_, rfl, by rw [HQ.out]; exact HVO.out, by rw [HQ.out]; exact HVG.out.1, HVG.out.2⟩
set_option maxRecDepth 20000 in
set_option maxHeartbeats 2000000 in
theorem ritem_7 (p base fin D : Nat) (ts : List Tok) (s : Rs) (v : Value) (st : Stack) (w : World) (hp : RR w p fin ts s) (ho : OwnU (fun b => base ≤ b) w base v st) (hpb : p < base) (hbw : base ≤ w.heap.size) (hl : st.length ≤ 300) (hD : D ≤ 900) (hd : ∀ x ∈ st, x.2 ≤ D) (hn : ∀ t ∈ ts, t.n ≤ 9999999) (h1 : seesA ts s [121, 101, 115] = false) (h2 : seesA ts s [110, 111] = false) (h3 : seesA ts s [110, 101, 103, 97, 116, 101, 100] = false) (h4 : seesA ts s [97, 108, 108] = false) (h5 : seesA ts s [97, 110, 121] = false) (h6 : seesA ts (nameA ts fin s).2 [100, 101, 102, 105, 110, 101, 100] = false) :
    Calls Tryz.prog 40 #[.pointer (some ⟨p, 0, none⟩), v] w fun r w' => ∃ v', r = .returned v' ∧ OwnU (fun b => base ≤ b) w' base v' (itemA ts fin st s).1 ∧ RR w' p fin ts (itemA ts fin st s).2 ∧ EffB p base w w' := by
  have HP0 := Lib.hid hp
  have HO := Lib.hid ho
  have HD := Lib.hid hd
  have HN := Lib.hid hn
  have HE0 : Hid (Eff p w w) := Lib.hid (Eff.refl p w)
  obtain ⟨VA, vc, rfl⟩ := ho.form
  have HQ : Hid (itemA ts fin st s = (st ++ [(.mk 3 (nameA ts fin s).1.text (1 + (oneA ts fin (numberA ts fin (nameA ts fin s).2 1000000).2 cmpW).1) (numberA ts fin (nameA ts fin s).2 1000000).1 [], 1)], (oneA ts fin (numberA ts fin (nameA ts fin s).2 1000000).2 cmpW).2)) := Lib.hid (by unfold itemA; rw [if_neg (by rw [h1]; decide)]; rw [if_neg (by rw [h2]; decide)]; rw [if_neg (by rw [h3]; decide)]; rw [if_neg (by rw [h4, h5]; decide)]; rw [if_neg (by rw [h6]; decide)])
  have H1 := Lib.hid h1
  have H2 := Lib.hid h2
  have H3 := Lib.hid h3
  have H4 := Lib.hid h4
  have H5 := Lib.hid h5
  have H6 := Lib.hid h6
  clear h1 h2 h3 h4 h5 h6
  clear hp ho hd hn
  go_enter Tryz.func40, Tryz.ntmps40
  go_wp2_with fail
  refine (ris_any [121, 101, 115] p fin ts s _ HP0.out).mono ?_
  rintro r w1 ⟨rfl, hr, he⟩
  rw [H1.out]
  have HP1 : Hid (RR w1 p fin ts s) := Lib.hid (by have := hr; rwa [show isA ts s [121, 101, 115] = s by unfold isA; rw [H1.out]; rfl] at this)
  have HE1 := Lib.hid (HE0.out.trans he)
  clear hr he
  go_wp2_with fail
  refine (ris_any [110, 111] p fin ts s _ HP1.out).mono ?_
  rintro r w2 ⟨rfl, hr, he⟩
  rw [H2.out]
  have HP2 : Hid (RR w2 p fin ts s) := Lib.hid (by have := hr; rwa [show isA ts s [110, 111] = s by unfold isA; rw [H2.out]; rfl] at this)
  have HE2 := Lib.hid (HE1.out.trans he)
  clear hr he
  go_wp2_with fail
  refine (rsees_any [110, 101, 103, 97, 116, 101, 100] p fin ts s _ HP2.out).mono ?_
  rintro r w3 ⟨rfl, hb⟩
  rw [H3.out]
  have HP3 := Lib.hid (HP2.out.below hb)
  have HE3 := Lib.hid (HE2.out.trans (Eff.of_below hb))
  clear hb
  go_wp2_with fail
  refine (rsees_any [97, 108, 108] p fin ts s _ HP3.out).mono ?_
  rintro r w4 ⟨rfl, hb⟩
  rw [H4.out]
  have HP4 := Lib.hid (HP3.out.below hb)
  have HE4 := Lib.hid (HE3.out.trans (Eff.of_below hb))
  clear hb
  go_wp2_with fail
  refine (rsees_any [97, 110, 121] p fin ts s _ HP4.out).mono ?_
  rintro r w5 ⟨rfl, hb⟩
  rw [H5.out]
  have HP5 := Lib.hid (HP4.out.below hb)
  have HE5 := Lib.hid (HE4.out.trans (Eff.of_below hb))
  clear hb
  go_wp2_with fail
  refine (rname_any p fin ts s _ HP5.out).mono ?_
  rintro r w6 ⟨rfl, hr, he⟩
  have HP6 := Lib.hid hr
  have HE6 := Lib.hid (HE5.out.trans he)
  clear hr he
  obtain ⟨T, hT⟩ : ∃ T, nameA ts fin s = T := ⟨_, rfl⟩
  rw [hT] at H6 HP6 HQ ⊢
  clear hT
  obtain ⟨⟨tk, tx, tn, tp⟩, S1⟩ := T
  simp only [Tok.agg] at H6 HP6 HQ ⊢
  go_upto_region 11 with fail
  have hal : Below w6.heap.size w6 (w6.alloc (.cells #[.int .i64 tk, vs tx, .int .i64 tn, .int .i64 tp] 55 (0, 0))) := (Below.refl _ _).alloc (Nat.le_refl _) _
  have HP7 := Lib.hid (HP6.out.below hal)
  have HE7 := Lib.hid (HE6.out.trans (Eff.of_below hal))
  have HTB := Lib.hid (heap_alloc_new w6 (.cells #[.int .i64 tk, vs tx, .int .i64 tn, .int .i64 tp] 55 (0, 0)))
  have HTP : Hid (w6.heap.size ≠ p) := Lib.hid (by have := HP6.out.lt; omega)
  generalize hbt : w6.heap.size = bt at *
  generalize w6.alloc (.cells #[.int .i64 tk, vs tx, .int .i64 tn, .int .i64 tp] 55 (0, 0)) = w7 at *
  clear hal hbt
  go_wp2_with fail
  refine (ris_any [100, 101, 102, 105, 110, 101, 100] p fin ts S1 _ HP7.out).mono ?_
  rintro r w8 ⟨rfl, hr, he⟩
  rw [H6.out]
  have HP8 : Hid (RR w8 p fin ts S1) := Lib.hid (by have := hr; rwa [show isA ts S1 [100, 101, 102, 105, 110, 101, 100] = S1 by unfold isA; rw [H6.out]; rfl] at this)
  have HE8 := Lib.hid (HE7.out.trans he)
  have HTB8 := Lib.hid ((he.block _ (lt_of_heap' HTB.out) HTP.out).trans HTB.out)
  clear hr he
  go_wp2_with fail
  refine (rnumber_any 1000000 p fin ts S1 _ HP8.out).mono ?_
  rintro r w9 ⟨rfl, hr, he⟩
  have HP9 := Lib.hid hr
  have HE9 := Lib.hid (HE8.out.trans he)
  have HTB9 := Lib.hid ((he.block _ (lt_of_heap' HTB8.out) HTP.out).trans HTB8.out)
  clear hr he
  obtain ⟨Y, hY⟩ : ∃ Y, numberA ts fin S1 1000000 = Y := ⟨_, rfl⟩
  rw [hY] at HP9 HQ ⊢
  clear hY
  obtain ⟨y1, S2⟩ := Y
  simp only at HP9 HQ ⊢
  have hrw : RdS (w9.alloc (.cells #[vs [101, 113, 117, 97, 108], vs [117, 110, 108, 105, 107, 101], vs [98, 101, 108, 111, 119], vs [109, 111, 115, 116], vs [97, 98, 111, 118, 101], vs [108, 101, 97, 115, 116]] 9 (0, 0))) (some ⟨w9.heap.size, 0, none⟩) cmpW := RdS.new (heap_alloc_new w9 _)
  have HRW := Lib.hid hrw
  have HPA := Lib.hid (HP9.out.alloc (.cells #[vs [101, 113, 117, 97, 108], vs [117, 110, 108, 105, 107, 101], vs [98, 101, 108, 111, 119], vs [109, 111, 115, 116], vs [97, 98, 111, 118, 101], vs [108, 101, 97, 115, 116]] 9 (0, 0)))
  have HEA := Lib.hid (HE9.out.alloc (.cells #[vs [101, 113, 117, 97, 108], vs [117, 110, 108, 105, 107, 101], vs [98, 101, 108, 111, 119], vs [109, 111, 115, 116], vs [97, 98, 111, 118, 101], vs [108, 101, 97, 115, 116]] 9 (0, 0)))
  have HTBA : Hid ((w9.alloc (.cells #[vs [101, 113, 117, 97, 108], vs [117, 110, 108, 105, 107, 101], vs [98, 101, 108, 111, 119], vs [109, 111, 115, 116], vs [97, 98, 111, 118, 101], vs [108, 101, 97, 115, 116]] 9 (0, 0))).heap[bt]? = _) := Lib.hid (old_at HTB9.out)
  clear hrw
  go_wp2_with fail
  refine (rone_any cmpW (some ⟨w9.heap.size, 0, none⟩) 6 p fin ts S2 _ HPA.out HRW.out (by simp) (by intro b o e; injection e with e; injection e with e _; have := HP9.out.lt; omega)).mono ?_
  rintro r w10 ⟨rfl, hr, he⟩
  have HP10 := Lib.hid hr
  have HE10 := Lib.hid (HEA.out.trans he)
  have htb := (he.block _ (lt_of_heap' HTBA.out) HTP.out).trans HTBA.out
  clear hr he
  have hc := one_le ts fin S2 cmpW
  obtain ⟨Z, hZ⟩ : ∃ Z, oneA ts fin S2 cmpW = Z := ⟨_, rfl⟩
  rw [hZ] at HP10 HQ hc ⊢
  clear hZ
  obtain ⟨z1, S3⟩ := Z
  simp only [cmpW, List.length_cons, List.length_nil] at HP10 HQ hc ⊢
  have c1 := cell_of_blk (o := 1) htb rfl
  have c2 := lt_of_heap' htb
  have hz : (z1 : Int) ≤ 6 := by omega
  have hz0 : (0 : Int) ≤ z1 := by omega
  clear htb hc
  have hal : Below w10.heap.size w10 (w10.alloc (.cells #[.int .i64 3, vs tx, .int .i64 (1 + (z1 : Int)), .int .i64 (y1 : Nat), .slice none 0 0, .int .i64 1] 52 (0, 0))) := (Below.refl _ _).alloc (Nat.le_refl _) _
  have HAL := Lib.hid hal
  have HOA : Hid (OwnU (fun b => base ≤ b) (w10.alloc (.cells #[.int .i64 3, vs tx, .int .i64 (1 + (z1 : Int)), .int .i64 (y1 : Nat), .slice none 0 0, .int .i64 1] 52 (0, 0))) base (.slice VA st.length vc) st) := Lib.hid ((HO.out.later HE10.out hpb).later (Eff.of_below (p := p) hal) hpb)
  have HCA : Hid (∀ (j : Nat) u, ([.int .i64 3, vs tx, .int .i64 (1 + (z1 : Int)), .int .i64 (y1 : Nat), .slice none 0 0, .int .i64 1] : List Value)[j]? = some u → (w10.alloc (.cells #[.int .i64 3, vs tx, .int .i64 (1 + (z1 : Int)), .int .i64 (y1 : Nat), .slice none 0 0, .int .i64 1] 52 (0, 0))).cell? ⟨w10.heap.size, 0 + j, none⟩ = some u) := Lib.hid (fun j u hu => by
    rw [Nat.zero_add]
    exact cell_of_blk (heap_alloc_new w10 _) (by simpa using hu))
  have HRA : Hid (RdU (fun b => base ≤ b ∧ (Value.slice VA st.length vc).ownBlock ≠ some b) (w10.alloc (.cells #[.int .i64 3, vs tx, .int .i64 (1 + (z1 : Int)), .int .i64 (y1 : Nat), .slice none 0 0, .int .i64 1] 52 (0, 0))) [.int .i64 3, vs tx, .int .i64 (1 + (z1 : Int)), .int .i64 (y1 : Nat), .slice none 0 0, .int .i64 1] ((.mk 3 tx (1 + z1) y1 [], 1) : Tree × Nat).2 ((.mk 3 tx (1 + z1) y1 [], 1) : Tree × Nat).1) := Lib.hid (by
    have := RdU.leaf (S := fun b => base ≤ b ∧ (Value.slice VA st.length vc).ownBlock ≠ some b) (w := (w10.alloc (.cells #[.int .i64 3, vs tx, .int .i64 (1 + (z1 : Int)), .int .i64 (y1 : Nat), .slice none 0 0, .int .i64 1] 52 (0, 0)))) 3 tx (1 + z1) y1 1 none 0
    simpa [ucs] using this)
  have HLN : Hid (st.length + 1 ≤ 1000000) := Lib.hid (by omega)
  have HBA : Hid (base ≤ (w10.alloc (.cells #[.int .i64 3, vs tx, .int .i64 (1 + (z1 : Int)), .int .i64 (y1 : Nat), .slice none 0 0, .int .i64 1] 52 (0, 0))).heap.size) := Lib.hid (Nat.le_trans (Nat.le_trans hbw HE10.out.size) hal.size)
  clear hal
  go_wp2_with (refine wpList_push_u rfl (.tmp 69) (.tmp 76) rfl (fun b => base ≤ b) base (.slice VA st.length vc) st w10.heap.size [.int .i64 3, vs tx, .int .i64 (1 + (z1 : Int)), .int .i64 (y1 : Nat), .slice none 0 0, .int .i64 1] (.mk 3 tx (1 + z1) y1 [], 1) rfl rfl HOA.out HCA.out HRA.out HLN.out HBA.out ?_; intro v' w' ho hg; have HVO := Lib.hid ho; have HVG := Lib.hid (pushed HE10.out HAL.out hg (fun b hb => (HO.out.own b hb).1) hpb hbw HP10.out); clear ho hg)
  go_ret
  exact ⟨_, rfl, by rw [HQ.out]; exact HVO.out, by rw [HQ.out]; exact HVG.out.1, HVG.out.2⟩
theorem ritem_any (p base fin D : Nat) (ts : List Tok) (s : Rs) (v : Value) (st : Stack) (w : World) (hp : RR w p fin ts s) (ho : OwnU (fun b => base ≤ b) w base v st) (hpb : p < base) (hbw : base ≤ w.heap.size) (hl : st.length ≤ 300) (hD : D ≤ 900) (hd : ∀ x ∈ st, x.2 ≤ D) (hn : ∀ t ∈ ts, t.n ≤ 9999999) :
    Calls Tryz.prog 40 #[.pointer (some ⟨p, 0, none⟩), v] w fun r w' => ∃ v', r = .returned v' ∧ OwnU (fun b => base ≤ b) w' base v' (itemA ts fin st s).1 ∧ RR w' p fin ts (itemA ts fin st s).2 ∧ EffB p base w w' := by
  cases h1 : seesA ts s [121, 101, 115] with
  | true => exact ritem_1 p base fin D ts s v st w hp ho hpb hbw hl hD hd hn h1
  | false =>
  cases h2 : seesA ts s [110, 111] with
  | true => exact ritem_2 p base fin D ts s v st w hp ho hpb hbw hl hD hd hn h1 h2
  | false =>
  cases h3 : seesA ts s [110, 101, 103, 97, 116, 101, 100] with
  | true => exact ritem_3 p base fin D ts s v st w hp ho hpb hbw hl hD hd hn h1 h2 h3
  | false =>
  cases h4 : seesA ts s [97, 108, 108] with
  | true => exact ritem_4 p base fin D ts s v st w hp ho hpb hbw hl hD hd hn h1 h2 h3 h4
  | false =>
  cases h5 : seesA ts s [97, 110, 121] with
  | true => exact ritem_5 p base fin D ts s v st w hp ho hpb hbw hl hD hd hn h1 h2 h3 h4 h5
  | false =>
  cases h6 : seesA ts (nameA ts fin s).2 [100, 101, 102, 105, 110, 101, 100] with
  | true => exact ritem_6 p base fin D ts s v st w hp ho hpb hbw hl hD hd hn h1 h2 h3 h4 h5 h6
  | false => exact ritem_7 p base fin D ts s v st w hp ho hpb hbw hl hD hd hn h1 h2 h3 h4 h5 h6
end Go.Proofs.YtcekampdldkjlaaGreatDoor
namespace Go.Proofs.YtcekampdldkjlaaGreatDoor
open Go.RowKit
set_option maxRecDepth 20000 in
set_option maxHeartbeats 2000000 in
theorem rsitem_1 (p base fin D : Nat) (ts : List Tok) (s : Rs) (v : Value) (st : Stack) (w : World) (hp : RR w p fin ts s) (ho : OwnU (fun b => base ≤ b) w base v st) (hpb : p < base) (hbw : base ≤ w.heap.size) (hl : st.length ≤ 300) (hD : D ≤ 900) (hd : ∀ x ∈ st, x.2 ≤ D) (hn : ∀ t ∈ ts, t.n ≤ 9999999) (h1 : seesA ts s [97, 108, 119, 97, 121, 115] = true) :
    Calls Tryz.prog 39 #[.pointer (some ⟨p, 0, none⟩), v] w fun r w' => ∃ v', r = .returned v' ∧ OwnU (fun b => base ≤ b) w' base v' (sitemA ts fin st s).1 ∧ RR w' p fin ts (sitemA ts fin st s).2 ∧ EffB p base w w' := by
  have HP0 := Lib.hid hp
  have HO := Lib.hid ho
  have HD := Lib.hid hd
  have HN := Lib.hid hn
  have HE0 : Hid (Eff p w w) := Lib.hid (Eff.refl p w)
  obtain ⟨VA, vc, rfl⟩ := ho.form
  have HQ : Hid (sitemA ts fin st s = (st ++ [(leafT 1, 1)], s.next)) := Lib.hid (by unfold sitemA; rw [if_pos h1])
  have H1 := Lib.hid h1
  clear h1
  clear hp ho hd hn
  go_enter Tryz.func39, Tryz.ntmps39
  go_wp2_with fail
  refine (ris_any [97, 108, 119, 97, 121, 115] p fin ts s _ HP0.out).mono ?_
  rintro r w1 ⟨rfl, hr, he⟩
  rw [H1.out]
  have HP1 : Hid (RR w1 p fin ts (s).next) := Lib.hid (by have := hr; rwa [show isA ts s [97, 108, 119, 97, 121, 115] = (s).next by unfold isA; rw [H1.out]; rfl] at this)
  have HE1 := Lib.hid (HE0.out.trans he)
  clear hr he
  have hal : Below w1.heap.size w1 (w1.alloc (.cells #[.int .i64 1, .string ⟨#[]⟩, .int .i64 0, .int .i64 0, .slice none 0 0, .int .i64 1] 52 (0, 0))) := (Below.refl _ _).alloc (Nat.le_refl _) _
  have HAL := Lib.hid hal
  have HOA : Hid (OwnU (fun b => base ≤ b) (w1.alloc (.cells #[.int .i64 1, .string ⟨#[]⟩, .int .i64 0, .int .i64 0, .slice none 0 0, .int .i64 1] 52 (0, 0))) base (.slice VA st.length vc) st) := Lib.hid ((HO.out.later HE1.out hpb).later (Eff.of_below (p := p) hal) hpb)
  have HCA : Hid (∀ (j : Nat) u, ([.int .i64 1, .string ⟨#[]⟩, .int .i64 0, .int .i64 0, .slice none 0 0, .int .i64 1] : List Value)[j]? = some u → (w1.alloc (.cells #[.int .i64 1, .string ⟨#[]⟩, .int .i64 0, .int .i64 0, .slice none 0 0, .int .i64 1] 52 (0, 0))).cell? ⟨w1.heap.size, 0 + j, none⟩ = some u) := Lib.hid (fun j u hu => by
    rw [Nat.zero_add]
    exact cell_of_blk (heap_alloc_new w1 _) (by simpa using hu))
  have HRA : Hid (RdU (fun b => base ≤ b ∧ (Value.slice VA st.length vc).ownBlock ≠ some b) (w1.alloc (.cells #[.int .i64 1, .string ⟨#[]⟩, .int .i64 0, .int .i64 0, .slice none 0 0, .int .i64 1] 52 (0, 0))) [.int .i64 1, .string ⟨#[]⟩, .int .i64 0, .int .i64 0, .slice none 0 0, .int .i64 1] ((leafT 1, 1) : Tree × Nat).2 ((leafT 1, 1) : Tree × Nat).1) := Lib.hid (by
    exact RdU.leaf _ _ _ _ _ none 0)
  have HLN : Hid (st.length + 1 ≤ 1000000) := Lib.hid (by omega)
  have HBA : Hid (base ≤ (w1.alloc (.cells #[.int .i64 1, .string ⟨#[]⟩, .int .i64 0, .int .i64 0, .slice none 0 0, .int .i64 1] 52 (0, 0))).heap.size) := Lib.hid (Nat.le_trans (Nat.le_trans hbw HE1.out.size) hal.size)
  clear hal
  go_wp2_with (refine wpList_push_u rfl (.tmp 10) (.tmp 12) rfl (fun b => base ≤ b) base (.slice VA st.length vc) st w1.heap.size [.int .i64 1, .string ⟨#[]⟩, .int .i64 0, .int .i64 0, .slice none 0 0, .int .i64 1] (leafT 1, 1) rfl rfl HOA.out HCA.out HRA.out HLN.out HBA.out ?_; intro v' w' ho hg; have HVO := Lib.hid ho; have HVG := Lib.hid (pushed HE1.out HAL.out hg (fun b hb => (HO.out.own b hb).1) hpb hbw HP1.out); clear ho hg)
  go_ret
  exact ⟨_, rfl, by rw [HQ.out]; exact HVO.out, by rw [HQ.out]; exact HVG.out.1, HVG.out.2⟩
set_option maxRecDepth 20000 in
set_option maxHeartbeats 2000000 in
theorem rsitem_2 (p base fin D : Nat) (ts : List Tok) (s : Rs) (v : Value) (st : Stack) (w : World) (hp : RR w p fin ts s) (ho : OwnU (fun b => base ≤ b) w base v st) (hpb : p < base) (hbw : base ≤ w.heap.size) (hl : st.length ≤ 300) (hD : D ≤ 900) (hd : ∀ x ∈ st, x.2 ≤ D) (hn : ∀ t ∈ ts, t.n ≤ 9999999) (h1 : seesA ts s [97, 108, 119, 97, 121, 115] = false) (h2 : seesA ts s [110, 101, 118, 101, 114] = true) :
    Calls Tryz.prog 39 #[.pointer (some ⟨p, 0, none⟩), v] w fun r w' => ∃ v', r = .returned v' ∧ OwnU (fun b => base ≤ b) w' base v' (sitemA ts fin st s).1 ∧ RR w' p fin ts (sitemA ts fin st s).2 ∧ EffB p base w w' := by
  have HP0 := Lib.hid hp
  have HO := Lib.hid ho
  have HD := Lib.hid hd
  have HN := Lib.hid hn
  have HE0 : Hid (Eff p w w) := Lib.hid (Eff.refl p w)
  obtain ⟨VA, vc, rfl⟩ := ho.form
  have HQ : Hid (sitemA ts fin st s = (st ++ [(leafT 2, 1)], s.next)) := Lib.hid (by unfold sitemA; rw [if_neg (by rw [h1]; decide)]; rw [if_pos h2])
  have H1 := Lib.hid h1
  have H2 := Lib.hid h2
  clear h1 h2
  clear hp ho hd hn
  go_enter Tryz.func39, Tryz.ntmps39
  go_wp2_with fail
  refine (ris_any [97, 108, 119, 97, 121, 115] p fin ts s _ HP0.out).mono ?_
  rintro r w1 ⟨rfl, hr, he⟩
  rw [H1.out]
  have HP1 : Hid (RR w1 p fin ts s) := Lib.hid (by have := hr; rwa [show isA ts s [97, 108, 119, 97, 121, 115] = s by unfold isA; rw [H1.out]; rfl] at this)
  have HE1 := Lib.hid (HE0.out.trans he)
  clear hr he
  go_wp2_with fail
  refine (ris_any [110, 101, 118, 101, 114] p fin ts s _ HP1.out).mono ?_
  rintro r w2 ⟨rfl, hr, he⟩
  rw [H2.out]
  have HP2 : Hid (RR w2 p fin ts (s).next) := Lib.hid (by have := hr; rwa [show isA ts s [110, 101, 118, 101, 114] = (s).next by unfold isA; rw [H2.out]; rfl] at this)
  have HE2 := Lib.hid (HE1.out.trans he)
  clear hr he
  have hal : Below w2.heap.size w2 (w2.alloc (.cells #[.int .i64 2, .string ⟨#[]⟩, .int .i64 0, .int .i64 0, .slice none 0 0, .int .i64 1] 52 (0, 0))) := (Below.refl _ _).alloc (Nat.le_refl _) _
  have HAL := Lib.hid hal
  have HOA : Hid (OwnU (fun b => base ≤ b) (w2.alloc (.cells #[.int .i64 2, .string ⟨#[]⟩, .int .i64 0, .int .i64 0, .slice none 0 0, .int .i64 1] 52 (0, 0))) base (.slice VA st.length vc) st) := Lib.hid ((HO.out.later HE2.out hpb).later (Eff.of_below (p := p) hal) hpb)
  have HCA : Hid (∀ (j : Nat) u, ([.int .i64 2, .string ⟨#[]⟩, .int .i64 0, .int .i64 0, .slice none 0 0, .int .i64 1] : List Value)[j]? = some u → (w2.alloc (.cells #[.int .i64 2, .string ⟨#[]⟩, .int .i64 0, .int .i64 0, .slice none 0 0, .int .i64 1] 52 (0, 0))).cell? ⟨w2.heap.size, 0 + j, none⟩ = some u) := Lib.hid (fun j u hu => by
    rw [Nat.zero_add]
    exact cell_of_blk (heap_alloc_new w2 _) (by simpa using hu))
  have HRA : Hid (RdU (fun b => base ≤ b ∧ (Value.slice VA st.length vc).ownBlock ≠ some b) (w2.alloc (.cells #[.int .i64 2, .string ⟨#[]⟩, .int .i64 0, .int .i64 0, .slice none 0 0, .int .i64 1] 52 (0, 0))) [.int .i64 2, .string ⟨#[]⟩, .int .i64 0, .int .i64 0, .slice none 0 0, .int .i64 1] ((leafT 2, 1) : Tree × Nat).2 ((leafT 2, 1) : Tree × Nat).1) := Lib.hid (by
    exact RdU.leaf _ _ _ _ _ none 0)
  have HLN : Hid (st.length + 1 ≤ 1000000) := Lib.hid (by omega)
  have HBA : Hid (base ≤ (w2.alloc (.cells #[.int .i64 2, .string ⟨#[]⟩, .int .i64 0, .int .i64 0, .slice none 0 0, .int .i64 1] 52 (0, 0))).heap.size) := Lib.hid (Nat.le_trans (Nat.le_trans hbw HE2.out.size) hal.size)
  clear hal
  go_wp2_with (refine wpList_push_u rfl (.tmp 16) (.tmp 18) rfl (fun b => base ≤ b) base (.slice VA st.length vc) st w2.heap.size [.int .i64 2, .string ⟨#[]⟩, .int .i64 0, .int .i64 0, .slice none 0 0, .int .i64 1] (leafT 2, 1) rfl rfl HOA.out HCA.out HRA.out HLN.out HBA.out ?_; intro v' w' ho hg; have HVO := Lib.hid ho; have HVG := Lib.hid (pushed HE2.out HAL.out hg (fun b hb => (HO.out.own b hb).1) hpb hbw HP2.out); clear ho hg)
  go_ret
  exact ⟨_, rfl, by rw [HQ.out]; exact HVO.out, by rw [HQ.out]; exact HVG.out.1, HVG.out.2⟩
set_option maxRecDepth 20000 in
set_option maxHeartbeats 2000000 in
theorem rsitem_4 (p base fin D : Nat) (ts : List Tok) (s : Rs) (v : Value) (st : Stack) (w : World) (hp : RR w p fin ts s) (ho : OwnU (fun b => base ≤ b) w base v st) (hpb : p < base) (hbw : base ≤ w.heap.size) (hl : st.length ≤ 300) (hD : D ≤ 900) (hd : ∀ x ∈ st, x.2 ≤ D) (hn : ∀ t ∈ ts, t.n ≤ 9999999) (h1 : seesA ts s [97, 108, 119, 97, 121, 115] = false) (h2 : seesA ts s [110, 101, 118, 101, 114] = false) (h4 : seesA ts s [97, 108, 108] = true) :
    Calls Tryz.prog 39 #[.pointer (some ⟨p, 0, none⟩), v] w fun r w' => ∃ v', r = .returned v' ∧ OwnU (fun b => base ≤ b) w' base v' (sitemA ts fin st s).1 ∧ RR w' p fin ts (sitemA ts fin st s).2 ∧ EffB p base w w' := by
  have HP0 := Lib.hid hp
  have HO := Lib.hid ho
  have HD := Lib.hid hd
  have HN := Lib.hid hn
  have HE0 : Hid (Eff p w w) := Lib.hid (Eff.refl p w)
  obtain ⟨VA, vc, rfl⟩ := ho.form
  have HS : Hid ((seesA ts s [97, 108, 108] || seesA ts s [97, 110, 121]) = true) := Lib.hid (by rw [h4]; rfl)
  have HQ : Hid (sitemA ts fin st s = groupA ts fin st 8 9 s) := Lib.hid (by unfold sitemA; rw [if_neg (by rw [h1]; decide)]; rw [if_neg (by rw [h2]; decide)]; rw [if_pos HS.out])
  have H1 := Lib.hid h1
  have H2 := Lib.hid h2
  have H4 := Lib.hid h4
  clear h1 h2 h4
  clear hp ho hd hn
  go_enter Tryz.func39, Tryz.ntmps39
  go_wp2_with fail
  refine (ris_any [97, 108, 119, 97, 121, 115] p fin ts s _ HP0.out).mono ?_
  rintro r w1 ⟨rfl, hr, he⟩
  rw [H1.out]
  have HP1 : Hid (RR w1 p fin ts s) := Lib.hid (by have := hr; rwa [show isA ts s [97, 108, 119, 97, 121, 115] = s by unfold isA; rw [H1.out]; rfl] at this)
  have HE1 := Lib.hid (HE0.out.trans he)
  clear hr he
  go_wp2_with fail
  refine (ris_any [110, 101, 118, 101, 114] p fin ts s _ HP1.out).mono ?_
  rintro r w2 ⟨rfl, hr, he⟩
  rw [H2.out]
  have HP2 : Hid (RR w2 p fin ts s) := Lib.hid (by have := hr; rwa [show isA ts s [110, 101, 118, 101, 114] = s by unfold isA; rw [H2.out]; rfl] at this)
  have HE2 := Lib.hid (HE1.out.trans he)
  clear hr he
  go_wp2_with fail
  refine (rsees_any [97, 108, 108] p fin ts s _ HP2.out).mono ?_
  rintro r w3 ⟨rfl, hb⟩
  rw [H4.out]
  have HP3 := Lib.hid (HP2.out.below hb)
  have HE3 := Lib.hid (HE2.out.trans (Eff.of_below hb))
  clear hb
  have hal : Below w3.heap.size w3 (w3.alloc (.cells #[.int .i64 8, .int .i64 9] 3 (0, 0))) := (Below.refl _ _).alloc (Nat.le_refl _) _
  have HPA := Lib.hid (HP3.out.below hal)
  have HEA := Lib.hid (HE3.out.trans (Eff.of_below hal))
  have HOA := Lib.hid (HO.out.later HEA.out hpb)
  have HBA : Hid (base ≤ (w3.alloc (.cells #[.int .i64 8, .int .i64 9] 3 (0, 0))).heap.size) := Lib.hid (Nat.le_trans hbw HEA.out.size)
  have HG0 : Hid ((w3.alloc (.cells #[.int .i64 8, .int .i64 9] 3 (0, 0))).cell? ⟨w3.heap.size, 0, none⟩ = some (.int .i64 8)) := Lib.hid (cell_of_blk (o := 0) (heap_alloc_new w3 _) rfl)
  have HG1 : Hid ((w3.alloc (.cells #[.int .i64 8, .int .i64 9] 3 (0, 0))).cell? ⟨w3.heap.size, 1, none⟩ = some (.int .i64 9)) := Lib.hid (cell_of_blk (o := 1) (heap_alloc_new w3 _) rfl)
  have HNP : Hid (w3.heap.size ≠ p) := Lib.hid (by have := HP3.out.lt; omega)
  clear hal
  go_wp2_with fail
  refine (rgroup_any 8 9 w3.heap.size p base fin D ts s _ st _ HPA.out HOA.out hpb HBA.out hl hD HD.out HN.out HS.out HG0.out HG1.out HNP.out).mono ?_
  rintro r wz ⟨vz, rfl, hoz, hrz, hez⟩
  have HOZ := Lib.hid hoz
  have HRZ := Lib.hid hrz
  have HEZ := Lib.hid ((EffB.of HEA.out hbw).trans hez)
  clear hoz hrz hez
  go_wp2_with fail
  go_ret
  exact ⟨_, rfl, by rw [HQ.out]; exact HOZ.out, by rw [HQ.out]; exact HRZ.out, HEZ.out⟩
set_option maxRecDepth 20000 in
set_option maxHeartbeats 2000000 in
theorem rsitem_5 (p base fin D : Nat) (ts : List Tok) (s : Rs) (v : Value) (st : Stack) (w : World) (hp : RR w p fin ts s) (ho : OwnU (fun b => base ≤ b) w base v st) (hpb : p < base) (hbw : base ≤ w.heap.size) (hl : st.length ≤ 300) (hD : D ≤ 900) (hd : ∀ x ∈ st, x.2 ≤ D) (hn : ∀ t ∈ ts, t.n ≤ 9999999) (h1 : seesA ts s [97, 108, 119, 97, 121, 115] = false) (h2 : seesA ts s [110, 101, 118, 101, 114] = false) (h4 : seesA ts s [97, 108, 108] = false) (h5 : seesA ts s [97, 110, 121] = true) :
    Calls Tryz.prog 39 #[.pointer (some ⟨p, 0, none⟩), v] w fun r w' => ∃ v', r = .returned v' ∧ OwnU (fun b => base ≤ b) w' base v' (sitemA ts fin st s).1 ∧ RR w' p fin ts (sitemA ts fin st s).2 ∧ EffB p base w w' := by
  have HP0 := Lib.hid hp
  have HO := Lib.hid ho
  have HD := Lib.hid hd
  have HN := Lib.hid hn
  have HE0 : Hid (Eff p w w) := Lib.hid (Eff.refl p w)
  obtain ⟨VA, vc, rfl⟩ := ho.form
  have HS : Hid ((seesA ts s [97, 108, 108] || seesA ts s [97, 110, 121]) = true) := Lib.hid (by rw [h4, h5]; rfl)
  have HQ : Hid (sitemA ts fin st s = groupA ts fin st 8 9 s) := Lib.hid (by unfold sitemA; rw [if_neg (by rw [h1]; decide)]; rw [if_neg (by rw [h2]; decide)]; rw [if_pos HS.out])
  have H1 := Lib.hid h1
  have H2 := Lib.hid h2
  have H4 := Lib.hid h4
  have H5 := Lib.hid h5
  clear h1 h2 h4 h5
  clear hp ho hd hn
  go_enter Tryz.func39, Tryz.ntmps39
  go_wp2_with fail
  refine (ris_any [97, 108, 119, 97, 121, 115] p fin ts s _ HP0.out).mono ?_
  rintro r w1 ⟨rfl, hr, he⟩
  rw [H1.out]
  have HP1 : Hid (RR w1 p fin ts s) := Lib.hid (by have := hr; rwa [show isA ts s [97, 108, 119, 97, 121, 115] = s by unfold isA; rw [H1.out]; rfl] at this)
  have HE1 := Lib.hid (HE0.out.trans he)
  clear hr he
  go_wp2_with fail
  refine (ris_any [110, 101, 118, 101, 114] p fin ts s _ HP1.out).mono ?_
  rintro r w2 ⟨rfl, hr, he⟩
  rw [H2.out]
  have HP2 : Hid (RR w2 p fin ts s) := Lib.hid (by have := hr; rwa [show isA ts s [110, 101, 118, 101, 114] = s by unfold isA; rw [H2.out]; rfl] at this)
  have HE2 := Lib.hid (HE1.out.trans he)
  clear hr he
  go_wp2_with fail
  refine (rsees_any [97, 108, 108] p fin ts s _ HP2.out).mono ?_
  rintro r w3 ⟨rfl, hb⟩
  rw [H4.out]
  have HP3 := Lib.hid (HP2.out.below hb)
  have HE3 := Lib.hid (HE2.out.trans (Eff.of_below hb))
  clear hb
  go_wp2_with fail
  refine (rsees_any [97, 110, 121] p fin ts s _ HP3.out).mono ?_
  rintro r w4 ⟨rfl, hb⟩
  rw [H5.out]
  have HP4 := Lib.hid (HP3.out.below hb)
  have HE4 := Lib.hid (HE3.out.trans (Eff.of_below hb))
  clear hb
  have hal : Below w4.heap.size w4 (w4.alloc (.cells #[.int .i64 8, .int .i64 9] 3 (0, 0))) := (Below.refl _ _).alloc (Nat.le_refl _) _
  have HPA := Lib.hid (HP4.out.below hal)
  have HEA := Lib.hid (HE4.out.trans (Eff.of_below hal))
  have HOA := Lib.hid (HO.out.later HEA.out hpb)
  have HBA : Hid (base ≤ (w4.alloc (.cells #[.int .i64 8, .int .i64 9] 3 (0, 0))).heap.size) := Lib.hid (Nat.le_trans hbw HEA.out.size)
  have HG0 : Hid ((w4.alloc (.cells #[.int .i64 8, .int .i64 9] 3 (0, 0))).cell? ⟨w4.heap.size, 0, none⟩ = some (.int .i64 8)) := Lib.hid (cell_of_blk (o := 0) (heap_alloc_new w4 _) rfl)
  have HG1 : Hid ((w4.alloc (.cells #[.int .i64 8, .int .i64 9] 3 (0, 0))).cell? ⟨w4.heap.size, 1, none⟩ = some (.int .i64 9)) := Lib.hid (cell_of_blk (o := 1) (heap_alloc_new w4 _) rfl)
  have HNP : Hid (w4.heap.size ≠ p) := Lib.hid (by have := HP4.out.lt; omega)
  clear hal
  go_wp2_with fail
  refine (rgroup_any 8 9 w4.heap.size p base fin D ts s _ st _ HPA.out HOA.out hpb HBA.out hl hD HD.out HN.out HS.out HG0.out HG1.out HNP.out).mono ?_
  rintro r wz ⟨vz, rfl, hoz, hrz, hez⟩
  have HOZ := Lib.hid hoz
  have HRZ := Lib.hid hrz
  have HEZ := Lib.hid ((EffB.of HEA.out hbw).trans hez)
  clear hoz hrz hez
  go_wp2_with fail
  go_ret
  exact ⟨_, rfl, by rw [HQ.out]; exact HOZ.out, by rw [HQ.out]; exact HRZ.out, HEZ.out⟩
set_option maxRecDepth 20000 in
set_option maxHeartbeats 2000000 in
theorem rsitem_6 (p base fin D : Nat) (ts : List Tok) (s : Rs) (v : Value) (st : Stack) (w : World) (hp : RR w p fin ts s) (ho : OwnU (fun b => base ≤ b) w base v st) (hpb : p < base) (hbw : base ≤ w.heap.size) (hl : st.length ≤ 300) (hD : D ≤ 900) (hd : ∀ x ∈ st, x.2 ≤ D) (hn : ∀ t ∈ ts, t.n ≤ 9999999) (h1 : seesA ts s [97, 108, 119, 97, 121, 115] = false) (h2 : seesA ts s [110, 101, 118, 101, 114] = false) (h4 : seesA ts s [97, 108, 108] = false) (h5 : seesA ts s [97, 110, 121] = false) (h6 : isNumA ts s = true) :
    Calls Tryz.prog 39 #[.pointer (some ⟨p, 0, none⟩), v] w fun r w' => ∃ v', r = .returned v' ∧ OwnU (fun b => base ≤ b) w' base v' (sitemA ts fin st s).1 ∧ RR w' p fin ts (sitemA ts fin st s).2 ∧ EffB p base w w' := by
  have HP0 := Lib.hid hp
  have HO := Lib.hid ho
  have HD := Lib.hid hd
  have HN := Lib.hid hn
  have HE0 : Hid (Eff p w w) := Lib.hid (Eff.refl p w)
  obtain ⟨VA, vc, rfl⟩ := ho.form
  have HQ : Hid (sitemA ts fin st s = (st ++ [(.mk 3 [] 0 (numberA ts fin s 1000000).1 [], 1)], mustA ts fin (numberA ts fin s 1000000).2 [100, 97, 121])) := Lib.hid (by unfold sitemA; rw [if_neg (by rw [h1]; decide)]; rw [if_neg (by rw [h2]; decide)]; rw [if_neg (by rw [h4, h5]; decide), if_pos h6])
  obtain ⟨n1, n2, n3⟩ := num_lt h6
  have HX := Lib.hid n3
  have HK : Hid ((tokA ts s).kind = 2) := Lib.hid (by unfold isNumA at h6; rw [n3] at h6; simp at h6; exact h6.2)
  have HE' := Lib.hid n2
  have H1 := Lib.hid h1
  have H2 := Lib.hid h2
  have H4 := Lib.hid h4
  have H5 := Lib.hid h5
  clear h1 h2 h4 h5 n2 n3
  clear hp ho hd hn
  go_enter Tryz.func39, Tryz.ntmps39
  go_wp2_with fail
  refine (ris_any [97, 108, 119, 97, 121, 115] p fin ts s _ HP0.out).mono ?_
  rintro r w1 ⟨rfl, hr, he⟩
  rw [H1.out]
  have HP1 : Hid (RR w1 p fin ts s) := Lib.hid (by have := hr; rwa [show isA ts s [97, 108, 119, 97, 121, 115] = s by unfold isA; rw [H1.out]; rfl] at this)
  have HE1 := Lib.hid (HE0.out.trans he)
  clear hr he
  go_wp2_with fail
  refine (ris_any [110, 101, 118, 101, 114] p fin ts s _ HP1.out).mono ?_
  rintro r w2 ⟨rfl, hr, he⟩
  rw [H2.out]
  have HP2 : Hid (RR w2 p fin ts s) := Lib.hid (by have := hr; rwa [show isA ts s [110, 101, 118, 101, 114] = s by unfold isA; rw [H2.out]; rfl] at this)
  have HE2 := Lib.hid (HE1.out.trans he)
  clear hr he
  go_wp2_with fail
  refine (rsees_any [97, 108, 108] p fin ts s _ HP2.out).mono ?_
  rintro r w3 ⟨rfl, hb⟩
  rw [H4.out]
  have HP3 := Lib.hid (HP2.out.below hb)
  have HE3 := Lib.hid (HE2.out.trans (Eff.of_below hb))
  clear hb
  go_wp2_with fail
  refine (rsees_any [97, 110, 121] p fin ts s _ HP3.out).mono ?_
  rintro r w4 ⟨rfl, hb⟩
  rw [H5.out]
  have HP4 := Lib.hid (HP3.out.below hb)
  have HE4 := Lib.hid (HE3.out.trans (Eff.of_below hb))
  clear hb
  obtain ⟨A, c, hh, hr, hnn, hc1⟩ := HP4.out.is
  have c0 := cell_of_blk (o := 0) hh rfl
  have c1 := cell_of_blk (o := 1) hh rfl
  have c3 := cell_of_blk (o := 3) hh rfl
  have hlt := lt_of_heap' hh
  rw [HE'.out] at c3
  obtain ⟨bt, ot, rfl, hbl, t0, t1, t2, t3⟩ := tok_cells hr HX.out
  rw [HK.out] at t0
  have hi1 : (s.i : Int) < ts.length := by omega
  have hi0 : (0 : Int) ≤ s.i := by omega
  clear hh hr hnn hc1 t1 t2 t3
  go_wp2_with fail
  refine wp_region_grew (by kernel_rfl) (by as_aux_lemma => kernel_rfl) ?_
  repeat (go_big_quiet_step (fail))
  refine wpQuiet_nil ?_
  rintro _ ⟨y, rfl⟩
  have HP5 := Lib.hid (HP4.out.below (grew_below w4 y))
  have HE5 := Lib.hid (HE4.out.trans (Eff.of_below (grew_below w4 y)))
  generalize World.grew w4 y = w5 at *
  clear c0 c1 c3 hlt
  clear t0 hbl
  go_wp2_with fail
  refine (rnumber_any 1000000 p fin ts s _ HP5.out).mono ?_
  rintro r w6 ⟨rfl, hr, he⟩
  have HP6 := Lib.hid hr
  have HE6 := Lib.hid (HE5.out.trans he)
  clear hr he
  obtain ⟨Y, hY⟩ : ∃ Y, numberA ts fin s 1000000 = Y := ⟨_, rfl⟩
  rw [hY] at HP6 HQ ⊢
  clear hY
  obtain ⟨y1, S2⟩ := Y
  simp only at HP6 HQ ⊢
  go_wp2_with fail
  refine (rmust_any [100, 97, 121] p fin ts S2 _ HP6.out).mono ?_
  rintro r w7 ⟨rfl, hr, he⟩
  have HP7 := Lib.hid hr
  have HE7 := Lib.hid (HE6.out.trans he)
  clear hr he
  have hal : Below w7.heap.size w7 (w7.alloc (.cells #[.int .i64 3, .string ⟨#[]⟩, .int .i64 0, .int .i64 (y1 : Nat), .slice none 0 0, .int .i64 1] 52 (0, 0))) := (Below.refl _ _).alloc (Nat.le_refl _) _
  have HAL := Lib.hid hal
  have HOA : Hid (OwnU (fun b => base ≤ b) (w7.alloc (.cells #[.int .i64 3, .string ⟨#[]⟩, .int .i64 0, .int .i64 (y1 : Nat), .slice none 0 0, .int .i64 1] 52 (0, 0))) base (.slice VA st.length vc) st) := Lib.hid ((HO.out.later HE7.out hpb).later (Eff.of_below (p := p) hal) hpb)
  have HCA : Hid (∀ (j : Nat) u, ([.int .i64 3, .string ⟨#[]⟩, .int .i64 0, .int .i64 (y1 : Nat), .slice none 0 0, .int .i64 1] : List Value)[j]? = some u → (w7.alloc (.cells #[.int .i64 3, .string ⟨#[]⟩, .int .i64 0, .int .i64 (y1 : Nat), .slice none 0 0, .int .i64 1] 52 (0, 0))).cell? ⟨w7.heap.size, 0 + j, none⟩ = some u) := Lib.hid (fun j u hu => by
    rw [Nat.zero_add]
    exact cell_of_blk (heap_alloc_new w7 _) (by simpa using hu))
  have HRA : Hid (RdU (fun b => base ≤ b ∧ (Value.slice VA st.length vc).ownBlock ≠ some b) (w7.alloc (.cells #[.int .i64 3, .string ⟨#[]⟩, .int .i64 0, .int .i64 (y1 : Nat), .slice none 0 0, .int .i64 1] 52 (0, 0))) [.int .i64 3, .string ⟨#[]⟩, .int .i64 0, .int .i64 (y1 : Nat), .slice none 0 0, .int .i64 1] ((.mk 3 [] 0 y1 [], 1) : Tree × Nat).2 ((.mk 3 [] 0 y1 [], 1) : Tree × Nat).1) := Lib.hid (by
    exact RdU.leaf _ _ _ _ _ none 0)
  have HLN : Hid (st.length + 1 ≤ 1000000) := Lib.hid (by omega)
  have HBA : Hid (base ≤ (w7.alloc (.cells #[.int .i64 3, .string ⟨#[]⟩, .int .i64 0, .int .i64 (y1 : Nat), .slice none 0 0, .int .i64 1] 52 (0, 0))).heap.size) := Lib.hid (Nat.le_trans (Nat.le_trans hbw HE7.out.size) hal.size)
  clear hal
  go_wp2_with (refine wpList_push_u rfl (.tmp 65) (.tmp 68) rfl (fun b => base ≤ b) base (.slice VA st.length vc) st w7.heap.size [.int .i64 3, .string ⟨#[]⟩, .int .i64 0, .int .i64 (y1 : Nat), .slice none 0 0, .int .i64 1] (.mk 3 [] 0 y1 [], 1) rfl rfl HOA.out HCA.out HRA.out HLN.out HBA.out ?_; intro v' w' ho hg; have HVO := Lib.hid ho; have HVG := Lib.hid (pushed HE7.out HAL.out hg (fun b hb => (HO.out.own b hb).1) hpb hbw HP7.out); clear ho hg)
  go_ret
  exact ⟨_, rfl, by rw [HQ.out]; exact HVO.out, by rw [HQ.out]; exact HVG.out.1, HVG.out.2⟩
set_option maxRecDepth 20000 in
set_option maxHeartbeats 2000000 in
theorem rsitem_7 (p base fin D : Nat) (ts : List Tok) (s : Rs) (v : Value) (st : Stack) (w : World) (hp : RR w p fin ts s) (ho : OwnU (fun b => base ≤ b) w base v st) (hpb : p < base) (hbw : base ≤ w.heap.size) (hl : st.length ≤ 300) (hD : D ≤ 900) (hd : ∀ x ∈ st, x.2 ≤ D) (hn : ∀ t ∈ ts, t.n ≤ 9999999) (h1 : seesA ts s [97, 108, 119, 97, 121, 115] = false) (h2 : seesA ts s [110, 101, 118, 101, 114] = false) (h4 : seesA ts s [97, 108, 108] = false) (h5 : seesA ts s [97, 110, 121] = false) (h6 : isNumA ts s = false) (h7 : s.e ≠ 0) :
    Calls Tryz.prog 39 #[.pointer (some ⟨p, 0, none⟩), v] w fun r w' => ∃ v', r = .returned v' ∧ OwnU (fun b => base ≤ b) w' base v' (sitemA ts fin st s).1 ∧ RR w' p fin ts (sitemA ts fin st s).2 ∧ EffB p base w w' := by
  have HP0 := Lib.hid hp
  have HO := Lib.hid ho
  have HD := Lib.hid hd
  have HN := Lib.hid hn
  have HE0 : Hid (Eff p w w) := Lib.hid (Eff.refl p w)
  obtain ⟨VA, vc, rfl⟩ := ho.form
  have HQ : Hid (sitemA ts fin st s = (st ++ [(.mk (4 + (oneA ts fin (nameA ts fin s).2 opsW).1) (nameA ts fin s).1.text 0 0 [], 1)], (oneA ts fin (nameA ts fin s).2 opsW).2)) := Lib.hid (by unfold sitemA; rw [if_neg (by rw [h1]; decide)]; rw [if_neg (by rw [h2]; decide)]; rw [if_neg (by rw [h4, h5]; decide), if_neg (by rw [h6]; decide)])
  have H7 := Lib.hid h7
  clear h7
  have H1 := Lib.hid h1
  have H2 := Lib.hid h2
  have H4 := Lib.hid h4
  have H5 := Lib.hid h5
  clear h1 h2 h4 h5 h6
  clear hp ho hd hn
  go_enter Tryz.func39, Tryz.ntmps39
  go_wp2_with fail
  refine (ris_any [97, 108, 119, 97, 121, 115] p fin ts s _ HP0.out).mono ?_
  rintro r w1 ⟨rfl, hr, he⟩
  rw [H1.out]
  have HP1 : Hid (RR w1 p fin ts s) := Lib.hid (by have := hr; rwa [show isA ts s [97, 108, 119, 97, 121, 115] = s by unfold isA; rw [H1.out]; rfl] at this)
  have HE1 := Lib.hid (HE0.out.trans he)
  clear hr he
  go_wp2_with fail
  refine (ris_any [110, 101, 118, 101, 114] p fin ts s _ HP1.out).mono ?_
  rintro r w2 ⟨rfl, hr, he⟩
  rw [H2.out]
  have HP2 : Hid (RR w2 p fin ts s) := Lib.hid (by have := hr; rwa [show isA ts s [110, 101, 118, 101, 114] = s by unfold isA; rw [H2.out]; rfl] at this)
  have HE2 := Lib.hid (HE1.out.trans he)
  clear hr he
  go_wp2_with fail
  refine (rsees_any [97, 108, 108] p fin ts s _ HP2.out).mono ?_
  rintro r w3 ⟨rfl, hb⟩
  rw [H4.out]
  have HP3 := Lib.hid (HP2.out.below hb)
  have HE3 := Lib.hid (HE2.out.trans (Eff.of_below hb))
  clear hb
  go_wp2_with fail
  refine (rsees_any [97, 110, 121] p fin ts s _ HP3.out).mono ?_
  rintro r w4 ⟨rfl, hb⟩
  rw [H5.out]
  have HP4 := Lib.hid (HP3.out.below hb)
  have HE4 := Lib.hid (HE3.out.trans (Eff.of_below hb))
  clear hb
  obtain ⟨A, c, hh, hr, hnn, hc1⟩ := HP4.out.is
  have c0 := cell_of_blk (o := 0) hh rfl
  have c1 := cell_of_blk (o := 1) hh rfl
  have c3 := cell_of_blk (o := 3) hh rfl
  have hlt := lt_of_heap' hh
  have h0' : ((s.e : Int) == 0) = false := by have := H7.out; simp; omega
  clear hh hr hnn hc1
  go_wp2_with fail
  refine wp_region_grew (by kernel_rfl) (by as_aux_lemma => kernel_rfl) ?_
  repeat (go_big_quiet_step (fail))
  refine wpQuiet_nil ?_
  rintro _ ⟨y, rfl⟩
  have HP5 := Lib.hid (HP4.out.below (grew_below w4 y))
  have HE5 := Lib.hid (HE4.out.trans (Eff.of_below (grew_below w4 y)))
  generalize World.grew w4 y = w5 at *
  clear c0 c1 c3 hlt
  go_wp2_with fail
  refine (rname_any p fin ts s _ HP5.out).mono ?_
  rintro r w6 ⟨rfl, hr, he⟩
  have HP6 := Lib.hid hr
  have HE6 := Lib.hid (HE5.out.trans he)
  clear hr he
  obtain ⟨T, hT⟩ : ∃ T, nameA ts fin s = T := ⟨_, rfl⟩
  rw [hT] at HP6 HQ ⊢
  clear hT
  obtain ⟨⟨tk, tx, tn, tp⟩, S1⟩ := T
  simp only [Tok.agg] at HP6 HQ ⊢
  go_upto_region 12 with fail
  have hal : Below w6.heap.size w6 (w6.alloc (.cells #[.int .i64 tk, vs tx, .int .i64 tn, .int .i64 tp] 55 (0, 0))) := (Below.refl _ _).alloc (Nat.le_refl _) _
  have HP7 := Lib.hid (HP6.out.below hal)
  have HE7 := Lib.hid (HE6.out.trans (Eff.of_below hal))
  have HTB7 := Lib.hid (heap_alloc_new w6 (.cells #[.int .i64 tk, vs tx, .int .i64 tn, .int .i64 tp] 55 (0, 0)))
  have HTP : Hid (w6.heap.size ≠ p) := Lib.hid (by have := HP6.out.lt; omega)
  generalize hbt : w6.heap.size = bt at *
  generalize w6.alloc (.cells #[.int .i64 tk, vs tx, .int .i64 tn, .int .i64 tp] 55 (0, 0)) = w7 at *
  clear hal hbt
  have hrw : RdS (w7.alloc (.cells #[vs [100, 101, 99, 114, 101, 101], vs [101, 118, 101, 110, 116], vs [98, 101, 103, 117, 110], vs [111, 118, 101, 114]] 9 (0, 0))) (some ⟨w7.heap.size, 0, none⟩) opsW := RdS.new (heap_alloc_new w7 _)
  have HRW := Lib.hid hrw
  have HPA := Lib.hid (HP7.out.alloc (.cells #[vs [100, 101, 99, 114, 101, 101], vs [101, 118, 101, 110, 116], vs [98, 101, 103, 117, 110], vs [111, 118, 101, 114]] 9 (0, 0)))
  have HEA := Lib.hid (HE7.out.alloc (.cells #[vs [100, 101, 99, 114, 101, 101], vs [101, 118, 101, 110, 116], vs [98, 101, 103, 117, 110], vs [111, 118, 101, 114]] 9 (0, 0)))
  have HTBA : Hid ((w7.alloc (.cells #[vs [100, 101, 99, 114, 101, 101], vs [101, 118, 101, 110, 116], vs [98, 101, 103, 117, 110], vs [111, 118, 101, 114]] 9 (0, 0))).heap[bt]? = _) := Lib.hid (old_at HTB7.out)
  clear hrw
  go_wp2_with fail
  refine (rone_any opsW (some ⟨w7.heap.size, 0, none⟩) 4 p fin ts S1 _ HPA.out HRW.out (by simp) (by intro b o e; injection e with e; injection e with e _; have := HP7.out.lt; omega)).mono ?_
  rintro r w8 ⟨rfl, hr, he⟩
  have HP8 := Lib.hid hr
  have HE8 := Lib.hid (HEA.out.trans he)
  have htb := (he.block _ (lt_of_heap' HTBA.out) HTP.out).trans HTBA.out
  clear hr he
  have hc := one_le ts fin S1 opsW
  obtain ⟨Z, hZ⟩ : ∃ Z, oneA ts fin S1 opsW = Z := ⟨_, rfl⟩
  rw [hZ] at HP8 HQ hc ⊢
  clear hZ
  obtain ⟨z1, S3⟩ := Z
  simp only [opsW, List.length_cons, List.length_nil] at HP8 HQ hc ⊢
  have c1 := cell_of_blk (o := 1) htb rfl
  have c2 := lt_of_heap' htb
  have hz : (z1 : Int) ≤ 4 := by omega
  have hz0 : (0 : Int) ≤ z1 := by omega
  clear htb hc
  have hal : Below w8.heap.size w8 (w8.alloc (.cells #[.int .i64 (4 + (z1 : Int)), vs tx, .int .i64 0, .int .i64 0, .slice none 0 0, .int .i64 1] 52 (0, 0))) := (Below.refl _ _).alloc (Nat.le_refl _) _
  have HAL := Lib.hid hal
  have HOA : Hid (OwnU (fun b => base ≤ b) (w8.alloc (.cells #[.int .i64 (4 + (z1 : Int)), vs tx, .int .i64 0, .int .i64 0, .slice none 0 0, .int .i64 1] 52 (0, 0))) base (.slice VA st.length vc) st) := Lib.hid ((HO.out.later HE8.out hpb).later (Eff.of_below (p := p) hal) hpb)
  have HCA : Hid (∀ (j : Nat) u, ([.int .i64 (4 + (z1 : Int)), vs tx, .int .i64 0, .int .i64 0, .slice none 0 0, .int .i64 1] : List Value)[j]? = some u → (w8.alloc (.cells #[.int .i64 (4 + (z1 : Int)), vs tx, .int .i64 0, .int .i64 0, .slice none 0 0, .int .i64 1] 52 (0, 0))).cell? ⟨w8.heap.size, 0 + j, none⟩ = some u) := Lib.hid (fun j u hu => by
    rw [Nat.zero_add]
    exact cell_of_blk (heap_alloc_new w8 _) (by simpa using hu))
  have HRA : Hid (RdU (fun b => base ≤ b ∧ (Value.slice VA st.length vc).ownBlock ≠ some b) (w8.alloc (.cells #[.int .i64 (4 + (z1 : Int)), vs tx, .int .i64 0, .int .i64 0, .slice none 0 0, .int .i64 1] 52 (0, 0))) [.int .i64 (4 + (z1 : Int)), vs tx, .int .i64 0, .int .i64 0, .slice none 0 0, .int .i64 1] ((.mk (4 + z1) tx 0 0 [], 1) : Tree × Nat).2 ((.mk (4 + z1) tx 0 0 [], 1) : Tree × Nat).1) := Lib.hid (by
    have := RdU.leaf (S := fun b => base ≤ b ∧ (Value.slice VA st.length vc).ownBlock ≠ some b) (w := (w8.alloc (.cells #[.int .i64 (4 + (z1 : Int)), vs tx, .int .i64 0, .int .i64 0, .slice none 0 0, .int .i64 1] 52 (0, 0)))) (4 + z1) tx 0 0 1 none 0
    simpa [ucs] using this)
  have HLN : Hid (st.length + 1 ≤ 1000000) := Lib.hid (by omega)
  have HBA : Hid (base ≤ (w8.alloc (.cells #[.int .i64 (4 + (z1 : Int)), vs tx, .int .i64 0, .int .i64 0, .slice none 0 0, .int .i64 1] 52 (0, 0))).heap.size) := Lib.hid (Nat.le_trans (Nat.le_trans hbw HE8.out.size) hal.size)
  clear hal
  go_wp2_with (refine wpList_push_u rfl (.tmp 75) (.tmp 81) rfl (fun b => base ≤ b) base (.slice VA st.length vc) st w8.heap.size [.int .i64 (4 + (z1 : Int)), vs tx, .int .i64 0, .int .i64 0, .slice none 0 0, .int .i64 1] (.mk (4 + z1) tx 0 0 [], 1) rfl rfl HOA.out HCA.out HRA.out HLN.out HBA.out ?_; intro v' w' ho hg; have HVO := Lib.hid ho; have HVG := Lib.hid (pushed HE8.out HAL.out hg (fun b hb => (HO.out.own b hb).1) hpb hbw HP8.out); clear ho hg)
  go_ret
  exact ⟨_, rfl, by rw [HQ.out]; exact HVO.out, by rw [HQ.out]; exact HVG.out.1, HVG.out.2⟩
set_option maxRecDepth 20000 in
set_option maxHeartbeats 2000000 in
theorem rsitem_8 (p base fin D : Nat) (ts : List Tok) (s : Rs) (v : Value) (st : Stack) (w : World) (hp : RR w p fin ts s) (ho : OwnU (fun b => base ≤ b) w base v st) (hpb : p < base) (hbw : base ≤ w.heap.size) (hl : st.length ≤ 300) (hD : D ≤ 900) (hd : ∀ x ∈ st, x.2 ≤ D) (hn : ∀ t ∈ ts, t.n ≤ 9999999) (h1 : seesA ts s [97, 108, 119, 97, 121, 115] = false) (h2 : seesA ts s [110, 101, 118, 101, 114] = false) (h4 : seesA ts s [97, 108, 108] = false) (h5 : seesA ts s [97, 110, 121] = false) (h6 : isNumA ts s = false) (h7 : s.e = 0) (h8 : ts[s.i]? = none) :
    Calls Tryz.prog 39 #[.pointer (some ⟨p, 0, none⟩), v] w fun r w' => ∃ v', r = .returned v' ∧ OwnU (fun b => base ≤ b) w' base v' (sitemA ts fin st s).1 ∧ RR w' p fin ts (sitemA ts fin st s).2 ∧ EffB p base w w' := by
  have HP0 := Lib.hid hp
  have HO := Lib.hid ho
  have HD := Lib.hid hd
  have HN := Lib.hid hn
  have HE0 : Hid (Eff p w w) := Lib.hid (Eff.refl p w)
  obtain ⟨VA, vc, rfl⟩ := ho.form
  have HQ : Hid (sitemA ts fin st s = (st ++ [(.mk (4 + (oneA ts fin (nameA ts fin s).2 opsW).1) (nameA ts fin s).1.text 0 0 [], 1)], (oneA ts fin (nameA ts fin s).2 opsW).2)) := Lib.hid (by unfold sitemA; rw [if_neg (by rw [h1]; decide)]; rw [if_neg (by rw [h2]; decide)]; rw [if_neg (by rw [h4, h5]; decide), if_neg (by rw [h6]; decide)])
  have H7 := Lib.hid h7
  have H8 := Lib.hid (none_of h8 hp.le)
  clear h7 h8
  have H1 := Lib.hid h1
  have H2 := Lib.hid h2
  have H4 := Lib.hid h4
  have H5 := Lib.hid h5
  clear h1 h2 h4 h5 h6
  clear hp ho hd hn
  go_enter Tryz.func39, Tryz.ntmps39
  go_wp2_with fail
  refine (ris_any [97, 108, 119, 97, 121, 115] p fin ts s _ HP0.out).mono ?_
  rintro r w1 ⟨rfl, hr, he⟩
  rw [H1.out]
  have HP1 : Hid (RR w1 p fin ts s) := Lib.hid (by have := hr; rwa [show isA ts s [97, 108, 119, 97, 121, 115] = s by unfold isA; rw [H1.out]; rfl] at this)
  have HE1 := Lib.hid (HE0.out.trans he)
  clear hr he
  go_wp2_with fail
  refine (ris_any [110, 101, 118, 101, 114] p fin ts s _ HP1.out).mono ?_
  rintro r w2 ⟨rfl, hr, he⟩
  rw [H2.out]
  have HP2 : Hid (RR w2 p fin ts s) := Lib.hid (by have := hr; rwa [show isA ts s [110, 101, 118, 101, 114] = s by unfold isA; rw [H2.out]; rfl] at this)
  have HE2 := Lib.hid (HE1.out.trans he)
  clear hr he
  go_wp2_with fail
  refine (rsees_any [97, 108, 108] p fin ts s _ HP2.out).mono ?_
  rintro r w3 ⟨rfl, hb⟩
  rw [H4.out]
  have HP3 := Lib.hid (HP2.out.below hb)
  have HE3 := Lib.hid (HE2.out.trans (Eff.of_below hb))
  clear hb
  go_wp2_with fail
  refine (rsees_any [97, 110, 121] p fin ts s _ HP3.out).mono ?_
  rintro r w4 ⟨rfl, hb⟩
  rw [H5.out]
  have HP4 := Lib.hid (HP3.out.below hb)
  have HE4 := Lib.hid (HE3.out.trans (Eff.of_below hb))
  clear hb
  obtain ⟨A, c, hh, hr, hnn, hc1⟩ := HP4.out.is
  have c0 := cell_of_blk (o := 0) hh rfl
  have c1 := cell_of_blk (o := 1) hh rfl
  have c3 := cell_of_blk (o := 3) hh rfl
  have hlt := lt_of_heap' hh
  rw [H7.out] at c3
  have hi1 : decide ((s.i : Int) < ts.length) = false := by have := H8.out; simp; omega
  have hi2 : decide (s.i < ts.length) = false := by have := H8.out; simp; omega
  clear hh hr hnn hc1
  go_wp2_with fail
  refine wp_region_grew (by kernel_rfl) (by as_aux_lemma => kernel_rfl) ?_
  repeat (go_big_quiet_step (fail))
  refine wpQuiet_nil ?_
  rintro _ ⟨y, rfl⟩
  have HP5 := Lib.hid (HP4.out.below (grew_below w4 y))
  have HE5 := Lib.hid (HE4.out.trans (Eff.of_below (grew_below w4 y)))
  generalize World.grew w4 y = w5 at *
  clear c0 c1 c3 hlt
  go_wp2_with fail
  refine (rname_any p fin ts s _ HP5.out).mono ?_
  rintro r w6 ⟨rfl, hr, he⟩
  have HP6 := Lib.hid hr
  have HE6 := Lib.hid (HE5.out.trans he)
  clear hr he
  obtain ⟨T, hT⟩ : ∃ T, nameA ts fin s = T := ⟨_, rfl⟩
  rw [hT] at HP6 HQ ⊢
  clear hT
  obtain ⟨⟨tk, tx, tn, tp⟩, S1⟩ := T
  simp only [Tok.agg] at HP6 HQ ⊢
  go_upto_region 12 with fail
  have hal : Below w6.heap.size w6 (w6.alloc (.cells #[.int .i64 tk, vs tx, .int .i64 tn, .int .i64 tp] 55 (0, 0))) := (Below.refl _ _).alloc (Nat.le_refl _) _
  have HP7 := Lib.hid (HP6.out.below hal)
  have HE7 := Lib.hid (HE6.out.trans (Eff.of_below hal))
  have HTB7 := Lib.hid (heap_alloc_new w6 (.cells #[.int .i64 tk, vs tx, .int .i64 tn, .int .i64 tp] 55 (0, 0)))
  have HTP : Hid (w6.heap.size ≠ p) := Lib.hid (by have := HP6.out.lt; omega)
  generalize hbt : w6.heap.size = bt at *
  generalize w6.alloc (.cells #[.int .i64 tk, vs tx, .int .i64 tn, .int .i64 tp] 55 (0, 0)) = w7 at *
  clear hal hbt
  have hrw : RdS (w7.alloc (.cells #[vs [100, 101, 99, 114, 101, 101], vs [101, 118, 101, 110, 116], vs [98, 101, 103, 117, 110], vs [111, 118, 101, 114]] 9 (0, 0))) (some ⟨w7.heap.size, 0, none⟩) opsW := RdS.new (heap_alloc_new w7 _)
  have HRW := Lib.hid hrw
  have HPA := Lib.hid (HP7.out.alloc (.cells #[vs [100, 101, 99, 114, 101, 101], vs [101, 118, 101, 110, 116], vs [98, 101, 103, 117, 110], vs [111, 118, 101, 114]] 9 (0, 0)))
  have HEA := Lib.hid (HE7.out.alloc (.cells #[vs [100, 101, 99, 114, 101, 101], vs [101, 118, 101, 110, 116], vs [98, 101, 103, 117, 110], vs [111, 118, 101, 114]] 9 (0, 0)))
  have HTBA : Hid ((w7.alloc (.cells #[vs [100, 101, 99, 114, 101, 101], vs [101, 118, 101, 110, 116], vs [98, 101, 103, 117, 110], vs [111, 118, 101, 114]] 9 (0, 0))).heap[bt]? = _) := Lib.hid (old_at HTB7.out)
  clear hrw
  go_wp2_with fail
  refine (rone_any opsW (some ⟨w7.heap.size, 0, none⟩) 4 p fin ts S1 _ HPA.out HRW.out (by simp) (by intro b o e; injection e with e; injection e with e _; have := HP7.out.lt; omega)).mono ?_
  rintro r w8 ⟨rfl, hr, he⟩
  have HP8 := Lib.hid hr
  have HE8 := Lib.hid (HEA.out.trans he)
  have htb := (he.block _ (lt_of_heap' HTBA.out) HTP.out).trans HTBA.out
  clear hr he
  have hc := one_le ts fin S1 opsW
  obtain ⟨Z, hZ⟩ : ∃ Z, oneA ts fin S1 opsW = Z := ⟨_, rfl⟩
  rw [hZ] at HP8 HQ hc ⊢
  clear hZ
  obtain ⟨z1, S3⟩ := Z
  simp only [opsW, List.length_cons, List.length_nil] at HP8 HQ hc ⊢
  have c1 := cell_of_blk (o := 1) htb rfl
  have c2 := lt_of_heap' htb
  have hz : (z1 : Int) ≤ 4 := by omega
  have hz0 : (0 : Int) ≤ z1 := by omega
  clear htb hc
  have hal : Below w8.heap.size w8 (w8.alloc (.cells #[.int .i64 (4 + (z1 : Int)), vs tx, .int .i64 0, .int .i64 0, .slice none 0 0, .int .i64 1] 52 (0, 0))) := (Below.refl _ _).alloc (Nat.le_refl _) _
  have HAL := Lib.hid hal
  have HOA : Hid (OwnU (fun b => base ≤ b) (w8.alloc (.cells #[.int .i64 (4 + (z1 : Int)), vs tx, .int .i64 0, .int .i64 0, .slice none 0 0, .int .i64 1] 52 (0, 0))) base (.slice VA st.length vc) st) := Lib.hid ((HO.out.later HE8.out hpb).later (Eff.of_below (p := p) hal) hpb)
  have HCA : Hid (∀ (j : Nat) u, ([.int .i64 (4 + (z1 : Int)), vs tx, .int .i64 0, .int .i64 0, .slice none 0 0, .int .i64 1] : List Value)[j]? = some u → (w8.alloc (.cells #[.int .i64 (4 + (z1 : Int)), vs tx, .int .i64 0, .int .i64 0, .slice none 0 0, .int .i64 1] 52 (0, 0))).cell? ⟨w8.heap.size, 0 + j, none⟩ = some u) := Lib.hid (fun j u hu => by
    rw [Nat.zero_add]
    exact cell_of_blk (heap_alloc_new w8 _) (by simpa using hu))
  have HRA : Hid (RdU (fun b => base ≤ b ∧ (Value.slice VA st.length vc).ownBlock ≠ some b) (w8.alloc (.cells #[.int .i64 (4 + (z1 : Int)), vs tx, .int .i64 0, .int .i64 0, .slice none 0 0, .int .i64 1] 52 (0, 0))) [.int .i64 (4 + (z1 : Int)), vs tx, .int .i64 0, .int .i64 0, .slice none 0 0, .int .i64 1] ((.mk (4 + z1) tx 0 0 [], 1) : Tree × Nat).2 ((.mk (4 + z1) tx 0 0 [], 1) : Tree × Nat).1) := Lib.hid (by
    have := RdU.leaf (S := fun b => base ≤ b ∧ (Value.slice VA st.length vc).ownBlock ≠ some b) (w := (w8.alloc (.cells #[.int .i64 (4 + (z1 : Int)), vs tx, .int .i64 0, .int .i64 0, .slice none 0 0, .int .i64 1] 52 (0, 0)))) (4 + z1) tx 0 0 1 none 0
    simpa [ucs] using this)
  have HLN : Hid (st.length + 1 ≤ 1000000) := Lib.hid (by omega)
  have HBA : Hid (base ≤ (w8.alloc (.cells #[.int .i64 (4 + (z1 : Int)), vs tx, .int .i64 0, .int .i64 0, .slice none 0 0, .int .i64 1] 52 (0, 0))).heap.size) := Lib.hid (Nat.le_trans (Nat.le_trans hbw HE8.out.size) hal.size)
  clear hal
  go_wp2_with (refine wpList_push_u rfl (.tmp 75) (.tmp 81) rfl (fun b => base ≤ b) base (.slice VA st.length vc) st w8.heap.size [.int .i64 (4 + (z1 : Int)), vs tx, .int .i64 0, .int .i64 0, .slice none 0 0, .int .i64 1] (.mk (4 + z1) tx 0 0 [], 1) rfl rfl HOA.out HCA.out HRA.out HLN.out HBA.out ?_; intro v' w' ho hg; have HVO := Lib.hid ho; have HVG := Lib.hid (pushed HE8.out HAL.out hg (fun b hb => (HO.out.own b hb).1) hpb hbw HP8.out); clear ho hg)
  go_ret
  exact ⟨_, rfl, by rw [HQ.out]; exact HVO.out, by rw [HQ.out]; exact HVG.out.1, HVG.out.2⟩
set_option maxRecDepth 20000 in
set_option maxHeartbeats 2000000 in
theorem rsitem_9 (p base fin D : Nat) (ts : List Tok) (s : Rs) (v : Value) (st : Stack) (w : World) (hp : RR w p fin ts s) (ho : OwnU (fun b => base ≤ b) w base v st) (hpb : p < base) (hbw : base ≤ w.heap.size) (hl : st.length ≤ 300) (hD : D ≤ 900) (hd : ∀ x ∈ st, x.2 ≤ D) (hn : ∀ t ∈ ts, t.n ≤ 9999999) (h1 : seesA ts s [97, 108, 119, 97, 121, 115] = false) (h2 : seesA ts s [110, 101, 118, 101, 114] = false) (h4 : seesA ts s [97, 108, 108] = false) (h5 : seesA ts s [97, 110, 121] = false) (h6 : isNumA ts s = false) (t : Tok) (h7 : s.e = 0) (h8 : ts[s.i]? = some t) (h9 : t.kind ≠ 2) :
    Calls Tryz.prog 39 #[.pointer (some ⟨p, 0, none⟩), v] w fun r w' => ∃ v', r = .returned v' ∧ OwnU (fun b => base ≤ b) w' base v' (sitemA ts fin st s).1 ∧ RR w' p fin ts (sitemA ts fin st s).2 ∧ EffB p base w w' := by
  have HP0 := Lib.hid hp
  have HO := Lib.hid ho
  have HD := Lib.hid hd
  have HN := Lib.hid hn
  have HE0 : Hid (Eff p w w) := Lib.hid (Eff.refl p w)
  obtain ⟨VA, vc, rfl⟩ := ho.form
  have HQ : Hid (sitemA ts fin st s = (st ++ [(.mk (4 + (oneA ts fin (nameA ts fin s).2 opsW).1) (nameA ts fin s).1.text 0 0 [], 1)], (oneA ts fin (nameA ts fin s).2 opsW).2)) := Lib.hid (by unfold sitemA; rw [if_neg (by rw [h1]; decide)]; rw [if_neg (by rw [h2]; decide)]; rw [if_neg (by rw [h4, h5]; decide), if_neg (by rw [h6]; decide)])
  have H7 := Lib.hid h7
  have H8 := Lib.hid h8
  have H9 := Lib.hid h9
  have HI := Lib.hid (tok_of h8)
  clear h7 h8 h9
  have H1 := Lib.hid h1
  have H2 := Lib.hid h2
  have H4 := Lib.hid h4
  have H5 := Lib.hid h5
  clear h1 h2 h4 h5 h6
  clear hp ho hd hn
  go_enter Tryz.func39, Tryz.ntmps39
  go_wp2_with fail
  refine (ris_any [97, 108, 119, 97, 121, 115] p fin ts s _ HP0.out).mono ?_
  rintro r w1 ⟨rfl, hr, he⟩
  rw [H1.out]
  have HP1 : Hid (RR w1 p fin ts s) := Lib.hid (by have := hr; rwa [show isA ts s [97, 108, 119, 97, 121, 115] = s by unfold isA; rw [H1.out]; rfl] at this)
  have HE1 := Lib.hid (HE0.out.trans he)
  clear hr he
  go_wp2_with fail
  refine (ris_any [110, 101, 118, 101, 114] p fin ts s _ HP1.out).mono ?_
  rintro r w2 ⟨rfl, hr, he⟩
  rw [H2.out]
  have HP2 : Hid (RR w2 p fin ts s) := Lib.hid (by have := hr; rwa [show isA ts s [110, 101, 118, 101, 114] = s by unfold isA; rw [H2.out]; rfl] at this)
  have HE2 := Lib.hid (HE1.out.trans he)
  clear hr he
  go_wp2_with fail
  refine (rsees_any [97, 108, 108] p fin ts s _ HP2.out).mono ?_
  rintro r w3 ⟨rfl, hb⟩
  rw [H4.out]
  have HP3 := Lib.hid (HP2.out.below hb)
  have HE3 := Lib.hid (HE2.out.trans (Eff.of_below hb))
  clear hb
  go_wp2_with fail
  refine (rsees_any [97, 110, 121] p fin ts s _ HP3.out).mono ?_
  rintro r w4 ⟨rfl, hb⟩
  rw [H5.out]
  have HP4 := Lib.hid (HP3.out.below hb)
  have HE4 := Lib.hid (HE3.out.trans (Eff.of_below hb))
  clear hb
  obtain ⟨A, c, hh, hr, hnn, hc1⟩ := HP4.out.is
  have c0 := cell_of_blk (o := 0) hh rfl
  have c1 := cell_of_blk (o := 1) hh rfl
  have c3 := cell_of_blk (o := 3) hh rfl
  have hlt := lt_of_heap' hh
  rw [H7.out] at c3
  obtain ⟨bt, ot, rfl, hbl, t0, t1, t2, t3⟩ := tok_cells hr H8.out
  have hk' : ((t.kind : Int) == 2) = false := by have := H9.out; simp; omega
  have hi1 : (s.i : Int) < ts.length := by have := HI.out; omega
  have hi0 : (0 : Int) ≤ s.i := by omega
  clear hh hr hnn hc1 t1 t2 t3
  go_wp2_with fail
  refine wp_region_grew (by kernel_rfl) (by as_aux_lemma => kernel_rfl) ?_
  repeat (go_big_quiet_step (fail))
  refine wpQuiet_nil ?_
  rintro _ ⟨y, rfl⟩
  have HP5 := Lib.hid (HP4.out.below (grew_below w4 y))
  have HE5 := Lib.hid (HE4.out.trans (Eff.of_below (grew_below w4 y)))
  generalize World.grew w4 y = w5 at *
  clear c0 c1 c3 hlt t0 hbl
  go_wp2_with fail
  refine (rname_any p fin ts s _ HP5.out).mono ?_
  rintro r w6 ⟨rfl, hr, he⟩
  have HP6 := Lib.hid hr
  have HE6 := Lib.hid (HE5.out.trans he)
  clear hr he
  obtain ⟨T, hT⟩ : ∃ T, nameA ts fin s = T := ⟨_, rfl⟩
  rw [hT] at HP6 HQ ⊢
  clear hT
  obtain ⟨⟨tk, tx, tn, tp⟩, S1⟩ := T
  simp only [Tok.agg] at HP6 HQ ⊢
  go_upto_region 12 with fail
  have hal : Below w6.heap.size w6 (w6.alloc (.cells #[.int .i64 tk, vs tx, .int .i64 tn, .int .i64 tp] 55 (0, 0))) := (Below.refl _ _).alloc (Nat.le_refl _) _
  have HP7 := Lib.hid (HP6.out.below hal)
  have HE7 := Lib.hid (HE6.out.trans (Eff.of_below hal))
  have HTB7 := Lib.hid (heap_alloc_new w6 (.cells #[.int .i64 tk, vs tx, .int .i64 tn, .int .i64 tp] 55 (0, 0)))
  have HTP : Hid (w6.heap.size ≠ p) := Lib.hid (by have := HP6.out.lt; omega)
  generalize hbt : w6.heap.size = bt at *
  generalize w6.alloc (.cells #[.int .i64 tk, vs tx, .int .i64 tn, .int .i64 tp] 55 (0, 0)) = w7 at *
  clear hal hbt
  have hrw : RdS (w7.alloc (.cells #[vs [100, 101, 99, 114, 101, 101], vs [101, 118, 101, 110, 116], vs [98, 101, 103, 117, 110], vs [111, 118, 101, 114]] 9 (0, 0))) (some ⟨w7.heap.size, 0, none⟩) opsW := RdS.new (heap_alloc_new w7 _)
  have HRW := Lib.hid hrw
  have HPA := Lib.hid (HP7.out.alloc (.cells #[vs [100, 101, 99, 114, 101, 101], vs [101, 118, 101, 110, 116], vs [98, 101, 103, 117, 110], vs [111, 118, 101, 114]] 9 (0, 0)))
  have HEA := Lib.hid (HE7.out.alloc (.cells #[vs [100, 101, 99, 114, 101, 101], vs [101, 118, 101, 110, 116], vs [98, 101, 103, 117, 110], vs [111, 118, 101, 114]] 9 (0, 0)))
  have HTBA : Hid ((w7.alloc (.cells #[vs [100, 101, 99, 114, 101, 101], vs [101, 118, 101, 110, 116], vs [98, 101, 103, 117, 110], vs [111, 118, 101, 114]] 9 (0, 0))).heap[bt]? = _) := Lib.hid (old_at HTB7.out)
  clear hrw
  go_wp2_with fail
  refine (rone_any opsW (some ⟨w7.heap.size, 0, none⟩) 4 p fin ts S1 _ HPA.out HRW.out (by simp) (by intro b o e; injection e with e; injection e with e _; have := HP7.out.lt; omega)).mono ?_
  rintro r w8 ⟨rfl, hr, he⟩
  have HP8 := Lib.hid hr
  have HE8 := Lib.hid (HEA.out.trans he)
  have htb := (he.block _ (lt_of_heap' HTBA.out) HTP.out).trans HTBA.out
  clear hr he
  have hc := one_le ts fin S1 opsW
  obtain ⟨Z, hZ⟩ : ∃ Z, oneA ts fin S1 opsW = Z := ⟨_, rfl⟩
  rw [hZ] at HP8 HQ hc ⊢
  clear hZ
  obtain ⟨z1, S3⟩ := Z
  simp only [opsW, List.length_cons, List.length_nil] at HP8 HQ hc ⊢
  have c1 := cell_of_blk (o := 1) htb rfl
  have c2 := lt_of_heap' htb
  have hz : (z1 : Int) ≤ 4 := by omega
  have hz0 : (0 : Int) ≤ z1 := by omega
  clear htb hc
  have hal : Below w8.heap.size w8 (w8.alloc (.cells #[.int .i64 (4 + (z1 : Int)), vs tx, .int .i64 0, .int .i64 0, .slice none 0 0, .int .i64 1] 52 (0, 0))) := (Below.refl _ _).alloc (Nat.le_refl _) _
  have HAL := Lib.hid hal
  have HOA : Hid (OwnU (fun b => base ≤ b) (w8.alloc (.cells #[.int .i64 (4 + (z1 : Int)), vs tx, .int .i64 0, .int .i64 0, .slice none 0 0, .int .i64 1] 52 (0, 0))) base (.slice VA st.length vc) st) := Lib.hid ((HO.out.later HE8.out hpb).later (Eff.of_below (p := p) hal) hpb)
  have HCA : Hid (∀ (j : Nat) u, ([.int .i64 (4 + (z1 : Int)), vs tx, .int .i64 0, .int .i64 0, .slice none 0 0, .int .i64 1] : List Value)[j]? = some u → (w8.alloc (.cells #[.int .i64 (4 + (z1 : Int)), vs tx, .int .i64 0, .int .i64 0, .slice none 0 0, .int .i64 1] 52 (0, 0))).cell? ⟨w8.heap.size, 0 + j, none⟩ = some u) := Lib.hid (fun j u hu => by
    rw [Nat.zero_add]
    exact cell_of_blk (heap_alloc_new w8 _) (by simpa using hu))
  have HRA : Hid (RdU (fun b => base ≤ b ∧ (Value.slice VA st.length vc).ownBlock ≠ some b) (w8.alloc (.cells #[.int .i64 (4 + (z1 : Int)), vs tx, .int .i64 0, .int .i64 0, .slice none 0 0, .int .i64 1] 52 (0, 0))) [.int .i64 (4 + (z1 : Int)), vs tx, .int .i64 0, .int .i64 0, .slice none 0 0, .int .i64 1] ((.mk (4 + z1) tx 0 0 [], 1) : Tree × Nat).2 ((.mk (4 + z1) tx 0 0 [], 1) : Tree × Nat).1) := Lib.hid (by
    have := RdU.leaf (S := fun b => base ≤ b ∧ (Value.slice VA st.length vc).ownBlock ≠ some b) (w := (w8.alloc (.cells #[.int .i64 (4 + (z1 : Int)), vs tx, .int .i64 0, .int .i64 0, .slice none 0 0, .int .i64 1] 52 (0, 0)))) (4 + z1) tx 0 0 1 none 0
    simpa [ucs] using this)
  have HLN : Hid (st.length + 1 ≤ 1000000) := Lib.hid (by omega)
  have HBA : Hid (base ≤ (w8.alloc (.cells #[.int .i64 (4 + (z1 : Int)), vs tx, .int .i64 0, .int .i64 0, .slice none 0 0, .int .i64 1] 52 (0, 0))).heap.size) := Lib.hid (Nat.le_trans (Nat.le_trans hbw HE8.out.size) hal.size)
  clear hal
  go_wp2_with (refine wpList_push_u rfl (.tmp 75) (.tmp 81) rfl (fun b => base ≤ b) base (.slice VA st.length vc) st w8.heap.size [.int .i64 (4 + (z1 : Int)), vs tx, .int .i64 0, .int .i64 0, .slice none 0 0, .int .i64 1] (.mk (4 + z1) tx 0 0 [], 1) rfl rfl HOA.out HCA.out HRA.out HLN.out HBA.out ?_; intro v' w' ho hg; have HVO := Lib.hid ho; have HVG := Lib.hid (pushed HE8.out HAL.out hg (fun b hb => (HO.out.own b hb).1) hpb hbw HP8.out); clear ho hg)
  go_ret
  exact ⟨_, rfl, by rw [HQ.out]; exact HVO.out, by rw [HQ.out]; exact HVG.out.1, HVG.out.2⟩
theorem rsitem_any (p base fin D : Nat) (ts : List Tok) (s : Rs) (v : Value) (st : Stack) (w : World) (hp : RR w p fin ts s) (ho : OwnU (fun b => base ≤ b) w base v st) (hpb : p < base) (hbw : base ≤ w.heap.size) (hl : st.length ≤ 300) (hD : D ≤ 900) (hd : ∀ x ∈ st, x.2 ≤ D) (hn : ∀ t ∈ ts, t.n ≤ 9999999) :
    Calls Tryz.prog 39 #[.pointer (some ⟨p, 0, none⟩), v] w fun r w' => ∃ v', r = .returned v' ∧ OwnU (fun b => base ≤ b) w' base v' (sitemA ts fin st s).1 ∧ RR w' p fin ts (sitemA ts fin st s).2 ∧ EffB p base w w' := by
  cases h1 : seesA ts s [97, 108, 119, 97, 121, 115] with
  | true => exact rsitem_1 p base fin D ts s v st w hp ho hpb hbw hl hD hd hn h1
  | false =>
  cases h2 : seesA ts s [110, 101, 118, 101, 114] with
  | true => exact rsitem_2 p base fin D ts s v st w hp ho hpb hbw hl hD hd hn h1 h2
  | false =>
  cases h4 : seesA ts s [97, 108, 108] with
  | true => exact rsitem_4 p base fin D ts s v st w hp ho hpb hbw hl hD hd hn h1 h2 h4
  | false =>
  cases h5 : seesA ts s [97, 110, 121] with
  | true => exact rsitem_5 p base fin D ts s v st w hp ho hpb hbw hl hD hd hn h1 h2 h4 h5
  | false =>
  cases h6 : isNumA ts s with
  | true => exact rsitem_6 p base fin D ts s v st w hp ho hpb hbw hl hD hd hn h1 h2 h4 h5 h6
  | false =>
  by_cases h7 : s.e = 0
  · cases h8 : ts[s.i]? with
    | none => exact rsitem_8 p base fin D ts s v st w hp ho hpb hbw hl hD hd hn h1 h2 h4 h5 h6 h7 h8
    | some t =>
      refine rsitem_9 p base fin D ts s v st w hp ho hpb hbw hl hD hd hn h1 h2 h4 h5 h6 t h7 h8 (fun hk => ?_)
      unfold isNumA at h6
      rw [h8, h7] at h6
      simp [hk] at h6
  · exact rsitem_7 p base fin D ts s v st w hp ho hpb hbw hl hD hd hn h1 h2 h4 h5 h6 h7
end Go.Proofs.YtcekampdldkjlaaGreatDoor
