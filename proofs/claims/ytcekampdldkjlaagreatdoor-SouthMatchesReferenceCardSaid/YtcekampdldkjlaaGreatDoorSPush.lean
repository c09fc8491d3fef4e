/- push. -/
import Derived.Test.YtcekampdldkjlaaGreatDoorSStk
import Derived.Test.YtcekampdldkjlaaGreatDoorSMap
import Derived.RegionTactic
import Derived.BigRegion
set_option linter.unusedVariables false
set_option linter.unusedSimpArgs false
namespace Go.Proofs.YtcekampdldkjlaaGreatDoor
open Go.RowKit
/- what an item does: the parser's block, the stack's, and what lies from base on -/
structure EffS (p sb base : Nat) (w w' : World) : Prop where
  os : w'.os = w.os
  tape : w'.tape = w.tape
  output : w'.output = w.output
  size : w.heap.size ≤ w'.heap.size
  block : ∀ k, k < w.heap.size → k ≠ p → k ≠ sb → k < base → w'.heap[k]? = w.heap[k]?
theorem EffS.refl (p sb base : Nat) (w : World) : EffS p sb base w w := ⟨rfl, rfl, rfl, Nat.le_refl _, fun _ _ _ _ _ => rfl⟩
theorem Eff.toS {p : Nat} {w w' : World} (h : Eff p w w') (sb base : Nat) : EffS p sb base w w' := ⟨h.os, h.tape, h.output, h.size, fun k hk h1 _ _ => h.block k hk h1⟩
theorem EffS.trans {p sb base : Nat} {a b c : World} (h : EffS p sb base a b) (k : EffS p sb base b c) : EffS p sb base a c :=
  ⟨k.os.trans h.os, k.tape.trans h.tape, k.output.trans h.output, Nat.le_trans h.size k.size, fun i hi h1 h2 h3 => (k.block i (Nat.lt_of_lt_of_le hi h.size) h1 h2 h3).trans (h.block i hi h1 h2 h3)⟩
/- an append to the stack's row, and the store behind it -/
theorem SK.pushed {fm : Bool} {w W w' : World} {sb p base fj fin : Nat} {ts l : List Tok} {st st' : Stack} {v v' : Value} (hs : SK fm w sb p base fj st) (hp : PS w p fin ts l) (hbw : base ≤ w.heap.size) (hw : Below w.heap.size w W)
    (hown : ∀ b, v.ownBlock = some b → base ≤ b) (ho : OwnE fm w' base v' st') (hg : W.grownBy w' v.ownBlock) (hf : st'.length ≤ 200) (hd : ∀ x ∈ st', x.2 ≤ 20) :
    SK fm (w'.setCell ⟨sb, 1, none⟩ v') sb p base fj st' ∧ PS (w'.setCell ⟨sb, 1, none⟩ v') p fin ts l ∧ EffS p sb base w (w'.setCell ⟨sb, 1, none⟩ v') := by
  obtain ⟨v0, hb, ho0⟩ := hs.is
  have hsz := lt_of_heap' hb
  have hlow : ∀ k, k < base → k < w.heap.size → w'.heap[k]? = w.heap[k]? := fun k h1 h2 => (hg.block k (Nat.lt_of_lt_of_le h2 hw.size) (fun e => by have := hown k e.symm; omega)).trans (hw.block k h2)
  have hb' : w'.heap[sb]? = _ := (hlow sb hs.lt hsz).trans hb
  have hset : ∀ k, k ≠ sb → (w'.setCell ⟨sb, 1, none⟩ v').heap[k]? = w'.heap[k]? := fun k hk => Below.heap_setCell _ _ _ _ (by simpa using hk)
  have hsize : (w'.setCell ⟨sb, 1, none⟩ v').heap.size = w'.heap.size := by simp
  refine ⟨⟨⟨v', ?_, ho.keep (by rw [hsize]; exact Nat.le_refl _) (fun b hb2 _ => hset b (by have := hs.lt; omega))⟩, hs.lt, hs.ne, hf, hd⟩, ?_, ?_⟩
  · rw [row_setCell (o := 1) hb']; simp
  · exact hp.keep (by rw [hsize]; exact Nat.le_trans hw.size hg.size) (fun b hb2 => by
      have hne : b ≠ sb ∨ b = sb := by omega
      rcases hne with hne | rfl
      · exact (hset b hne).trans (hlow b (by have := hs.ne; have := hs.lt; omega) (Nat.lt_of_le_of_lt hb2 hp.lt))
      · exact absurd hs.ne (by omega))
  · exact ⟨(hg.os.trans hw.os), (hg.tape.trans hw.tape), (hg.output.trans hw.output), by rw [hsize]; exact Nat.le_trans hw.size hg.size, fun k hk h1 h2 h3 => (hset k h2).trans (hlow k h3 hk)⟩
theorem dep_snoc {st : Stack} {t : Tree} {d : Nat} (h : ∀ x ∈ st, x.2 ≤ 20) (hd : d ≤ 20) : ∀ x ∈ st ++ [(t, d)], x.2 ≤ 20 := by
  intro x hx
  rcases List.mem_append.1 hx with hx | hx
  · exact h x hx
  · simp at hx; subst hx; exact hd
theorem store_cell {w W w' : World} {sb p fj base : Nat} {fm : Bool} {v : Value} (hb : w.heap[sb]? = some (.cells #[.pointer (some ⟨p, 0, none⟩), v, .func (.func fj) #[] #[]] (sE fm) (0, 0))) (hlt : sb < base) (hown : ∀ b, v.ownBlock = some b → base ≤ b) (hg : W.grownBy w' v.ownBlock) (hW : W.heap[sb]? = w.heap[sb]?) :
    w'.cell? ⟨sb, 1, none⟩ = some v ∧ w'.frozen? ⟨sb, 1, none⟩ = false ∧ sb < w'.heap.size := by
  have h1 : w'.heap[sb]? = _ := (hg.block sb (lt_of_heap' (hW.trans hb)) (fun e => by have := hown sb e.symm; omega)).trans (hW.trans hb)
  exact ⟨cell_of_blk (o := 1) h1 rfl, frozen_of_blk h1, lt_of_heap' h1⟩
set_option maxRecDepth 20000 in
set_option maxHeartbeats 2000000 in
theorem push_f (op : Nat) (name : List UInt8) (cm m : Nat) (sb p base fj fin : Nat) (ts l : List Tok) (st : Stack) (w : World) (hp : PS w p fin ts l) (hs : SK true w sb p base fj st) (hf : st.length < 200) (hbw : base ≤ w.heap.size) :
    Calls Tryz.prog 53 #[.pointer (some ⟨sb, 0, none⟩), .agg #[.int .i64 op, vs name, .int .i64 cm, .int .i64 m, .slice none 0 0]] w fun e w' => e = .returned (.tuple #[]) ∧ SK true w' sb p base fj (st ++ [(.mk op name cm m [], 1)]) ∧ PS w' p fin ts l ∧ EffS p sb base w w' := by
  have HS := Lib.hid hs
  have HP := Lib.hid hp
  obtain ⟨v, hb, hown⟩ := hs.is
  obtain ⟨A, cap, rfl⟩ := hown.form
  have HOWN := Lib.hid hown
  have HOB := Lib.hid (fun b hb => (hown.own b hb).1)
  have HX : Hid (w.heap[sb]? = some (.cells #[.pointer (some ⟨p, 0, none⟩), .slice A st.length cap, .func (.func fj) #[] #[]] (sE true) (0, 0))) := Lib.hid hb
  have hal : Below w.heap.size w (w.alloc (.cells #[.int .i64 op, vs name, .int .i64 cm, .int .i64 m, .slice none 0 0] 25 (0, 0))) := (Below.refl _ _).alloc (Nat.le_refl _) _
  have c1 := cell_of_blk (o := 1) hb rfl
  have dl := lt_of_heap' hb
  have dl1 : sb < w.heap.size + 1 := Nat.lt_succ_of_lt dl
  have dl2 : sb < w.heap.size + 1 + 1 := Nat.lt_succ_of_lt dl1
  have hal2 : Below w.heap.size w ((w.alloc (.cells #[.int .i64 op, vs name, .int .i64 cm, .int .i64 m, .slice none 0 0] 25 (0, 0))).alloc (.cells #[.int .i64 op, vs name, .int .i64 cm, .int .i64 m, .slice none 0 0, .int .i64 1] 117 (0, 0))) := hal.alloc hal.size _
  have HO2 : Hid (OwnE true ((w.alloc (.cells #[.int .i64 op, vs name, .int .i64 cm, .int .i64 m, .slice none 0 0] 25 (0, 0))).alloc (.cells #[.int .i64 op, vs name, .int .i64 cm, .int .i64 m, .slice none 0 0, .int .i64 1] 117 (0, 0))) base (.slice A st.length cap) st) := Lib.hid (hown.keep hal2.size (fun b _ hlt => hal2.block b hlt))
  have HC2 : Hid (∀ (j : Nat) u, ([.int .i64 op, vs name, .int .i64 cm, .int .i64 m, .slice none 0 0, .int .i64 1] : List Value)[j]? = some u → ((w.alloc (.cells #[.int .i64 op, vs name, .int .i64 cm, .int .i64 m, .slice none 0 0] 25 (0, 0))).alloc (.cells #[.int .i64 op, vs name, .int .i64 cm, .int .i64 m, .slice none 0 0, .int .i64 1] 117 (0, 0))).cell? ⟨w.heap.size + 1, 0 + j, none⟩ = some u) := Lib.hid (fun j u hu => by
    rw [Nat.zero_add]
    exact cell_of_blk (alloc_at (by simp)) (by simpa using hu))
  have HR2 : Hid (RdE true (fun b => base ≤ b ∧ (Value.slice A st.length cap).ownBlock ≠ some b) ((w.alloc (.cells #[.int .i64 op, vs name, .int .i64 cm, .int .i64 m, .slice none 0 0] 25 (0, 0))).alloc (.cells #[.int .i64 op, vs name, .int .i64 cm, .int .i64 m, .slice none 0 0, .int .i64 1] 117 (0, 0))) [.int .i64 op, vs name, .int .i64 cm, .int .i64 m, .slice none 0 0, .int .i64 1] (.mk op name cm m [], 1)) := Lib.hid ⟨tcs true op name cm m (.slice none 0 0), rfl, RdTree.leaf _ _ _ _ _ _⟩
  have HB2 : Hid (base ≤ ((w.alloc (.cells #[.int .i64 op, vs name, .int .i64 cm, .int .i64 m, .slice none 0 0] 25 (0, 0))).alloc (.cells #[.int .i64 op, vs name, .int .i64 cm, .int .i64 m, .slice none 0 0, .int .i64 1] 117 (0, 0))).heap.size) := Lib.hid (Nat.le_trans hbw hal2.size)
  have HFEW : Hid (st.length + 1 ≤ 1000000) := Lib.hid (by omega)
  have HWS := Lib.hid (hal2.block sb dl)
  have HWB := Lib.hid hal2.drew
  have HBW := Lib.hid hbw
  have HHS := Lib.hid (show sb < base from hs.lt)
  clear hp hs hb hown hal hal2
  go_enter Tryz.func53, Tryz.ntmps53
  go_wp2_with fail
  go_region_law (refine step_push_f rfl (.tmp 8) (.tmp 11) rfl ((w.alloc (.cells #[.int .i64 op, vs name, .int .i64 cm, .int .i64 m, .slice none 0 0] 25 (0, 0))).alloc (.cells #[.int .i64 op, vs name, .int .i64 cm, .int .i64 m, .slice none 0 0, .int .i64 1] 117 (0, 0))) rfl base (.slice A st.length cap) st (w.heap.size + 1) [.int .i64 op, vs name, .int .i64 cm, .int .i64 m, .slice none 0 0, .int .i64 1] (.mk op name cm m [], 1) rfl rfl HO2.out HC2.out HR2.out HFEW.out HB2.out ?_; intro v' w' ho hg; obtain ⟨A', cap', hv'⟩ := ho.form; subst hv'; have HHO := Lib.hid ho; have HHG := Lib.hid hg; have c1' := store_cell HX.out HHS.out HOB.out hg HWS.out; obtain ⟨c2', f2', l2'⟩ := c1'; clear ho hg)
  all_goals
    go_end0
    have hq := SK.pushed HS.out HP.out HBW.out HWB.out HOB.out HHO.out HHG.out (by simp; omega) (dep_snoc HS.out.dep (by decide))
    simp only [List.length_append, List.length_cons, List.length_nil, Nat.zero_add] at hq
    exact ⟨rfl, hq⟩
set_option maxRecDepth 20000 in
set_option maxHeartbeats 2000000 in
theorem push_s (op : Nat) (name : List UInt8) (cm m : Nat) (sb p base fj fin : Nat) (ts l : List Tok) (st : Stack) (w : World) (hp : PS w p fin ts l) (hs : SK false w sb p base fj st) (hf : st.length < 200) (hbw : base ≤ w.heap.size) :
    Calls Tryz.prog 64 #[.pointer (some ⟨sb, 0, none⟩), .agg #[.int .i64 op, vs name, .int .i64 m, .slice none 0 0]] w fun e w' => e = .returned (.tuple #[]) ∧ SK false w' sb p base fj (st ++ [(.mk op name cm m [], 1)]) ∧ PS w' p fin ts l ∧ EffS p sb base w w' := by
  have HS := Lib.hid hs
  have HP := Lib.hid hp
  obtain ⟨v, hb, hown⟩ := hs.is
  obtain ⟨A, cap, rfl⟩ := hown.form
  have HOWN := Lib.hid hown
  have HOB := Lib.hid (fun b hb => (hown.own b hb).1)
  have HX : Hid (w.heap[sb]? = some (.cells #[.pointer (some ⟨p, 0, none⟩), .slice A st.length cap, .func (.func fj) #[] #[]] (sE false) (0, 0))) := Lib.hid hb
  have hal : Below w.heap.size w (w.alloc (.cells #[.int .i64 op, vs name, .int .i64 m, .slice none 0 0] 29 (0, 0))) := (Below.refl _ _).alloc (Nat.le_refl _) _
  have c1 := cell_of_blk (o := 1) hb rfl
  have dl := lt_of_heap' hb
  have dl1 : sb < w.heap.size + 1 := Nat.lt_succ_of_lt dl
  have dl2 : sb < w.heap.size + 1 + 1 := Nat.lt_succ_of_lt dl1
  have hal2 : Below w.heap.size w ((w.alloc (.cells #[.int .i64 op, vs name, .int .i64 m, .slice none 0 0] 29 (0, 0))).alloc (.cells #[.int .i64 op, vs name, .int .i64 m, .slice none 0 0, .int .i64 1] 119 (0, 0))) := hal.alloc hal.size _
  have HO2 : Hid (OwnE false ((w.alloc (.cells #[.int .i64 op, vs name, .int .i64 m, .slice none 0 0] 29 (0, 0))).alloc (.cells #[.int .i64 op, vs name, .int .i64 m, .slice none 0 0, .int .i64 1] 119 (0, 0))) base (.slice A st.length cap) st) := Lib.hid (hown.keep hal2.size (fun b _ hlt => hal2.block b hlt))
  have HC2 : Hid (∀ (j : Nat) u, ([.int .i64 op, vs name, .int .i64 m, .slice none 0 0, .int .i64 1] : List Value)[j]? = some u → ((w.alloc (.cells #[.int .i64 op, vs name, .int .i64 m, .slice none 0 0] 29 (0, 0))).alloc (.cells #[.int .i64 op, vs name, .int .i64 m, .slice none 0 0, .int .i64 1] 119 (0, 0))).cell? ⟨w.heap.size + 1, 0 + j, none⟩ = some u) := Lib.hid (fun j u hu => by
    rw [Nat.zero_add]
    exact cell_of_blk (alloc_at (by simp)) (by simpa using hu))
  have HR2 : Hid (RdE false (fun b => base ≤ b ∧ (Value.slice A st.length cap).ownBlock ≠ some b) ((w.alloc (.cells #[.int .i64 op, vs name, .int .i64 m, .slice none 0 0] 29 (0, 0))).alloc (.cells #[.int .i64 op, vs name, .int .i64 m, .slice none 0 0, .int .i64 1] 119 (0, 0))) [.int .i64 op, vs name, .int .i64 m, .slice none 0 0, .int .i64 1] (.mk op name cm m [], 1)) := Lib.hid ⟨tcs false op name cm m (.slice none 0 0), rfl, RdTree.leaf _ _ _ _ _ _⟩
  have HB2 : Hid (base ≤ ((w.alloc (.cells #[.int .i64 op, vs name, .int .i64 m, .slice none 0 0] 29 (0, 0))).alloc (.cells #[.int .i64 op, vs name, .int .i64 m, .slice none 0 0, .int .i64 1] 119 (0, 0))).heap.size) := Lib.hid (Nat.le_trans hbw hal2.size)
  have HFEW : Hid (st.length + 1 ≤ 1000000) := Lib.hid (by omega)
  have HWS := Lib.hid (hal2.block sb dl)
  have HWB := Lib.hid hal2.drew
  have HBW := Lib.hid hbw
  have HHS := Lib.hid (show sb < base from hs.lt)
  clear hp hs hb hown hal hal2
  go_enter Tryz.func64, Tryz.ntmps64
  go_wp2_with fail
  go_region_law (refine step_push_s rfl (.tmp 8) (.tmp 11) rfl ((w.alloc (.cells #[.int .i64 op, vs name, .int .i64 m, .slice none 0 0] 29 (0, 0))).alloc (.cells #[.int .i64 op, vs name, .int .i64 m, .slice none 0 0, .int .i64 1] 119 (0, 0))) rfl base (.slice A st.length cap) st (w.heap.size + 1) [.int .i64 op, vs name, .int .i64 m, .slice none 0 0, .int .i64 1] (.mk op name cm m [], 1) rfl rfl HO2.out HC2.out HR2.out HFEW.out HB2.out ?_; intro v' w' ho hg; obtain ⟨A', cap', hv'⟩ := ho.form; subst hv'; have HHO := Lib.hid ho; have HHG := Lib.hid hg; have c1' := store_cell HX.out HHS.out HOB.out hg HWS.out; obtain ⟨c2', f2', l2'⟩ := c1'; clear ho hg)
  all_goals
    go_end0
    have hq := SK.pushed HS.out HP.out HBW.out HWB.out HOB.out HHO.out HHG.out (by simp; omega) (dep_snoc HS.out.dep (by decide))
    simp only [List.length_append, List.length_cons, List.length_nil, Nat.zero_add] at hq
    exact ⟨rfl, hq⟩
end Go.Proofs.YtcekampdldkjlaaGreatDoor
