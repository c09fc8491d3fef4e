/- patch.Invert. -/
import Derived.Test.YtkdcenbommhnoaaCommon
import Derived.Test.YtkdcenbommhnoaaLaw
import Derived.Laws.ResultCell
set_option linter.unusedVariables false
set_option linter.unusedSimpArgs false
namespace Go.Proofs.Ytkdcenbommhnoaa
open Go.RowKit
theorem size28 : (Try.prog.info? 28).map (·.size) = some 15 := by kernel_rfl
theorem patCs_one (q : Patch) : ∀ v ∈ (patCs q).toList, v.oneCell' = true := by
  intro v hv
  simp at hv
  rcases hv with rfl | rfl | rfl | rfl | rfl | rfl | rfl | rfl | rfl | rfl | rfl | rfl | rfl | rfl | rfl <;> rfl
theorem wpList_store_pat {ops : Array Oper} {rest : List Oper} {op : Oper} {a : Act} {w : World} {Q : Exit → Act → World → Prop} (hgd : op.guard = none) (x y : Operand) (ho : op.op = .store 28 x y)
    (g : Nat) (q cur : Patch) (hx : a.eval x = .pointer (some ⟨g, 0, none⟩)) (hy : a.eval y = .agg (patCs q)) (hg : w.blk g = some (.cells (patCs cur) 28 (0, 0)))
    (h : wpList Try.prog ops Q rest (a.put op.dst undef) (w.setRow g (patCs q))) : wpList Try.prog ops Q (op :: rest) a w := by
  refine wpList_store_row hgd 28 x y ho g 0 (patCs q).toList (patCs cur).toList 28 hx hy hg (by simp) size28 (patCs_one q) ?_
  simpa using h
theorem blk_setCell_at {w : World} {b k : Nat} {v : Value} {C : Array Value} {t : TypeId} {fr : Nat × Nat} (h : w.blk b = some (.cells C t fr)) : (w.setCell ⟨b, k, none⟩ v).blk b = some (.cells (C.setIfInBounds k v) t fr) := by
  unfold World.blk at h ⊢
  simp [World.setCell, Array.getElem?_modify, h]
theorem blk_setRow_at {w : World} {b : Nat} {C D : Array Value} {t : TypeId} {fr : Nat × Nat} (h : w.blk b = some (.cells C t fr)) : (w.setRow b D).blk b = some (.cells D t fr) := setRow_heap _ _ _ _ _ _ h
def Inverts (l : List Item) (A : Option Addr) (c : Nat) (p : Patch) (w : World) : Prop :=
  Calls Try.prog 22 #[.agg #[.slice A l.length c], p.agg] w fun e w' => e = .returned (.tuple #[(invertF l p).1.agg, .int .i64 (invertF l p).2]) ∧ Below w.heap.size w w'
set_option maxRecDepth 20000 in
set_option maxHeartbeats 4000000 in
theorem inv_err (l : List Item) (A : Option Addr) (c : Nat) (p : Patch) (w : World) (hr : RdI w A l) (hl : l.length ≤ 100000) (hlc : l.length ≤ c) (hsh : ∀ x ∈ l, x.Short) (hps : p.item.Short) (hpn : p.num.length ≤ maxLen)
    (m : Int) (hg : w.cell? ⟨0, 0, none⟩ = some (.int .i64 m)) (htt : p.to.length ≤ 1000000) (he : (applyF l p).2 ≠ 0) : Inverts l A c p w := by
  have hd := apply_err he
  obtain ⟨er, her⟩ : ∃ er, (applyF l p).2 = er := ⟨_, rfl⟩
  have h0e : (er != 0) = true := by rw [← her]; simpa using he
  have hi : invertF l p = (zeroP, er) := by unfold invertF; rw [if_neg he, her]
  unfold Inverts
  rw [hi]
  clear hi he
  have hb0 := (((Below.refl w.heap.size w).alloc (Nat.le_refl _) (.cells #[.slice A l.length c] 24)).alloc (by simp) (.cells (patCs p) 28)).alloc (by simp; omega) (.cells (patCs zeroP) 28)
  have HB0 := Lib.hid hb0; clear hb0
  have HR := Lib.hid hr; clear hr
  have HG := Lib.hid hg; clear hg
  have HD := Lib.hid hd; clear hd
  have HE := Lib.hid her; clear her
  go_enter Try.func22, Try.ntmps22
  go_wp2_with fail
  have hap := apply_any l A c p _ (HR.out.below HB0.out) (by omega) hlc hsh hps hpn m (step_cell HB0.out HG.out) htt
  unfold Applies at hap
  rw [HD.out, HE.out] at hap
  refine hap.mono ?_
  rintro e w4 ⟨v, rfl, ⟨A', c', rfl, hr', hlc', hA'⟩, hb2⟩
  clear hap
  obtain ⟨hc, hf⟩ := bcell hb2
  have hblk := bblk hb2
  simp at hc hf hblk
  have hz4 := hb2.size
  simp at hz4
  have HB4 := Lib.hid hb2; clear hb2
  have hX : (w4.alloc (.cells #[.slice A' 0 c'] 24)).blk (w.heap.size + 1 + 1) = some (.cells (patCs zeroP) 28 (0, 0)) := (blk_alloc_lt (by omega)).trans ((hblk _ (by omega)).trans (by simp [go_sem]))
  have hrow := blk_setRow_at (D := patCs zeroP) hX
  have HX := Lib.hid hX
  have HROW := Lib.hid hrow
  clear hX hrow hblk
  go_wp2_with (refine wpList_store_pat rfl (.tmp 4) (.tmp 24) rfl (w.heap.size + 1 + 1) zeroP zeroP rfl rfl HX.out ?_)
  refine bodyPost_ret (v := .tuple #[zeroP.agg, .int .i64 er]) (by rw [results_cell_tmp Try.results22]; simp [go_sem, HROW.out]) rfl ⟨rfl, ?_⟩
  exact below_setRow (HB0.out.trans ((HB4.out.alloc HB4.out.size _).mono HB0.out.size)) (by omega) _
end Go.Proofs.Ytkdcenbommhnoaa
