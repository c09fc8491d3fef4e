/- Provisions in their boxes. -/
import Derived.Test.YtcekampdldkjlaaDoorSPlain
import Derived.Test.YtcekampdldkjlaaDoorSNmR
import Derived.Test.YtcekampdldkjlaaDoorNGrew
set_option linter.unusedVariables false
set_option linter.unusedSimpArgs false
namespace Go.Proofs.YtcekampdldkjlaaDoor
open Go.RowKit
theorem parse_eq (l : List UInt8) (s : ByteArray) (w : World) (m : Int) (hm : w.cell? ⟨2, 0, none⟩ = some (.int .i64 m)) (hs : s.data.toList = l) :
    Calls Tryd.prog 10 #[.string s] w fun e w' => Below w.heap.size w w' ∧ ∃ cs : List Value, e = .returned (.tuple #[.agg cs.toArray, .int .i64 (outE l), .int .i64 (outA l)]) ∧ RdProv w.heap.size w' cs (outP l) := by
  have : s = ⟨l.toArray⟩ := ByteArray.ext (by rw [← hs, Array.toArray_toList])
  subst this
  exact parse_out l w m hm
def Prv (W : World) (b : Nat) (P : Prov) : Prop := ∃ cs : List Value, W.heap[b]? = some (.cells cs.toArray 35 (0, 0)) ∧ RdProv 0 W cs P
theorem Prv.below {W W' : World} {b : Nat} {P : Prov} (h : Prv W b P) (hb : Below W.heap.size W W') : Prv W' b P := by
  obtain ⟨cs, h1, h2⟩ := h
  exact ⟨cs, (hb.block _ (lt_of_heap' h1)).trans h1, h2.below (n := 0) hb⟩
theorem prv_new {base : Nat} {w : World} {cs : List Value} {P : Prov} (h : RdProv base w cs P) : Prv (w.alloc (.cells cs.toArray 35 (0, 0))) w.heap.size P :=
  ⟨cs, heap_alloc_new w _, h.below (n := 0) ((Below.refl _ _).alloc (Nat.le_refl _) _)⟩
theorem Prv.cond {W : World} {b : Nat} {P : Prov} (h : Prv W b P) {o : Nat} {n : List UInt8} {d k : Nat} {ks : List Tree} (ht : P.cond = .mk o n d k ks) : ∃ K q, (W.cell? ⟨b, 5, none⟩ = some (.int .i64 (o : Nat)) ∧ W.cell? ⟨b, 6, none⟩ = some (vs n) ∧ W.cell? ⟨b, 7, none⟩ = some (.int .i64 (d : Nat)) ∧ W.cell? ⟨b, 8, none⟩ = some (.int .i64 (k : Nat)) ∧ W.cell? ⟨b, 9, none⟩ = some (.slice K ks.length q)) ∧ b < W.heap.size ∧ RdTree true (fun _ => True) W (tcs true o n d k (.slice K ks.length q)) (.mk o n d k ks) := by
  obtain ⟨cs, hb, cc, A, cap, cb, cf, ca, rfl, -, h1, -, h2, h3, h4⟩ := h
  have hl := lt_of_heap' hb
  obtain ⟨id, rank, kind, name, value, cond, exc, beg, fin, aga⟩ := P
  simp only at *
  subst ht
  obtain ⟨oB, nB, dB, mB, ksB⟩ := beg
  obtain ⟨oD, nD, dD, mD, ksD⟩ := fin
  obtain ⟨oG, nG, dG, mG, ksG⟩ := aga
  have k1 := h1
  have k2 := h2
  have k3 := h3
  have k4 := h4
  obtain ⟨KC, qC, rfl, -, -⟩ := k1
  obtain ⟨KB, qB, rfl, -, -⟩ := k2
  obtain ⟨KD, qD, rfl, -, -⟩ := k3
  obtain ⟨KG, qG, rfl, -, -⟩ := k4
  exact ⟨_, _, ⟨cell_of_blk (o := 5) hb rfl, cell_of_blk (o := 6) hb rfl, cell_of_blk (o := 7) hb rfl, cell_of_blk (o := 8) hb rfl, cell_of_blk (o := 9) hb rfl⟩, hl, h1.keep (Nat.le_refl _) (fun _ _ _ => ⟨trivial, rfl⟩)⟩
theorem Prv.beg {W : World} {b : Nat} {P : Prov} (h : Prv W b P) {o : Nat} {n : List UInt8} {d k : Nat} {ks : List Tree} (ht : P.beg = .mk o n d k ks) : ∃ K q, (W.cell? ⟨b, 11, none⟩ = some (.int .i64 (o : Nat)) ∧ W.cell? ⟨b, 12, none⟩ = some (vs n) ∧ W.cell? ⟨b, 13, none⟩ = some (.int .i64 (k : Nat)) ∧ W.cell? ⟨b, 14, none⟩ = some (.slice K ks.length q)) ∧ b < W.heap.size ∧ RdTree false (fun _ => True) W (tcs false o n d k (.slice K ks.length q)) (.mk o n d k ks) := by
  obtain ⟨cs, hb, cc, A, cap, cb, cf, ca, rfl, -, h1, -, h2, h3, h4⟩ := h
  have hl := lt_of_heap' hb
  obtain ⟨id, rank, kind, name, value, cond, exc, beg, fin, aga⟩ := P
  simp only at *
  subst ht
  obtain ⟨oC, nC, dC, mC, ksC⟩ := cond
  obtain ⟨oD, nD, dD, mD, ksD⟩ := fin
  obtain ⟨oG, nG, dG, mG, ksG⟩ := aga
  have k1 := h1
  have k2 := h2
  have k3 := h3
  have k4 := h4
  obtain ⟨KC, qC, rfl, -, -⟩ := k1
  obtain ⟨KB, qB, rfl, -, -⟩ := k2
  obtain ⟨KD, qD, rfl, -, -⟩ := k3
  obtain ⟨KG, qG, rfl, -, -⟩ := k4
  exact ⟨_, _, ⟨cell_of_blk (o := 11) hb rfl, cell_of_blk (o := 12) hb rfl, cell_of_blk (o := 13) hb rfl, cell_of_blk (o := 14) hb rfl⟩, hl, h2.keep (Nat.le_refl _) (fun _ _ _ => ⟨trivial, rfl⟩)⟩
theorem Prv.fin {W : World} {b : Nat} {P : Prov} (h : Prv W b P) {o : Nat} {n : List UInt8} {d k : Nat} {ks : List Tree} (ht : P.fin = .mk o n d k ks) : ∃ K q, (W.cell? ⟨b, 15, none⟩ = some (.int .i64 (o : Nat)) ∧ W.cell? ⟨b, 16, none⟩ = some (vs n) ∧ W.cell? ⟨b, 17, none⟩ = some (.int .i64 (k : Nat)) ∧ W.cell? ⟨b, 18, none⟩ = some (.slice K ks.length q)) ∧ b < W.heap.size ∧ RdTree false (fun _ => True) W (tcs false o n d k (.slice K ks.length q)) (.mk o n d k ks) := by
  obtain ⟨cs, hb, cc, A, cap, cb, cf, ca, rfl, -, h1, -, h2, h3, h4⟩ := h
  have hl := lt_of_heap' hb
  obtain ⟨id, rank, kind, name, value, cond, exc, beg, fin, aga⟩ := P
  simp only at *
  subst ht
  obtain ⟨oC, nC, dC, mC, ksC⟩ := cond
  obtain ⟨oB, nB, dB, mB, ksB⟩ := beg
  obtain ⟨oG, nG, dG, mG, ksG⟩ := aga
  have k1 := h1
  have k2 := h2
  have k3 := h3
  have k4 := h4
  obtain ⟨KC, qC, rfl, -, -⟩ := k1
  obtain ⟨KB, qB, rfl, -, -⟩ := k2
  obtain ⟨KD, qD, rfl, -, -⟩ := k3
  obtain ⟨KG, qG, rfl, -, -⟩ := k4
  exact ⟨_, _, ⟨cell_of_blk (o := 15) hb rfl, cell_of_blk (o := 16) hb rfl, cell_of_blk (o := 17) hb rfl, cell_of_blk (o := 18) hb rfl⟩, hl, h3.keep (Nat.le_refl _) (fun _ _ _ => ⟨trivial, rfl⟩)⟩
theorem Prv.aga {W : World} {b : Nat} {P : Prov} (h : Prv W b P) {o : Nat} {n : List UInt8} {d k : Nat} {ks : List Tree} (ht : P.aga = .mk o n d k ks) : ∃ K q, (W.cell? ⟨b, 19, none⟩ = some (.int .i64 (o : Nat)) ∧ W.cell? ⟨b, 20, none⟩ = some (vs n) ∧ W.cell? ⟨b, 21, none⟩ = some (.int .i64 (k : Nat)) ∧ W.cell? ⟨b, 22, none⟩ = some (.slice K ks.length q)) ∧ b < W.heap.size ∧ RdTree false (fun _ => True) W (tcs false o n d k (.slice K ks.length q)) (.mk o n d k ks) := by
  obtain ⟨cs, hb, cc, A, cap, cb, cf, ca, rfl, -, h1, -, h2, h3, h4⟩ := h
  have hl := lt_of_heap' hb
  obtain ⟨id, rank, kind, name, value, cond, exc, beg, fin, aga⟩ := P
  simp only at *
  subst ht
  obtain ⟨oC, nC, dC, mC, ksC⟩ := cond
  obtain ⟨oB, nB, dB, mB, ksB⟩ := beg
  obtain ⟨oD, nD, dD, mD, ksD⟩ := fin
  have k1 := h1
  have k2 := h2
  have k3 := h3
  have k4 := h4
  obtain ⟨KC, qC, rfl, -, -⟩ := k1
  obtain ⟨KB, qB, rfl, -, -⟩ := k2
  obtain ⟨KD, qD, rfl, -, -⟩ := k3
  obtain ⟨KG, qG, rfl, -, -⟩ := k4
  exact ⟨_, _, ⟨cell_of_blk (o := 19) hb rfl, cell_of_blk (o := 20) hb rfl, cell_of_blk (o := 21) hb rfl, cell_of_blk (o := 22) hb rfl⟩, hl, h4.keep (Nat.le_refl _) (fun _ _ _ => ⟨trivial, rfl⟩)⟩
theorem Prv.exc {W : World} {b : Nat} {P : Prov} (h : Prv W b P) : ∃ A cap, W.cell? ⟨b, 10, none⟩ = some (.slice A P.exc.length cap) ∧ b < W.heap.size ∧ P.exc.length ≤ cap ∧ RdEx 0 A P.exc W := by
  obtain ⟨cs, hb, cc, A, cap, cb, cf, ca, rfl, hcap, h1, hx, h2, h3, h4⟩ := h
  have hl := lt_of_heap' hb
  obtain ⟨id, rank, kind, name, value, cond, exc, beg, fin, aga⟩ := P
  simp only at *
  obtain ⟨oC, nC, dC, mC, ksC⟩ := cond
  obtain ⟨KC, qC, rfl, -, -⟩ := h1
  exact ⟨_, _, cell_of_blk (o := 10) hb rfl, hl, hcap, hx⟩
theorem two_rd {Y : World} {b : Nat} {csa csb : List Value} {ta tb : Tree} {ty : TypeId} (h : Y.heap[b]? = some (.cells (csa ++ csb).toArray ty (0, 0))) (ha : RdTree true (fun _ => True) Y csa ta) (hb : RdTree true (fun _ => True) Y csb tb) : RdKids true (fun _ => True) Y b 0 [ta, tb] := by
  refine kids_of_row (css := [csa, csb]) rfl (fun i c t h1 h2 => ?_) (fun j v hv => ?_)
  · cases i with
    | zero => simp at h1 h2; subst h1 h2; exact ha
    | succ i => cases i with
      | zero => simp at h1 h2; subst h1 h2; exact hb
      | succ i => simp at h1
  · rw [Nat.zero_add]; exact cell_of_blk h (by simpa using hv)
theorem one_rd {Y : World} {b : Nat} {csa : List Value} {ta : Tree} {ty : TypeId} (h : Y.heap[b]? = some (.cells csa.toArray ty (0, 0))) (ha : RdTree true (fun _ => True) Y csa ta) : RdKids true (fun _ => True) Y b 0 [ta] := by
  refine kids_of_row (css := [csa]) rfl (fun i c t h1 h2 => ?_) (fun j v hv => ?_)
  · cases i with
    | zero => simp at h1 h2; subst h1 h2; exact ha
    | succ i => simp at h1
  · rw [Nat.zero_add]; exact cell_of_blk h (by simpa using hv)
theorem made_rd {W : World} {b n op : Nat} {ks : List Tree} (hn : n = ks.length) (hb : b < W.heap.size) (hk : RdKids true (fun _ => True) W b 0 ks) : RdTree true (fun _ => True) W (tcs true op [] 0 0 (.slice (some ⟨b, 0, none⟩) n n)) (.mk op [] 0 0 ks) := by
  subst hn
  exact ⟨_, _, rfl, Nat.le_refl _, .inr ⟨b, 0, rfl, trivial, hb, hk⟩⟩
theorem RdTree.down {fm : Bool} {W W' : World} {cs : List Value} {t : Tree} (h : RdTree fm (fun _ => True) W cs t) (hb : Below W.heap.size W W') : RdTree fm (fun _ => True) W' cs t := h.keep hb.size (fun k _ hk => ⟨trivial, hb.block k hk⟩)
end Go.Proofs.YtcekampdldkjlaaDoor
