/- patch.change: words. -/
import Derived.Test.YtfolcjkednmkoaaGreatReplace
set_option linter.unusedVariables false
set_option linter.unusedSimpArgs false
set_option maxRecDepth 20000
set_option maxHeartbeats 1000000
namespace Go.Proofs.YtfolcjkednmkoaaGreat
open Go.RowKit
@[go_sem] theorem run_pair0 (a b : Value) (W : World) : (Instr.index 99 (.agg #[a, b]) (.int .i64 0)).run Tryz.prog W = .ok a W := by kernel_rfl
@[go_sem] theorem run_pair1 (a b : Value) (W : World) : (Instr.index 99 (.agg #[a, b]) (.int .i64 1)).run Tryz.prog W = .ok b W := by kernel_rfl
def swap (t fr to : Str) (i : Nat) : Str := t.take i ++ to ++ t.drop (i + fr.length)
theorem swap_bytes (t fr to : Str) (i : Nat) : (⟨t.toArray⟩ : ByteArray).extract 0 i ++ ⟨to.toArray⟩ ++ (⟨t.toArray⟩ : ByteArray).extract (i + fr.length) t.length = ⟨(swap t fr to i).toArray⟩ := by
 apply ByteArray.ext
 simp [ByteArray.data_append, ByteArray.data_extract, swap]
 exact List.take_of_length_le (by simp)
theorem Below.drewN' {B : Nat} {a w : World} (n : Nat) (h : Below B a w) : Below B a (w.drewN n) := ⟨h.os, h.tape, h.output, h.size, h.block⟩

theorem words_a_no (l : List Item) (A : Option Addr) (c : Nat) (p : Patch) (k : Nat) (x : Item) (w : World) (hr : RdI w A l) (hl : l.length ≤ 1000000) (hx : l[k]? = some x) (m : Int) (hg : w.cell? ⟨0, 0, none⟩ = some (.int .i64 m)) (hlang : p.lang - 1 = 0) (htl : x.no.length ≤ 1000000) (htt : p.to.length ≤ 1000000) (hon : onceIs x.no p.fr = false) :
 Does 46 l A c p k w ([], 15) := by
 unfold Does
 have hk : k < l.length := (List.getElem?_eq_some_iff.1 hx).1
 have hb0 := ((Below.refl w.heap.size w).alloc (Nat.le_refl _) (.cells #[.slice A l.length c, .int .i64 p.kind, vs p.id, vs p.par, vs p.aft, vs p.num, .int .i64 p.item.kind, vs p.item.id, vs p.item.par, vs p.item.num, vs p.item.no, vs p.item.so, .bool p.item.gone, .int .i64 p.lang, vs p.fr, vs p.to, .int .i64 k] 70)).alloc (by simp) (.cells #[.slice none 0 0] 24)
 have HR := Lib.hid hr
 obtain ⟨b, o, rfl, hbs, c0, c1, c2, c3, c4, c5, c6⟩ := hr.item hx
 have hbs1 : b < w.heap.size + 1 := by omega
 have hbs2 : b < w.heap.size + 1 + 1 := by omega
 clear hr hx
 have HB0 := Lib.hid hb0; clear hb0
 have h0 : 0 < w.heap.size := World.block_lt_of_cell? w _ hg
 have HG := Lib.hid hg; clear hg
 have HLA := Lib.hid hlang; clear hlang
 have HON := Lib.hid hon; clear hon
 have HO := fun W h => Lib.hid (once_any x.no p.fr m W htl h)
 go_enter Tryz.func46, Tryz.ntmps46
 have hla := HLA.out
 go_wp2_with fail
 go_quiet ((exact (HO _ (by simp [go_sem, HG.out, h0])).out.mono (fun e w' h => ⟨h.1, _, h.2⟩)))
 rw [HON.out]
 go_wp2_with fail
 refine bodyPost_ret (v := .tuple #[.agg #[.slice none 0 0], .int .i64 15]) (by simp [results, Tryz.results46, go_sem]) rfl ⟨_, rfl, ResC.nil _ _ _, ?_⟩
 refine Below.setCell (Below.drewN' _ (HB0.out.alloc (by simp; omega) _)) ?_ _
 simp

theorem words_b_no (l : List Item) (A : Option Addr) (c : Nat) (p : Patch) (k : Nat) (x : Item) (w : World) (hr : RdI w A l) (hl : l.length ≤ 1000000) (hx : l[k]? = some x) (m : Int) (hg : w.cell? ⟨0, 0, none⟩ = some (.int .i64 m)) (hlang : p.lang - 1 = 0) (htl : x.no.length ≤ 1000000) (htt : p.to.length ≤ 1000000) (hon : onceIs x.no p.fr = true) (i : Nat) (hi : onceAt x.no p.fr = i) (hil : i + p.fr.length ≤ x.no.length) (N : Str) (hN : N = swap x.no p.fr p.to i) (hlen : 400 < N.length) :
 Does 46 l A c p k w ([], 2) := by
 unfold Does
 have hk : k < l.length := (List.getElem?_eq_some_iff.1 hx).1
 have hb0 := ((Below.refl w.heap.size w).alloc (Nat.le_refl _) (.cells #[.slice A l.length c, .int .i64 p.kind, vs p.id, vs p.par, vs p.aft, vs p.num, .int .i64 p.item.kind, vs p.item.id, vs p.item.par, vs p.item.num, vs p.item.no, vs p.item.so, .bool p.item.gone, .int .i64 p.lang, vs p.fr, vs p.to, .int .i64 k] 70)).alloc (by simp) (.cells #[.slice none 0 0] 24)
 have HR := Lib.hid hr
 obtain ⟨b, o, rfl, hbs, c0, c1, c2, c3, c4, c5, c6⟩ := hr.item hx
 have hbs1 : b < w.heap.size + 1 := by omega
 have hbs2 : b < w.heap.size + 1 + 1 := by omega
 clear hr hx
 have HB0 := Lib.hid hb0; clear hb0
 have h0 : 0 < w.heap.size := World.block_lt_of_cell? w _ hg
 have HG := Lib.hid hg; clear hg
 have HLA := Lib.hid hlang; clear hlang
 have HON := Lib.hid hon; clear hon
 have HII := Lib.hid hi; clear hi
 have HN := Lib.hid hN; clear hN
 have HO := fun W h => Lib.hid (once_any x.no p.fr m W htl h)
 go_enter Tryz.func46, Tryz.ntmps46
 have hla := HLA.out
 go_wp2_with fail
 go_quiet ((exact (HO _ (by simp [go_sem, HG.out, h0])).out.mono (fun e w' h => ⟨h.1, _, h.2⟩)))
 have hd : decide ((400 : Int) < N.length) = true := by simp; omega
 rw [HON.out, HII.out]
 have hi0 : (0 : Int) ≤ i := by omega
 have hi1 : (i : Int) ≤ x.no.length := by omega
 have hi2 : (i : Int) + p.fr.length ≤ x.no.length := by omega
 have hi3 : (0 : Int) ≤ (i : Int) + p.fr.length := by omega
 have hi4 : (x.no.length : Int) ≤ 1000000 := by omega
 go_wp2_with fail
 go_region
 rw [swap_bytes, ← HN.out]
 go_wp2_with fail
 refine bodyPost_ret (v := .tuple #[.agg #[.slice none 0 0], .int .i64 2]) (by simp [results, Tryz.results46, go_sem]) rfl ⟨_, rfl, ResC.nil _ _ _, ?_⟩
 refine Below.setCell (Below.setCell (Below.drewN' _ (HB0.out.alloc (by simp; omega) _)) ?_ _) ?_ _
 · simp; omega
 · simp

theorem words_c_no (l : List Item) (A : Option Addr) (c : Nat) (p : Patch) (k : Nat) (x : Item) (w : World) (hr : RdI w A l) (hl : l.length ≤ 1000000) (hx : l[k]? = some x) (m : Int) (hg : w.cell? ⟨0, 0, none⟩ = some (.int .i64 m)) (hlang : p.lang - 1 = 0) (htl : x.no.length ≤ 1000000) (htt : p.to.length ≤ 1000000) (hon : onceIs x.no p.fr = true) (i : Nat) (hi : onceAt x.no p.fr = i) (hil : i + p.fr.length ≤ x.no.length) (N : Str) (hN : N = swap x.no p.fr p.to i) (hlen : N.length ≤ 400) :
 Does 46 l A c p k w (l.set k { x with no := N }, 0) := by
 unfold Does
 have hk : k < l.length := (List.getElem?_eq_some_iff.1 hx).1
 have hb0 := ((Below.refl w.heap.size w).alloc (Nat.le_refl _) (.cells #[.slice A l.length c, .int .i64 p.kind, vs p.id, vs p.par, vs p.aft, vs p.num, .int .i64 p.item.kind, vs p.item.id, vs p.item.par, vs p.item.num, vs p.item.no, vs p.item.so, .bool p.item.gone, .int .i64 p.lang, vs p.fr, vs p.to, .int .i64 k] 70)).alloc (by simp) (.cells #[.slice none 0 0] 24)
 have HR := Lib.hid hr
 obtain ⟨b, o, rfl, hbs, c0, c1, c2, c3, c4, c5, c6⟩ := hr.item hx
 have hbs1 : b < w.heap.size + 1 := by omega
 have hbs2 : b < w.heap.size + 1 + 1 := by omega
 clear hr hx
 have HB0 := Lib.hid hb0; clear hb0
 have h0 : 0 < w.heap.size := World.block_lt_of_cell? w _ hg
 have HG := Lib.hid hg; clear hg
 have HLA := Lib.hid hlang; clear hlang
 have HON := Lib.hid hon; clear hon
 have HII := Lib.hid hi; clear hi
 have HN := Lib.hid hN; clear hN
 have HO := fun W h => Lib.hid (once_any x.no p.fr m W htl h)
 go_enter Tryz.func46, Tryz.ntmps46
 have hla := HLA.out
 go_wp2_with fail
 go_quiet ((exact (HO _ (by simp [go_sem, HG.out, h0])).out.mono (fun e w' h => ⟨h.1, _, h.2⟩)))
 have hd : decide ((400 : Int) < N.length) = false := by simp; omega
 rw [HON.out, HII.out]
 have hi0 : (0 : Int) ≤ i := by omega
 have hi1 : (i : Int) ≤ x.no.length := by omega
 have hi2 : (i : Int) + p.fr.length ≤ x.no.length := by omega
 have hi3 : (0 : Int) ≤ (i : Int) + p.fr.length := by omega
 have hi4 : (x.no.length : Int) ≤ 1000000 := by omega
 go_wp2_with fail
 go_region
 rw [swap_bytes, ← HN.out]
 go_wp2_with fail
 refine (with_any l _ c p k { x with no := N } _ ((HR.out.below HB0.out).below (Below.setCell (p := ⟨w.heap.size + 1 + 1, 4, none⟩) (Below.drewN' _ ((Below.refl _ _).alloc (Nat.le_refl _) _)) (by simp) _)) hl hk).mono ?_
 rintro e w2 ⟨v, rfl, ⟨A', c', rfl, hr2, hlc', hA'⟩, hb2⟩
 obtain ⟨hc, hf⟩ := bcell hb2
 have HB2 := Lib.hid hb2; clear hb2
 go_wp2_with fail
 refine bodyPost_ret (v := .tuple #[.agg #[.slice A' (l.set k { x with no := N }).length c'], .int .i64 0]) (by simp [results, Tryz.results46, go_sem, hc, hf]) rfl ⟨_, rfl, ⟨A', c', rfl, Sl.keep hr2 (by simp) (fun b o hA _ => Below.heap_setCell _ _ _ _ ?_), hlc', fun b o hA => ?_⟩, ?_⟩
 · have h1 := hA' b o hA
   simp at h1 ⊢
   omega
 · have h1 := hA' b o hA
   simp at h1
   omega
 · refine Below.setCell ((Below.setCell (p := ⟨w.heap.size + 1 + 1, 4, none⟩) (Below.drewN' _ (HB0.out.alloc (by simp; omega) _)) (by simp; omega) _).trans (HB2.out.mono (by simp; omega))) ?_ _
   simp

theorem words_a_so (l : List Item) (A : Option Addr) (c : Nat) (p : Patch) (k : Nat) (x : Item) (w : World) (hr : RdI w A l) (hl : l.length ≤ 1000000) (hx : l[k]? = some x) (m : Int) (hg : w.cell? ⟨0, 0, none⟩ = some (.int .i64 m)) (hlang : p.lang - 1 = 1) (htl : x.so.length ≤ 1000000) (htt : p.to.length ≤ 1000000) (hon : onceIs x.so p.fr = false) :
 Does 46 l A c p k w ([], 15) := by
 unfold Does
 have hk : k < l.length := (List.getElem?_eq_some_iff.1 hx).1
 have hb0 := ((Below.refl w.heap.size w).alloc (Nat.le_refl _) (.cells #[.slice A l.length c, .int .i64 p.kind, vs p.id, vs p.par, vs p.aft, vs p.num, .int .i64 p.item.kind, vs p.item.id, vs p.item.par, vs p.item.num, vs p.item.no, vs p.item.so, .bool p.item.gone, .int .i64 p.lang, vs p.fr, vs p.to, .int .i64 k] 70)).alloc (by simp) (.cells #[.slice none 0 0] 24)
 have HR := Lib.hid hr
 obtain ⟨b, o, rfl, hbs, c0, c1, c2, c3, c4, c5, c6⟩ := hr.item hx
 have hbs1 : b < w.heap.size + 1 := by omega
 have hbs2 : b < w.heap.size + 1 + 1 := by omega
 clear hr hx
 have HB0 := Lib.hid hb0; clear hb0
 have h0 : 0 < w.heap.size := World.block_lt_of_cell? w _ hg
 have HG := Lib.hid hg; clear hg
 have HLA := Lib.hid hlang; clear hlang
 have HON := Lib.hid hon; clear hon
 have HO := fun W h => Lib.hid (once_any x.so p.fr m W htl h)
 go_enter Tryz.func46, Tryz.ntmps46
 have hla := HLA.out
 go_wp2_with fail
 go_quiet ((exact (HO _ (by simp [go_sem, HG.out, h0])).out.mono (fun e w' h => ⟨h.1, _, h.2⟩)))
 rw [HON.out]
 go_wp2_with fail
 refine bodyPost_ret (v := .tuple #[.agg #[.slice none 0 0], .int .i64 15]) (by simp [results, Tryz.results46, go_sem]) rfl ⟨_, rfl, ResC.nil _ _ _, ?_⟩
 refine Below.setCell (Below.drewN' _ (HB0.out.alloc (by simp; omega) _)) ?_ _
 simp

theorem words_b_so (l : List Item) (A : Option Addr) (c : Nat) (p : Patch) (k : Nat) (x : Item) (w : World) (hr : RdI w A l) (hl : l.length ≤ 1000000) (hx : l[k]? = some x) (m : Int) (hg : w.cell? ⟨0, 0, none⟩ = some (.int .i64 m)) (hlang : p.lang - 1 = 1) (htl : x.so.length ≤ 1000000) (htt : p.to.length ≤ 1000000) (hon : onceIs x.so p.fr = true) (i : Nat) (hi : onceAt x.so p.fr = i) (hil : i + p.fr.length ≤ x.so.length) (N : Str) (hN : N = swap x.so p.fr p.to i) (hlen : 400 < N.length) :
 Does 46 l A c p k w ([], 2) := by
 unfold Does
 have hk : k < l.length := (List.getElem?_eq_some_iff.1 hx).1
 have hb0 := ((Below.refl w.heap.size w).alloc (Nat.le_refl _) (.cells #[.slice A l.length c, .int .i64 p.kind, vs p.id, vs p.par, vs p.aft, vs p.num, .int .i64 p.item.kind, vs p.item.id, vs p.item.par, vs p.item.num, vs p.item.no, vs p.item.so, .bool p.item.gone, .int .i64 p.lang, vs p.fr, vs p.to, .int .i64 k] 70)).alloc (by simp) (.cells #[.slice none 0 0] 24)
 have HR := Lib.hid hr
 obtain ⟨b, o, rfl, hbs, c0, c1, c2, c3, c4, c5, c6⟩ := hr.item hx
 have hbs1 : b < w.heap.size + 1 := by omega
 have hbs2 : b < w.heap.size + 1 + 1 := by omega
 clear hr hx
 have HB0 := Lib.hid hb0; clear hb0
 have h0 : 0 < w.heap.size := World.block_lt_of_cell? w _ hg
 have HG := Lib.hid hg; clear hg
 have HLA := Lib.hid hlang; clear hlang
 have HON := Lib.hid hon; clear hon
 have HII := Lib.hid hi; clear hi
 have HN := Lib.hid hN; clear hN
 have HO := fun W h => Lib.hid (once_any x.so p.fr m W htl h)
 go_enter Tryz.func46, Tryz.ntmps46
 have hla := HLA.out
 go_wp2_with fail
 go_quiet ((exact (HO _ (by simp [go_sem, HG.out, h0])).out.mono (fun e w' h => ⟨h.1, _, h.2⟩)))
 have hd : decide ((400 : Int) < N.length) = true := by simp; omega
 rw [HON.out, HII.out]
 have hi0 : (0 : Int) ≤ i := by omega
 have hi1 : (i : Int) ≤ x.so.length := by omega
 have hi2 : (i : Int) + p.fr.length ≤ x.so.length := by omega
 have hi3 : (0 : Int) ≤ (i : Int) + p.fr.length := by omega
 have hi4 : (x.so.length : Int) ≤ 1000000 := by omega
 go_wp2_with fail
 go_region
 rw [swap_bytes, ← HN.out]
 go_wp2_with fail
 refine bodyPost_ret (v := .tuple #[.agg #[.slice none 0 0], .int .i64 2]) (by simp [results, Tryz.results46, go_sem]) rfl ⟨_, rfl, ResC.nil _ _ _, ?_⟩
 refine Below.setCell (Below.setCell (Below.drewN' _ (HB0.out.alloc (by simp; omega) _)) ?_ _) ?_ _
 · simp; omega
 · simp

theorem words_c_so (l : List Item) (A : Option Addr) (c : Nat) (p : Patch) (k : Nat) (x : Item) (w : World) (hr : RdI w A l) (hl : l.length ≤ 1000000) (hx : l[k]? = some x) (m : Int) (hg : w.cell? ⟨0, 0, none⟩ = some (.int .i64 m)) (hlang : p.lang - 1 = 1) (htl : x.so.length ≤ 1000000) (htt : p.to.length ≤ 1000000) (hon : onceIs x.so p.fr = true) (i : Nat) (hi : onceAt x.so p.fr = i) (hil : i + p.fr.length ≤ x.so.length) (N : Str) (hN : N = swap x.so p.fr p.to i) (hlen : N.length ≤ 400) :
 Does 46 l A c p k w (l.set k { x with so := N }, 0) := by
 unfold Does
 have hk : k < l.length := (List.getElem?_eq_some_iff.1 hx).1
 have hb0 := ((Below.refl w.heap.size w).alloc (Nat.le_refl _) (.cells #[.slice A l.length c, .int .i64 p.kind, vs p.id, vs p.par, vs p.aft, vs p.num, .int .i64 p.item.kind, vs p.item.id, vs p.item.par, vs p.item.num, vs p.item.no, vs p.item.so, .bool p.item.gone, .int .i64 p.lang, vs p.fr, vs p.to, .int .i64 k] 70)).alloc (by simp) (.cells #[.slice none 0 0] 24)
 have HR := Lib.hid hr
 obtain ⟨b, o, rfl, hbs, c0, c1, c2, c3, c4, c5, c6⟩ := hr.item hx
 have hbs1 : b < w.heap.size + 1 := by omega
 have hbs2 : b < w.heap.size + 1 + 1 := by omega
 clear hr hx
 have HB0 := Lib.hid hb0; clear hb0
 have h0 : 0 < w.heap.size := World.block_lt_of_cell? w _ hg
 have HG := Lib.hid hg; clear hg
 have HLA := Lib.hid hlang; clear hlang
 have HON := Lib.hid hon; clear hon
 have HII := Lib.hid hi; clear hi
 have HN := Lib.hid hN; clear hN
 have HO := fun W h => Lib.hid (once_any x.so p.fr m W htl h)
 go_enter Tryz.func46, Tryz.ntmps46
 have hla := HLA.out
 go_wp2_with fail
 go_quiet ((exact (HO _ (by simp [go_sem, HG.out, h0])).out.mono (fun e w' h => ⟨h.1, _, h.2⟩)))
 have hd : decide ((400 : Int) < N.length) = false := by simp; omega
 rw [HON.out, HII.out]
 have hi0 : (0 : Int) ≤ i := by omega
 have hi1 : (i : Int) ≤ x.so.length := by omega
 have hi2 : (i : Int) + p.fr.length ≤ x.so.length := by omega
 have hi3 : (0 : Int) ≤ (i : Int) + p.fr.length := by omega
 have hi4 : (x.so.length : Int) ≤ 1000000 := by omega
 go_wp2_with fail
 go_region
 rw [swap_bytes, ← HN.out]
 go_wp2_with fail
 refine (with_any l _ c p k { x with so := N } _ ((HR.out.below HB0.out).below (Below.setCell (p := ⟨w.heap.size + 1 + 1, 5, none⟩) (Below.drewN' _ ((Below.refl _ _).alloc (Nat.le_refl _) _)) (by simp) _)) hl hk).mono ?_
 rintro e w2 ⟨v, rfl, ⟨A', c', rfl, hr2, hlc', hA'⟩, hb2⟩
 obtain ⟨hc, hf⟩ := bcell hb2
 have HB2 := Lib.hid hb2; clear hb2
 go_wp2_with fail
 refine bodyPost_ret (v := .tuple #[.agg #[.slice A' (l.set k { x with so := N }).length c'], .int .i64 0]) (by simp [results, Tryz.results46, go_sem, hc, hf]) rfl ⟨_, rfl, ⟨A', c', rfl, Sl.keep hr2 (by simp) (fun b o hA _ => Below.heap_setCell _ _ _ _ ?_), hlc', fun b o hA => ?_⟩, ?_⟩
 · have h1 := hA' b o hA
   simp at h1 ⊢
   omega
 · have h1 := hA' b o hA
   simp at h1
   omega
 · refine Below.setCell ((Below.setCell (p := ⟨w.heap.size + 1 + 1, 5, none⟩) (Below.drewN' _ (HB0.out.alloc (by simp; omega) _)) (by simp; omega) _).trans (HB2.out.mono (by simp; omega))) ?_ _
   simp
end Go.Proofs.YtfolcjkednmkoaaGreat
