/- patch.change: number, gone. -/
import Derived.Test.YtfolcjkednmkoaaGreatInsertA
set_option linter.unusedVariables false
set_option linter.unusedSimpArgs false
set_option maxRecDepth 20000
set_option maxHeartbeats 1000000
namespace Go.Proofs.YtfolcjkednmkoaaGreat
open Go.RowKit

theorem number_any (l : List Item) (A : Option Addr) (c : Nat) (p : Patch) (k : Nat) (x : Item) (w : World) (hr : RdI w A l) (hl : l.length ≤ 1000000) (hx : l[k]? = some x) :
 Does 47 l A c p k w (l.set k { x with num := p.num }, 0) := by
 unfold Does
 have hk : k < l.length := (List.getElem?_eq_some_iff.1 hx).1
 have hb0 := ((Below.refl w.heap.size w).alloc (Nat.le_refl _) (.cells #[.slice A l.length c, .int .i64 p.kind, vs p.id, vs p.par, vs p.aft, vs p.num, .int .i64 p.item.kind, vs p.item.id, vs p.item.par, vs p.item.num, vs p.item.no, vs p.item.so, .bool p.item.gone, .int .i64 p.lang, vs p.fr, vs p.to, .int .i64 k] 70)).alloc (by simp) (.cells #[.slice none 0 0] 24)
 have HR := Lib.hid hr
 obtain ⟨b, o, rfl, hbs, c0, c1, c2, c3, c4, c5, c6⟩ := hr.item hx
 have hbs1 : b < w.heap.size + 1 := by omega
 have hbs2 : b < w.heap.size + 1 + 1 := by omega
 clear hr hx
 have HB0 := Lib.hid hb0; clear hb0
 go_enter Tryz.func47, Tryz.ntmps47
 go_wp2_with fail
 refine (with_any l _ c p k { x with num := p.num } _ ((HR.out.below HB0.out).below ((Below.refl _ _).alloc (Nat.le_refl _) _)) hl hk).mono ?_
 rintro e w2 ⟨v, rfl, ⟨A', c', rfl, hr2, hlc', hA'⟩, hb2⟩
 obtain ⟨hc, hf⟩ := bcell hb2
 have HB2 := Lib.hid hb2; clear hb2
 go_wp2_with fail
 refine bodyPost_ret (v := .tuple #[.agg #[.slice A' (l.set k { x with num := p.num }).length c'], .int .i64 0]) (by simp [results, Tryz.results47, go_sem, hc, hf]) rfl ⟨_, rfl, ⟨A', c', rfl, Sl.keep hr2 (by simp) (fun b o hA _ => Below.heap_setCell _ _ _ _ ?_), hlc', fun b o hA => ?_⟩, ?_⟩
 · have h1 := hA' b o hA
   simp at h1 ⊢
   omega
 · have h1 := hA' b o hA
   simp at h1
   omega
 · refine Below.setCell ((HB0.out.alloc (by simp; omega) _).trans (HB2.out.mono (by simp; omega))) ?_ _
   simp

theorem gone_any (l : List Item) (A : Option Addr) (c : Nat) (p : Patch) (k : Nat) (x : Item) (w : World) (hr : RdI w A l) (hl : l.length ≤ 1000000) (hx : l[k]? = some x) :
 Does 49 l A c p k w (l.set k { x with gone := p.kind == 5 }, 0) := by
 unfold Does
 have hk : k < l.length := (List.getElem?_eq_some_iff.1 hx).1
 have hb0 := ((Below.refl w.heap.size w).alloc (Nat.le_refl _) (.cells #[.slice A l.length c, .int .i64 p.kind, vs p.id, vs p.par, vs p.aft, vs p.num, .int .i64 p.item.kind, vs p.item.id, vs p.item.par, vs p.item.num, vs p.item.no, vs p.item.so, .bool p.item.gone, .int .i64 p.lang, vs p.fr, vs p.to, .int .i64 k] 70)).alloc (by simp) (.cells #[.slice none 0 0] 24)
 have HR := Lib.hid hr
 obtain ⟨b, o, rfl, hbs, c0, c1, c2, c3, c4, c5, c6⟩ := hr.item hx
 have hbs1 : b < w.heap.size + 1 := by omega
 have hbs2 : b < w.heap.size + 1 + 1 := by omega
 clear hr hx
 have HB0 := Lib.hid hb0; clear hb0
 go_enter Tryz.func49, Tryz.ntmps49
 go_wp2_with fail
 refine (with_any l _ c p k { x with gone := p.kind == 5 } _ ((HR.out.below HB0.out).below ((Below.refl _ _).alloc (Nat.le_refl _) _)) hl hk).mono ?_
 rintro e w2 ⟨v, rfl, ⟨A', c', rfl, hr2, hlc', hA'⟩, hb2⟩
 obtain ⟨hc, hf⟩ := bcell hb2
 have HB2 := Lib.hid hb2; clear hb2
 go_wp2_with fail
 refine bodyPost_ret (v := .tuple #[.agg #[.slice A' (l.set k { x with gone := p.kind == 5 }).length c'], .int .i64 0]) (by simp [results, Tryz.results49, go_sem, hc, hf]) rfl ⟨_, rfl, ⟨A', c', rfl, Sl.keep hr2 (by simp) (fun b o hA _ => Below.heap_setCell _ _ _ _ ?_), hlc', fun b o hA => ?_⟩, ?_⟩
 · have h1 := hA' b o hA
   simp at h1 ⊢
   omega
 · have h1 := hA' b o hA
   simp at h1
   omega
 · refine Below.setCell ((HB0.out.alloc (by simp; omega) _).trans (HB2.out.mono (by simp; omega))) ?_ _
   simp
end Go.Proofs.YtfolcjkednmkoaaGreat
