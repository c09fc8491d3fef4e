/- patch.change: replace. -/
import Derived.Test.YtfolcjkednmkoaaGreatNumber
import Derived.Deep.RegionHeld3
set_option linter.unusedVariables false
set_option linter.unusedSimpArgs false
set_option maxRecDepth 20000
set_option maxHeartbeats 1000000
namespace Go.Proofs.YtfolcjkednmkoaaGreat
open Go.RowKit
def replaceF (l : List Item) (p : Patch) (k : Nat) (x : Item) : List Item × Int :=
 if 400 < p.item.no.length ∨ 400 < p.item.so.length then ([], 2) else (l.set k { x with no := p.item.no, so := p.item.so }, 0)

theorem replace_1 (l : List Item) (A : Option Addr) (c : Nat) (p : Patch) (k : Nat) (x : Item) (w : World) (hr : RdI w A l) (hl : l.length ≤ 1000000) (hx : l[k]? = some x) (h1 : p.item.no.length ≤ 400) (h2 : p.item.so.length ≤ 400) :
 Does 50 l A c p k w (l.set k { x with no := p.item.no, so := p.item.so }, 0) := by
 unfold Does
 have hk : k < l.length := (List.getElem?_eq_some_iff.1 hx).1
 have hb0 := ((Below.refl w.heap.size w).alloc (Nat.le_refl _) (.cells #[.slice A l.length c, .int .i64 p.kind, vs p.id, vs p.par, vs p.aft, vs p.num, .int .i64 p.item.kind, vs p.item.id, vs p.item.par, vs p.item.num, vs p.item.no, vs p.item.so, .bool p.item.gone, .int .i64 p.lang, vs p.fr, vs p.to, .int .i64 k] 70)).alloc (by simp) (.cells #[.slice none 0 0] 24)
 have HR := Lib.hid hr
 obtain ⟨b, o, rfl, hbs, c0, c1, c2, c3, c4, c5, c6⟩ := hr.item hx
 have hbs1 : b < w.heap.size + 1 := by omega
 have hbs2 : b < w.heap.size + 1 + 1 := by omega
 clear hr hx
 have HB0 := Lib.hid hb0; clear hb0
 have hd1 : decide ((400 : Int) < p.item.no.length) = false := by simp; omega
 have hd2 : decide ((400 : Int) < p.item.so.length) = false := by simp; omega
 go_enter Tryz.func50, Tryz.ntmps50
 go_wp2_with fail
 go_region
 go_wp2_with fail
 refine (with_any l _ c p k { x with no := p.item.no, so := p.item.so } _ ((HR.out.below HB0.out).below ((Below.refl _ _).alloc (Nat.le_refl _) _).drew) hl hk).mono ?_
 rintro e w2 ⟨v, rfl, ⟨A', c', rfl, hr2, hlc', hA'⟩, hb2⟩
 obtain ⟨hc, hf⟩ := bcell hb2
 have HB2 := Lib.hid hb2; clear hb2
 go_wp2_with fail
 refine bodyPost_ret (v := .tuple #[.agg #[.slice A' (l.set k { x with no := p.item.no, so := p.item.so }).length c'], .int .i64 0]) (by simp [results, Tryz.results50, go_sem, hc, hf]) rfl ⟨_, rfl, ⟨A', c', rfl, Sl.keep hr2 (by simp) (fun b o hA _ => Below.heap_setCell _ _ _ _ ?_), hlc', fun b o hA => ?_⟩, ?_⟩
 · have h1 := hA' b o hA
   simp at h1 ⊢
   omega
 · have h1 := hA' b o hA
   simp at h1
   omega
 · refine Below.setCell ((HB0.out.alloc (by simp; omega) _).drew.trans (HB2.out.mono (by simp; omega))) ?_ _
   simp

theorem replace_2 (l : List Item) (A : Option Addr) (c : Nat) (p : Patch) (k : Nat) (x : Item) (w : World) (hr : RdI w A l) (hl : l.length ≤ 1000000) (hx : l[k]? = some x) (h1 : 400 < p.item.no.length) :
 Does 50 l A c p k w ([], 2) := by
 unfold Does
 have hk : k < l.length := (List.getElem?_eq_some_iff.1 hx).1
 have hb0 := ((Below.refl w.heap.size w).alloc (Nat.le_refl _) (.cells #[.slice A l.length c, .int .i64 p.kind, vs p.id, vs p.par, vs p.aft, vs p.num, .int .i64 p.item.kind, vs p.item.id, vs p.item.par, vs p.item.num, vs p.item.no, vs p.item.so, .bool p.item.gone, .int .i64 p.lang, vs p.fr, vs p.to, .int .i64 k] 70)).alloc (by simp) (.cells #[.slice none 0 0] 24)
 have HR := Lib.hid hr
 obtain ⟨b, o, rfl, hbs, c0, c1, c2, c3, c4, c5, c6⟩ := hr.item hx
 have hbs1 : b < w.heap.size + 1 := by omega
 have hbs2 : b < w.heap.size + 1 + 1 := by omega
 clear hr hx
 have HB0 := Lib.hid hb0; clear hb0
 have hd1 : decide ((400 : Int) < p.item.no.length) = true := by simp; omega
 go_enter Tryz.func50, Tryz.ntmps50
 go_wp2_with fail
 go_region
 go_wp2_with fail
 refine bodyPost_ret (v := .tuple #[.agg #[.slice none 0 0], .int .i64 2]) (by simp [results, Tryz.results50, go_sem]) rfl ⟨_, rfl, ResC.nil _ _ _, ?_⟩
 exact (HB0.out.alloc (by simp; omega) _).drew

theorem replace_3 (l : List Item) (A : Option Addr) (c : Nat) (p : Patch) (k : Nat) (x : Item) (w : World) (hr : RdI w A l) (hl : l.length ≤ 1000000) (hx : l[k]? = some x) (h1 : p.item.no.length ≤ 400) (h2 : 400 < p.item.so.length) :
 Does 50 l A c p k w ([], 2) := by
 unfold Does
 have hk : k < l.length := (List.getElem?_eq_some_iff.1 hx).1
 have hb0 := ((Below.refl w.heap.size w).alloc (Nat.le_refl _) (.cells #[.slice A l.length c, .int .i64 p.kind, vs p.id, vs p.par, vs p.aft, vs p.num, .int .i64 p.item.kind, vs p.item.id, vs p.item.par, vs p.item.num, vs p.item.no, vs p.item.so, .bool p.item.gone, .int .i64 p.lang, vs p.fr, vs p.to, .int .i64 k] 70)).alloc (by simp) (.cells #[.slice none 0 0] 24)
 have HR := Lib.hid hr
 obtain ⟨b, o, rfl, hbs, c0, c1, c2, c3, c4, c5, c6⟩ := hr.item hx
 have hbs1 : b < w.heap.size + 1 := by omega
 have hbs2 : b < w.heap.size + 1 + 1 := by omega
 clear hr hx
 have HB0 := Lib.hid hb0; clear hb0
 have hd1 : decide ((400 : Int) < p.item.no.length) = false := by simp; omega
 have hd2 : decide ((400 : Int) < p.item.so.length) = true := by simp; omega
 go_enter Tryz.func50, Tryz.ntmps50
 go_wp2_with fail
 go_region
 go_wp2_with fail
 refine bodyPost_ret (v := .tuple #[.agg #[.slice none 0 0], .int .i64 2]) (by simp [results, Tryz.results50, go_sem]) rfl ⟨_, rfl, ResC.nil _ _ _, ?_⟩
 exact (HB0.out.alloc (by simp; omega) _).drew
theorem replace_any (l : List Item) (A : Option Addr) (c : Nat) (p : Patch) (k : Nat) (x : Item) (w : World) (hr : RdI w A l) (hl : l.length ≤ 1000000) (hx : l[k]? = some x) :
 Does 50 l A c p k w (replaceF l p k x) := by
 unfold replaceF
 by_cases h1 : 400 < p.item.no.length
 · rw [if_pos (Or.inl h1)]
   exact replace_2 l A c p k x w hr hl hx h1
 · by_cases h2 : 400 < p.item.so.length
   · rw [if_pos (Or.inr h2)]
     exact replace_3 l A c p k x w hr hl hx (by omega) h2
   · rw [if_neg (by omega)]
     exact replace_1 l A c p k x w hr hl hx (by omega) (by omega)
end Go.Proofs.YtfolcjkednmkoaaGreat
