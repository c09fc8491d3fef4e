/- The laws' helper ids. -/
import Derived.Test.YtkdcenbommhnoaaSame
set_option linter.unusedVariables false
set_option linter.unusedSimpArgs false
namespace Go.Proofs.Ytkdcenbommhnoaa
open Go.RowKit
def idsL (l : List Item) : List Str := l.map (·.id)
theorem idsL_snoc {l : List Item} {k : Nat} {x : Item} (h : l[k]? = some x) : idsL (l.take (k + 1)) = idsL (l.take k) ++ [x.id] := by
  obtain ⟨hk, rfl⟩ := List.getElem?_eq_some_iff.1 h
  unfold idsL
  rw [List.take_succ_eq_append_getElem hk, List.map_append]
  rfl
set_option maxRecDepth 20000 in
set_option maxHeartbeats 1000000 in
theorem ids_any (l : List Item) (A : Option Addr) (c : Nat) (w : World) (hr : RdI w A l) (hl : l.length ≤ 1000000) :
    Calls Try.prog 18 #[.agg #[.slice A l.length c]] w fun e w' => ∃ O cc, e = .returned (.slice O (idsL l).length cc) ∧ RdS w' O (idsL l) ∧ (∀ b f, O = some ⟨b, f, none⟩ → w.heap.size ≤ b) ∧ Below w.heap.size w w' := by
  have HR := Lib.hid hr; clear hr
  obtain ⟨i0, hi0, hz0, hz1, hz2⟩ := info_parts info9
  have Hi0 := Lib.hid hi0; clear hi0
  have Hz0 := Lib.hid hz0; clear hz0
  have Hz1 := Lib.hid hz1; clear hz1
  have Hz2 := Lib.hid hz2; clear hz2
  have hb0 := (Below.refl w.heap.size w).alloc (Nat.le_refl _) (.cells #[.slice A l.length c] 24)
  have HB0 := Lib.hid hb0; clear hb0
  go_enter Try.func18, Try.ntmps18
  go_wp2_with fail
  go_loopw [3, 4] (fun v i wr => ∃ k : Nat, k ≤ l.length ∧ i = .int .i64 k ∧ wr.ownsRow (w.heap.size + 1) 9 1 v k ((idsL (l.take k)).map vs) ∧ Below (w.heap.size + 1) (w.alloc (.cells #[.slice A l.length c] 24)) wr) (fun _ i _ => l.length - (intOf i).toNat)
  case atStart => exact ⟨0, Nat.zero_le _, rfl, World.ownsRow_nil _ _ _ _, Below.refl _ _⟩
  case round =>
    obtain ⟨k, hk, rfl, hown, hb⟩ := hrel
    have hsz := hb.size
    simp at hsz
    have z1 : w.heap.size < wr.heap.size := by omega
    have hb1 : Below (w.alloc (.cells #[.slice A l.length c] 24)).heap.size (w.alloc (.cells #[.slice A l.length c] 24)) wr := by simpa using hb
    obtain ⟨hc, hf⟩ := bcell hb1
    by_cases hlt : k < l.length
    · obtain ⟨x, hx⟩ := get_of_lt hlt
      have hi1 : (k : Int) < l.length := by omega
      have hi0 : (0 : Int) ≤ k := by omega
      obtain ⟨b1, o1, rfl, hbs1, c0, c1, c2, c3, c4, c5, c6⟩ := ((HR.out.below HB0.out).below hb1).item hx
      have HX := Lib.hid hx; clear hx
      have HB := Lib.hid hb; clear hb hb1
      have HOWN := Lib.hid hown; clear hown
      go_wp2_with (at_builtin; refine wpList_append_own _ rfl (.tmp 12) (.tmp 19) _ rfl (w.heap.size + 1) 9 i0 (.string ⟨#[]⟩) 1 16 Try.underlying38 Hi0.out Hz0.out Hz1.out Hz2.out rfl (by decide) u3 k ((idsL (l.take k)).map vs) rfl (HOWN.out.alloc _) ⟨wr.heap.size, 0, none⟩ 1 1 [vs x.id] rfl rfl (World.news_of_block (cs := #[vs x.id]) (t := 9) (fr := (0, 0)) (heap_alloc_new wr _)) one_cell (le_maxLen (by omega)) (by omega) (by simp; omega) ?_; intro v' w1 hown1 hgr _)
      refine ⟨⟨k + 1, by omega, by go_num, ?_, ?_⟩, by simp [intOf]; omega⟩
      · rw [idsL_snoc HX.out, List.map_append]; exact hown1
      · exact (HB.out.alloc (by omega) _).grown hgr (by simp; omega) (fun b hb => (own_ge HOWN.out b hb).1)
    · have : k = l.length := by omega
      subst this
      have HB := Lib.hid hb; clear hb hb1
      have HOWN := Lib.hid hown; clear hown
      go_wp2_with fail
      go_ret
      rw [List.take_of_length_le (Nat.le_refl _)] at HOWN
      obtain ⟨O, cc, hvv, hrd, hge⟩ := own_slice HOWN.out
      have e : (idsL l).length = l.length := by simp [idsL]
      rw [e]
      exact ⟨O, cc, by rw [← hvv]; rfl, hrd, fun b f hA => by have := hge b f hA; omega, HB0.out.trans (HB.out.mono (by omega))⟩
end Go.Proofs.Ytkdcenbommhnoaa
