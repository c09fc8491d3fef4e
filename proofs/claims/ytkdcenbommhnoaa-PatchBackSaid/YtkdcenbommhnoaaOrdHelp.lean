/- Helpers of the law PatchOrder. -/
import Derived.Test.YtkdcenbommhnoaaCommon
import Derived.Test.YtkdcenbommhnoaaBelow
import Derived.Test.YtkdcenbommhnoaaIds
import Derived.Test.YtkdcenbommhnoaaAppS
import Derived.Test.YtkdcenbommhnoaaNames
import Derived.Test.YtkdcenbommhnoaaLaw
set_option linter.unusedVariables false
set_option linter.unusedSimpArgs false
namespace Go.Proofs.Ytkdcenbommhnoaa
open Go.RowKit
theorem keepc {wp wn : World} {b o : Nat} {v : Value} (hb : Below wp.heap.size wp wn) (h : wp.cell? ⟨b, o, none⟩ = some v) : wn.cell? ⟨b, o, none⟩ = some v := (hb.cell (p := ⟨b, o, none⟩) (World.block_lt_of_cell? _ _ h)).trans h
theorem keepb {wp wn : World} {b : Nat} (hb : Below wp.heap.size wp wn) (h : b < wp.heap.size) : b < wn.heap.size := Nat.lt_of_lt_of_le h hb.size
theorem po_A {W4 w5 w6 : World} {o : Obj} (hb5 : Below (W4.drew.alloc o).heap.size (W4.drew.alloc o) w5) (hgr : w5.grownBy w6 (some W4.heap.size)) : Below W4.heap.size W4 w6 := by
  have hz := hb5.size
  simp at hz
  exact ((((Below.refl W4.heap.size W4).drew.alloc (Nat.le_refl _) o).trans (hb5.mono (by simp)))).grown hgr (by omega) (fun k hk => by cases hk; exact Nat.le_refl _)
theorem po_B {W4 w5 w6 : World} {o : Obj} (hb5 : Below W4.drew.heap.size W4.drew w5) (hgr : (w5.alloc o).grownBy w6 (some w5.heap.size)) : Below W4.heap.size W4 w6 := by
  have hz := hb5.size
  simp at hz
  exact (((Below.refl W4.heap.size W4).drew.trans (hb5.mono (by simp))).alloc (by omega) o).grown hgr (by simp; omega) (fun k hk => by cases hk; omega)
theorem ids_lit {l : List Item} {M : List Str} (hM : idsL l = M) (A : Option Addr) (n c : Nat) (w : World) (hn : n = l.length) (hr : RdI w A l) (hl : l.length ≤ 1000000) :
    Calls Try.prog 18 #[.agg #[.slice A n c]] w fun e w' => ∃ O cc, e = .returned (.slice O M.length cc) ∧ RdS w' O M ∧ Below w.heap.size w w' := by
  subst hn hM
  refine (ids_any l A c w hr hl).mono ?_
  rintro e w' ⟨O, cc, h1, h2, -, h4⟩
  exact ⟨O, cc, h1, h2, h4⟩
theorem names_same {l m : List Str} (h : l = m) (A B : Option Addr) (c d n k : Nat) (hn : n = l.length) (hk : k = m.length) (w : World) (hr : RdS w A l) (hs : RdS w B m) (hl : l.length ≤ maxLen) (hm : m.length ≤ maxLen) :
    Calls Try.prog 17 #[.slice A n c, .slice B k d] w fun e w' => e = .returned (.bool true) ∧ Below w.heap.size w w' := by
  subst hn hk h
  refine (names_any l l A B c d w hr hs hl hm).mono ?_
  rintro e w' ⟨rfl, h⟩
  exact ⟨by simp, h⟩
theorem lastSib_succ {d : List Item} {k : Nat} {x : Item} {par : Str} (h : d[k]? = some x) : lastSib (d.take (k + 1)) par = if x.par == par then x.id else lastSib (d.take k) par := by
  obtain ⟨hk, rfl⟩ := List.getElem?_eq_some_iff.1 h
  unfold lastSib
  rw [List.take_succ_eq_append_getElem hk, List.foldl_append]
  rfl
def restL (M : List Str) (l : List Item) (k : Nat) : List Str := ((l.take k).filter fun x => !hasS M x.id).map (·.id)
theorem restL_in {M : List Str} {l : List Item} {k : Nat} {x : Item} (h : l[k]? = some x) (hi : hasS M x.id = true) : restL M l (k + 1) = restL M l k := by
  obtain ⟨hk, rfl⟩ := List.getElem?_eq_some_iff.1 h
  unfold restL
  rw [List.take_succ_eq_append_getElem hk, List.filter_append]
  simp [hi]
theorem restL_out {M : List Str} {l : List Item} {k : Nat} {x : Item} (h : l[k]? = some x) (hi : hasS M x.id = false) : restL M l (k + 1) = restL M l k ++ [x.id] := by
  obtain ⟨hk, rfl⟩ := List.getElem?_eq_some_iff.1 h
  unfold restL
  rw [List.take_succ_eq_append_getElem hk, List.filter_append]
  simp [hi]
theorem restL_le (M : List Str) (l : List Item) (k : Nat) : (restL M l k).length ≤ l.length := by
  unfold restL
  rw [List.length_map]
  exact Nat.le_trans (List.length_filter_le _ _) (by rw [List.length_take]; omega)
def keptL (a b : Nat) (d : List Item) (k : Nat) : List Str := ((d.take k).take a ++ (d.take k).drop b).map (·.id)
theorem take_take_lt {α : Type} (d : List α) {k a : Nat} (h : a ≤ k) : (d.take k).take a = d.take a := by rw [List.take_take, Nat.min_eq_left h]
theorem keptL_lo {a b : Nat} {d : List Item} {k : Nat} {x : Item} (h : d[k]? = some x) (hk : k < a) (hab : a ≤ b) : keptL a b d (k + 1) = keptL a b d k ++ [x.id] := by
  obtain ⟨hk2, rfl⟩ := List.getElem?_eq_some_iff.1 h
  unfold keptL
  have e1 : (d.take (k + 1)).drop b = [] := List.drop_of_length_le (by rw [List.length_take]; omega)
  have e2 : (d.take k).drop b = [] := List.drop_of_length_le (by rw [List.length_take]; omega)
  have e3 : (d.take (k + 1)).take a = d.take (k + 1) := List.take_of_length_le (by rw [List.length_take]; omega)
  have e4 : (d.take k).take a = d.take k := List.take_of_length_le (by rw [List.length_take]; omega)
  rw [e1, e2, e3, e4, List.take_succ_eq_append_getElem hk2, List.append_nil, List.append_nil, List.map_append]
  rfl
theorem keptL_mid {a b : Nat} {d : List Item} {k : Nat} (h1 : a ≤ k) (h2 : k < b) : keptL a b d (k + 1) = keptL a b d k := by
  unfold keptL
  rw [List.drop_of_length_le (by rw [List.length_take]; omega), List.drop_of_length_le (by rw [List.length_take]; omega), take_take_lt d (by omega), take_take_lt d h1]
theorem keptL_hi {a b : Nat} {d : List Item} {k : Nat} {x : Item} (h : d[k]? = some x) (hab : a ≤ b) (hk : b ≤ k) : keptL a b d (k + 1) = keptL a b d k ++ [x.id] := by
  obtain ⟨hk2, rfl⟩ := List.getElem?_eq_some_iff.1 h
  unfold keptL
  rw [take_take_lt d (by omega), take_take_lt d (by omega), List.take_succ_eq_append_getElem hk2, List.drop_append_of_le_length (by rw [List.length_take]; omega)]
  simp
theorem keptL_le (a b : Nat) (d : List Item) (k : Nat) : (keptL a b d k).length ≤ 2 * d.length := by
  unfold keptL
  simp only [List.length_map, List.length_append, List.length_take, List.length_drop]
  omega
theorem RdI.take {w : World} {A : Option Addr} {l : List Item} (h : RdI w A l) (n : Nat) : RdI w A (l.take n) := by
  intro hne
  obtain ⟨b, o, hA, hlt, hc⟩ := h (by rintro rfl; simp at hne)
  refine ⟨b, o, hA, hlt, fun k x hx j v hv => hc k x ?_ j v hv⟩
  rw [List.getElem?_take] at hx
  split at hx
  · exact hx
  · cases hx
theorem restL_all (M : List Str) (l : List Item) : restL M l l.length = (l.filter fun x => !hasS M x.id).map (·.id) := by unfold restL; rw [List.take_of_length_le (Nat.le_refl _)]
theorem keptL_all (a b : Nat) (d : List Item) : keptL a b d d.length = (d.take a ++ d.drop b).map (·.id) := by unfold keptL; rw [List.take_of_length_le (Nat.le_refl _)]
end Go.Proofs.Ytkdcenbommhnoaa
