/- Pairs that clash, one after another: plain words. Two pairs of stamps compared: one law. -/
import Derived.Test.YtecnlfaholmpoaaGreatJC39
import Derived.Test.YtecnlfaholmpoaaGreatJC40
import Derived.ChangeKeysEq
set_option linter.unusedVariables false
set_option linter.unusedSimpArgs false
namespace Go.Proofs.YtecnlfaholmpoaaGreat
abbrev idP (x : Clause × Clause) : Stamp × Stamp := (x.1.id, x.2.id)
theorem pairs_mem : ∀ {O : List Clause} {x : Clause × Clause}, x ∈ pairsL O → x.1 ∈ O ∧ x.2 ∈ O
 | [], x, h => by simp [pairsL] at h
 | a :: r, x, h => by
   rw [pairsL, List.mem_append] at h
   rcases h with h | h
   · obtain ⟨y, hy, rfl⟩ := List.mem_map.1 h
     exact ⟨by simp, by simp [hy]⟩
   · obtain ⟨h1, h2⟩ := pairs_mem h
     exact ⟨by simp [h1], by simp [h2]⟩
theorem pairs_nodup : ∀ {O : List Clause}, (O.map (·.id)).Nodup → ((pairsL O).map idP).Nodup
 | [], _ => by simp [pairsL]
 | a :: r, h => by
   rw [List.map_cons, List.nodup_cons] at h
   rw [pairsL, List.map_append, List.nodup_append]
   refine ⟨?_, pairs_nodup h.2, ?_⟩
   · rw [List.map_map]
     have e : (idP ∘ fun c => (a, c)) = (fun s => (a.id, s)) ∘ fun c : Clause => c.id := rfl
     rw [e, ← List.map_map]
     have hn := h.2
     unfold List.Nodup at hn ⊢
     rw [List.pairwise_map]
     exact hn.imp (fun {p q} hpq he => hpq (by simpa using he))
   · intro p hp q hq he
     subst he
     rw [List.map_map] at hp
     obtain ⟨y, hy, e1⟩ := List.mem_map.1 hp
     obtain ⟨z, hz, e2⟩ := List.mem_map.1 hq
     have e3 : a.id = z.1.id := by
      have := congrArg Prod.fst (e1.trans e2.symm)
      exact this
     exact h.1 (List.mem_map.2 ⟨z.1, (pairs_mem hz).1, e3.symm⟩)
theorem clashOf_app (l : List Item) (ps qs : List (Clause × Clause)) : clashOf l (ps ++ qs) = clashOf l ps ++ clashOf l qs := by
 unfold clashOf
 rw [List.filter_append, List.map_append]
theorem named_law {l : List Item} {done rest : List (Clause × Clause)} {x y : Clause} (hn : ((done ++ (x, y) :: rest).map idP).Nodup) :
 (clashOf l (done ++ (x, y) :: rest))[(clashOf l done).length]? = some (x.id, y.id) ↔ clashB l x.patch y.patch = true := by
 rw [clashOf_app, List.getElem?_append_right (Nat.le_refl _), Nat.sub_self]
 have e : (x, y) :: rest = [(x, y)] ++ rest := rfl
 constructor
 · intro h
   cases hc : clashB l x.patch y.patch with
   | true => rfl
   | false =>
     exfalso
     have e1 : clashOf l ((x, y) :: rest) = clashOf l rest := by unfold clashOf; rw [List.filter_cons]; simp [hc]
     rw [e1] at h
     have hm : (x.id, y.id) ∈ clashOf l rest := List.mem_of_getElem? h
     unfold clashOf at hm
     obtain ⟨z, hz, e2⟩ := List.mem_map.1 hm
     rw [List.map_append, List.map_cons, List.nodup_append] at hn
     have := (List.nodup_cons.1 hn.2.1).1
     exact this (List.mem_map.2 ⟨z, (List.mem_filter.1 hz).1, e2⟩)
 · intro hc
   unfold clashOf
   rw [List.filter_cons]
   simp [hc]
theorem once_eq {l : List Item} (hw : walkB l = true) (a : Patch) : onceB l a = ((applyF l a).2 == 0) := by
 unfold onceB allR
 rw [if_pos hw, allF]
 by_cases h : (applyF l a).2 = 0
 · rw [if_pos h, allF, h]
 · rw [if_neg h]
theorem clash_commutes {l : List Item} {a b : Patch} (hw : walkB l = true) (hc : clashB l a b = true) (hm : commF a b = true) : (allR l [a, b]).2.2 ≠ 0 := by
 intro h
 have h0 : (allF l [a, b] 0).2.2 = 0 := by unfold allR at h; rw [if_pos hw] at h; exact h
 have h1 := swap_law hw hm 0 h0
 have h2 : allR l [b, a] = allR l [a, b] := by unfold allR; rw [if_pos hw, if_pos hw]; exact h1
 have h3 : bothB l a b = true := by unfold bothB; rw [h2, h]; simp
 unfold clashB at hc
 rw [h3] at hc
 simp at hc
theorem drop_pairs {O : List Clause} {i : Nat} {x : Clause} (hx : O[i]? = some x) : pairsL (O.drop i) = (O.drop (i + 1)).map (fun y => (x, y)) ++ pairsL (O.drop (i + 1)) := by
 obtain ⟨hi, rfl⟩ := List.getElem?_eq_some_iff.1 hx
 rw [List.drop_eq_getElem_cons hi, pairsL]
theorem open_nodup {cs : List Clause} (h : (cs.map (·.id)).Nodup) : ((openL cs).map (·.id)).Nodup := by
 unfold openL
 exact h.sublist (List.Sublist.map _ List.filter_sublist)
end Go.Proofs.YtecnlfaholmpoaaGreat
set_option maxRecDepth 20000
namespace Go.Proofs.YtecnlfaholmpoaaGreat
open Go.RowKit
def eqlPr (A B : Array Value) : Sem Value := binOp .eql 62 (.agg A) (.agg B)
def pEq (p q : Stamp × Stamp) : Bool := sEq p.1.seat p.1.count q.1.seat q.1.count && sEq p.2.seat p.2.count q.2.seat q.2.count
theorem pEq_iff {p q : Stamp × Stamp} : pEq p q = decide (p = q) := by
 unfold pEq
 rw [sEq_iff, sEq_iff, Bool.eq_iff_iff]
 simp [Prod.ext_iff]
theorem run_eqlPr0 (a0 b0 a1 b1 a2 b2 a3 b3 : Int) (W : World) : (eqlPr #[.int .i64 a0, .int .i64 a1, .int .i64 a2, .int .i64 a3] #[.int .i64 b0, .int .i64 b1, .int .i64 b2, .int .i64 b3]).run Tryz.prog W = .ok (.bool (a0 == b0 && (a1 == b1 && (a2 == b2 && a3 == b3)))) W := by
 unfold eqlPr
 rw [run_eql_struct]
 obtain ⟨inf, hinf⟩ : ∃ i, Tryz.prog.info? 45 = some i := ⟨_, rfl⟩
 have hc : Tryz.prog.cellsOf 45 = 2 := by kernel_rfl
 rw [show (10000 : Nat) = 9999 + 1 from rfl, run_equalIn_array W 9999 _ _ Tryz.underlying62 hinf, hc]
 simp [Op.eqItems, List.range, List.range.loop, go_sem]
 simp only [ite_eql]
 simp only [Bool.and_true]
@[go_sem] theorem run_eqlPr (p q : Stamp × Stamp) (W : World) : (eqlPr #[.int .i64 p.1.seat, .int .i64 p.1.count, .int .i64 p.2.seat, .int .i64 p.2.count] #[.int .i64 q.1.seat, .int .i64 q.1.count, .int .i64 q.2.seat, .int .i64 q.2.count]).run Tryz.prog W = .ok (.bool (pEq p q)) W := by
 rw [run_eqlPr0]
 unfold pEq sEq
 simp only [Bool.and_assoc]
@[go_sem high] theorem fold_eqlPr (A B : Array Value) : binOp .eql 62 (.agg A) (.agg B) = eqlPr A B := rfl
theorem RdPr.load4 {w : World} {b o : Nat} {l : List (Stamp × Stamp)} (h : RdPr w (some ⟨b, o, none⟩) l) {k : Nat} {p : Stamp × Stamp} (hp : l[k]? = some p) :
 w.cell? ⟨b, o + k * 4, none⟩ = some (.int .i64 p.1.seat) ∧ w.cell? ⟨b, o + k * 4 + 1, none⟩ = some (.int .i64 p.1.count) ∧ w.cell? ⟨b, o + k * 4 + 2, none⟩ = some (.int .i64 p.2.seat) ∧ w.cell? ⟨b, o + k * 4 + 3, none⟩ = some (.int .i64 p.2.count) := by
 obtain ⟨b', o', hA, hlt, hc⟩ := h (by rintro rfl; simp at hp)
 cases hA
 exact ⟨hc k p hp 0 _ rfl, hc k p hp 1 _ rfl, hc k p hp 2 _ rfl, hc k p hp 3 _ rfl⟩
end Go.Proofs.YtecnlfaholmpoaaGreat
