/- slices.Insert at items: onto a row of the call's own. -/
import Derived.Test.YtecnlfaholmpoaaGreatJC4
import Derived.Deep.RegionLaw
set_option linter.unusedVariables false
set_option linter.unusedSimpArgs false
set_option maxRecDepth 100000
set_option maxHeartbeats 2000000
namespace Go.Proofs.YtecnlfaholmpoaaGreat
open Go.RowKit
abbrev zeroItem : Value := .agg #[.int .i64 0, .string ⟨#[]⟩, .string ⟨#[]⟩, .string ⟨#[]⟩, .string ⟨#[]⟩, .string ⟨#[]⟩, .bool false]
def ins (l ys : List Item) (i : Nat) : List Item := l.take i ++ ys ++ l.drop i
theorem ins_length (l ys : List Item) (i : Nat) (hi : i ≤ l.length) : (ins l ys i).length = l.length + ys.length := by
 simp [ins]; omega
theorem OwnI.row {w : World} {base : Nat} {v : Value} {l : List Item} (h : OwnI w base v l) (hl : l ≠ []) :
 ∃ g cap rest, v = .slice (some ⟨g, 0, none⟩) l.length cap ∧ base ≤ g ∧ g < w.heap.size ∧ w.heap[g]? = some (.cells (flat l ++ rest).toArray 47 (0, 0)) ∧ l.length ≤ cap ∧ cap ≤ maxLen ∧ (flat l ++ rest).length = cap * 7 := by
 rcases h.form with ⟨_, h0⟩ | h
 · exact absurd h0 hl
 · exact h
theorem insert_end (l ys : List Item) (base base2 : Nat) (v vv : Value) (w : World) (hown : OwnI w base v l) (hys : OwnI w base2 vv ys) (hne : ys ≠ []) (hb : base ≤ w.heap.size) (hl : l.length + ys.length ≤ 1000000) :
 Calls Tryz.prog 131 #[v, .int .i64 l.length, vv] w fun e w' => ∃ v', e = .returned v' ∧ OwnI w' base v' (l ++ ys) ∧ VEff v.ownBlock.toList w w' := by
 obtain ⟨vb, vc, vrest, rfl, hvb, hvlt, hvh, hvc, hvm, hvs⟩ := hys.row hne
 have hm : 0 < ys.length := List.length_pos_iff.2 hne
 have hcv : ∀ j u, (flat ys)[j]? = some u → w.cell? ((⟨vb, 0, none⟩ : Addr).add j) = some u := by
  intro j u hu
  rw [Addr.add_lit, Nat.zero_add, cell_of_row _ _ _ _ _ _ hvh, List.getElem?_toArray, List.getElem?_append_left (List.getElem?_eq_some_iff.1 hu).1]
  exact hu
 have HCV := Lib.hid hcv; clear hcv
 have HVH := Lib.hid hvh; clear hvh
 have HVS := Lib.hid hvs; clear hvs
 have HOWN := Lib.hid hown
 obtain ⟨i0, hi0, hz0, hz1, hz2⟩ := info_parts info26
 have Hi0 := Lib.hid hi0; clear hi0
 have Hz0 := Lib.hid hz0; clear hz0
 have Hz1 := Lib.hid hz1; clear hz1
 have Hz2 := Lib.hid hz2; clear hz2
 have hz1' : ¬ ((ys.length : Int) = 0) := by omega
 have hys' := Lib.hid hys; clear hys
 have hne' := Lib.hid hne; clear hne
 rcases hown.form with ⟨rfl, rfl⟩ | ⟨g, cap, rest, rfl, hg, hglt, hh, hlc, hcm, hs⟩
 · clear hown
   go_enter Tryz.func131, Tryz.ntmps131
   go_wp2_with (at_builtin; refine wpList_append_own _ rfl (.tmp 23) (.tmp 24) _ rfl base 47 i0 zeroItem 7 96 Tryz.underlying22 Hi0.out Hz0.out Hz1.out Hz2.out rfl (by decide) (.slice none 0 0) 0 [] rfl HOWN.out ⟨vb, 0, none⟩ ys.length vc (flat ys) rfl (by rw [flat_length]) HCV.out (flat_one ys) (le_maxLen (by omega)) (by omega) hb ?_; intro v' w1 hown hgr _)
   go_ret
   exact ⟨v', rfl, by simpa [OwnI] using hown, ⟨hgr.os, hgr.tape, hgr.output, hgr.size, fun k hk hn => hgr.block k hk (by simp [Value.ownBlock])⟩⟩
 · clear hown
   have HH := Lib.hid hh; clear hh
   have HS := Lib.hid hs; clear hs
   unfold maxLen at hcm hvm
   by_cases hcap : cap = l.length
   all_goals
    go_enter Tryz.func131, Tryz.ntmps131
    go_wp2_with (at_builtin; refine wpList_append_own _ rfl (.tmp 23) (.tmp 24) _ rfl base 47 i0 zeroItem 7 96 Tryz.underlying22 Hi0.out Hz0.out Hz1.out Hz2.out rfl (by decide) (.slice (some ⟨g, 0, none⟩) l.length cap) l.length (flat l) rfl HOWN.out ⟨vb, 0, none⟩ ys.length vc (flat ys) rfl (by rw [flat_length]) HCV.out (flat_one ys) (le_maxLen (by omega)) (by omega) hb ?_; intro v' w1 hown hgr _)
    go_ret
    exact ⟨v', rfl, by simpa [OwnI, flat_append] using hown, ⟨hgr.os, hgr.tape, hgr.output, hgr.size, fun k hk hn => hgr.block k hk (by simpa [Value.ownBlock] using hn)⟩⟩
theorem shape_of_row {w : World} {g : Nat} {cs : Array Value} {t : TypeId} {fr : Nat × Nat} (h : w.heap[g]? = some (.cells cs t fr)) : w.shape? g = some (t, cs.size) := by
 simp [World.shape?, h]
theorem row_cells {w : World} {g : Nat} {cs : List Value} {t : TypeId} (h : w.heap[g]? = some (.cells cs.toArray t (0, 0))) (o : Nat) : ∀ j u, (cs.drop o)[j]? = some u → w.cell? ((⟨g, o, none⟩ : Addr).add j) = some u := by
 intro j u hu
 rw [Addr.add_lit, cell_of_row _ _ _ _ _ _ h, List.getElem?_toArray]
 rwa [List.getElem?_drop] at hu
theorem size7 : (Tryz.prog.info? 47).map (·.size) = some 7 := by kernel_rfl
/- the cells behind the two copies -/
theorem ins_cells (l ys : List Item) (rest : List Value) (i cap : Nat) (hi : i < l.length) (hcap : (flat l ++ rest).length = cap * 7) (hroom : l.length + ys.length ≤ cap) :
 ∃ rest', ((((flat l ++ rest).take ((i + ys.length) * 7) ++ flat (l.drop i) ++ (flat l ++ rest).drop ((i + ys.length) * 7 + (flat (l.drop i)).length)).take (i * 7)) ++ flat ys ++
  (((flat l ++ rest).take ((i + ys.length) * 7) ++ flat (l.drop i) ++ (flat l ++ rest).drop ((i + ys.length) * 7 + (flat (l.drop i)).length)).drop (i * 7 + (flat ys).length))) = flat (ins l ys i) ++ rest' ∧
  (flat (ins l ys i) ++ rest').length = cap * 7 := by
 have h1 : (flat (l.drop i)).length = (l.length - i) * 7 := by rw [flat_length, List.length_drop]
 have h2 : (flat ys).length = ys.length * 7 := flat_length ys
 have h3 : (flat l).length = l.length * 7 := flat_length l
 have h4 : (flat l ++ rest).length = l.length * 7 + rest.length := by rw [List.length_append, h3]
 generalize hT : (flat l ++ rest).take ((i + ys.length) * 7) = T
 generalize hD : (flat l ++ rest).drop ((i + ys.length) * 7 + (flat (l.drop i)).length) = D
 have hTl : T.length = (i + ys.length) * 7 := by rw [← hT, List.length_take]; omega
 have hTt : T.take (i * 7) = flat (l.take i) := by
  rw [← hT, List.take_take, Nat.min_eq_left (by omega), List.take_append, h3, show i * 7 - l.length * 7 = 0 by omega, List.take_zero, List.append_nil, flat_take]
 refine ⟨D, ?_, ?_⟩
 · have e1 : (T ++ flat (l.drop i) ++ D).take (i * 7) = flat (l.take i) := by
     rw [List.append_assoc, List.take_append, hTt, hTl, show i * 7 - (i + ys.length) * 7 = 0 by omega]; simp
   have e2 : (T ++ flat (l.drop i) ++ D).drop (i * 7 + (flat ys).length) = flat (l.drop i) ++ D := by
    rw [List.append_assoc, List.drop_append, List.drop_of_length_le (by omega), hTl, h2, show i * 7 + ys.length * 7 - (i + ys.length) * 7 = 0 by omega]; simp
   rw [e1, e2]
   simp [ins, flat_append]
 · have hDl : D.length = cap * 7 - ((i + ys.length) * 7 + (l.length - i) * 7) := by rw [← hD, List.length_drop, hcap, h1]
   rw [List.length_append, flat_length, ins_length l ys i (by omega), hDl]
   omega
theorem insert_room (l ys : List Item) (i g cap vb vc : Nat) (rest vrest : List Value) (w : World) (hi : i < l.length) (hne : ys ≠ []) (hgv : g ≠ vb)
 (hh : w.heap[g]? = some (.cells (flat l ++ rest).toArray 47 (0, 0))) (hs : (flat l ++ rest).length = cap * 7) (hroom : l.length + ys.length ≤ cap) (hcm : cap ≤ maxLen)
 (hvh : w.heap[vb]? = some (.cells (flat ys ++ vrest).toArray 47 (0, 0))) (hl : l.length + ys.length ≤ 1000000) :
 Calls Tryz.prog 131 #[.slice (some ⟨g, 0, none⟩) l.length cap, .int .i64 i, .slice (some ⟨vb, 0, none⟩) ys.length vc] w fun e w' =>
  e = .returned (.slice (some ⟨g, 0, none⟩) (l.length + ys.length) cap) ∧ (∃ rest', w'.heap[g]? = some (.cells (flat (ins l ys i) ++ rest').toArray 47 (0, 0)) ∧ (flat (ins l ys i) ++ rest').length = cap * 7) ∧ VEff [g] w w' := by
 have hm : 0 < ys.length := List.length_pos_iff.2 hne
 unfold maxLen at hcm
 have h3 : (flat l).length = l.length * 7 := flat_length l
 have hdl : (flat (l.drop i)).length = (l.length - i) * 7 := by rw [flat_length, List.length_drop]
 have hz1 : ¬ ((ys.length : Int) = 0) := by omega
 have hz2 : ¬ ((i : Int) = (l.length : Int)) := by omega
 have hz3 : ¬ ((cap : Int) < (l.length : Int) + (ys.length : Int)) := by omega
 have hov : ∀ lb cb, (callFunc 153 #[.slice (some ⟨vb, 0, none⟩) ys.length vc, .slice (some ⟨g, (i + ys.length) * 7, none⟩) lb cb]).run Tryz.prog w = .ok (.value (.bool false)) w := fun lb cb => by
  rw [run_callFunc_extern Tryz.func153 (by kernel_rfl) (by kernel_rfl) (by kernel_rfl) (e := Extern.SlicesOverlaps.overlaps #[22, 22] #[4]) (by kernel_rfl),
   Lib.run_overlaps_apart w 22 4 47 Tryz.underlying22 7 (fun W => by kernel_rfl) ⟨vb, 0, none⟩ ⟨g, (i + ys.length) * 7, none⟩ ys.length vc lb cb (Ne.symm hgv) _ _ _ _ (shape_of_row hvh) (shape_of_row hh) (by rw [List.size_toArray, hs]; omega) (frozen_of_row _ _ _ _ _ hvh) (frozen_of_row _ _ _ _ _ hvh)]
  rfl
 obtain ⟨rest', hc1, hc2⟩ := ins_cells l ys rest i cap hi hs hroom
 generalize hcur1 : (flat l ++ rest).take ((i + ys.length) * 7) ++ flat (l.drop i) ++ (flat l ++ rest).drop ((i + ys.length) * 7 + (flat (l.drop i)).length) = cur1 at hc1
 have hl1 : cur1.length = cap * 7 := by
  rw [← hcur1]
  simp only [List.length_append, List.length_take, List.length_drop, hdl, h3] at hs ⊢
  omega
 have hcp1 : ∀ ty dc sc, (Builtin.copy_ #[22, 22] ty #[.slice (some ⟨g, (i + ys.length) * 7, none⟩) (l.length + ys.length - (i + ys.length)) dc, .slice (some ⟨g, i * 7, none⟩) (l.length + ys.length - i) sc]).run Tryz.prog w.drew = .ok (goInt (Nat.min (l.length + ys.length - i) (l.length + ys.length - (i + ys.length)))) (w.drew.setRow g cur1.toArray) := fun ty dc sc => by
  rw [← hcur1]
  exact run_copy_n w.drew _ _ ty 47 7 g ((i + ys.length) * 7) _ dc ⟨g, i * 7, none⟩ _ sc (flat l ++ rest) 47 (flat (l.drop i)) Tryz.underlying22 size7 hh
   (by rw [hdl]; simp only [Nat.min_def]; split <;> omega)
   (fun j u hu => row_cells hh (i * 7) j u (by rw [List.drop_append, flat_drop, List.getElem?_append_left (List.getElem?_eq_some_iff.1 hu).1]; exact hu))
   (by rw [hdl, hs]; omega) (flat_one _)
 obtain ⟨W1, hW1⟩ : ∃ W1, W1 = w.drew.setRow g cur1.toArray := ⟨_, rfl⟩
 have hg1 : W1.heap[g]? = some (.cells cur1.toArray 47 (0, 0)) := by rw [hW1]; exact setRow_heap _ _ _ _ _ _ hh
 have hv1 : W1.heap[vb]? = some (.cells (flat ys ++ vrest).toArray 47 (0, 0)) := by rw [hW1, setRow_other _ _ _ _ (Ne.symm hgv)]; exact hvh
 have hcp2 : ∀ ty dc, (Builtin.copy_ #[22, 22] ty #[.slice (some ⟨g, i * 7, none⟩) (l.length + ys.length - i) dc, .slice (some ⟨vb, 0, none⟩) ys.length vc]).run Tryz.prog W1 = .ok (goInt (Nat.min ys.length (l.length + ys.length - i))) (W1.setRow g (flat (ins l ys i) ++ rest').toArray) := fun ty dc => by
  rw [← hc1]
  exact run_copy_n W1 _ _ ty 47 7 g (i * 7) _ dc ⟨vb, 0, none⟩ _ vc cur1 47 (flat ys) Tryz.underlying22 size7 hg1
   (by rw [flat_length]; simp only [Nat.min_def]; split <;> omega)
   (fun j u hu => row_cells hv1 0 j u (by rw [List.drop_zero, List.getElem?_append_left (List.getElem?_eq_some_iff.1 hu).1]; exact hu))
   (by rw [flat_length, hl1]; omega) (flat_one _)
 rw [← hW1] at hcp1
 have hb2 : ¬ (cap = i + ys.length) := by omega
 have hb4 : ¬ (cap = i) := by omega
 have hin : (i : Int) ≤ (l.length : Int) := by omega
 have hb1 : (0 : Int) ≤ (i : Int) + (ys.length : Int) := by omega
 have htn : ((i : Int) + (ys.length : Int)).toNat = i + ys.length := by omega
 have hw1 : IntKind.i64.wrap ((i : Int) + (ys.length : Int)) = (i : Int) + (ys.length : Int) := by rw [IntKind.wrap_i64]; omega
 have hb3 : (i : Int) ≤ (l.length : Int) + (ys.length : Int) := by omega
 have HH := Lib.hid hh; clear hh
 have HS := Lib.hid hs; clear hs
 have HVH := Lib.hid hvh; clear hvh
 have HC1 := Lib.hid hc1; clear hc1
 have HC2 := Lib.hid hc2; clear hc2
 have HL1 := Lib.hid hl1; clear hl1
 have HCUR := Lib.hid hcur1; clear hcur1
 have HG1 := Lib.hid hg1; clear hg1
 have HV1 := Lib.hid hv1; clear hv1
 have HW1 := Lib.hid hW1; clear hW1
 have H3 := Lib.hid h3; clear h3
 have HDL := Lib.hid hdl; clear hdl
 go_enter Tryz.func131, Tryz.ntmps131
 go_wp2_with (simp only [hov])
 go_region_law (refine step_copy_run rfl _ _ 22 22 rfl _ _ (by simp [Act.eval, Act.put]) (by simp [Act.eval, Act.put]) (hcp1 _ _ _) ?_)
 go_wp2_with (refine wpList_copy_run _ rfl _ _ 22 22 rfl _ _ rfl rfl (hcp2 _ _) ?_)
 go_ret
 refine ⟨rfl, ⟨rest', setRow_heap _ _ _ _ _ _ HG1.out, HC2.out⟩, ?_⟩
 have h1 : VEff [g] w W1 := by
  rw [HW1.out]
  exact ⟨rfl, rfl, rfl, by simp [World.setRow], fun k _ hn => setRow_other w.drew g k _ (by simpa using hn)⟩
 exact h1.trans (VEff.setRow W1 g _) (fun _ hx => .inl hx)
/- the cells of the new row behind the two copies -/
theorem grow_cells (l ys : List Item) (Z : List Value) (i G : Nat) (hi : i < l.length) (hG : l.length + ys.length ≤ G) (hZ : (flat (l.take i) ++ Z).length = G * 7) :
 ∃ C1 rest', (flat (l.take i) ++ Z).take (i * 7) ++ flat ys ++ (flat (l.take i) ++ Z).drop (i * 7 + (flat ys).length) = C1 ∧ C1.length = G * 7 ∧
  C1.take ((i + ys.length) * 7) ++ flat (l.drop i) ++ C1.drop ((i + ys.length) * 7 + (flat (l.drop i)).length) = flat (ins l ys i) ++ rest' ∧ (flat (ins l ys i) ++ rest').length = G * 7 := by
 have h1 : (flat (l.drop i)).length = (l.length - i) * 7 := by rw [flat_length, List.length_drop]
 have h2 : (flat ys).length = ys.length * 7 := flat_length ys
 have h3 : (flat (l.take i)).length = i * 7 := by rw [flat_length, List.length_take]; omega
 have h4 : i * 7 + Z.length = G * 7 := by rw [← hZ, List.length_append, h3]
 have e0 : (flat (l.take i) ++ Z).take (i * 7) = flat (l.take i) := by rw [← h3]; simp
 generalize hD : (flat (l.take i) ++ Z).drop (i * 7 + (flat ys).length) = D
 have hDl : D.length = G * 7 - (i * 7 + ys.length * 7) := by rw [← hD, List.length_drop, hZ, h2]
 refine ⟨_, D.drop ((l.length - i) * 7), rfl, ?_, ?_, ?_⟩
 · rw [e0]; simp only [List.length_append, h3, h2, hDl]; omega
 · rw [e0, h1]
   have hk : (flat (l.take i) ++ flat ys).length = (i + ys.length) * 7 := by rw [List.length_append, h3, h2]; omega
   have e1 : (flat (l.take i) ++ flat ys ++ D).take ((i + ys.length) * 7) = flat (l.take i) ++ flat ys := by rw [← hk, List.take_left]
   have e2 : (flat (l.take i) ++ flat ys ++ D).drop ((i + ys.length) * 7 + (l.length - i) * 7) = D.drop ((l.length - i) * 7) := by
    rw [← hk, ← List.drop_drop]; simp
   rw [e1, e2]
   simp [ins, flat_append]
 · rw [List.length_append, flat_length, ins_length l ys i (by omega), List.length_drop, hDl]
   omega
theorem zeroCells_len (z : Array Value) (n : Nat) : (Builtin.zeroCells z n).toList.length = n * z.size := by simp [Builtin.zeroCells]
theorem insert_grow_walk (n m i g cap vb vc N G : Nat) (w W1 W2 W3 : World) (hi : i < n) (hm : 0 < m) (hroom : cap < n + m) (hcap : n ≤ cap) (hl : n + m ≤ 1000000) (hG : n + m ≤ G) (hGle : G ≤ maxLen) (q1 q2 : Int)
 (hrz : ∀ ty, (Builtin.append_ #[22, 3] ty #[.slice (some ⟨g, 0, none⟩) i cap, .int .i64 ((n : Int) + (m : Int) - (i : Int))]).run Tryz.prog w = .ok (.slice (some ⟨N, 0, none⟩) (n + m) G) W1)
 (hcp1 : ∀ ty dc, (Builtin.copy_ #[22, 22] ty #[.slice (some ⟨N, i * 7, none⟩) (n + m - i) dc, .slice (some ⟨vb, 0, none⟩) m vc]).run Tryz.prog W1 = .ok (goInt q1) W2)
 (hcp2 : ∀ ty dc sc, (Builtin.copy_ #[22, 22] ty #[.slice (some ⟨N, (i + m) * 7, none⟩) (n + m - (i + m)) dc, .slice (some ⟨g, i * 7, none⟩) (n - i) sc]).run Tryz.prog W2.drew = .ok (goInt q2) W3) :
 Calls Tryz.prog 131 #[.slice (some ⟨g, 0, none⟩) n cap, .int .i64 i, .slice (some ⟨vb, 0, none⟩) m vc] w fun e w' => e = .returned (.slice (some ⟨N, 0, none⟩) (n + m) G) ∧ w' = W3 := by
 unfold maxLen at hGle
 have hz1 : ¬ ((m : Int) = 0) := by omega
 have hz2 : ¬ ((i : Int) = (n : Int)) := by omega
 have hz3 : (cap : Int) < (n : Int) + (m : Int) := by omega
 have hb2 : ¬ (G = i + m) := by omega
 have hb5 : ¬ (G = i) := by omega
 have hb4 : ¬ (cap = i) := by omega
 have hin : (i : Int) ≤ (n : Int) := by omega
 have hic : (i : Int) ≤ (cap : Int) := by omega
 have hb1 : (0 : Int) ≤ (i : Int) + (m : Int) := by omega
 have htn : ((i : Int) + (m : Int)).toNat = i + m := by omega
 have hw1 : IntKind.i64.wrap ((i : Int) + (m : Int)) = (i : Int) + (m : Int) := by rw [IntKind.wrap_i64]; omega
 have hb3 : (i : Int) ≤ (n : Int) + (m : Int) := by omega
 go_enter Tryz.func131, Tryz.ntmps131
 go_wp2_with (first
  | (at_builtin; refine Lib.wpList_append_run _ rfl _ _ _ _ rfl _ _ rfl rfl _ _ (hrz _) ?_)
  | (refine wpList_copy_run _ rfl _ _ 22 22 rfl _ _ rfl rfl (hcp1 _ _) ?_))
 go_region_law (refine step_copy_run rfl _ _ 22 22 rfl _ _ (by simp [Act.eval, Act.put]) (by simp [Act.eval, Act.put]) (hcp2 _ _ _) ?_)
 go_wp2
 go_ret
 exact ⟨rfl, rfl⟩
theorem insert_grow (l ys : List Item) (i g cap vb vc : Nat) (rest vrest : List Value) (w : World) (hi : i < l.length) (hne : ys ≠ [])
 (hh : w.heap[g]? = some (.cells (flat l ++ rest).toArray 47 (0, 0))) (hroom : cap < l.length + ys.length) (hcap : l.length ≤ cap)
 (hvh : w.heap[vb]? = some (.cells (flat ys ++ vrest).toArray 47 (0, 0))) (hl : l.length + ys.length ≤ 1000000) :
 Calls Tryz.prog 131 #[.slice (some ⟨g, 0, none⟩) l.length cap, .int .i64 i, .slice (some ⟨vb, 0, none⟩) ys.length vc] w fun e w' =>
  ∃ v', e = .returned v' ∧ OwnI w' w.heap.size v' (ins l ys i) ∧ Below w.heap.size w w' := by
 have hm : 0 < ys.length := List.length_pos_iff.2 hne
 have h3 : (flat l).length = l.length * 7 := flat_length l
 have hdl : (flat (l.drop i)).length = (l.length - i) * 7 := by rw [flat_length, List.length_drop]
 have htl : (flat (l.take i)).length = i * 7 := by rw [flat_length, List.length_take]; omega
 have hz1 : ¬ ((ys.length : Int) = 0) := by omega
 have hz2 : ¬ ((i : Int) = (l.length : Int)) := by omega
 have hz3 : (cap : Int) < (l.length : Int) + (ys.length : Int) := by omega
 obtain ⟨i0, hi0, hz0, hzs, hzb⟩ := info_parts info26
 have hbw : g < w.heap.size := lt_of_heap hh
 have hvw : vb < w.heap.size := lt_of_heap hvh
 have hkk : (l.length : Int) + (ys.length : Int) - (i : Int) = ((l.length + ys.length - i : Nat) : Int) := by omega
 have hik : i + (l.length + ys.length - i) = l.length + ys.length := by omega
 have hold : (Builtin.firstCells i0.size i (.slice (some ⟨g, 0, none⟩) i cap)).run Tryz.prog w.drew = .ok (flat (l.take i)).toArray w.drew := by
  rw [hzs]
  refine run_firstCells_some w.drew 7 i ⟨g, 0, none⟩ i cap (flat (l.take i)) htl (fun j v hj => ?_)
  rw [← flat_take, List.getElem?_take] at hj
  split at hj
  · exact row_cells hh 0 j v (by rw [List.drop_zero, List.getElem?_append_left (List.getElem?_eq_some_iff.1 hj).1]; exact hj)
  · cases hj
 obtain ⟨G, hG⟩ : ∃ G, G = grownCap w (l.length + ys.length) cap 47 := ⟨_, rfl⟩
 have hGge : l.length + ys.length ≤ G := by rw [hG]; exact grownCap_ge _ _ _ _
 have hGle : G ≤ maxLen := by rw [hG]; exact grownCap_le_maxLen _ _ _ _ (le_maxLen (by omega))
 obtain ⟨Z, hZ⟩ : ∃ Z : List Value, Z = (Builtin.zeroCells zeroItem.cells (l.length + ys.length - i)).toList ++ (Builtin.zeroCells zeroItem.cells (G - (l.length + ys.length))).toList := ⟨_, rfl⟩
 have hZl : (flat (l.take i) ++ Z).length = G * 7 := by
  rw [List.length_append, htl, hZ, List.length_append, zeroCells_len, zeroCells_len]
  simp [Value.cells]; omega
 have hrz : ∀ ty, (Builtin.append_ #[22, 3] ty #[.slice (some ⟨g, 0, none⟩) i cap, .int .i64 ((l.length : Int) + (ys.length : Int) - (i : Int))]).run Tryz.prog w =
  .ok (.slice (some ⟨w.heap.size, 0, none⟩) (l.length + ys.length) G) (w.drew.alloc (.cells (flat (l.take i) ++ Z).toArray 47)) := fun ty => by
  have h := Lib.run_append_grow_zeros w 22 3 ty 47 i0 zeroItem .i64 .i64 Tryz.underlying22 Tryz.underlying3 hi0 hz0 (some ⟨g, 0, none⟩) i cap (flat (l.take i)) hold (l.length + ys.length - i) (by omega) (by omega) (by omega) (by omega) (by rw [hzb]; omega) (by rw [hzb, hik]; exact growslice_fits hroom (by omega))
  rw [hik, ← hG] at h
  rw [hkk, h, hZ]
  congr 3
  apply Array.ext'
  simp
 obtain ⟨C1, rest', hc1, hc1l, hc2, hc2l⟩ := grow_cells l ys Z i G hi hGge hZl
 obtain ⟨W1, hW1⟩ : ∃ W1, W1 = w.drew.alloc (.cells (flat (l.take i) ++ Z).toArray 47) := ⟨_, rfl⟩
 rw [← hW1] at hrz
 have hN1 : W1.heap[w.heap.size]? = some (.cells (flat (l.take i) ++ Z).toArray 47 (0, 0)) := by rw [hW1]; exact heap_new_at rfl
 have hv1 : W1.heap[vb]? = some (.cells (flat ys ++ vrest).toArray 47 (0, 0)) := by rw [hW1]; exact heap_old_at hvw hvh
 have hg1 : W1.heap[g]? = some (.cells (flat l ++ rest).toArray 47 (0, 0)) := by rw [hW1]; exact heap_old_at hbw hh
 obtain ⟨W2, hW2⟩ : ∃ W2, W2 = W1.setRow w.heap.size C1.toArray := ⟨_, rfl⟩
 have hcp1 : ∀ ty dc, (Builtin.copy_ #[22, 22] ty #[.slice (some ⟨w.heap.size, i * 7, none⟩) (l.length + ys.length - i) dc, .slice (some ⟨vb, 0, none⟩) ys.length vc]).run Tryz.prog W1 = .ok (goInt (Nat.min ys.length (l.length + ys.length - i))) W2 := fun ty dc => by
  rw [hW2, ← hc1]
  exact run_copy_n W1 _ _ ty 47 7 w.heap.size (i * 7) _ dc ⟨vb, 0, none⟩ _ vc (flat (l.take i) ++ Z) 47 (flat ys) Tryz.underlying22 size7 hN1
   (by rw [flat_length]; simp only [Nat.min_def]; split <;> omega)
   (fun j u hu => row_cells hv1 0 j u (by rw [List.drop_zero, List.getElem?_append_left (List.getElem?_eq_some_iff.1 hu).1]; exact hu))
   (by rw [flat_length, hZl]; omega) (flat_one _)
 have hN2 : W2.heap[w.heap.size]? = some (.cells C1.toArray 47 (0, 0)) := by rw [hW2]; exact setRow_heap _ _ _ _ _ _ hN1
 have hg2 : W2.heap[g]? = some (.cells (flat l ++ rest).toArray 47 (0, 0)) := by rw [hW2, setRow_other _ _ _ _ (by omega)]; exact hg1
 have hcp2 : ∀ ty dc sc, (Builtin.copy_ #[22, 22] ty #[.slice (some ⟨w.heap.size, (i + ys.length) * 7, none⟩) (l.length + ys.length - (i + ys.length)) dc, .slice (some ⟨g, i * 7, none⟩) (l.length - i) sc]).run Tryz.prog W2.drew = .ok (goInt (Nat.min (l.length - i) (l.length + ys.length - (i + ys.length)))) (W2.drew.setRow w.heap.size (flat (ins l ys i) ++ rest').toArray) := fun ty dc sc => by
  rw [← hc2]
  exact run_copy_n W2.drew _ _ ty 47 7 w.heap.size ((i + ys.length) * 7) _ dc ⟨g, i * 7, none⟩ _ sc C1 47 (flat (l.drop i)) Tryz.underlying22 size7 hN2
   (by rw [hdl]; simp only [Nat.min_def]; split <;> omega)
   (fun j u hu => row_cells hg2 (i * 7) j u (by rw [List.drop_append, flat_drop, List.getElem?_append_left (List.getElem?_eq_some_iff.1 hu).1]; exact hu))
   (by rw [hdl, hc1l]; omega) (flat_one _)
 have hb2 : ¬ (G = i + ys.length) := by omega
 have hb5 : ¬ (G = i) := by omega
 have hb4 : ¬ (cap = i) := by omega
 have hin : (i : Int) ≤ (l.length : Int) := by omega
 have hic : (i : Int) ≤ (cap : Int) := by omega
 have hb1 : (0 : Int) ≤ (i : Int) + (ys.length : Int) := by omega
 have htn : ((i : Int) + (ys.length : Int)).toNat = i + ys.length := by omega
 have hw1 : IntKind.i64.wrap ((i : Int) + (ys.length : Int)) = (i : Int) + (ys.length : Int) := by rw [IntKind.wrap_i64]; omega
 have hb3 : (i : Int) ≤ (l.length : Int) + (ys.length : Int) := by omega
 have hfin : OwnI (W2.drew.setRow w.heap.size (flat (ins l ys i) ++ rest').toArray) w.heap.size (.slice (some ⟨w.heap.size, 0, none⟩) (l.length + ys.length) G) (ins l ys i) := by
  have := OwnI.mk (w := W2.drew.setRow w.heap.size (flat (ins l ys i) ++ rest').toArray) (base := w.heap.size) (g := w.heap.size) (cap := G) (l := ins l ys i) (rest := rest') (Nat.le_refl _) (setRow_heap _ _ _ _ _ _ hN2) (by rw [ins_length _ _ _ (by omega)]; exact hGge) hGle hc2l
  rwa [ins_length _ _ _ (by omega)] at this
 have hbel : Below w.heap.size w (W2.drew.setRow w.heap.size (flat (ins l ys i) ++ rest').toArray) := by
  refine ⟨by rw [hW2, hW1]; rfl, by rw [hW2, hW1]; rfl, by rw [hW2, hW1]; rfl, by rw [hW2, hW1]; show w.heap.size ≤ (World.setRow (World.setRow _ _ _) _ _).heap.size; simp [World.setRow], fun k hk => ?_⟩
  rw [setRow_other _ _ _ _ (by omega)]
  show W2.heap[k]? = _
  rw [hW2, setRow_other _ _ _ _ (by omega), hW1]
  exact Below.heap_alloc w.drew _ k hk
 refine (insert_grow_walk l.length ys.length i g cap vb vc w.heap.size G w W1 W2 _ hi hm hroom hcap hl hGge hGle _ _ hrz hcp1 hcp2).mono ?_
 rintro e w' ⟨rfl, rfl⟩
 exact ⟨_, rfl, hfin, hbel⟩
theorem insert_any (l ys : List Item) (i : Nat) (base base2 : Nat) (v vv : Value) (w : World) (hown : OwnI w base v l) (hys : OwnI w base2 vv ys) (hne : ys ≠ []) (hi : i ≤ l.length) (hb : base ≤ w.heap.size) (hl : l.length + ys.length ≤ 1000000)
 (hap : v.ownBlock = none ∨ v.ownBlock ≠ vv.ownBlock) :
 Calls Tryz.prog 131 #[v, .int .i64 i, vv] w fun e w' => ∃ v', e = .returned v' ∧ OwnI w' base v' (ins l ys i) ∧ VEff v.ownBlock.toList w w' := by
 by_cases hie : i = l.length
 · subst hie
   have : ins l ys l.length = l ++ ys := by simp [ins]
   rw [this]
   exact insert_end l ys base base2 v vv w hown hys hne hb hl
 · have hlt : i < l.length := by omega
   have hlne : l ≠ [] := by rintro rfl; simp at hlt
   obtain ⟨g, cap, rest, rfl, hg, hglt, hh, hlc, hcm, hs⟩ := hown.row hlne
   obtain ⟨vb, vc, vrest, rfl, hvb, hvlt, hvh, hvc, hvm, hvs⟩ := hys.row hne
   have hgv : g ≠ vb := by
    rcases hap with h | h
    · cases h
    · rintro rfl; exact h rfl
   by_cases hroom : l.length + ys.length ≤ cap
   · refine (insert_room l ys i g cap vb vc rest vrest w hlt hne hgv hh hs hroom hcm hvh hl).mono ?_
     rintro e w' ⟨rfl, ⟨rest', h1, h2⟩, hv⟩
     refine ⟨_, rfl, ?_, by simpa [Value.ownBlock] using hv⟩
     have := OwnI.mk (base := base) hg h1 (by rw [ins_length _ _ _ hi]; exact hroom) hcm h2
     rwa [ins_length _ _ _ hi] at this
   · refine (insert_grow l ys i g cap vb vc rest vrest w hlt hne hh (by omega) hlc hvh hl).mono ?_
     rintro e w' ⟨v', rfl, ho, hbl⟩
     exact ⟨v', rfl, ⟨ho.1, ho.2.imp id (fun ⟨g, cap, cur, h1, h2, h3⟩ => ⟨g, cap, cur, h1, by omega, h3⟩)⟩, VEff.of_below hbl⟩
end Go.Proofs.YtecnlfaholmpoaaGreat
