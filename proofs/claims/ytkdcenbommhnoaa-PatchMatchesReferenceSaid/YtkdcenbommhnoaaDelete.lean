/- slices.Delete at items: within a row of the call's own. -/
import Derived.Test.YtkdcenbommhnoaaInsert
set_option linter.unusedVariables false
set_option linter.unusedSimpArgs false
namespace Go.Proofs.Ytkdcenbommhnoaa
open Go.RowKit
section
variable {P : Program}
theorem run_append_row (w : World) (t ty elem : TypeId) (s g sLen sCap : Nat) (a : Addr) (m c : Nat) (cur : List Value) (te : TypeId) (news : List Value)
    (hu : P.underlying t = some (.slice elem)) (hs : (P.info? elem).map (·.size) = some s)
    (hg : w.heap[g]? = some (.cells cur.toArray te (0, 0))) (hn : news.length = m * s)
    (hsrc : ∀ j v, news[j]? = some v → w.cell? (a.add j) = some v) (hroom : sLen + m ≤ sCap) (hfit : sLen * s + news.length ≤ cur.length) (h1 : ∀ v ∈ news, v.oneCell' = true) :
    (Builtin.append_ #[t, t] ty #[.slice (some ⟨g, 0, none⟩) sLen sCap, .slice (some a) m c]).run P w =
      .ok (.slice (some ⟨g, 0, none⟩) (sLen + m) sCap) (w.setRow g (cur.take (sLen * s) ++ news ++ cur.drop (sLen * s + news.length)).toArray) := by
  have hl := run_loadCells_list (P := P) w a news hsrc
  have hst := run_storeCells_at P g (sLen * s) te news 0 cur.toArray w hg (by simpa using hfit) h1
  cases hq : P.info? elem with
  | none => simp [hq] at hs
  | some i =>
    have hi : i.size = s := by simpa [hq] using hs
    have hst' : (storeCells ⟨g, sLen * s, none⟩ news).run P w = .ok () (w.setRow g (cur.take (sLen * s) ++ news ++ cur.drop (sLen * s + news.length)).toArray) := by simpa using hst
    simp [Builtin.append_, run_underlying hu, Builtin.lenOf, Builtin.firstCells, sizeOf, typeInfo, hq, hi, ← hn, hl, hroom, Addr.add_lit, hst']
theorem run_clear_row (w : World) (t ty elem : TypeId) (s g o n c : Nat) (cur : List Value) (te : TypeId) (z : Value)
    (hu : P.underlying t = some (.slice elem)) (hz : (zeroValue elem).run P w = .ok z w) (hzs : z.cells.size = s)
    (hg : w.heap[g]? = some (.cells cur.toArray te (0, 0))) (hn : 0 < n) (hfit : o + n * s ≤ cur.length) (h1 : ∀ v ∈ (Builtin.zeroCells z.cells n).toList, v.oneCell' = true) :
    (Builtin.clear_ #[t] ty #[.slice (some ⟨g, o, none⟩) n c]).run P w =
      .ok (.tuple #[]) (w.setRow g (cur.take o ++ (Builtin.zeroCells z.cells n).toList ++ cur.drop (o + (Builtin.zeroCells z.cells n).toList.length)).toArray) := by
  have hst := run_storeCells_at P g o te (Builtin.zeroCells z.cells n).toList 0 cur.toArray w hg (by rw [zeroCells_len, hzs]; simpa using hfit) h1
  have hst' : (storeCells ⟨g, o, none⟩ (Builtin.zeroCells z.cells n).toList).run P w = .ok () (w.setRow g (cur.take o ++ (Builtin.zeroCells z.cells n).toList ++ cur.drop (o + (Builtin.zeroCells z.cells n).toList.length)).toArray) := by simpa using hst
  cases n with
  | zero => omega
  | succ n => simp [Builtin.clear_, run_underlying hu, hz, hst']
theorem wpList_clear_run (w : World) {ops : Array Oper} {rest : List Oper} {o : Oper} {a : Act} {Q : Exit → Act → World → Prop} (hgd : o.guard = none) (s : Operand) (t : TypeId)
    (ho : o.op = .call { callee := .builtin .clear, args := #[s], argTypes := #[t] }) (v : Value) (hs : a.eval s = v) {v' : Value} {w' : World}
    (hr : (Builtin.clear_ #[t] o.type #[v]).run P w = .ok v' w') (h : wpList P ops Q rest (a.put o.dst v') w') : wpList P ops Q (o :: rest) a w := by
  refine wpList_plain hgd fun _ hK => ?_
  unfold Oper.wp execOp
  simp only [ho, resolve, invoke, builtin, Sem.run_bind, Sem.run_pure, Result.andThen_ok, List.map_toArray, List.map_cons, List.map_nil, hs, hr]
  exact hK _ _ h
theorem step_append_run {ops : Array Oper} {o : Oper} {a : Act} {w : World} {K : Act → World → Prop} {Q : Exit → Act → World → Prop} {E : Prop}
    (hg : o.guard = none) (d x : Operand) (dT sT : TypeId) (hop : o.op = Op.call { callee := Callee.builtin Builtin.append, args := #[d, x], argTypes := #[dT, sT] })
    (v u : Value) (hd : a.eval d = v) (hx : a.eval x = u) {v' : Value} {w' : World} (hr : (Builtin.append_ #[dT, sT] o.type #[v, u]).run P w = .ok v' w') (hK : K (a.put o.dst v') w') :
    if Region.wanted o (yielded ops a.tmps) = true then Oper.wp P o a w K Q else E := by
  have hw : Region.wanted o (yielded ops a.tmps) = true := by simp [Region.wanted, hg]
  rw [if_pos hw]
  unfold Oper.wp
  simp [execOp, hop, resolve, invoke, builtin, hd, hx, hr, Result.andThen]
  exact hK
end
set_option maxRecDepth 100000 in
set_option maxHeartbeats 800000 in
theorem delete_walk (n i j g cap : Nat) (w W1 W2 : World) (hij : i < j) (hj : j ≤ n) (hcap : n ≤ cap) (hcm : cap ≤ maxLen) (SRC : Addr) (hsrc : (if cap = j then some (⟨g, 0, none⟩ : Addr) else some ⟨g, j * 7, none⟩) = some SRC)
    (hap : ∀ ty c, (Builtin.append_ #[22, 22] ty #[.slice (some ⟨g, 0, none⟩) i cap, .slice (some SRC) (n - j) c]).run Try.prog w.drew = .ok (.slice (some ⟨g, 0, none⟩) (i + (n - j)) cap) W1)
    (hcl : ∀ ty c, (Builtin.clear_ #[22] ty #[.slice (some ⟨g, (i + (n - j)) * 7, none⟩) (n - (i + (n - j))) c]).run Try.prog W1 = .ok (.tuple #[]) W2) :
    Calls Try.prog 59 #[.slice (some ⟨g, 0, none⟩) n cap, .int .i64 i, .int .i64 j] w fun e w' => e = .returned (.slice (some ⟨g, 0, none⟩) (i + (n - j)) cap) ∧ w' = W2 := by
  unfold maxLen at hcm
  have hz2 : ((i : Int) == (j : Int)) = false := by simp; omega
  have hz3 : ¬ ((i : Int) = (j : Int)) := by omega
  have hb4 : ¬ (cap = i) := by omega
  have hb5 : ¬ (n = i) := by omega
  have hb6 : ¬ (cap = i + (n - j)) := by omega
  have h1 : (i : Int) ≤ (j : Int) := by omega
  have h4 : i ≤ cap := by omega
  have h5 : j ≤ cap := by omega
  have h2 : (j : Int) ≤ (n : Int) := by omega
  have h3 : (n : Int) ≤ (cap : Int) := by omega
  go_enter Try.func59, Try.ntmps59
  go_wp2_with fail
  go_region_law (refine step_append_run rfl _ _ 22 22 rfl (.slice (some ⟨g, 0, none⟩) i cap) (.slice (some SRC) (n - j) (cap - j)) (by simp [Act.eval, Act.put]) (by first | (simp [Act.eval, Act.put]; done) | (simp [Act.eval, Act.put, hsrc]; done) | exact hsrc) (hap _ _) ?_)
  go_wp2_with (refine wpList_clear_run _ rfl _ _ rfl _ rfl (hcl _ _) ?_)
  go_ret
  exact ⟨rfl, rfl⟩
/- the cells behind the append and the clear -/
theorem del_cells (l : List Item) (rest Z : List Value) (i j cap : Nat) (hij : i < j) (hj : j ≤ l.length) (hcap : (flat l ++ rest).length = cap * 7) (hlc : l.length ≤ cap) (hZ : Z.length = (l.length - (i + (l.length - j))) * 7) :
    ∃ C1 rest', (flat l ++ rest).take (i * 7) ++ flat (l.drop j) ++ (flat l ++ rest).drop (i * 7 + (flat (l.drop j)).length) = C1 ∧ C1.length = cap * 7 ∧
      C1.take ((i + (l.length - j)) * 7) ++ Z ++ C1.drop ((i + (l.length - j)) * 7 + Z.length) = flat (l.take i ++ l.drop j) ++ rest' ∧ (flat (l.take i ++ l.drop j) ++ rest').length = cap * 7 := by
  have h1 : (flat (l.drop j)).length = (l.length - j) * 7 := by rw [flat_length, List.length_drop]
  have h3 : (flat l).length = l.length * 7 := flat_length l
  have h5 : (flat (l.take i)).length = i * 7 := by rw [flat_length, List.length_take]; omega
  have e0 : (flat l ++ rest).take (i * 7) = flat (l.take i) := by
    rw [List.take_append, h3, show i * 7 - l.length * 7 = 0 by omega, List.take_zero, List.append_nil, flat_take]
  generalize hD : (flat l ++ rest).drop (i * 7 + (flat (l.drop j)).length) = D
  have hDl : D.length = cap * 7 - (i * 7 + (l.length - j) * 7) := by rw [← hD, List.length_drop, hcap, h1]
  have hk : (flat (l.take i) ++ flat (l.drop j)).length = (i + (l.length - j)) * 7 := by rw [List.length_append, h5, h1]; omega
  refine ⟨_, Z ++ D.drop Z.length, rfl, ?_, ?_, ?_⟩
  · rw [e0]; simp only [List.length_append, h5, h1, hDl]; omega
  · rw [e0]
    have e1 : (flat (l.take i) ++ flat (l.drop j) ++ D).take ((i + (l.length - j)) * 7) = flat (l.take i) ++ flat (l.drop j) := by rw [← hk, List.take_left]
    have e2 : (flat (l.take i) ++ flat (l.drop j) ++ D).drop ((i + (l.length - j)) * 7 + Z.length) = D.drop Z.length := by
      rw [← hk, ← List.drop_drop, List.drop_left]
    rw [e1, e2, flat_append]
    simp
  · rw [List.length_append, flat_length, List.length_append, List.length_append, List.length_take, List.length_drop, List.length_drop, hDl, hZ]
    omega
theorem zero_one : ∀ (n : Nat), ∀ v ∈ (Builtin.zeroCells zeroItem.cells n).toList, v.oneCell' = true := by
  intro n v hv
  simp only [Builtin.zeroCells, Array.toList_map, List.mem_map] at hv
  obtain ⟨k, _, rfl⟩ := hv
  have hk : k % 7 < 7 := Nat.mod_lt _ (by omega)
  show (zeroItem.cells[k % 7]!).oneCell' = true
  have h : ∀ r, r < 7 → (zeroItem.cells[r]!).oneCell' = true := by decide
  exact h _ hk
theorem delete_any (l : List Item) (i j : Nat) (base : Nat) (v : Value) (w : World) (hown : OwnI w base v l) (hij : i < j) (hj : j ≤ l.length) :
    Calls Try.prog 59 #[v, .int .i64 i, .int .i64 j] w fun e w' => ∃ v', e = .returned v' ∧ OwnI w' base v' (l.take i ++ l.drop j) ∧ VEff v.ownBlock.toList w w' ∧ v'.ownBlock = v.ownBlock := by
  have hlne : l ≠ [] := by rintro rfl; simp at hj; omega
  obtain ⟨g, cap, rest, rfl, hg, hglt, hh, hlc, hcm, hs⟩ := hown.row hlne
  have h3 : (flat l).length = l.length * 7 := flat_length l
  have h1 : (flat (l.drop j)).length = (l.length - j) * 7 := by rw [flat_length, List.length_drop]
  have hzl : (Builtin.zeroCells zeroItem.cells (l.length - (i + (l.length - j)))).toList.length = (l.length - (i + (l.length - j))) * 7 := by rw [zeroCells_len]; rfl
  obtain ⟨C1, rest', hc1, hc1l, hc2, hc2l⟩ := del_cells l rest _ i j cap hij hj hs hlc hzl
  obtain ⟨SRC, hsrc, hcell⟩ : ∃ SRC, (if cap = j then some (⟨g, 0, none⟩ : Addr) else some ⟨g, j * 7, none⟩) = some SRC ∧ ∀ k u, (flat (l.drop j))[k]? = some u → w.drew.cell? (SRC.add k) = some u := by
    by_cases hc : cap = j
    · rw [if_pos hc]
      refine ⟨_, rfl, fun k u hu => ?_⟩
      have : l.drop j = [] := by rw [List.drop_eq_nil_iff]; omega
      rw [this] at hu
      simp [flat] at hu
    · rw [if_neg hc]
      refine ⟨_, rfl, fun k u hu => ?_⟩
      exact row_cells (w := w.drew) hh (j * 7) k u (by rw [List.drop_append, flat_drop, List.getElem?_append_left (List.getElem?_eq_some_iff.1 hu).1]; exact hu)
  refine (delete_walk l.length i j g cap w (w.drew.setRow g C1.toArray) ((w.drew.setRow g C1.toArray).setRow g (flat (l.take i ++ l.drop j) ++ rest').toArray) hij hj hlc hcm SRC hsrc ?_ ?_).mono ?_
  · intro ty c
    rw [← hc1]
    exact run_append_row w.drew _ ty 26 7 g i cap SRC (l.length - j) c (flat l ++ rest) 26 (flat (l.drop j)) Try.underlying22 size7 hh h1 hcell (by omega) (by rw [h1, hs]; omega) (flat_one _)
  · intro ty c
    rw [← hc2]
    exact run_clear_row (w.drew.setRow g C1.toArray) _ ty 26 7 g _ (l.length - (i + (l.length - j))) c C1 26 zeroItem Try.underlying22 (by kernel_rfl) rfl (setRow_heap _ _ _ _ _ _ hh) (by omega) (by rw [hc1l]; omega) (zero_one _)
  · rintro e w' ⟨rfl, rfl⟩
    have hlen : (l.take i ++ l.drop j).length = i + (l.length - j) := by simp; omega
    refine ⟨_, rfl, ?_, ?_, rfl⟩
    · have := OwnI.mk (w := (w.drew.setRow g C1.toArray).setRow g (flat (l.take i ++ l.drop j) ++ rest').toArray) (base := base) (l := l.take i ++ l.drop j) (rest := rest') (cap := cap) hg (setRow_heap _ _ _ _ _ _ (setRow_heap _ _ _ _ _ _ hh)) (by rw [hlen]; omega) hcm hc2l
      rwa [hlen] at this
    · have e1 : VEff [g] w (w.drew.setRow g C1.toArray) := ⟨rfl, rfl, rfl, by simp [World.setRow], fun k _ hn => setRow_other w.drew g k _ (by simpa using hn)⟩
      exact e1.trans (VEff.setRow _ g _) (fun _ hx => .inl hx)
end Go.Proofs.Ytkdcenbommhnoaa
