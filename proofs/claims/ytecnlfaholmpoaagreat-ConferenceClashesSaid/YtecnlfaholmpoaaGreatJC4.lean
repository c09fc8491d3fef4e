/- Rows of items that the call owns: their cells; copy, append and clear as equations of the run. -/
import Derived.Test.YtecnlfaholmpoaaGreatJC3
import Derived.Lib.Overlaps
import Derived.Lib.LazyBuf
import Derived.Lib.AppendZerosOnto
set_option linter.unusedVariables false
set_option linter.unusedSimpArgs false
set_option maxRecDepth 20000
set_option maxHeartbeats 1000000
namespace Go.Proofs.YtecnlfaholmpoaaGreat
open Go.RowKit
def flat (l : List Item) : List Value := l.flatMap Item.cells
theorem flat_cons (x : Item) (l : List Item) : flat (x :: l) = x.cells ++ flat l := rfl
theorem flat_append (l m : List Item) : flat (l ++ m) = flat l ++ flat m := by simp [flat]
theorem flat_length (l : List Item) : (flat l).length = l.length * 7 := by
 induction l with
 | nil => rfl
 | cons x r ih => rw [flat_cons, List.length_append, ih]; simp; omega
theorem flat_take (l : List Item) (i : Nat) : (flat l).take (i * 7) = flat (l.take i) := by
 induction l generalizing i with
 | nil => simp [flat]
 | cons x r ih =>
   cases i with
   | zero => simp [flat]
   | succ i =>
     rw [flat_cons, List.take_succ_cons, flat_cons, List.take_append, List.take_of_length_le (by simp; omega), ← ih]
     congr 2
     simp; omega
theorem flat_drop (l : List Item) (i : Nat) : (flat l).drop (i * 7) = flat (l.drop i) := by
 induction l generalizing i with
 | nil => simp [flat]
 | cons x r ih =>
   cases i with
   | zero => simp
   | succ i =>
     rw [flat_cons, List.drop_succ_cons, List.drop_append, List.drop_of_length_le (by simp; omega), ← ih, List.nil_append]
     congr 1
     simp; omega
theorem flat_one (l : List Item) : ∀ u ∈ flat l, u.oneCell' = true := by
 intro u hu
 simp only [flat, List.mem_flatMap] at hu
 obtain ⟨x, _, hx⟩ := hu
 simp [Item.cells] at hx
 rcases hx with rfl | rfl | rfl | rfl | rfl | rfl | rfl <;> rfl
theorem flat_get {l : List Item} {k j : Nat} {x : Item} {v : Value} (hx : l[k]? = some x) (hv : x.cells[j]? = some v) : (flat l)[k * 7 + j]? = some v := by
 have hj : j < 7 := by have := (List.getElem?_eq_some_iff.1 hv).1; simpa using this
 induction l generalizing k with
 | nil => simp at hx
 | cons y r ih =>
   rw [flat_cons]
   cases k with
   | zero =>
     simp at hx
     subst hx
     rw [List.getElem?_append_left (by simp; omega)]
     simpa using hv
   | succ k =>
     rw [List.getElem?_append_right (by simp; omega)]
     have := ih (k := k) (by simpa using hx)
     rw [← this]
     congr 1
     simp; omega
theorem flat_split {l : List Item} {i : Nat} {v : Value} (hv : (flat l)[i]? = some v) : ∃ x, l[i / 7]? = some x ∧ x.cells[i % 7]? = some v := by
 have hi : i < l.length * 7 := by
  have := (List.getElem?_eq_some_iff.1 hv).1
  rwa [flat_length] at this
 have hk : i / 7 < l.length := by omega
 refine ⟨l[i / 7], List.getElem?_eq_getElem hk, ?_⟩
 have hm : i % 7 < 7 := Nat.mod_lt _ (by omega)
 have h := flat_get (l := l) (k := i / 7) (j := i % 7) (List.getElem?_eq_getElem hk) (List.getElem?_eq_getElem (by simp; omega))
 rw [show i / 7 * 7 + i % 7 = i by omega, hv] at h
 rw [List.getElem?_eq_getElem (by simp; omega)]
 exact h.symm
theorem RdI.flat_cell {w : World} {A : Option Addr} {l : List Item} (h : RdI w A l) (hne : l ≠ []) : ∃ b o, A = some ⟨b, o, none⟩ ∧ b < w.heap.size ∧ ∀ i v, (flat l)[i]? = some v → w.cell? ⟨b, o + i, none⟩ = some v := by
 obtain ⟨b, o, hA, hlt, hc⟩ := h hne
 refine ⟨b, o, hA, hlt, fun i v hv => ?_⟩
 obtain ⟨x, hx, hj⟩ := flat_split hv
 have := hc _ x hx _ v hj
 rwa [Nat.add_assoc, show i / 7 * 7 + i % 7 = i by omega] at this
theorem RdI.of_flat {w : World} {b o : Nat} {l : List Item} (hlt : b < w.heap.size) (h : ∀ i v, (flat l)[i]? = some v → w.cell? ⟨b, o + i, none⟩ = some v) : RdI w (some ⟨b, o, none⟩) l :=
 fun _ => ⟨b, o, rfl, hlt, fun k x hx j v hv => by rw [Nat.add_assoc]; exact h _ v (flat_get hx hv)⟩
/- rows that the call owns -/
def OwnI (w : World) (base : Nat) (v : Value) (l : List Item) : Prop := w.ownsRow base 47 7 v l.length (flat l)
theorem OwnI.form {w : World} {base : Nat} {v : Value} {l : List Item} (h : OwnI w base v l) : (v = .slice none 0 0 ∧ l = []) ∨
 ∃ g cap rest, v = .slice (some ⟨g, 0, none⟩) l.length cap ∧ base ≤ g ∧ g < w.heap.size ∧ w.heap[g]? = some (.cells (flat l ++ rest).toArray 47 (0, 0)) ∧ l.length ≤ cap ∧ cap ≤ maxLen ∧ (flat l ++ rest).length = cap * 7 := by
 rcases h.2 with ⟨rfl, h0⟩ | ⟨g, cap, cur, rfl, r2, r3, r4, r5, r6, r7⟩
 · exact .inl ⟨rfl, List.eq_nil_of_length_eq_zero h0⟩
 · right
   have e : cur = (flat l ++ cur.toList.drop (l.length * 7)).toArray := by
    rw [← r7, List.take_append_drop, Array.toArray_toList]
   refine ⟨g, cap, cur.toList.drop (l.length * 7), rfl, r2, lt_of_heap r3, by rw [← e]; exact r3, r4, r5, ?_⟩
   have := congrArg Array.size e
   simp at this
   simp
   omega
theorem OwnI.mk {w : World} {base g cap : Nat} {l : List Item} {rest : List Value} (hg : base ≤ g) (hh : w.heap[g]? = some (.cells (flat l ++ rest).toArray 47 (0, 0))) (hl : l.length ≤ cap) (hc : cap ≤ maxLen) (hs : (flat l ++ rest).length = cap * 7) :
 OwnI w base (.slice (some ⟨g, 0, none⟩) l.length cap) l :=
 ⟨by rw [flat_length], .inr ⟨g, cap, _, rfl, hg, hh, hl, hc, by simpa using hs, by simp [← flat_length]⟩⟩
theorem OwnI.slice {w : World} {base : Nat} {v : Value} {l : List Item} (h : OwnI w base v l) : ∃ A c, v = .slice A l.length c ∧ RdI w A l ∧ l.length ≤ c ∧ (∀ b o, A = some ⟨b, o, none⟩ → base ≤ b) := by
 rcases h.form with ⟨rfl, rfl⟩ | ⟨g, cap, rest, rfl, hg, hlt, hh, hlc, _, _⟩
 · exact ⟨none, 0, rfl, Sl.nil, by simp, by simp⟩
 · refine ⟨_, _, rfl, RdI.of_flat hlt (fun i v hv => ?_), hlc, fun b o hA => by cases hA; exact hg⟩
   rw [Nat.zero_add, cell_of_row _ _ _ _ _ _ hh, List.getElem?_toArray, List.getElem?_append_left (List.getElem?_eq_some_iff.1 hv).1]
   exact hv
theorem info26 : (Tryz.prog.info? 47).map (fun i => (i.zero, i.size, i.bytes)) = some (some (.agg #[.int .i64 0, .string ⟨#[]⟩, .string ⟨#[]⟩, .string ⟨#[]⟩, .string ⟨#[]⟩, .string ⟨#[]⟩, .bool false]), 7, 96) := by kernel_rfl
section
variable {P : Program}
theorem run_copy_n (w : World) (dT sT ty elem : TypeId) (s g o dLen dCap : Nat) (a : Addr) (sLen sCap : Nat) (cur : List Value) (t : TypeId) (cs : List Value)
 (hu : P.underlying dT = some (.slice elem)) (hs : (P.info? elem).map (·.size) = some s)
 (hg : w.heap[g]? = some (.cells cur.toArray t (0, 0))) (hn : cs.length = Nat.min sLen dLen * s)
 (hsrc : ∀ j v, cs[j]? = some v → w.cell? (a.add j) = some v) (hfit : o + cs.length ≤ cur.length) (h1 : ∀ v ∈ cs, v.oneCell' = true) :
 (Builtin.copy_ #[dT, sT] ty #[.slice (some ⟨g, o, none⟩) dLen dCap, .slice (some a) sLen sCap]).run P w =
   .ok (goInt (Nat.min sLen dLen)) (w.setRow g (cur.take o ++ cs ++ cur.drop (o + cs.length)).toArray) := by
 have hl := run_loadCells_list (P := P) w a cs hsrc
 have hst := run_storeCells_at P g o t cs 0 cur.toArray w hg (by simpa using hfit) h1
 cases hq : P.info? elem with
 | none => simp [hq] at hs
 | some i =>
   have hi : i.size = s := by simpa [hq] using hs
   have hst' : (storeCells ⟨g, o, none⟩ cs).run P w = .ok () (w.setRow g (cur.take o ++ cs ++ cur.drop (o + cs.length)).toArray) := by simpa using hst
   simp [Builtin.copy_, run_underlying hu, Builtin.lenOf, Builtin.firstCells, sizeOf, typeInfo, hq, hi, ← hn, hl, hst']
theorem step_copy_run {ops : Array Oper} {o : Oper} {a : Act} {w : World} {K : Act → World → Prop} {Q : Exit → Act → World → Prop} {E : Prop}
 (hg : o.guard = none) (d x : Operand) (dT sT : TypeId) (hop : o.op = Op.call { callee := Callee.builtin Builtin.copy, args := #[d, x], argTypes := #[dT, sT] })
 (v u : Value) (hd : a.eval d = v) (hx : a.eval x = u) {v' : Value} {w' : World} (hr : (Builtin.copy_ #[dT, sT] o.type #[v, u]).run P w = .ok v' w') (hK : K (a.put o.dst v') w') :
 if Region.wanted o (yielded ops a.tmps) = true then Oper.wp P o a w K Q else E := by
 have hw : Region.wanted o (yielded ops a.tmps) = true := by simp [Region.wanted, hg]
 rw [if_pos hw]
 unfold Oper.wp
 simp [execOp, hop, resolve, invoke, builtin, hd, hx, hr, Result.andThen]
 exact hK
theorem wpList_copy_run (w : World) {ops : Array Oper} {rest : List Oper} {o : Oper} {a : Act} {Q : Exit → Act → World → Prop} (hgd : o.guard = none) (d s : Operand) (t t' : TypeId)
 (ho : o.op = .call { callee := .builtin .copy, args := #[d, s], argTypes := #[t, t'] }) (v u : Value) (hd : a.eval d = v) (hs : a.eval s = u) {v' : Value} {w' : World}
 (hr : (Builtin.copy_ #[t, t'] o.type #[v, u]).run P w = .ok v' w') (h : wpList P ops Q rest (a.put o.dst v') w') : wpList P ops Q (o :: rest) a w := by
 refine wpList_plain hgd fun _ hK => ?_
 unfold Oper.wp execOp
 simp only [ho, resolve, invoke, builtin, Sem.run_bind, Sem.run_pure, Result.andThen_ok, List.map_toArray, List.map_cons, List.map_nil, hd, hs, hr]
 exact hK _ _ h
theorem VEff.setRow (w : World) (g : Nat) (cs : Array Value) : VEff [g] w (w.setRow g cs) :=
 ⟨rfl, rfl, rfl, by simp [World.setRow], fun k _ hn => setRow_other w g k cs (by simpa using hn)⟩
end
theorem RdI.add_cell {w : World} {a : Addr} {l : List Item} (h : RdI w (some a) l) : ∀ j u, (flat l)[j]? = some u → w.cell? (a.add j) = some u := by
 intro j u hu
 have hne : l ≠ [] := by rintro rfl; simp [flat] at hu
 obtain ⟨b, o, hA, _, hc⟩ := h.flat_cell hne
 cases hA
 rw [Addr.add_lit]
 exact hc j u hu
theorem made_empty (w : World) : (w.alloc (.cells #[] 47)).ownsRow w.heap.size 47 7 (.slice (some ⟨w.heap.size, 0, none⟩) 0 0) 0 [] :=
 ⟨rfl, .inr ⟨w.heap.size, 0, #[], rfl, Nat.le_refl _, heap_alloc_new w _, Nat.le_refl _, Nat.zero_le _, rfl, rfl⟩⟩
theorem clone_any (l : List Item) (A : Option Addr) (c : Nat) (w : World) (hr : RdI w A l) (hl : l.length ≤ 1000000) :
 Calls Tryz.prog 74 #[.slice A l.length c] w fun e w' => ∃ v, e = .returned v ∧ OwnI w' w.heap.size v l ∧ Below w.heap.size w w' := by
 cases A with
 | none =>
   have hl0 : l = [] := by
    cases l with
    | nil => rfl
    | cons x r => obtain ⟨b, o, hA, _⟩ := hr (by simp); cases hA
   subst hl0
   have heq := fun W n => Lib.run_eql_slice_nil (P := Tryz.prog) W 22 47 none n c 0 0 Tryz.underlying22
   go_enter Tryz.func74, Tryz.ntmps74
   go_wp2
   go_ret
   exact ⟨_, rfl, World.ownsRow_nil _ _ _ _, Below.refl _ _⟩
 | some a =>
   obtain ⟨i0, hi0, hz0, hz1, hz2⟩ := info_parts info26
   have Hi0 := Lib.hid hi0; clear hi0
   have Hz0 := Lib.hid hz0; clear hz0
   have Hz1 := Lib.hid hz1; clear hz1
   have Hz2 := Lib.hid hz2; clear hz2
   have HR := Lib.hid hr; clear hr
   have heq := fun W => Lib.run_eql_slice_nil (P := Tryz.prog) W 22 47 (some a) l.length c 0 0 Tryz.underlying22
   go_enter Tryz.func74, Tryz.ntmps74
   go_wp2_with (at_builtin; refine wpList_append_own _ rfl (.tmp 5) (.tmp 6) _ rfl w.heap.size 47 i0 (.agg #[.int .i64 0, .string ⟨#[]⟩, .string ⟨#[]⟩, .string ⟨#[]⟩, .string ⟨#[]⟩, .string ⟨#[]⟩, .bool false]) 7 96 Tryz.underlying22 Hi0.out Hz0.out Hz1.out Hz2.out rfl (by decide) (.slice (some ⟨w.heap.size, 0, none⟩) 0 0) 0 [] rfl (made_empty w) a l.length c (flat l) rfl (by rw [flat_length]) (HR.out.below ((Below.refl _ _).alloc (Nat.le_refl _) _)).add_cell (flat_one l) (le_maxLen (by omega)) (by omega) (by simp) ?_; intro v' w1 hown hgr _)
   go_ret
   exact ⟨v', rfl, by simpa [OwnI] using hown, ((Below.refl _ _).alloc (Nat.le_refl _) _).grown hgr (by simp) (by simp [Value.ownBlock])⟩
end Go.Proofs.YtecnlfaholmpoaaGreat
