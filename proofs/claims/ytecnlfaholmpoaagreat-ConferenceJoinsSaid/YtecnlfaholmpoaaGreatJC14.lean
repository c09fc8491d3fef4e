/- Stamps compared, clauses compared: one law each. Groups of numbers in memory, to be read; pandectref20.Lists at equal lists. Whole clauses stored and handed back. The state of a code: its items by Id, the order of the children of each, and how many there are; what patches do to it. What a patch that is possible does to the state of a code; codes with one state are one. -/
import Derived.Test.YtecnlfaholmpoaaGreatJC12
import Derived.Test.YtecnlfaholmpoaaGreatJC10
import Derived.Test.YtecnlfaholmpoaaGreatJC7
import Derived.Test.YtecnlfaholmpoaaGreatJC3
import Derived.Test.YtecnlfaholmpoaaGreatJC8
import Derived.Test.YtecnlfaholmpoaaGreatJC6
import Derived.Laws.ResultCell
import Derived.Deep.RegionHeld3
import Derived.Test.YtecnlfaholmpoaaGreatJC11
set_option linter.unusedVariables false
set_option linter.unusedSimpArgs false
set_option maxRecDepth 20000
namespace Go.Proofs.YtecnlfaholmpoaaGreat
open Go.RowKit
def sEq (a b c d : Int) : Bool := a == c && b == d
theorem sEq_iff {a b : Stamp} : sEq a.seat a.count b.seat b.count = decide (a = b) := by
 unfold sEq
 rw [Bool.eq_iff_iff]
 simp [stamp_ext]
def eqlSt (A B : Array Value) : Sem Value := binOp .eql 45 (.agg A) (.agg B)
def neqSt (A B : Array Value) : Sem Value := binOp .neq 45 (.agg A) (.agg B)
@[go_sem] theorem run_eqlSt (a b c d : Int) (W : World) : (eqlSt #[.int .i64 a, .int .i64 b] #[.int .i64 c, .int .i64 d]).run Tryz.prog W = .ok (.bool (sEq a b c d)) W := by
 unfold eqlSt sEq
 simp [go_sem]
 simp only [ite_eql]
 simp only [Bool.and_true]
@[go_sem] theorem run_neqSt (a b c d : Int) (W : World) : (neqSt #[.int .i64 a, .int .i64 b] #[.int .i64 c, .int .i64 d]).run Tryz.prog W = .ok (.bool (!sEq a b c d)) W := by
 unfold neqSt sEq
 by_cases h1 : a = c
 · by_cases h2 : b = d
   · simp [go_sem, h1, h2]
   · simp [go_sem, h1, h2]
 · simp [go_sem, h1]
@[go_sem high] theorem fold_eqlSt (A B : Array Value) : binOp .eql 45 (.agg A) (.agg B) = eqlSt A B := rfl
@[go_sem high] theorem fold_neqSt (A B : Array Value) : binOp .neq 45 (.agg A) (.agg B) = neqSt A B := rfl
def eqlCl (A B : Array Value) : Sem Value := binOp .eql 51 (.agg A) (.agg B)
def clEq (a b : Clause) : Bool := decide (a.id = b.id) && (decide (a.after = b.after) && (patEq a.patch b.patch && (a.gone == b.gone)))
theorem run_eqlCl0 (a0 b0 : Int) (a1 b1 : Int) (a2 b2 : Int) (a3 b3 : Int) (a4 b4 : Int) (a5 b5 : Str) (a6 b6 : Str) (a7 b7 : Str) (a8 b8 : Str) (a9 b9 : Int) (a10 b10 : Str) (a11 b11 : Str) (a12 b12 : Str) (a13 b13 : Str) (a14 b14 : Str) (a15 b15 : Bool) (a16 b16 : Int) (a17 b17 : Str) (a18 b18 : Str) (a19 b19 : Bool) (W : World) : (eqlCl #[.int .i64 a0, .int .i64 a1, .int .i64 a2, .int .i64 a3, .int .i64 a4, vs a5, vs a6, vs a7, vs a8, .int .i64 a9, vs a10, vs a11, vs a12, vs a13, vs a14, .bool a15, .int .i64 a16, vs a17, vs a18, .bool a19] #[.int .i64 b0, .int .i64 b1, .int .i64 b2, .int .i64 b3, .int .i64 b4, vs b5, vs b6, vs b7, vs b8, .int .i64 b9, vs b10, vs b11, vs b12, vs b13, vs b14, .bool b15, .int .i64 b16, vs b17, vs b18, .bool b19]).run Tryz.prog W = .ok (.bool (a0 == b0 && (a1 == b1 && (a2 == b2 && (a3 == b3 && (a4 == b4 && (a5 == b5 && (a6 == b6 && (a7 == b7 && (a8 == b8 && (a9 == b9 && (a10 == b10 && (a11 == b11 && (a12 == b12 && (a13 == b13 && (a14 == b14 && (a15 == b15 && (a16 == b16 && (a17 == b17 && (a18 == b18 && (a19 == b19))))))))))))))))))))) W := by
 unfold eqlCl
 simp [go_sem]
 simp only [ite_eql]
 simp only [Bool.and_true]
@[go_sem] theorem run_eqlCl (a b : Clause) (W : World) : (eqlCl #[.int .i64 a.id.seat, .int .i64 a.id.count, .int .i64 a.after.seat, .int .i64 a.after.count, .int .i64 a.patch.kind, vs a.patch.id, vs a.patch.par, vs a.patch.aft, vs a.patch.num, .int .i64 a.patch.item.kind, vs a.patch.item.id, vs a.patch.item.par, vs a.patch.item.num, vs a.patch.item.no, vs a.patch.item.so, .bool a.patch.item.gone, .int .i64 a.patch.lang, vs a.patch.fr, vs a.patch.to, .bool a.gone] #[.int .i64 b.id.seat, .int .i64 b.id.count, .int .i64 b.after.seat, .int .i64 b.after.count, .int .i64 b.patch.kind, vs b.patch.id, vs b.patch.par, vs b.patch.aft, vs b.patch.num, .int .i64 b.patch.item.kind, vs b.patch.item.id, vs b.patch.item.par, vs b.patch.item.num, vs b.patch.item.no, vs b.patch.item.so, .bool b.patch.item.gone, .int .i64 b.patch.lang, vs b.patch.fr, vs b.patch.to, .bool b.gone]).run Tryz.prog W = .ok (.bool (clEq a b)) W := by
 rw [run_eqlCl0]
 unfold clEq patEq
 rw [← sEq_iff, ← sEq_iff]
 unfold sEq
 simp only [Bool.and_assoc]
@[go_sem high] theorem fold_eqlCl (A B : Array Value) : binOp .eql 51 (.agg A) (.agg B) = eqlCl A B := rfl
end Go.Proofs.YtecnlfaholmpoaaGreat
namespace Go.Proofs.YtecnlfaholmpoaaGreat
open Go.RowKit
theorem keepw {wp wn : World} {b o : Nat} {v : Value} (hb : Below wp.heap.size wp wn) (h : wp.cell? ⟨b, o, none⟩ = some v) : wn.cell? ⟨b, o, none⟩ = some v := (hb.cell (p := ⟨b, o, none⟩) (World.block_lt_of_cell? _ _ h)).trans h
theorem rkeepk {wp wn : World} {b : Nat} {x : Obj} (hb : Below wp.heap.size wp wn) (h : wp.blk b = some x) : wn.blk b = some x := (hb.block b (lt_of_heap h)).trans h
def RdG (w : World) (A : Option Addr) (G : List (List Nat)) : Prop :=
 G ≠ [] → ∃ b, A = some ⟨b, 0, none⟩ ∧ b < w.heap.size ∧ ∀ (i : Nat) g, G[i]? = some g → ∃ b' c', w.cell? ⟨b, i, none⟩ = some (.slice (some ⟨b', 0, none⟩) g.length c') ∧ g.length ≤ c' ∧ b' < w.heap.size ∧ b' ≠ b ∧
  ∀ (k : Nat) x, g[k]? = some x → w.cell? ⟨b', k, none⟩ = some (.int .i64 (x : Int))
theorem RdG.keep {w w' : World} {A : Option Addr} {G : List (List Nat)} (h : RdG w A G) (hs : w.heap.size ≤ w'.heap.size) (base : Nat) (hA : ∀ b, A = some ⟨b, 0, none⟩ → b < base)
 (hk : ∀ b, b < w.heap.size → w'.heap[b]? = w.heap[b]?) : RdG w' A G := by
 intro hne
 obtain ⟨b, rfl, hb, hi⟩ := h hne
 refine ⟨b, rfl, by omega, fun i g hg => ?_⟩
 obtain ⟨b', c', h1, h2, h3, h4, h5⟩ := hi i g hg
 exact ⟨b', c', (cell_of_heap (hk b hb) _).trans h1, h2, by omega, h4, fun k x hx => (cell_of_heap (hk b' h3) _).trans (h5 k x hx)⟩
theorem RdG.below {w w' : World} {A : Option Addr} {G : List (List Nat)} (h : RdG w A G) (hb : Below w.heap.size w w') : RdG w' A G := by
 intro hne
 obtain ⟨b, rfl, hlt, hi⟩ := h hne
 refine ⟨b, rfl, Nat.lt_of_lt_of_le hlt hb.size, fun i g hg => ?_⟩
 obtain ⟨b', c', h1, h2, h3, h4, h5⟩ := hi i g hg
 exact ⟨b', c', keepw hb h1, h2, Nat.lt_of_lt_of_le h3 hb.size, h4, fun k x hx => keepw hb (h5 k x hx)⟩
end Go.Proofs.YtecnlfaholmpoaaGreat
namespace Go.Proofs.YtecnlfaholmpoaaGreat
open Go.RowKit
def loadCla (a : Addr) : Sem Value := loadVar 51 a
@[go_sem ↓ high] theorem loadVar_cla_fold (a : Addr) : loadVar 51 a = loadCla a := rfl
@[go_sem] theorem loadVar_cla (W : World) (b o : Nat) : (loadCla ⟨b, o, none⟩).run Tryz.prog W = rowLoad W 51 b o 20 (W.blk b) := loadVar_row W 51 b o 20 Tryz.underlying51 rfl (by kernel_rfl)
def zeroCl : Clause := ⟨noStamp, noStamp, ⟨0, [], [], [], [], ⟨0, [], [], [], [], [], false⟩, 0, [], []⟩, false⟩
theorem size_cla : (Tryz.prog.info? 51).map (·.size) = some 20 := by kernel_rfl
theorem claCs_one (q : Clause) : ∀ v ∈ (claCs q).toList, v.oneCell' = true := by
 intro v hv
 simp at hv
 rcases hv with rfl | rfl | rfl | rfl | rfl | rfl | rfl | rfl | rfl | rfl | rfl | rfl | rfl | rfl | rfl | rfl | rfl | rfl | rfl | rfl <;> rfl
theorem step_store_cla {ops : Array Oper} {o : Oper} {a : Act} {w : World} {K : Act → World → Prop} {Q : Exit → Act → World → Prop} {E : Prop} (hgd : o.guard = none) (x y : Operand) (ho : o.op = .store 51 x y)
 (g : Nat) (q cur : Clause) (hx : a.eval x = .pointer (some ⟨g, 0, none⟩)) (hy : a.eval y = .agg (claCs q)) (hg : w.blk g = some (.cells (claCs cur) 51 (0, 0)))
 (hK : K (a.put o.dst undef) (w.setRow g (claCs q))) : if Region.wanted o (yielded ops a.tmps) = true then Oper.wp Tryz.prog o a w K Q else E := by
 have hw : Region.wanted o (yielded ops a.tmps) = true := by simp [Region.wanted, hgd]
 rw [if_pos hw]
 exact wp_store_row 51 x y ho g (claCs q) hx hy 51 (claCs cur) hg size_cla rfl (Array.all_eq_true'.2 fun v hv => claCs_one q v (by simpa using hv)) hK
theorem load_cla {X : World} {q : Clause} {b : Nat} (hb : X.blk b = some (.cells (claCs q) 51 (0, 0))) : (loadVar 51 ⟨b, 0, none⟩).run Tryz.prog X = .ok q.agg X := by
 rw [loadVar_row X 51 b 0 20 Tryz.underlying51 rfl (by kernel_rfl), hb]
 exact rowLoad_cells _ _ _ _ _ _ _ rfl
def storeCla (a : Addr) (v : Value) : Sem Unit := storeVar 51 a v
@[go_sem ↓ high] theorem storeVar_cla_fold (a : Addr) (v : Value) : storeVar 51 a v = storeCla a v := rfl
noncomputable def rowStoreC (W : World) (b : Nat) (C : Array Value) (x : Option Obj) : Result Unit :=
 match x with
 | some (.cells D t (0, 0)) => if D.size = 20 ∧ C.size = 20 ∧ C.all (·.oneCell') = true then .ok () (W.setRow b C) else (storeVar 51 ⟨b, 0, none⟩ (.agg C)).run Tryz.prog W
 | _ => (storeVar 51 ⟨b, 0, none⟩ (.agg C)).run Tryz.prog W
@[go_sem] theorem storeCla_run (W : World) (b : Nat) (C : Array Value) : (storeCla ⟨b, 0, none⟩ (.agg C)).run Tryz.prog W = rowStoreC W b C (W.blk b) := by
 unfold rowStoreC storeCla World.blk
 split
 · rename_i D t h
   split
   · rename_i hn
     exact run_storeVar_row W b t 51 D C h (by rw [hn.2.1]; exact size_cla) (by rw [hn.1, hn.2.1]) hn.2.2
   · rfl
 · rfl
@[go_sem] theorem rowStoreC_cells (W : World) (b : Nat) (D : Array Value) (t : TypeId) (h : D.size = 20) (a0 : Int) (a1 : Int) (a2 : Int) (a3 : Int) (a4 : Int) (a5 : Str) (a6 : Str) (a7 : Str) (a8 : Str) (a9 : Int) (a10 : Str) (a11 : Str) (a12 : Str) (a13 : Str) (a14 : Str) (a15 : Bool) (a16 : Int) (a17 : Str) (a18 : Str) (a19 : Bool) :
 rowStoreC W b #[.int .i64 a0, .int .i64 a1, .int .i64 a2, .int .i64 a3, .int .i64 a4, vs a5, vs a6, vs a7, vs a8, .int .i64 a9, vs a10, vs a11, vs a12, vs a13, vs a14, .bool a15, .int .i64 a16, vs a17, vs a18, .bool a19] (some (.cells D t (0, 0))) = .ok () (W.setRow b #[.int .i64 a0, .int .i64 a1, .int .i64 a2, .int .i64 a3, .int .i64 a4, vs a5, vs a6, vs a7, vs a8, .int .i64 a9, vs a10, vs a11, vs a12, vs a13, vs a14, .bool a15, .int .i64 a16, vs a17, vs a18, .bool a19]) := by
 show (if D.size = 20 ∧ _ ∧ _ then _ else _) = _
 rw [if_pos ⟨h, rfl, by simp [Value.oneCell']⟩]
@[go_sem] theorem setRow_alloc_new (w : World) (D C : Array Value) (t : TypeId) : (w.alloc (.cells D t)).setRow w.heap.size C = w.alloc (.cells C t) := by
 unfold World.setRow World.alloc
 congr 1
 apply Array.ext_getElem?
 intro i
 rw [Array.getElem?_modify]
 by_cases h : w.heap.size = i
 · subst h; simp
 · rw [if_neg h]
   by_cases h2 : i < w.heap.size
   · simp [Array.getElem?_push, h2, Nat.ne_of_lt h2]
   · simp [Array.getElem?_push, Ne.symm h]
theorem results_cla {fn : Func} {p u : Tmp} (h : fn.results = #[.cell p 51, .tmp u]) {X : World} {tmps : Array Value} {q : Clause} {er : Value} {b : Nat} (hp : tmps.getD p undef = .pointer (some ⟨b, 0, none⟩)) (he : tmps.getD u undef = er) (hb : X.blk b = some (.cells (claCs q) 51 (0, 0))) :
 (results fn tmps).run Tryz.prog X = .ok (.tuple #[q.agg, er]) X := by
 rw [results_cell_tmp h, hp, he]
 simp only [asAddr, Sem.run_pure, Result.andThen_ok, load_cla hb]
theorem takeF {P : Program} {ops : Array Oper} {Q : Exit → Act → World → Prop} {md : Region.Mode} {S : World → Prop} {i : Nat} {oi : Oper} {v : Value} {k : Nat} {fuel : Nat} {listed : Array Bool} {a : Act} {w : World} (hi : ops[i]? = some oi) (hd : oi.dst = some k)
 (hs : Region.noSelect ops = true) (hf : Region.free md ops listed i = true) (hr : (Region.ready md ops listed).contains i = true)
 (hQ : ∀ c a w, Q (.panic c) (a.put oi.dst v) w → Q (.panic c) a w) (hy : YieldsIf P ops S oi v a) (hS : S w)
 (h : wpAnyH P md ops Q S fuel (listed.setIfInBounds i true) (a.put (some k) v) w) : wpAnyH P md ops Q S (fuel + 1) listed a w :=
 wpAnyH_take hi hs hf hr hQ hy hS (by rw [hd]; exact h)
end Go.Proofs.YtecnlfaholmpoaaGreat
namespace Go.Proofs.YtecnlfaholmpoaaGreat
abbrev Its := Str → Item
abbrev Ords := Str → List Str
def ordL (l : List Item) : Ords := fun q => (l.filter fun x => x.par == q).map (·.id)
def insA (aft i : Str) (L : List Str) : List Str := if aft = [] then i :: L else L.flatMap fun j => if j = aft then [j, i] else [j]
def outA (i : Str) (L : List Str) : List Str := L.filter fun j => j != i
def itN (it : Its) (p : Patch) : Its := fun i => if i = p.id then (if p.kind = 1 then p.item else if p.kind = 4 then { it i with par := p.par } else chgF p (it i)) else it i
def ordN (O : Ords) (p : Patch) : Ords := fun q =>
 if p.kind = 1 then (if q = p.par then insA p.aft p.id (O q) else O q)
 else if p.kind = 4 then (if q = p.par then insA p.aft p.id (outA p.id (O q)) else outA p.id (O q))
 else O q
def lenN (n : Nat) (p : Patch) : Nat := if p.kind = 1 then n + 1 else n
inductive Up (it : Its) (z : Str) : Str → Prop
 | base {y : Str} : (it y).par = z → Up it z y
 | step {y : Str} : Up it z (it y).par → Up it z y
def exA (it : Its) (par aft : Str) : Prop := (par = [] ∨ (it par).kind = 1) ∧ (aft = [] ∨ ((it aft).kind ≠ 0 ∧ (it aft).par = par))
structure ChgOk (p : Patch) (x : Item) : Prop where
 here : x.kind ≠ 0
 art : p.kind ≠ 3 → x.kind = 2
 s6 : p.kind = 6 → x.gone = true
 s : p.kind ≠ 6 → x.gone = false
 w : p.kind = 2 → onceIs (wordsText p x) p.fr = true ∧ (wordsNew p x).length ≤ 400
 r : p.kind = 7 → p.item.no.length ≤ 400 ∧ p.item.so.length ≤ 400
structure MovOk (it : Its) (p : Patch) : Prop where
 here : (it p.id).kind ≠ 0
 s : (it p.id).gone = false
 ex : exA it p.par p.aft
 par : p.par ≠ p.id
 aft : p.aft ≠ p.id
 up : p.par ≠ [] → ¬ Up it p.id p.par
structure InsOk (it : Its) (n : Nat) (p : Patch) : Prop where
 new : (it p.id).kind = 0
 ex : exA it p.par p.aft
 le : n < 2000
def Poss (it : Its) (n : Nat) (p : Patch) : Prop := if p.kind = 1 then InsOk it n p else if p.kind = 4 then MovOk it p else ChgOk p (it p.id)
structure Inv (it : Its) : Prop where
 closed : ∀ y, (it y).kind ≠ 0 → (it y).par ≠ [] → (it (it y).par).kind = 1
 none : ∀ y, (it y).kind = 0 → (it y).par = []
 nil : (it []).kind = 0
theorem up_ne {it : Its} (hi : Inv it) {z y : Str} (hz : z ≠ []) (h : Up it z y) : y ≠ [] := by
 induction h with
 | base e =>
   rintro rfl
   rw [hi.none _ hi.nil] at e
   exact hz e.symm
 | step h ih =>
   rintro rfl
   exact ih (hi.none _ hi.nil)
theorem up_here {it : Its} (hi : Inv it) {z s : Str} (hs : (it s).kind ≠ 0) (h : Up it z s) : z = [] ∨ (it z).kind ≠ 0 := by
 by_cases hz : z = []
 · exact .inl hz
 right
 induction h with
 | @base y e =>
   have := hi.closed y hs (by rw [e]; exact hz)
   rw [e] at this
   omega
 | @step y h ih =>
   exact ih (by have := hi.closed y hs (up_ne hi hz h); omega)
theorem up_sub {it it' : Its} {z s : Str} (hh : ∀ y, (y = s ∨ Up it y s) → (it' y).par = (it y).par) (h : Up it z s) : Up it' z s := by
 induction h with
 | @base y e => exact .base (by rw [hh y (.inl rfl)]; exact e)
 | @step y h ih =>
   refine .step ?_
   rw [hh y (.inl rfl)]
   exact ih fun u hu => hh u (.inr (hu.elim (fun e => by subst e; exact .base rfl) .step))
theorem up_sup {it it' : Its} {z s : Str} (hh : ∀ y, (y = s ∨ Up it y s) → (it' y).par = (it y).par) (h : Up it' z s) : Up it z s := by
 induction h with
 | @base y e => exact .base (by rw [← hh y (.inl rfl)]; exact e)
 | @step y h ih =>
   have e := hh y (.inl rfl)
   refine .step ?_
   rw [← e]
   refine ih fun u hu => hh u (.inr ?_)
   rw [e] at hu
   exact hu.elim (fun e => by subst e; exact .base rfl) .step
/- the items of a code -/
theorem it_upd {l d : List Item} {R R' : List Row} (hg : Good l R) (hd : Good d R') (y : Item) {id : Str} (hy : y ∈ d) (hid : y.id = id) (hm : ∀ z, z.id ≠ id → (z ∈ d ↔ z ∈ l)) :
 itemF d = fun i => if i = id then y else itemF l i := by
 funext i
 by_cases h : i = id
 · rw [if_pos h, h, ← hid]
   exact hd.item_of hy
 · rw [if_neg h]
   rcases hg.look i with ⟨_, h2, h3⟩ | ⟨a, x, o, r, b, hx, hB, _, hi, _⟩
   · rw [h2]
     refine (find_none ?_).2
     intro z hz he
     exact h3 z ((hm z (by rw [he]; exact h)).1 hz) he
   · rw [hi, ← hx]
     refine hd.item_of ((hm x (by rw [hx]; exact h)).2 ?_)
     have : (x, o) ∈ R := by rw [hB.eq]; simp
     exact hg.mem this
theorem Good.it_kind {l : List Item} {R : List Row} (hg : Good l R) {i : Str} (h : (itemF l i).kind ≠ 0) : itemF l i ∈ l ∧ (itemF l i).id = i ∧ ∃ o, (itemF l i, o) ∈ R := by
 rcases hg.look i with ⟨_, h2, _⟩ | ⟨a, x, o, r, b, hx, hB, _, hi, _⟩
 · rw [h2] at h; exact absurd rfl h
 · have hm : (x, o) ∈ R := by rw [hB.eq]; simp
   rw [hi]
   exact ⟨hg.mem hm, hx, o, hm⟩
theorem Good.it_none {l : List Item} {R : List Row} (hg : Good l R) {i : Str} (h : (itemF l i).kind = 0) : itemF l i = noItem ∧ findI l i = -1 ∧ ∀ x ∈ l, x.id ≠ i := by
 rcases hg.look i with ⟨h1, h2, h3⟩ | ⟨a, x, o, r, b, hx, hB, _, hi, _⟩
 · exact ⟨h2, h1, h3⟩
 · have hm : (x, o) ∈ R := by rw [hB.eq]; simp
   have := proper_kind (hg.proper hm)
   rw [hi] at h
   simp only at this
   omega
/- the row of the parent -/
theorem Good.parent {l : List Item} {R : List Row} (hg : Good l R) {y : Row} (hy : y ∈ R) (hne : y.1.par ≠ []) : ∃ u, y.2 = u ++ [y.1.par] ∧ ∃ w ∈ R, w.1.id = y.1.par ∧ w.2 = u ∧ w.1.kind = 1 := by
 obtain ⟨h1, h2⟩ := hg.par_last hy
 have hn : y.2 ≠ [] := by
  intro h
  rw [h] at h1
  exact hne h1.symm
 obtain ⟨u, hu⟩ := last_split hn
 rw [h1] at hu
 exact ⟨u, hu, hg.anc y hy u y.1.par [] hu⟩
theorem Good.inv {l : List Item} {R : List Row} (hg : Good l R) : Inv (itemF l) := by
 refine ⟨?_, ?_, ?_⟩
 · intro y hy hp
   obtain ⟨hm, hi, o, ho⟩ := hg.it_kind hy
   obtain ⟨u, _, w, hw, hwi, _, hk⟩ := hg.parent ho hp
   rw [← hwi, hg.item_of (hg.mem hw)]
   exact hk
 · intro y hy
   rw [(hg.it_none hy).1]; rfl
 · cases Classical.em ((itemF l []).kind = 0) with
   | inl h => exact h
   | inr h =>
     obtain ⟨hm, hi, _⟩ := hg.it_kind h
     exact absurd hi (proper_id (hg.pr _ hm))
theorem Good.open_up {l : List Item} {R : List Row} (hg : Good l R) {z : Str} (hz : z ≠ []) : ∀ (n : Nat), ∀ y ∈ R, y.2.length = n → z ∈ y.2 → Up (itemF l) z y.1.id := by
 intro n
 induction n using Nat.strongRecOn with
 | _ n ih =>
   intro y hy hn hm
   have hpar : y.1.par ≠ [] := hg.par_ne hy (by rintro h; rw [h] at hm; cases hm)
   obtain ⟨u, hu, w, hw, hwi, hwu, _⟩ := hg.parent hy hpar
   have hit := hg.item_of (hg.mem hy)
   rw [hu] at hm
   rcases List.mem_append.1 hm with hm | hm
   · have := ih u.length (by rw [← hn, hu]; simp) w hw (by rw [hwu]) (by rw [hwu]; exact hm)
     rw [hwi] at this
     refine .step ?_
     rw [hit]
     exact this
   · simp at hm
     refine .base ?_
     rw [hit, hm]
theorem Good.up_open {l : List Item} {R : List Row} (hg : Good l R) {z s : Str} (hz : z ≠ []) (h : Up (itemF l) z s) : ∀ y ∈ R, y.1.id = s → z ∈ y.2 := by
 induction h with
 | @base s e =>
   intro y hy hs
   subst hs
   rw [hg.item_of (hg.mem hy)] at e
   obtain ⟨u, hu, _⟩ := hg.parent hy (by rw [e]; exact hz)
   rw [hu, e]; simp
 | @step s h ih =>
   intro y hy hs
   subst hs
   rw [hg.item_of (hg.mem hy)] at h ih
   obtain ⟨u, hu, w, hw, hwi, hwu, _⟩ := hg.parent hy (up_ne hg.inv hz h)
   have := ih w hw hwi
   rw [hwu] at this
   rw [hu]
   exact List.mem_append_left _ this
theorem Good.under {l : List Item} {R : List Row} (hg : Good l R) {par id : Str} (hp : (itemF l par).kind ≠ 0) (hid : id ≠ []) : underB l par id = true ↔ Up (itemF l) id par := by
 obtain ⟨hm, hi, o, ho⟩ := hg.it_kind hp
 have e := under_at hg ho hid
 simp only at e
 rw [hi] at e
 rw [e, decide_eq_true_eq]
 constructor
 · intro h
   have := hg.open_up hid _ _ ho rfl h
   simp only [hi] at this
   exact this
 · intro h
   exact hg.up_open hid h _ ho hi
theorem existsF_iff (l : List Item) (par aft : Str) : existsF l par aft = true ↔ exA (itemF l) par aft := by
 unfold existsF exA
 simp
theorem poss_chg {it : Its} {n : Nat} {p : Patch} (h : p.kind ≠ 1 ∧ p.kind ≠ 4) : Poss it n p ↔ ChgOk p (it p.id) := by
 unfold Poss; rw [if_neg h.1, if_neg h.2]
theorem poss_ins {it : Its} {n : Nat} {p : Patch} (h : p.kind = 1) : Poss it n p ↔ InsOk it n p := by unfold Poss; rw [if_pos h]
theorem poss_mov {it : Its} {n : Nat} {p : Patch} (h : p.kind = 4) : Poss it n p ↔ MovOk it p := by unfold Poss; rw [if_neg (by omega), if_pos h]
/- which patches are possible -/
theorem poss_iff {l : List Item} {R : List Row} (hg : Good l R) {p : Patch} (hf : formedF p = true) : (applyF l p).2 = 0 ↔ Poss (itemF l) l.length p := by
 have hkk := formed_kind hf
 unfold applyF
 rw [if_neg (by rw [hg.wB, hf]; simp)]
 by_cases h1 : p.kind = 1
 · rw [poss_ins h1, if_pos h1]
   unfold insertF
   constructor
   · intro h
     split at h
     · simp at h
     rename_i h2
     split at h
     · simp at h
     rename_i h3
     split at h
     · simp at h
     rename_i h4
     refine ⟨?_, (existsF_iff _ _ _).1 (by simpa using h3), by omega⟩
     cases Classical.em ((itemF l p.id).kind = 0) with
     | inl h => exact h
     | inr h5 =>
       obtain ⟨hm, hi, _⟩ := hg.it_kind h5
       obtain ⟨k, hk, _⟩ := hg.find_at hm
       rw [hi] at hk
       omega
   · rintro ⟨h2, h3, h4⟩
     rw [if_neg (by rw [(hg.it_none h2).2.1]; omega), if_neg (by rw [(existsF_iff _ _ _).2 h3]; simp), if_neg (by omega)]
 rw [if_neg h1]
 by_cases h0 : (itemF l p.id).kind = 0
 · rw [if_pos (.inl h0)]
   constructor
   · intro h; simp at h
   · intro h
     exfalso
     by_cases h4 : p.kind = 4
     · exact ((poss_mov h4).1 h).here h0
     · exact ((poss_chg ⟨h1, h4⟩).1 h).here h0
 have hk2 : (itemF l p.id).kind = 1 ∨ (itemF l p.id).kind = 2 := proper_kind (hg.pr _ (hg.it_kind h0).1)
 have hid : p.id ≠ [] := by
  have := proper_id (hg.pr _ (hg.it_kind h0).1)
  rw [(hg.it_kind h0).2.1] at this
  exact this
 by_cases h4 : p.kind = 4
 · have q1 : ¬ ((itemF l p.id).kind = 0 ∨ ((itemF l p.id).kind = 1 ∧ p.kind ≠ 3 ∧ p.kind ≠ 4)) := by omega
   have q2 : ¬ (p.kind = 6 ∧ (itemF l p.id).gone = false) := by omega
   have q3 : ¬ p.kind = 2 := by omega
   have q4 : ¬ p.kind = 3 := by omega
   rw [poss_mov h4, if_neg q1, if_neg q2, if_neg q3, if_neg q4, if_pos h4]
   constructor
   · intro h
     split at h
     · simp at h
     rename_i hgo
     unfold moveF at h
     split at h
     · rename_i hm
       unfold moveOk at hm
       simp only [Bool.and_eq_true, Bool.not_eq_true', beq_eq_false_iff_ne, Bool.or_eq_true, List.isEmpty_iff] at hm
       obtain ⟨m1, m2, m3, m4⟩ := hm
       have hex := (existsF_iff _ _ _).1 m1
       refine ⟨h0, ?_, hex, m2, m3, ?_⟩
       · cases hgg : (itemF l p.id).gone with
         | false => rfl
         | true => exact absurd ⟨by omega, hgg⟩ hgo
       · intro hp hu
         rcases m4 with m4 | m4
         · exact hp m4
         · rcases hex.1 with e | e
           · exact hp e
           · rw [(hg.under (by omega) hid).2 hu] at m4; cases m4
     · simp at h
   · rintro ⟨_, m1, m2, m3, m4, m5⟩
     rw [if_neg (by rw [m1]; simp)]
     unfold moveF
     rw [if_pos]
     unfold moveOk
     simp only [Bool.and_eq_true, Bool.not_eq_true', beq_eq_false_iff_ne, Bool.or_eq_true, List.isEmpty_iff]
     refine ⟨(existsF_iff _ _ _).2 m2, m3, m4, ?_⟩
     by_cases hp : p.par = []
     · exact .inl hp
     · right
       rcases m2.1 with e | e
       · exact absurd e hp
       · have := mt (hg.under (by omega) hid).1 (m5 hp)
         simpa using this
 rw [poss_chg ⟨h1, h4⟩]
 constructor
 · intro h
   split at h
   · simp at h
   rename_i ha
   split at h
   · simp at h
   rename_i hb
   split at h
   · simp at h
   rename_i hc
   refine ⟨h0, ?_, ?_, ?_, ?_, ?_⟩
   · intro h3
     rcases hk2 with e | e
     · exact absurd (.inr ⟨e, h3, h4⟩) ha
     · exact e
   · intro h6
     cases hgg : (itemF l p.id).gone with
     | true => rfl
     | false => exact absurd ⟨h6, hgg⟩ hb
   · intro h6
     cases hgg : (itemF l p.id).gone with
     | false => rfl
     | true => exact absurd ⟨h6, hgg⟩ hc
   · intro h2
     rw [if_pos h2] at h
     unfold wordsF at h
     split at h
     · simp at h
     rename_i hd
     split at h
     · simp at h
     rename_i he
     exact ⟨by simpa using hd, by omega⟩
   · intro h7
     have q2 : ¬ p.kind = 2 := by omega
     have q3 : ¬ p.kind = 3 := by omega
     simp only [if_neg q2, if_neg q3, if_neg h4, if_pos h7] at h
     unfold replaceF at h
     split at h
     · simp at h
     · omega
 · rintro ⟨_, ha, h6, hs, hw, hr⟩
   rw [if_neg (by
    rintro (h | ⟨h, h3, _⟩)
    · exact h0 h
    · have := ha h3; omega)]
   rw [if_neg (by rintro ⟨h, h'⟩; rw [h6 h] at h'; cases h')]
   rw [if_neg (by rintro ⟨h, h'⟩; rw [hs h] at h'; cases h')]
   by_cases h2 : p.kind = 2
   · rw [if_pos h2]
     unfold wordsF
     rw [if_neg (by rw [(hw h2).1]; simp), if_neg (by have := (hw h2).2; omega)]
   rw [if_neg h2]
   by_cases h3 : p.kind = 3
   · rw [if_pos h3]
   rw [if_neg h3, if_neg h4]
   by_cases h7 : p.kind = 7
   · rw [if_pos h7]
     unfold replaceF
     rw [if_neg (by have := hr h7; omega)]
   · rw [if_neg h7]
end Go.Proofs.YtecnlfaholmpoaaGreat
namespace Go.Proofs.YtecnlfaholmpoaaGreat
structure St where
 it : Its
 o : Ords
 n : Nat
def stL (l : List Item) : St := ⟨itemF l, ordL l, l.length⟩
def stN (s : St) (p : Patch) : St := ⟨itN s.it p, ordN s.o p, lenN s.n p⟩
/- rows are known by their items -/
theorem rows_det {A A' : List Row} (h : A.map (·.1) = A'.map (·.1)) (hc : Chain [] A) (hc' : Chain [] A') (hn : (idsR A).Nodup) (hp : ∀ y ∈ A, properB y.1 = true) : A = A' := by
 have h1 := walkF_of A [] [] hc List.nodup_nil (by simp) hn (by simp) hp
 have hi : idsR A' = idsR A := by
  have : ∀ B : List Row, idsR B = (B.map (·.1)).map (·.id) := fun B => by simp [idsR]
  rw [this, this, h]
 have h2 := walkF_of A' [] [] hc' List.nodup_nil (by simp) (by rw [hi]; exact hn) (by simp) (by
  intro y hy
  have : y.1 ∈ A.map (·.1) := by rw [h]; exact List.mem_map_of_mem hy
  obtain ⟨z, hz, he⟩ := List.mem_map.1 this
  rw [← he]
  exact hp z hz)
 rw [h, h2] at h1
 exact (Prod.mk.inj h1).1.symm
/- who comes next stands as deep as he may -/
theorem ext_key {l : List Item} {R A C : List Row} {x x' : Item} {o o' : List Str} (hg : Good l R) (hR : R = A ++ (x, o) :: C) (ho' : o' <+: stk [] A) (hl' : lastS o' = x'.par)
 (hm : x' ∈ l) (hu : ∀ y ∈ A, y.1 ≠ x') (hp : o <+: o') : o = o' := by
 obtain ⟨t, rfl⟩ := hp
 cases t with
 | nil => simp
 | cons z t =>
   exfalso
   have hc := hg.chain
   have hn := hg.nd
   rw [hR] at hc hn
   obtain ⟨n1, n2, n3, n4, n5⟩ := nodup_parts hn
   have hcA := (chain_append.1 hc).1
   obtain ⟨k1, k2, k3, k4⟩ := chain_mid hc
   have hq : x'.par ∈ z :: t := by rw [← hl']; exact lastS_app o z t
   have hSn : (stk [] A).Nodup := stk_nodup hcA List.nodup_nil (by simp) n3
   have hon : (o ++ z :: t).Nodup := ho'.sublist.nodup hSn
   have hqS : x'.par ∈ stk [] A := pre_sub ho' (List.mem_append_right _ hq)
   have hqA : x'.par ∈ idsR A := chain_sub0 hcA hqS
   have hqo : x'.par ∉ o := fun h => (List.nodup_append.1 hon).2.2 _ h _ hq rfl
   have hne : x'.par ≠ [] := by
    intro h
    have : x'.par ∈ A.map (·.1.id) := hqA
    obtain ⟨w, hw, he⟩ := List.mem_map.1 this
    have := proper_id (hg.proper (y := w) (by rw [hR]; simp [hw]))
    exact this (by rw [← h]; exact he)
   have hxx : x' ≠ x := by
    rintro rfl
    by_cases ho : o = []
    · exact hne (by rw [← k2, ho]; rfl)
    · exact hqo (by rw [← k2]; exact lastS_mem ho)
   rw [← hg.fst, hR] at hm
   simp only [List.map_append, List.map_cons, List.mem_append, List.mem_cons, List.mem_map] at hm
   rcases hm with ⟨w, hw, he⟩ | he | ⟨w, hw, he⟩
   · exact hu w hw he
   · exact hxx he
   · have hwR : w ∈ R := by rw [hR]; simp [hw]
     obtain ⟨u, hu2, _⟩ := hg.parent hwR (by rw [he]; exact hne)
     refine not_open k4 ?_ ?_ w hw (z := x'.par) ?_
     · intro h
       rcases mem_push h with h | h
       · exact hqo h
       · rw [h] at hqA; exact n1 hqA
     · exact n5 _ hqA
     · rw [hu2, he]; simp
theorem code_ext {l l' : List Item} (hw : walkB l = true) (hw' : walkB l' = true) (h : stL l = stL l') : l = l' := by
 have hg := good_of hw
 have hg' := good_of hw'
 generalize walkL l = R at hg
 generalize walkL l' = R' at hg'
 have hit : itemF l = itemF l' := congrArg St.it h
 have hor : ordL l = ordL l' := congrArg St.o h
 have hlen : l.length = l'.length := congrArg St.n h
 have hmem : ∀ x, x ∈ l → x ∈ l' := by
  intro x hx
  have e := hg.item_of hx
  rw [hit] at e
  have := (hg'.it_kind (i := x.id) (by rw [e]; have := proper_kind (hg.pr _ hx); omega)).1
  rw [e] at this
  exact this
 have hmem' : ∀ x, x ∈ l' → x ∈ l := by
  intro x hx
  have e := hg'.item_of hx
  rw [← hit] at e
  have := (hg.it_kind (i := x.id) (by rw [e]; have := proper_kind (hg'.pr _ hx); omega)).1
  rw [e] at this
  exact this
 have key : ∀ n, l.take n = l'.take n := by
  intro n
  induction n with
  | zero => simp
  | succ n ih =>
    by_cases hn : n < l.length
    · have hn' : n < l'.length := by omega
      have e1 := List.take_append_drop n l
      have e2 := List.take_append_drop n l'
      rw [List.drop_eq_getElem_cons hn] at e1
      rw [List.drop_eq_getElem_cons hn'] at e2
      rw [List.take_add_one, List.take_add_one, ih, List.getElem?_eq_getElem hn, List.getElem?_eq_getElem hn']
      congr 2
      generalize l[n] = x at e1
      generalize l'[n] = x' at e2
      generalize l.drop (n + 1) = r at e1
      generalize l'.drop (n + 1) = r' at e2
      rw [← ih] at e2
      generalize l.take n = u at e1 e2
      have f1 := hg.fst
      have f2 := hg'.fst
      rw [← e1, List.map_eq_append_iff] at f1
      rw [← e2, List.map_eq_append_iff] at f2
      obtain ⟨A, C0, hR, hA, hC0⟩ := f1
      obtain ⟨A', C0', hR', hA', hC0'⟩ := f2
      rw [List.map_eq_cons_iff] at hC0 hC0'
      obtain ⟨⟨x1, o⟩, C, rfl, hx1, hC⟩ := hC0
      obtain ⟨⟨x1', o'⟩, C', rfl, hx1', hC'⟩ := hC0'
      simp only at hx1 hx1'
      subst hx1 hx1'
      have hc := hg.chain
      have hc' := hg'.chain
      rw [hR] at hc
      rw [hR'] at hc'
      have hnd := hg.nd
      rw [hR] at hnd
      have hnd' := hg'.nd
      rw [hR'] at hnd'
      obtain ⟨n1, n2, n3, n4, n5⟩ := nodup_parts hnd
      obtain ⟨m1, m2, m3, m4, m5⟩ := nodup_parts hnd'
      have hAA : A = A' := rows_det (hA.trans hA'.symm) (chain_append.1 hc).1 (chain_append.1 hc').1 n3 (fun y hy => hg.proper (by rw [hR]; simp [hy]))
      subst hAA
      obtain ⟨k1, k2, k3, k4⟩ := chain_mid hc
      obtain ⟨j1, j2, j3, j4⟩ := chain_mid hc'
      have hxl : x1 ∈ l' := hmem _ (by rw [← e1]; simp)
      have hxl' : x1' ∈ l := hmem' _ (by rw [← e2]; simp)
      have hnu : ∀ y ∈ A, y.1 ≠ x1' := by
       rintro y hy rfl
       exact m1 (by unfold idsR; exact List.mem_map_of_mem (f := fun y : Row => y.1.id) hy)
      have hnu' : ∀ y ∈ A, y.1 ≠ x1 := by
       rintro y hy rfl
       exact n1 (by unfold idsR; exact List.mem_map_of_mem (f := fun y : Row => y.1.id) hy)
      have hoo : o = o' := by
       rcases Nat.le_total o.length o'.length with hle | hle
       · exact ext_key hg hR j1 j2 hxl' hnu (List.prefix_of_prefix_length_le k1 j1 hle)
       · exact (ext_key hg' hR' k1 k2 hxl hnu' (List.prefix_of_prefix_length_le j1 k1 hle)).symm
      have hpar : x1.par = x1'.par := by rw [← k2, ← j2, hoo]
      have ho := congrFun hor x1.par
      unfold ordL at ho
      rw [← e1, ← e2] at ho
      simp only [List.filter_append, List.filter_cons, List.map_append, beq_self_eq_true, if_true, ← hpar, List.map_cons, List.append_cancel_left_eq, List.cons.injEq] at ho
      have a1 := hg.item_of (x := x1) (by rw [← e1]; simp)
      have a2 := hg'.item_of (x := x1') (by rw [← e2]; simp)
      rw [← a1, ← a2, hit, ho.1]
    · have h1 : l.take (n + 1) = l.take n := by rw [List.take_of_length_le (by omega), List.take_of_length_le (by omega)]
      have h2 : l'.take (n + 1) = l'.take n := by rw [List.take_of_length_le (by omega), List.take_of_length_le (by omega)]
      rw [h1, h2, ih]
 have := key l.length
 rw [List.take_length, hlen, List.take_length] at this
 exact this
/- the order of the children -/
theorem insA_mid {aft i : Str} {U V : List Str} (h : aft ≠ []) (hU : aft ∉ U) (hV : aft ∉ V) : insA aft i (U ++ aft :: V) = U ++ aft :: i :: V := by
 have key : ∀ L : List Str, aft ∉ L → (L.flatMap fun j => if j = aft then [j, i] else [j]) = L := by
  intro L hL
  induction L with
  | nil => rfl
  | cons j r ih =>
    simp only [List.mem_cons, not_or] at hL
    rw [List.flatMap_cons, if_neg (fun e => hL.1 e.symm), ih hL.2]; rfl
 unfold insA
 rw [if_neg h, List.flatMap_append, List.flatMap_cons, if_pos rfl, key U hU, key V hV]; rfl
theorem ordL_append (u v : List Item) (q : Str) : ordL (u ++ v) q = ordL u q ++ ordL v q := by simp [ordL]
theorem ordL_cons (x : Item) (v : List Item) (q : Str) : ordL (x :: v) q = (if x.par = q then [x.id] else []) ++ ordL v q := by
 unfold ordL
 by_cases h : x.par = q
 · simp [h]
 · simp [h]
theorem ordL_none {v : List Item} {q : Str} (h : ∀ y ∈ v, y.par ≠ q) : ordL v q = [] := by
 unfold ordL
 rw [List.map_eq_nil_iff, List.filter_eq_nil_iff]
 intro y hy
 simpa using h y hy
theorem ordL_sub {v : List Item} {q s : Str} (h : s ∈ ordL v q) : s ∈ v.map (·.id) := by
 unfold ordL at h
 simp only [List.mem_map, List.mem_filter] at h ⊢
 obtain ⟨y, ⟨hy, _⟩, he⟩ := h
 exact ⟨y, hy, he⟩
theorem ins_ord {A B : List Item} {par aft i : Str} (hs : lastSib A par = aft) (hn : ((A ++ B).map (·.id)).Nodup) (h0 : ∀ y ∈ A, y.id ≠ []) : insA aft i (ordL (A ++ B) par) = ordL A par ++ i :: ordL B par := by
 rw [ordL_append]
 rcases lastSib_cases A par with ⟨h1, h2⟩ | ⟨u, y, v, rfl, h2, h3, h4⟩
 · rw [hs] at h1
   rw [ordL_none h2, h1]
   rfl
 · rw [hs] at h4
   subst h4
   have hy : y.id ≠ [] := h0 y (by simp)
   have e : ordL (u ++ y :: v) par = ordL u par ++ [y.id] := by
    rw [ordL_append, ordL_cons, if_pos h2, ordL_none h3]; rfl
   have hn' : ((u ++ y :: (v ++ B)).map (·.id)).Nodup := by simpa using hn
   simp only [List.map_append, List.map_cons] at hn'
   have hnu : y.id ∉ u.map (·.id) := fun h => (List.nodup_append.1 hn').2.2 _ h _ (by simp) rfl
   have hnB : y.id ∉ B.map (·.id) := by
    have := (List.nodup_cons.1 (List.nodup_append.1 hn').2.1).1
    exact fun h => this (List.mem_append_right _ h)
   rw [e]
   have := insA_mid (i := i) hy (fun h => hnu (ordL_sub (v := u) (q := par) h)) (fun h => hnB (ordL_sub (v := B) (q := par) h))
   simpa using this
theorem outA_none {i : Str} {L : List Str} (h : i ∉ L) : outA i L = L := by
 unfold outA
 rw [List.filter_eq_self]
 intro j hj
 simp
 rintro rfl
 exact h hj
theorem outA_append (i : Str) (U V : List Str) : outA i (U ++ V) = outA i U ++ outA i V := by simp [outA]
end Go.Proofs.YtecnlfaholmpoaaGreat
