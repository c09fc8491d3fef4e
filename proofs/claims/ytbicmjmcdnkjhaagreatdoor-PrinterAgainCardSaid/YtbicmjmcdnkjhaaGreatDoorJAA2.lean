/- Results of the parser's functions; conditions in memory. -/
import Derived.Test.YtbicmjmcdnkjhaaGreatDoorJAA1
set_option linter.unusedVariables false
set_option linter.unusedSimpArgs false
namespace Go.Proofs.YtbicmjmcdnkjhaaGreatDoor
section
open Go.RowKit
def Wp {α : Type} (p fin : Nat) (w : World) (res : R α) (V : α -> Value -> World -> Prop) (e : Ending) (w' : World) : Prop :=
 match res with
 | .ok (x, r) => ∃ v, e = .returned v /\ V x v w' /\ PS w' p fin r /\ Eff p w w'
 | .error (er, s) => e = Xg er (Xd fin s) /\ Eff p w w'
theorem Xk (ws : List (List UInt8)) (W : Option Addr) (cw : Nat) (p fin : Nat) (l : List Tok) (w : World) (hp : PS w p fin l) (hr : RdS w W ws) (hl : ws.length <= 100) :
 Calls Tryz.prog 78 #[.pointer (some ⟨p, 0, none⟩), .slice W ws.length cw] w (Wp p fin w (Q3 ws l) (fun i v _ => v = .int .i64 i)) := by
 rcases J9 ws l with ht | ⟨t, r, i, rfl, ht, -, -⟩
 · have h : Q3 ws l = .error (Z1 l, l) := by simp only [Q3, Jc, ht, failR]
   rw [h]; exact (qic ws W cw p fin l w hp hr hl ht).mono fun e w' ⟨h1, h2⟩ => ⟨h1, Eff.of_below h2⟩
 · have h : Q3 ws (t :: r) = .ok (i, r) := by simp only [Q3, Jc, ht]
   rw [h]; exact (qib ws W cw p fin t r w hp hr hl i ht).mono fun e w' ⟨h1, h2, h3⟩ => ⟨_, h1, rfl, h2, h3⟩
theorem Km (p fin : Nat) (l : List Tok) (w : World) (hp : PS w p fin l) :
 Calls Tryz.prog 79 #[.pointer (some ⟨p, 0, none⟩)] w (Wp p fin w (Jb l) (fun s v _ => v = vs s)) := by
 cases l with
 | nil => exact (qfw p fin w hp).mono fun e w' ⟨h1, h2⟩ => ⟨h1, Eff.of_below h2⟩
 | cons t r =>
   by_cases hk : t.kind = 1
   · cases hq : Wq t.text with
     | false =>
       have h : Jb (t :: r) = .ok (t.text, r) := by simp [Jb, hk, hq]
       rw [h]; exact (U1 p fin t r w hp hk hq).mono fun e w' ⟨h1, h2, h3⟩ => ⟨_, h1, rfl, h2, h3⟩
     | true =>
       have h : Jb (t :: r) = .error (5, t :: r) := by simp [Jb, hk, hq, failR, Z1]
       rw [h]; exact (qfx p fin t r w hp hk hq).mono fun e w' ⟨h1, h2⟩ => ⟨h1, Eff.of_below h2⟩
   · have h : Jb (t :: r) = .error (5, t :: r) := by simp [Jb, hk, failR, Z1]
     rw [h]; exact (qdc p fin t r w hp hk).mono fun e w' ⟨h1, h2⟩ => ⟨h1, Eff.of_below h2⟩
theorem Gz (most : Nat) (p fin : Nat) (l : List Tok) (w : World) (hp : PS w p fin l) :
 Calls Tryz.prog 80 #[.pointer (some ⟨p, 0, none⟩), .int .i64 most] w (Wp p fin w (Q6 most l) (fun n v _ => v = .int .i64 n)) := by
 cases l with
 | nil => exact (Tj most p fin w hp).mono fun e w' ⟨h1, h2⟩ => ⟨h1, Eff.of_below h2⟩
 | cons t r =>
   by_cases hk : t.kind = 2
   · by_cases hm : most < t.n
     · have h : Q6 most (t :: r) = .error (10, t :: r) := by simp [Q6, hk, hm]
       rw [h]; exact (Tk most p fin t r w hp hk hm).mono fun e w' ⟨h1, h2⟩ => ⟨h1, Eff.of_below h2⟩
     · have h : Q6 most (t :: r) = .ok (t.n, r) := by simp [Q6, hk, hm]
       rw [h]; exact (V0 most p fin t r w hp hk (by omega)).mono fun e w' ⟨h1, h2, h3⟩ => ⟨_, h1, rfl, h2, h3⟩
   · have h : Q6 most (t :: r) = .error (5, t :: r) := by simp [Q6, hk, failR, Z1]
     rw [h]; exact (D8 most p fin t r w hp hk).mono fun e w' ⟨h1, h2⟩ => ⟨h1, Eff.of_below h2⟩
def tsz (fm : Bool) : Nat := if fm then 5 else 4
def tcs (fm : Bool) (op : Nat) (name : List UInt8) (cmp n : Nat) (s : Value) : List Value :=
 match fm with
 | true => [.int .i64 op, vs name, .int .i64 cmp, .int .i64 n, s]
 | false => [.int .i64 op, vs name, .int .i64 n, s]
mutual
def Qg (fm : Bool) (S : Nat -> Prop) (w : World) (cs : List Value) : Qb -> Prop
 | .mk op name cmp n ks => ∃ A cap, cs = tcs fm op name cmp n (.slice A ks.length cap) /\ ks.length <= cap /\ (ks = [] \/ ∃ b o, A = some ⟨b, o, none⟩ /\ S b /\ b < w.heap.size /\ X1 fm S w b o ks)
def X1 (fm : Bool) (S : Nat -> Prop) (w : World) (b : Nat) (o : Nat) : List Qb -> Prop
 | [] => True
 | t :: r => (∃ cs, (∀ j v, cs[j]? = some v -> w.cell? ⟨b, o + j, none⟩ = some v) /\ Qg fm S w cs t) /\ X1 fm S w b (o + tsz fm) r
end
mutual
theorem Qg.keep {fm : Bool} {S S' : Nat -> Prop} {w w' : World} (hs : w.heap.size <= w'.heap.size) (hk : ∀ b, S b -> b < w.heap.size -> S' b /\ w'.heap[b]? = w.heap[b]?) : ∀ {cs : List Value} {t : Qb}, Qg fm S w cs t -> Qg fm S' w' cs t
 | cs, .mk op name cmp n ks, h => by
   obtain ⟨A, cap, h1, h2, h3⟩ := h; refine ⟨A, cap, h1, h2, ?_⟩; rcases h3 with h3 | ⟨b, o, hA, hS, hb, h3⟩
   · exact .inl h3
   · exact .inr ⟨b, o, hA, (hk b hS hb).1, Nat.lt_of_lt_of_le hb hs, X1.keep hs hk (hk b hS hb).2 h3⟩
theorem X1.keep {fm : Bool} {S S' : Nat -> Prop} {w w' : World} (hs : w.heap.size <= w'.heap.size) (hk : ∀ b, S b -> b < w.heap.size -> S' b /\ w'.heap[b]? = w.heap[b]?) {b : Nat} (hb : w'.heap[b]? = w.heap[b]?) : ∀ {o : Nat} {ks : List Qb}, X1 fm S w b o ks -> X1 fm S' w' b o ks
 | o, [], h => trivial
 | o, t :: r, h => by
   obtain ⟨⟨cs, h1, h2⟩, h3⟩ := h; exact ⟨⟨cs, fun j v hv => (cOh hb _).trans (h1 j v hv), Qg.keep hs hk h2⟩, X1.keep hs hk hb h3⟩
end
theorem Qg.eff {fm : Bool} {base p : Nat} {w w' : World} (he : Eff p w w') (hp : p < base) {cs : List Value} {t : Qb} (h : Qg fm (fun b => base <= b) w cs t) : Qg fm (fun b => base <= b) w' cs t :=
 h.keep he.size (fun b hb aO => ⟨hb, he.block b aO (by omega)⟩)
theorem Qg.len {fm : Bool} {S : Nat -> Prop} {w : World} {cs : List Value} {t : Qb} (h : Qg fm S w cs t) : cs.length = tsz fm := by
 cases t with
 | mk op name cmp n ks =>
   obtain ⟨A, cap, rfl, _⟩ := h; cases fm <;> rfl
theorem Qg.one {fm : Bool} {S : Nat -> Prop} {w : World} {cs : List Value} {t : Qb} (h : Qg fm S w cs t) : ∀ u ∈ cs, u.oneCell' = true := by
 cases t with
 | mk op name cmp n ks =>
   obtain ⟨A, cap, rfl, _⟩ := h; intro u hu; cases fm <;> simp [tcs] at hu
   · rcases hu with rfl | rfl | rfl | rfl <;> rfl
   · rcases hu with rfl | rfl | rfl | rfl | rfl <;> rfl
theorem Qg.leaf {fm : Bool} {S : Nat -> Prop} {w : World} (op : Nat) (name : List UInt8) (cmp n : Nat) (A : Option Addr) (cap : Nat) : Qg fm S w (tcs fm op name cmp n (.slice A 0 cap)) (.mk op name cmp n []) :=
 ⟨A, cap, rfl, Nat.zero_le _, .inl rfl⟩
theorem Oe {fm : Bool} {S : Nat -> Prop} {w : World} {b : Nat} : ∀ {l : List Qb} {css : List (List Value)} {o : Nat}, css.length = l.length -> (∀ (i : Nat) (cs : List Value) (t : Qb), css[i]? = some cs -> l[i]? = some t -> Qg fm S w cs t) -> (∀ j v, css.flatten[j]? = some v -> w.cell? ⟨b, o + j, none⟩ = some v) -> X1 fm S w b o l
 | [], css, o, _, _, _ => trivial
 | t :: r, [], o, h, _, _ => by simp at h
 | t :: r, cs :: css, o, h, hr, hc => by
   have h0 := hr 0 cs t rfl rfl; have hl := h0.len; refine ⟨⟨cs, fun j v hv => hc j v ?_, h0⟩, Oe (css := css) (by simpa using h) (fun i c x h1 h2 => hr (i + 1) c x (by simpa using h1) (by simpa using h2)) (fun j v hv => ?_)⟩
   · rw [List.flatten_cons, List.getElem?_append_left (List.getElem?_eq_some_iff.1 hv).1]; exact hv
   · rw [Nat.add_assoc]; refine hc (tsz fm + j) v ?_; rw [List.flatten_cons, List.getElem?_append_right (by omega), hl, Nat.add_sub_cancel_left]; exact hv
def tE (fm : Bool) : TypeId := if fm then 24 else 28
structure Vm (fm : Bool) (w : World) (base : Nat) (v : Value) (l : List Qb) : Prop where
 is : ∃ css : List (List Value), css.length = l.length /\ (∀ (i : Nat) (cs : List Value) (t : Qb), css[i]? = some cs -> l[i]? = some t -> Qg fm (fun b => base <= b /\ v.ownBlock ≠ some b) w cs t) /\ w.ownsRow base (tE fm) (tsz fm) v l.length css.flatten
theorem Vm.form {fm : Bool} {w : World} {base : Nat} {v : Value} {l : List Qb} (h : Vm fm w base v l) (bE : l ≠ []) : ∃ g cap, v = .slice (some ⟨g, 0, none⟩) l.length cap /\ base <= g /\ g < w.heap.size /\ l.length <= cap /\ X1 fm (fun b => base <= b) w g 0 l := by
 obtain ⟨css, h1, h2, h3⟩ := h.is; have hl : 0 < l.length := List.length_pos_iff.2 bE; rcases h3.2 with ⟨-, h0⟩ | ⟨g, cap, cur, rfl, r2, r3, r4, r5, r6, r7⟩
 · omega
 · refine ⟨g, cap, rfl, r2, lHp r3, r4, Oe h1 (fun i cs t a b => (h2 i cs t a b).keep (lR _) (fun b hb _ => ⟨hb.1, rfl⟩)) (fun j u hu => ?_)⟩; rw [Nat.zero_add]; refine cOb r3 ?_; rw [<- r7, List.getElem?_take] at hu
   split at hu
   · rw [<- Array.getElem?_toList]; exact hu
   · cases hu
theorem Vm.keep {fm : Bool} {w w' : World} {base : Nat} {v : Value} {l : List Qb} (h : Vm fm w base v l) (hs : w.heap.size <= w'.heap.size) (hk : ∀ b, base <= b -> b < w.heap.size -> w'.heap[b]? = w.heap[b]?) : Vm fm w' base v l := by
 obtain ⟨css, h1, h2, h3⟩ := h.is; refine ⟨css, h1, fun i cs t a b => (h2 i cs t a b).keep hs (fun b hb aO => ⟨hb, hk b hb.1 aO⟩), h3.1, ?_⟩; rcases h3.2 with h | ⟨g, cap, cur, rfl, r2, r3, r4⟩
 · exact .inl h
 · exact .inr ⟨g, cap, cur, rfl, r2, (hk g r2 (lHp r3)).trans r3, r4⟩
theorem Vm.eff {fm : Bool} {p : Nat} {w w' : World} {base : Nat} {v : Value} {l : List Qb} (h : Vm fm w base v l) (he : Eff p w w') (hp : p < base) : Vm fm w' base v l :=
 h.keep he.size (fun b hb aO => he.block b aO (by omega))
theorem Vm.one {fm : Bool} {w : World} {base : Nat} {cs : List Value} {t : Qb} (hb : base <= w.heap.size) (h : Qg fm (fun b => base <= b) w cs t) : Vm fm (w.alloc (.cells cs.toArray (tE fm))) base (.slice (some ⟨w.heap.size, 0, none⟩) 1 1) [t] := by
 refine ⟨[cs], rfl, fun i c x h1 h2 => ?_, ?_, .inr ⟨w.heap.size, 1, cs.toArray, rfl, hb, heap_alloc_new w _, by simp, by decide, by simp [h.len], ?_⟩⟩
 · cases i with
   | zero =>
     simp at h1 h2; subst h1 h2; refine h.keep (by simp) (fun b hb aO => ⟨⟨hb, ?_⟩, Below.heap_alloc _ _ _ aO⟩); intro e; simp [Value.ownBlock] at e; omega
   | succ i => simp at h1
 · simp [h.len]
 · rw [List.length_singleton, Nat.one_mul, <- h.len]; simp
theorem Vm.snoc {fm : Bool} {w w' : World} {base : Nat} {v v' : Value} {l : List Qb} {cs : List Value} {t : Qb} {css : List (List Value)} (h1 : css.length = l.length)
 (h2 : ∀ (i : Nat) (cs : List Value) (t : Qb), css[i]? = some cs -> l[i]? = some t -> Qg fm (fun b => base <= b /\ v.ownBlock ≠ some b) w cs t) (hr : Qg fm (fun b => base <= b /\ v.ownBlock ≠ some b) w cs t)
 (hv : w'.ownsRow base (tE fm) (tsz fm) v' (l.length + 1) (css.flatten ++ cs)) (hg : w.grownBy w' v.ownBlock) (hb : v'.ownBlock = v.ownBlock \/ v'.ownBlock = some w.heap.size) : Vm fm w' base v' (l ++ [t]) := by
 have key : ∀ {c : List Value} {x : Qb}, Qg fm (fun b => base <= b /\ v.ownBlock ≠ some b) w c x -> Qg fm (fun b => base <= b /\ v'.ownBlock ≠ some b) w' c x := fun hx =>
  hx.keep hg.size (fun b cY aO => ⟨⟨cY.1, by rcases hb with e | e <;> rw [e]; exact cY.2; intro e2; injection e2 with e2; omega⟩, hg.block b aO (fun e => cY.2 e.symm)⟩)
 refine ⟨css ++ [cs], by simp [h1], fun i c x a b => ?_, ?_⟩
 · rcases Nat.lt_or_ge i css.length with hi | hi
   · rw [List.getElem?_append_left hi] at a; rw [List.getElem?_append_left (by omega)] at b; exact key (h2 i c x a b)
   · rw [List.getElem?_append_right hi] at a; rw [List.getElem?_append_right (by omega), <- h1] at b; cases hq : i - css.length with
     | zero =>
       rw [hq] at a b; simp at a b; subst a b; exact key hr
     | succ n => rw [hq] at a; simp at a
 · simpa using hv
theorem Eff.grown {p : Nat} {a w w' : World} {row : Option Nat} (h : Eff p a w) (hg : w.grownBy w' row) (hr : ∀ k, row = some k -> a.heap.size <= k) : Eff p a w' :=
 ⟨hg.os.trans h.os, hg.tape.trans h.tape, hg.output.trans h.output, Nat.le_trans h.size hg.size, fun i hi hn => (hg.block i (Nat.lt_of_lt_of_le hi h.size) (fun e => by have := hr i e.symm; omega)).trans (h.block i hi hn)⟩
theorem PS.grown {w w' : World} {p fin : Nat} {l : List Tok} {row : Option Nat} (h : PS w p fin l) (hg : w.grownBy w' row) (hr : ∀ k, row = some k -> p < k) : PS w' p fin l :=
 h.keep hg.size (fun b hb => hg.block b (Nat.lt_of_le_of_lt hb h.lt) (fun e => by have := hr b e.symm; omega))
theorem qgg : (Tryz.prog.info? 24).map (fun i => (i.zero, i.size, i.bytes)) = some (some (.agg #[.int .i64 0, .string ⟨#[]⟩, .int .i64 0, .int .i64 0, .slice none 0 0]), 5, 64) := by kernel_rfl
theorem P1 {ops : Array Oper} {rest : List Oper} {o : Oper} {a : Act} {w : World} {Q : Exit -> Act -> World -> Prop} (dI : o.guard = none) (s x : Operand) (dF : o.op = Op.call { callee := Callee.builtin Builtin.append, args := #[s, x], argTypes := #[22, 22] })
 (base : Nat) (v : Value) (l : List Qb) (g0 : Nat) (cs : List Value) (t : Qb) (hs : a.eval s = v) (hx : a.eval x = .slice (some ⟨g0, 0, none⟩) 1 1) (aJ : Vm true w base v l) (aY : ∀ (j : Nat) u, cs[j]? = some u -> w.cell? ⟨g0, 0 + j, none⟩ = some u) (hr : Qg true (fun b => base <= b /\ v.ownBlock ≠ some b) w cs t)
 (bH : l.length + 1 <= 1000000) (hb : base <= w.heap.size) (h : ∀ v' w', Vm true w' base v' (l ++ [t]) -> w.grownBy w' v.ownBlock -> wpList Tryz.prog ops Q rest (a.put o.dst v') w') : wpList Tryz.prog ops Q (o :: rest) a w := by
 obtain ⟨i0, dH, dB, cH, dA⟩ := info_parts qgg; obtain ⟨css, h1, h2, h3⟩ := aJ.is; have e1 : tE true = 24 := rfl; have e2 : tsz true = 5 := rfl; have hl := hr.len; rw [e1, e2] at h3; refine wpList_append_own_at _ dI s x _ dF base 24 i0 (.agg #[.int .i64 0, .string ⟨#[]⟩, .int .i64 0, .int .i64 0, .slice none 0 0]) 5 64 Tryz.underlying22 dH dB cH dA rfl (by decide) v l.length css.flatten hs h3 ⟨g0, 0, none⟩ 1 1 cs hx (by rw [hl, e2]) (fun j u hu => ?_) hr.one (by unfold maxLen; omega) (by omega) hb ?_
 · rw [Addr.add_lit]; exact aY j u hu
 · intro v' w' ho hg _ dJ; exact h v' w' (Vm.snoc h1 h2 hr (by rw [e1, e2]; exact ho) hg dJ) hg
theorem qgf : (Tryz.prog.info? 28).map (fun i => (i.zero, i.size, i.bytes)) = some (some (.agg #[.int .i64 0, .string ⟨#[]⟩, .int .i64 0, .slice none 0 0]), 4, 56) := by kernel_rfl
theorem Pz {ops : Array Oper} {rest : List Oper} {o : Oper} {a : Act} {w : World} {Q : Exit -> Act -> World -> Prop} (dI : o.guard = none) (s x : Operand) (dF : o.op = Op.call { callee := Callee.builtin Builtin.append, args := #[s, x], argTypes := #[26, 26] })
 (base : Nat) (v : Value) (l : List Qb) (g0 : Nat) (cs : List Value) (t : Qb) (hs : a.eval s = v) (hx : a.eval x = .slice (some ⟨g0, 0, none⟩) 1 1) (aJ : Vm false w base v l) (aY : ∀ (j : Nat) u, cs[j]? = some u -> w.cell? ⟨g0, 0 + j, none⟩ = some u) (hr : Qg false (fun b => base <= b /\ v.ownBlock ≠ some b) w cs t)
 (bH : l.length + 1 <= 1000000) (hb : base <= w.heap.size) (h : ∀ v' w', Vm false w' base v' (l ++ [t]) -> w.grownBy w' v.ownBlock -> wpList Tryz.prog ops Q rest (a.put o.dst v') w') : wpList Tryz.prog ops Q (o :: rest) a w := by
 obtain ⟨i0, dH, dB, cH, dA⟩ := info_parts qgf; obtain ⟨css, h1, h2, h3⟩ := aJ.is; have e1 : tE false = 28 := rfl; have e2 : tsz false = 4 := rfl; have hl := hr.len; rw [e1, e2] at h3; refine wpList_append_own_at _ dI s x _ dF base 28 i0 (.agg #[.int .i64 0, .string ⟨#[]⟩, .int .i64 0, .slice none 0 0]) 4 56 Tryz.underlying26 dH dB cH dA rfl (by decide) v l.length css.flatten hs h3 ⟨g0, 0, none⟩ 1 1 cs hx (by rw [hl, e2]) (fun j u hu => ?_) hr.one (by unfold maxLen; omega) (by omega) hb ?_
 · rw [Addr.add_lit]; exact aY j u hu
 · intro v' w' ho hg _ dJ; exact h v' w' (Vm.snoc h1 h2 hr (by rw [e1, e2]; exact ho) hg dJ) hg
end
set_option maxRecDepth 20000
set_option maxHeartbeats 400000
section
open Go.RowKit
abbrev Gr (fm : Bool) (w : World) (t : Qb) (v : Value) (w' : World) : Prop := ∃ cs : List Value, v = .agg cs.toArray /\ Qg fm (fun b => w.heap.size <= b) w' cs t
structure Xa (fm : Bool) (f : FuncId) (p fin N : Nat) (one : List Tok -> R Qb) : Prop where
 go : ∀ l w, PS w p fin l -> l.length < N -> Calls Tryz.prog f #[.pointer (some ⟨p, 0, none⟩)] w (Wp p fin w (one l) (Gr fm w))
 sane : Qj 1 N one
structure Ij (fm : Bool) (f : FuncId) (op : Nat) : Prop where
 go : ∀ A n c w, Calls Tryz.prog f #[.slice A n c] w fun e w' => e = .returned (.agg (tcs fm op [] 0 0 (.slice A n c)).toArray) /\ Below w.heap.size w w'
def Xo (f : FuncId) : Prop := ∀ args w, (callFunc f args).run Tryz.prog w = .ok (.enter f args) w
def Hl {α : Type} (one : List Tok -> R α) (w : List UInt8) (n : Nat) (r : List Tok) : R (List α) := Jc [w] r (fun _ r' => severalL one w n r') (fun r' => .ok ([], r'))
def Gn {α : Type} (acc : List α) (x : R (List α)) : R (List α) := match x with | .ok (xs, r) => .ok (acc ++ xs, r) | .error e => .error e
theorem Kl {α : Type} (one : List Tok -> R α) (w : List UInt8) (n : Nat) (l : List Tok) : severalL one w (n + 1) l = Qc (one l) fun x r => Gn [x] (Hl one w n r) := by
 show Qc (one l) _ = _
 congr 1
 funext x r
 unfold Hl Jc; rcases J9 [w] r with h | ⟨t, r', i, rfl, h, -, -⟩
 · rw [h]; rfl
 · rw [h]; show Qc (severalL one w n r') _ = Gn [x] (severalL one w n r')
   cases severalL one w n r' with
   | error e => rfl
   | ok v => rfl
theorem Pv {α : Type} (a b : List α) (x : R (List α)) : Gn a (Gn b x) = Gn (a ++ b) x := by
 cases x with
 | error e => rfl
 | ok v => obtain ⟨xs, r⟩ := v; simp [Gn]
theorem Vu {one : List Tok -> R Qb} {W : List UInt8} {op n k : Nat} {l r : List Tok} {acc : List Qb} (h : severalL one W n l = Gn acc (Hl one W k r)) (ht : Xb [W] r = (none, r)) : severalF one W op n l = .ok (Gm op acc, r) := by
 unfold severalF; rw [h]; unfold Hl Jc; rw [ht]; show Except.ok _ = _
 simp
theorem Hk {one : List Tok -> R Qb} {W : List UInt8} {i k : Nat} {t : Tok} {r : List Tok} (ht : Xb [W] (t :: r) = (some i, r)) : Hl one W (k + 1) (t :: r) = Qc (one r) fun x r' => Gn [x] (Hl one W k r') := by
 rw [<- Kl]; unfold Hl Jc; rw [ht]
theorem Pk {one : List Tok -> R Qb} {W : List UInt8} {op n e : Nat} {l s : List Tok} (h : severalL one W n l = .error (e, s)) : severalF one W op n l = .error (e, s) := by
 unfold severalF; rw [h]; rfl
theorem Ms {op : Nat} {l : List Qb} (h : ¬ l.length = 1) : Gm op l = .mk op [] 0 0 l := by
 unfold Gm
 split
 · simp at h
 · rfl
def plen (p : Nat) (w : World) : Nat :=
 match w.heap[p]? with
 | some (.cells C _ _) => (match C[0]? with | some (Value.slice _ m _) => m | _ => 0)
 | _ => 0
theorem PS.plen {w : World} {p fin : Nat} {l : List Tok} (h : PS w p fin l) : plen p w = l.length := by
 obtain ⟨A, c, hh, -⟩ := h.is; unfold Proofs.YtbicmjmcdnkjhaaGreatDoor.plen; rw [hh]; rfl
theorem RdS.new {w : World} {b : Nat} {ss : List (List UInt8)} {t : TypeId} (h : w.heap[b]? = some (.cells (ss.map vs).toArray t (0, 0))) : RdS w (some ⟨b, 0, none⟩) ss := by
 intro bE; refine ⟨b, 0, rfl, lHp h, fun k x hx j v hv => ?_⟩; cases j with
 | succ j => simp at hv
 | zero =>
   simp at hv; subst hv; refine cOb h ?_; simp [hx]
theorem Xa.call {fm : Bool} {f : FuncId} {p fin N : Nat} {one : List Tok -> R Qb} (h : Xa fm f p fin N one) {l : List Tok} {w : World} (hp : PS w p fin l) (hl : l.length < N) {K : Ending -> World -> Prop}
 (hk : ∀ t r v w', one l = .ok (t, r) -> Gr fm w t v w' -> PS w' p fin r -> Eff p w w' -> r.length < l.length -> K (.returned v) w')
 (he : ∀ e s w', one l = .error (e, s) -> Eff p w w' -> K (Xg e (Xd fin s)) w') : Calls Tryz.prog f #[.pointer (some ⟨p, 0, none⟩)] w K := by
 refine (h.go l w hp hl).mono ?_; intro e w' ho; cases hq : one l with
 | error x =>
   obtain ⟨c, s⟩ := x; rw [hq] at ho; obtain ⟨rfl, h2⟩ := ho; exact he c s w' hq h2
 | ok x =>
   obtain ⟨t, r⟩ := x; rw [hq] at ho; obtain ⟨v, rfl, h1, h2, h3⟩ := ho; exact hk t r v w' hq h1 h2 h3 (h.sane.ok l t r hl hq)
structure Off (b : Nat) (w w' : World) : Prop where
 os : w'.os = w.os
 tape : w'.tape = w.tape
 output : w'.output = w.output
 size : w'.heap.size = w.heap.size
 block : ∀ k, k ≠ b -> w'.heap[k]? = w.heap[k]?
theorem Off.refl (b : Nat) (w : World) : Off b w w := ⟨rfl, rfl, rfl, rfl, fun _ _ => rfl⟩
theorem Off.set {b o : Nat} {w w' : World} (h : Off b w w') (v : Value) : Off b w (w'.setCell ⟨b, o, none⟩ v) :=
 ⟨h.os, h.tape, h.output, by have := h.size; simpa using this, fun k hk => (Below.heap_setCell _ _ _ _ (by simpa using hk)).trans (h.block k hk)⟩
theorem Eff.off {p b : Nat} {w w1 w2 : World} (h : Eff p w w1) (ho : Off b w1 w2) (hb : w.heap.size <= b) : Eff p w w2 :=
 ⟨ho.os.trans h.os, ho.tape.trans h.tape, ho.output.trans h.output, by rw [ho.size]; exact h.size, fun k hk hn => (ho.block k (by omega)).trans (h.block k hk hn)⟩
theorem PS.off {p b fin : Nat} {l : List Tok} {w w' : World} (h : PS w p fin l) (ho : Off b w w') (hb : p < b) : PS w' p fin l :=
 h.keep (Nat.le_of_eq ho.size.symm) (fun k hk => ho.block k (by omega))
theorem Qg.off {fm : Bool} {base base' b : Nat} {w w' : World} {cs : List Value} {t : Qb} (h : Qg fm (fun k => base <= k) w cs t) (ho : Off b w w') (hb : b < base) (cY : base' <= base) : Qg fm (fun k => base' <= k) w' cs t :=
 h.keep (Nat.le_of_eq ho.size.symm) (fun k hk _ => ⟨by omega, ho.block k (by omega)⟩)
theorem Vm.own {fm : Bool} {w : World} {base : Nat} {v : Value} {l : List Qb} (h : Vm fm w base v l) (bE : l ≠ []) : ∀ b, v.ownBlock = some b -> base <= b /\ b < w.heap.size := by
 obtain ⟨g, cap, rfl, h1, h2, -⟩ := h.form bE; intro b hb; simp [Value.ownBlock] at hb; subst hb; exact ⟨h1, h2⟩
theorem Dw {p fin base : Nat} {fm : Bool} {w wr w1 w2 w3 : World} {v : Value} {l : List Qb} {r : List Tok} {cs : List Value} {t : Qb} {ty : TypeId} (hp : p < base) (hw : w.heap.size + 1 = base) (hz : base <= wr.heap.size) (bE : l ≠ []) (aJ : Vm fm wr base v l) (bA : Eff p w wr) (hb : Below wr.heap.size wr w1) (aG : Eff p w1 w2) (aI : Eff p w2 w3) (aX : PS w3 p fin r)
 (aH : Qg fm (fun b => w2.heap.size <= b) w3 cs t) (eC : ty = tE fm) :
 Vm fm (w3.alloc (.cells cs.toArray ty (0, 0))) base v l /\ Qg fm (fun b => base <= b /\ v.ownBlock ≠ some b) (w3.alloc (.cells cs.toArray ty (0, 0))) cs t /\ (∀ (j : Nat) u, cs[j]? = some u -> (w3.alloc (.cells cs.toArray ty (0, 0))).cell? ⟨w3.heap.size, 0 + j, none⟩ = some u) /\ base <= (w3.alloc (.cells cs.toArray ty (0, 0))).heap.size /\
 PS (w3.alloc (.cells cs.toArray ty (0, 0))) p fin r /\ Eff p w (w3.alloc (.cells cs.toArray ty (0, 0))) /\ Eff p wr (w3.alloc (.cells cs.toArray ty (0, 0))) := by
 have e1 : Eff p wr w3 := (Eff.of_below hb).trans (aG.trans aI); have e2 := e1.alloc (.cells cs.toArray ty (0, 0)); have hs : wr.heap.size <= w2.heap.size := ((Eff.of_below hb).trans aG).size; have eD := aI.size; refine ⟨aJ.eff e2 hp, aH.keep (by simp) (fun b hb aO => ⟨⟨by omega, fun e => absurd (aJ.own bE b e).2 (by omega)⟩, Below.heap_alloc _ _ _ aO⟩), fun j u hu => ?_, by simp; omega, aX.below ((Below.refl _ _).alloc (lR _) _), bA.trans e2, e2⟩; rw [Nat.zero_add]; exact cOb (heap_alloc_new w3 _) (by simpa using hu)
theorem Ba (f1 fj : FuncId) (op : Nat) (W : List UInt8) (one : List Tok -> R Qb) (n p fin : Nat) (aC : Xa true f1 p fin n one) (hj : Ij true fj op) (cQ : Xo f1) (cP : Xo fj) (l : List Tok) (w : World) (hp : PS w p fin l) (hl : l.length < n) (dS : l.length <= 6000) :
 Calls Tryz.prog 122 #[.pointer (some ⟨p, 0, none⟩), vs W, .func (.func f1) #[.pointer (some ⟨p, 0, none⟩)] #[], .func (.func fj) #[] #[]] w (Wp p fin w (severalF one W op n l) (Gr true w)) := by
 have bO := Hi aC; have HJ := Hi hj; have cV := Hi cQ; have dN := Hi cP; have HP := Hi hp; have aK := hp.lt; obtain ⟨n', rfl⟩ : ∃ n', n = n' + 1 := ⟨n - 1, by omega⟩
 clear aC hj hp cQ cP; go_enter Tryz.func122, Tryz.ntmps122
 go_wp2_with fail; rw [cV.out, Oper.upon_enter]; refine bO.out.call (HP.out.below ((Below.refl _ _).alloc (lR _) _)) hl ?_ ?_
 case refine_2 =>
  intro e s w1 hq aP; go_wp2_with fail; refine ⟨rfl, ?_⟩; have hs : severalF one W op (n' + 1) l = .error (e, s) := by unfold severalF; rw [Kl, hq]; rfl
  rw [hs]; exact ⟨rfl, (Eff.of_below ((Below.refl _ _).alloc (lR _) _)).trans aP⟩
 case refine_1 =>
  intro t r v w1 hq hv aL aP hr; obtain ⟨cs, rfl, aH⟩ := hv; have aQ := Hi aH; obtain ⟨o1, name, cm, m, ks⟩ := t; obtain ⟨A, cap, rfl, bY, dG⟩ := aH; simp only [tcs]; clear bY dG; have z1 : w.heap.size + 1 <= w1.heap.size := by have := aP.size; simpa using this
  have aA : w1.heap[w.heap.size]? = some (.cells #[.int .i64 0, .string ⟨#[]⟩, .int .i64 0, .int .i64 0, .slice none 0 0] 24 (0, 0)) := by
   rw [aP.block _ (by simp) (by omega)]; exact heap_alloc_new w _
  have aF := Hi aA; have aS := Hi aL; have cW := Hi aP; clear aA aL aP; go_wp2_with fail
  go_loopw [9] (fun v wr => ∃ (k : Nat) (acc : List Qb) (r : List Tok), acc ≠ [] /\ acc.length + r.length <= 6001 /\ severalL one W (n' + 1) l = Gn acc (Hl one W k r) /\ r.length < k /\ k <= n' /\ PS wr p fin r /\ Eff p w wr /\ Vm true wr (w.heap.size + 1) v acc /\ w.heap.size + 1 <= wr.heap.size /\
   wr.heap[w.heap.size]? = some (.cells #[.int .i64 0, .string ⟨#[]⟩, .int .i64 0, .int .i64 0, .slice none 0 0] 24 (0, 0))) (fun _ wr => plen p wr)
  case atStart =>
   refine ⟨n', [.mk o1 name cm m ks], r, by simp, by simp; omega, by rw [Kl, hq]; rfl, by omega, lR _, ?_, ?_, Vm.one (cs := tcs true o1 name cm m (.slice A ks.length cap)) (by omega) (aQ.out.keep (lR _) (fun b hb _ => ⟨by simpa using hb, rfl⟩)), by simp; omega, ?_⟩
   · exact aS.out.below ((Below.refl _ _).alloc (lR _) _)
   · exact ((Eff.of_below ((Below.refl _ _).alloc (lR _) _)).trans cW.out).alloc _
   · rw [Below.heap_alloc _ _ _ (by omega)]; exact aF.out
  case round =>
   obtain ⟨k, acc, r2, bE, bH, bF, hk, dT, cK, bA, aJ, hz, bJ⟩ := hrel; have aU := Hi bF; have cD := Hi cK; have bD := Hi bA; have bC := Hi aJ; have bP := Hi bJ; have bS := Hi bE; have dL := Hi hk; clear bF cK bA aJ bJ bE hk aS cW aF aQ hq; go_wp2_with fail; have bQ : RdS (wr.alloc (.cells #[vs W] 9)) (some ⟨wr.heap.size, 0, none⟩) [W] := RdS.new (heap_alloc_new wr _); have bR := cD.out.below (w' := wr.alloc (.cells #[vs W] 9)) ((Below.refl _ _).alloc (lR _) _); rcases J9 [W] r2 with ht | ⟨t2, r3, i, rfl, ht, -, -⟩
   · have HT := Hi ht; clear ht; refine (P9 [W] _ 1 p fin r2 _ bR bQ (by simp) HT.out).mono ?_; rintro e w2 ⟨rfl, cR⟩; have hb : Below wr.heap.size wr w2 := ((Below.refl _ _).alloc (lR _) _).trans (cR.mono (by simp)); have aE := bC.out.keep hb.size (fun b _ aO => hb.block b aO); have aB := (hb.block _ hz).trans bP.out; have aR := cD.out.below hb; have aG : Eff p w w2 := bD.out.trans (Eff.of_below hb); have c0 := cOb (o := 0) aB rfl; have c1 := cOb (o := 1) aB rfl; have c2 := cOb (o := 2) aB rfl; have c3 := cOb (o := 3) aB rfl; have c4 := cOb (o := 4) aB rfl; have f0 := fOb (o := 0) aB; have cS := fOb (o := 1) aB; have f2 := fOb (o := 2) aB; have f3 := fOb (o := 3) aB; have f4 := fOb (o := 4) aB; have aD := lHp aB; have cX := Hi aB; have bB := Hi aR; have aT := Hi aG; have HB := Hi hb; clear hb cR aB aR aG bQ bR
     by_cases h1 : acc.length = 1
     · obtain ⟨t0, rfl⟩ := List.length_eq_one_iff.1 h1; obtain ⟨g, cp, rfl, cO, cN, cM, ⟨cs, aY, aH⟩, -⟩ := aE.form bS.out; have aQ := Hi aH; obtain ⟨o0, bU, cF, m0, bW⟩ := t0; obtain ⟨A0, bK, rfl, -, -⟩ := aH; have e0 := aY 0 _ rfl; have e1 := aY 1 _ rfl; have e2 := aY 2 _ rfl; have e3 := aY 3 _ rfl; have e4 := aY 4 _ rfl; have bN := Hi aE; clear aE aY h1; simp only [Nat.zero_add] at e0 e1 e2 e3 e4; go_wp2_with fail; have hs : severalF one W op (n' + 1) l = .ok (.mk o0 bU cF m0 bW, r2) := Vu aU.out HT.out; rw [hs]; refine bodyPost_ret (v := .agg (tcs true o0 bU cF m0 (.slice A0 bW.length bK)).toArray) (by simp [results, Tryz.results122, go_sem, tcs, *]) rfl ?_; have ho := ((((Off.refl w.heap.size w2).set (o := 0) (.int .i64 o0)).set (o := 1) (vs bU)).set (o := 2) (.int .i64 cF)).set (o := 3) (.int .i64 m0) |>.set (o := 4) (.slice A0 bW.length bK); exact ⟨_, rfl, ⟨_, rfl, aQ.out.off ho (Nat.lt_succ_self _) (Nat.le_succ _)⟩, bB.out.off ho aK, aT.out.off ho (lR _)⟩
     · have dU : ((acc.length : Int) == 1) = false := by simp; omega
       obtain ⟨g, cp, rfl, cO, cN, cM, aV⟩ := aE.form bS.out; have bN := Hi aE; have dM := Hi aV; have H1 := Hi h1; clear aE h1 aV; go_wp2_with fail; rw [dN.out, Oper.upon_enter]; refine (HJ.out.go _ _ _ _).mono ?_; rintro e w3 ⟨rfl, aN⟩; simp only [tcs]; have d0 := (aN.cell (p := ⟨w.heap.size, 0, none⟩) aD).trans c0; have d1 := (aN.cell (p := ⟨w.heap.size, 1, none⟩) aD).trans c1; have d2 := (aN.cell (p := ⟨w.heap.size, 2, none⟩) aD).trans c2; have d3 := (aN.cell (p := ⟨w.heap.size, 3, none⟩) aD).trans c3; have d4 := (aN.cell (p := ⟨w.heap.size, 4, none⟩) aD).trans c4; have dY := (aN.frozen (p := ⟨w.heap.size, 0, none⟩) aD).trans f0; have dX := (aN.frozen (p := ⟨w.heap.size, 1, none⟩) aD).trans cS; have dW := (aN.frozen (p := ⟨w.heap.size, 2, none⟩) aD).trans f2; have dV := (aN.frozen (p := ⟨w.heap.size, 3, none⟩) aD).trans f3; have eM := (aN.frozen (p := ⟨w.heap.size, 4, none⟩) aD).trans f4; have dl := World.block_lt_of_cell? _ _ d0; clear c0 c1 c2 c3 c4 f0 cS f2 f3 f4 aD; have bT := Hi aN; clear aN; go_wp2_with fail; have hs : severalF one W op (n' + 1) l = .ok (.mk op [] 0 0 acc, r2) := by rw [Vu aU.out HT.out, Ms H1.out]
       rw [hs]; refine bodyPost_ret (v := .agg (tcs true op [] 0 0 (.slice (some ⟨g, 0, none⟩) acc.length cp)).toArray) (by simp [results, Tryz.results122, go_sem, tcs, *]) rfl ?_; have ho := ((((Off.refl w.heap.size w3).set (o := 0) (.int .i64 op)).set (o := 1) (vs [])).set (o := 2) (.int .i64 0)).set (o := 3) (.int .i64 0) |>.set (o := 4) (.slice (some ⟨g, 0, none⟩) acc.length cp); have ht : Qg true (fun k => w.heap.size + 1 <= k) w2 (tcs true op [] 0 0 (.slice (some ⟨g, 0, none⟩) acc.length cp)) (.mk op [] 0 0 acc) := ⟨_, _, rfl, cM, .inr ⟨g, 0, rfl, cO, cN, dM.out⟩⟩
       exact ⟨_, rfl, ⟨_, rfl, (ht.keep bT.out.size (fun b hb aO => ⟨hb, bT.out.block b aO⟩)).off ho (Nat.lt_succ_self _) (Nat.le_succ _)⟩, (bB.out.below bT.out).off ho aK, (aT.out.trans (Eff.of_below bT.out)).off ho (lR _)⟩
   · have HT := Hi ht; have h0 : (0 : Int) <= i := (by omega)
     clear ht; refine (Ov [W] _ 1 p fin t2 r3 _ bR bQ (by simp) i HT.out).mono ?_; rintro e w2 ⟨rfl, aR, aG⟩; have bB := Hi aR; have aT := Hi aG; have hk := dL.out; simp only [List.length_cons] at bH hk; have dE : r3.length < n' + 1 := (by omega)
     obtain ⟨k', rfl⟩ : ∃ k', k = k' + 1 := ⟨k - 1, by omega⟩
     clear aR aG bQ bR; go_wp2_with fail; rw [cV.out, Oper.upon_enter]; refine bO.out.call bB.out dE ?_ ?_
     case refine_2 =>
      intro e s w3 aZ aI; go_wp2_with fail; have hs : severalL one W (n' + 1) l = .error (e, s) := by rw [aU.out, Hk HT.out, aZ]; rfl
      refine ⟨rfl, ?_⟩; rw [Pk hs]; exact ⟨rfl, bD.out.trans (((Eff.of_below ((Below.refl _ _).alloc (lR _) _)).trans aT.out).trans aI)⟩
     case refine_1 =>
      intro t3 r4 v3 w3 aZ dD aX aI dQ; obtain ⟨dZ, rfl, bG⟩ := dD; have bM := Hi bG; obtain ⟨o3, name3, bZ, m3, bV⟩ := t3; obtain ⟨A3, cA, rfl, bI, bX⟩ := bG; simp only [tcs]; clear bI bX; have bL := Hi (Dw (ty := 24) (by omega) rfl hz bS.out bC.out bD.out ((Below.refl _ _).alloc (lR _) _) aT.out aI aX bM.out rfl); have cC := Hi aZ; clear aX aI aZ; go_wp2_with (at_builtin; refine P1 rfl (.tmp 18) (.tmp 21) rfl (w.heap.size + 1) u9 acc w3.heap.size (tcs true o3 name3 bZ m3 (.slice A3 bV.length cA)) (.mk o3 name3 bZ m3 bV) rfl rfl bL.out.1 bL.out.2.2.1 bL.out.2.1 (by omega) bL.out.2.2.2.1 ?_; intro v' w' ho hg)
      obtain ⟨-, -, -, q1, q2, q3, q4⟩ := bL.out; have aM := bC.out.own bS.out; have q5 : w3.heap.size + 1 <= w'.heap.size := by have := hg.size; simpa using this
      have q6 : wr.heap.size <= w3.heap.size + 1 := by have := q4.size; simpa using this
      have cL := q2.grown hg (fun b hb => by have := (aM b hb).1; omega); refine ⟨⟨k', acc ++ [.mk o3 name3 bZ m3 bV], r4, by simp, by simp; omega, ?_, by omega, by omega, cL, q3.grown hg (fun b hb => by have := (aM b hb).1; omega), ho, by omega, ?_⟩, ?_⟩
      · rw [aU.out, Hk HT.out, cC.out]; exact Pv _ _ _
      · exact (hg.block _ (by simp; omega) (fun e => by have := (aM _ e.symm).1; omega)).trans ((q4.block _ (by omega) (by omega)).trans bP.out)
      · rw [cL.plen, cD.out.plen]; simp; omega
end
set_option maxRecDepth 20000
set_option maxHeartbeats 400000
section
open Go.RowKit
theorem N9 (f1 fj : FuncId) (op : Nat) (W : List UInt8) (one : List Tok -> R Qb) (n p fin : Nat) (aC : Xa false f1 p fin n one) (hj : Ij false fj op) (cQ : Xo f1) (cP : Xo fj) (l : List Tok) (w : World) (hp : PS w p fin l) (hl : l.length < n) (dS : l.length <= 6000) :
 Calls Tryz.prog 166 #[.pointer (some ⟨p, 0, none⟩), vs W, .func (.func f1) #[.pointer (some ⟨p, 0, none⟩)] #[], .func (.func fj) #[] #[]] w (Wp p fin w (severalF one W op n l) (Gr false w)) := by
 have bO := Hi aC; have HJ := Hi hj; have cV := Hi cQ; have dN := Hi cP; have HP := Hi hp; have aK := hp.lt; obtain ⟨n', rfl⟩ : ∃ n', n = n' + 1 := ⟨n - 1, by omega⟩
 clear aC hj hp cQ cP; go_enter Tryz.func166, Tryz.ntmps166
 go_wp2_with fail; rw [cV.out, Oper.upon_enter]; refine bO.out.call (HP.out.below ((Below.refl _ _).alloc (lR _) _)) hl ?_ ?_
 case refine_2 =>
  intro e s w1 hq aP; go_wp2_with fail; refine ⟨rfl, ?_⟩; have hs : severalF one W op (n' + 1) l = .error (e, s) := by unfold severalF; rw [Kl, hq]; rfl
  rw [hs]; exact ⟨rfl, (Eff.of_below ((Below.refl _ _).alloc (lR _) _)).trans aP⟩
 case refine_1 =>
  intro t r v w1 hq hv aL aP hr; obtain ⟨cs, rfl, aH⟩ := hv; have aQ := Hi aH; obtain ⟨o1, name, cm, m, ks⟩ := t; obtain ⟨A, cap, rfl, bY, dG⟩ := aH; simp only [tcs]; clear bY dG; have z1 : w.heap.size + 1 <= w1.heap.size := by have := aP.size; simpa using this
  have aA : w1.heap[w.heap.size]? = some (.cells #[.int .i64 0, .string ⟨#[]⟩, .int .i64 0, .slice none 0 0] 28 (0, 0)) := by
   rw [aP.block _ (by simp) (by omega)]; exact heap_alloc_new w _
  have aF := Hi aA; have aS := Hi aL; have cW := Hi aP; clear aA aL aP; go_wp2_with fail
  go_loopw [9] (fun v wr => ∃ (k : Nat) (acc : List Qb) (r : List Tok), acc ≠ [] /\ acc.length + r.length <= 6001 /\ severalL one W (n' + 1) l = Gn acc (Hl one W k r) /\ r.length < k /\ k <= n' /\ PS wr p fin r /\ Eff p w wr /\ Vm false wr (w.heap.size + 1) v acc /\ w.heap.size + 1 <= wr.heap.size /\
   wr.heap[w.heap.size]? = some (.cells #[.int .i64 0, .string ⟨#[]⟩, .int .i64 0, .slice none 0 0] 28 (0, 0))) (fun _ wr => plen p wr)
  case atStart =>
   refine ⟨n', [.mk o1 name cm m ks], r, by simp, by simp; omega, by rw [Kl, hq]; rfl, by omega, lR _, ?_, ?_, Vm.one (cs := tcs false o1 name cm m (.slice A ks.length cap)) (by omega) (aQ.out.keep (lR _) (fun b hb _ => ⟨by simpa using hb, rfl⟩)), by simp; omega, ?_⟩
   · exact aS.out.below ((Below.refl _ _).alloc (lR _) _)
   · exact ((Eff.of_below ((Below.refl _ _).alloc (lR _) _)).trans cW.out).alloc _
   · rw [Below.heap_alloc _ _ _ (by omega)]; exact aF.out
  case round =>
   obtain ⟨k, acc, r2, bE, bH, bF, hk, dT, cK, bA, aJ, hz, bJ⟩ := hrel; have aU := Hi bF; have cD := Hi cK; have bD := Hi bA; have bC := Hi aJ; have bP := Hi bJ; have bS := Hi bE; have dL := Hi hk; clear bF cK bA aJ bJ bE hk aS cW aF aQ hq; go_wp2_with fail; have bQ : RdS (wr.alloc (.cells #[vs W] 9)) (some ⟨wr.heap.size, 0, none⟩) [W] := RdS.new (heap_alloc_new wr _); have bR := cD.out.below (w' := wr.alloc (.cells #[vs W] 9)) ((Below.refl _ _).alloc (lR _) _); rcases J9 [W] r2 with ht | ⟨t2, r3, i, rfl, ht, -, -⟩
   · have HT := Hi ht; clear ht; refine (P9 [W] _ 1 p fin r2 _ bR bQ (by simp) HT.out).mono ?_; rintro e w2 ⟨rfl, cR⟩; have hb : Below wr.heap.size wr w2 := ((Below.refl _ _).alloc (lR _) _).trans (cR.mono (by simp)); have aE := bC.out.keep hb.size (fun b _ aO => hb.block b aO); have aB := (hb.block _ hz).trans bP.out; have aR := cD.out.below hb; have aG : Eff p w w2 := bD.out.trans (Eff.of_below hb); have c0 := cOb (o := 0) aB rfl; have c1 := cOb (o := 1) aB rfl; have c2 := cOb (o := 2) aB rfl; have c3 := cOb (o := 3) aB rfl; have f0 := fOb (o := 0) aB; have cS := fOb (o := 1) aB; have f2 := fOb (o := 2) aB; have f3 := fOb (o := 3) aB; have aD := lHp aB; have cX := Hi aB; have bB := Hi aR; have aT := Hi aG; have HB := Hi hb; clear hb cR aB aR aG bQ bR
     by_cases h1 : acc.length = 1
     · obtain ⟨t0, rfl⟩ := List.length_eq_one_iff.1 h1; obtain ⟨g, cp, rfl, cO, cN, cM, ⟨cs, aY, aH⟩, -⟩ := aE.form bS.out; have aQ := Hi aH; obtain ⟨o0, bU, cF, m0, bW⟩ := t0; obtain ⟨A0, bK, rfl, -, -⟩ := aH; have e0 := aY 0 _ rfl; have e1 := aY 1 _ rfl; have e2 := aY 2 _ rfl; have e3 := aY 3 _ rfl; have bN := Hi aE; clear aE aY h1; simp only [Nat.zero_add] at e0 e1 e2 e3; go_wp2_with fail; have hs : severalF one W op (n' + 1) l = .ok (.mk o0 bU cF m0 bW, r2) := Vu aU.out HT.out; rw [hs]; refine bodyPost_ret (v := .agg (tcs false o0 bU cF m0 (.slice A0 bW.length bK)).toArray) (by simp [results, Tryz.results166, go_sem, tcs, *]) rfl ?_; have ho := ((((Off.refl w.heap.size w2).set (o := 0) (.int .i64 o0)).set (o := 1) (vs bU)).set (o := 2) (.int .i64 m0)).set (o := 3) (.slice A0 bW.length bK); exact ⟨_, rfl, ⟨_, rfl, aQ.out.off ho (Nat.lt_succ_self _) (Nat.le_succ _)⟩, bB.out.off ho aK, aT.out.off ho (lR _)⟩
     · have dU : ((acc.length : Int) == 1) = false := by simp; omega
       obtain ⟨g, cp, rfl, cO, cN, cM, aV⟩ := aE.form bS.out; have bN := Hi aE; have dM := Hi aV; have H1 := Hi h1; clear aE h1 aV; go_wp2_with fail; rw [dN.out, Oper.upon_enter]; refine (HJ.out.go _ _ _ _).mono ?_; rintro e w3 ⟨rfl, aN⟩; simp only [tcs]; have d0 := (aN.cell (p := ⟨w.heap.size, 0, none⟩) aD).trans c0; have d1 := (aN.cell (p := ⟨w.heap.size, 1, none⟩) aD).trans c1; have d2 := (aN.cell (p := ⟨w.heap.size, 2, none⟩) aD).trans c2; have d3 := (aN.cell (p := ⟨w.heap.size, 3, none⟩) aD).trans c3; have dY := (aN.frozen (p := ⟨w.heap.size, 0, none⟩) aD).trans f0; have dX := (aN.frozen (p := ⟨w.heap.size, 1, none⟩) aD).trans cS; have dW := (aN.frozen (p := ⟨w.heap.size, 2, none⟩) aD).trans f2; have dV := (aN.frozen (p := ⟨w.heap.size, 3, none⟩) aD).trans f3; have dl := World.block_lt_of_cell? _ _ d0; clear c0 c1 c2 c3 f0 cS f2 f3 aD; have bT := Hi aN; clear aN; go_wp2_with fail; have hs : severalF one W op (n' + 1) l = .ok (.mk op [] 0 0 acc, r2) := by rw [Vu aU.out HT.out, Ms H1.out]
       rw [hs]; refine bodyPost_ret (v := .agg (tcs false op [] 0 0 (.slice (some ⟨g, 0, none⟩) acc.length cp)).toArray) (by simp [results, Tryz.results166, go_sem, tcs, *]) rfl ?_; have ho := ((((Off.refl w.heap.size w3).set (o := 0) (.int .i64 op)).set (o := 1) (vs [])).set (o := 2) (.int .i64 0)).set (o := 3) (.slice (some ⟨g, 0, none⟩) acc.length cp); have ht : Qg false (fun k => w.heap.size + 1 <= k) w2 (tcs false op [] 0 0 (.slice (some ⟨g, 0, none⟩) acc.length cp)) (.mk op [] 0 0 acc) := ⟨_, _, rfl, cM, .inr ⟨g, 0, rfl, cO, cN, dM.out⟩⟩
       exact ⟨_, rfl, ⟨_, rfl, (ht.keep bT.out.size (fun b hb aO => ⟨hb, bT.out.block b aO⟩)).off ho (Nat.lt_succ_self _) (Nat.le_succ _)⟩, (bB.out.below bT.out).off ho aK, (aT.out.trans (Eff.of_below bT.out)).off ho (lR _)⟩
   · have HT := Hi ht; have h0 : (0 : Int) <= i := (by omega)
     clear ht; refine (Ov [W] _ 1 p fin t2 r3 _ bR bQ (by simp) i HT.out).mono ?_; rintro e w2 ⟨rfl, aR, aG⟩; have bB := Hi aR; have aT := Hi aG; have hk := dL.out; simp only [List.length_cons] at bH hk; have dE : r3.length < n' + 1 := (by omega)
     obtain ⟨k', rfl⟩ : ∃ k', k = k' + 1 := ⟨k - 1, by omega⟩
     clear aR aG bQ bR; go_wp2_with fail; rw [cV.out, Oper.upon_enter]; refine bO.out.call bB.out dE ?_ ?_
     case refine_2 =>
      intro e s w3 aZ aI; go_wp2_with fail; have hs : severalL one W (n' + 1) l = .error (e, s) := by rw [aU.out, Hk HT.out, aZ]; rfl
      refine ⟨rfl, ?_⟩; rw [Pk hs]; exact ⟨rfl, bD.out.trans (((Eff.of_below ((Below.refl _ _).alloc (lR _) _)).trans aT.out).trans aI)⟩
     case refine_1 =>
      intro t3 r4 v3 w3 aZ dD aX aI dQ; obtain ⟨dZ, rfl, bG⟩ := dD; have bM := Hi bG; obtain ⟨o3, name3, bZ, m3, bV⟩ := t3; obtain ⟨A3, cA, rfl, bI, bX⟩ := bG; simp only [tcs]; clear bI bX; have bL := Hi (Dw (ty := 28) (by omega) rfl hz bS.out bC.out bD.out ((Below.refl _ _).alloc (lR _) _) aT.out aI aX bM.out rfl); have cC := Hi aZ; clear aX aI aZ; go_wp2_with (at_builtin; refine Pz rfl (.tmp 18) (.tmp 21) rfl (w.heap.size + 1) u9 acc w3.heap.size (tcs false o3 name3 bZ m3 (.slice A3 bV.length cA)) (.mk o3 name3 bZ m3 bV) rfl rfl bL.out.1 bL.out.2.2.1 bL.out.2.1 (by omega) bL.out.2.2.2.1 ?_; intro v' w' ho hg)
      obtain ⟨-, -, -, q1, q2, q3, q4⟩ := bL.out; have aM := bC.out.own bS.out; have q5 : w3.heap.size + 1 <= w'.heap.size := by have := hg.size; simpa using this
      have q6 : wr.heap.size <= w3.heap.size + 1 := by have := q4.size; simpa using this
      have cL := q2.grown hg (fun b hb => by have := (aM b hb).1; omega); refine ⟨⟨k', acc ++ [.mk o3 name3 bZ m3 bV], r4, by simp, by simp; omega, ?_, by omega, by omega, cL, q3.grown hg (fun b hb => by have := (aM b hb).1; omega), ho, by omega, ?_⟩, ?_⟩
      · rw [aU.out, Hk HT.out, cC.out]; exact Pv _ _ _
      · exact (hg.block _ (by simp; omega) (fun e => by have := (aM _ e.symm).1; omega)).trans ((q4.block _ (by omega) (by omega)).trans bP.out)
      · rw [cL.plen, cD.out.plen]; simp; omega
end
set_option maxRecDepth 20000
set_option maxHeartbeats 400000
section
open Go.RowKit
theorem Wp.elim {α : Type} {p fin : Nat} {w w' : World} {res : R α} {V : α -> Value -> World -> Prop} {e : Ending} {K : Ending -> World -> Prop} (h : Wp p fin w res V e w') (hk : ∀ x r v, res = .ok (x, r) -> V x v w' -> PS w' p fin r -> Eff p w w' -> K (.returned v) w') (he : ∀ c s, res = .error (c, s) -> Eff p w w' -> K (Xg c (Xd fin s)) w') : K e w' := by
 cases hq : res with
 | error x =>
   obtain ⟨c, s⟩ := x; rw [hq] at h; obtain ⟨rfl, h2⟩ := h; exact he c s hq h2
 | ok x =>
   obtain ⟨t, r⟩ := x; rw [hq] at h; obtain ⟨v, rfl, h1, h2, h3⟩ := h; exact hk t r v hq h1 h2 h3
theorem Qq {α : Type} {f : FuncId} {args : Array Value} {p fin : Nat} {w w0 : World} {res : R α} {V : α -> Value -> World -> Prop} {K : Ending -> World -> Prop} (h : Calls Tryz.prog f args w (Wp p fin w0 res V)) (hk : ∀ x r v w', res = .ok (x, r) -> V x v w' -> PS w' p fin r -> Eff p w0 w' -> K (.returned v) w') (he : ∀ c s w', res = .error (c, s) -> Eff p w0 w' -> K (Xg c (Xd fin s)) w') : Calls Tryz.prog f args w K :=
 h.mono fun e w' ho => ho.elim (fun x r v => hk x r v w') (fun c s => he c s w')
theorem Wm {fm : Bool} {p fin b : Nat} {w w1 w2 : World} {cs : List Value} {t : Qb} {r : List Tok} {res : R Qb} (hb : w.heap.size <= b) (hv : Qg fm (fun k => b + 1 <= k) w1 cs t) (hp : PS w1 p fin r) (he : Eff p w w1) (ho : Off b w1 w2) (aK : p < b) (hr : res = .ok (t, r)) : Wp p fin w res (Gr fm w) (.returned (.agg cs.toArray)) w2 := by
 rw [hr]; exact ⟨_, rfl, ⟨_, rfl, hv.off ho (Nat.lt_succ_self _) (by omega)⟩, hp.off ho aK, he.off ho hb⟩
theorem Qi {p fin : Nat} {l : List Tok} {w : World} (hp : PS w p fin l) (o : Obj) : PS (w.alloc o) p fin l := hp.below ((Below.refl _ _).alloc (lR _) _)
theorem Qd (p : Nat) (w : World) (o : Obj) : Eff p w (w.alloc o) := Eff.of_below ((Below.refl _ _).alloc (lR _) _)
theorem qeb : Ij true 164 6 := by
 refine ⟨fun A n c w => ?_⟩; go_enter Tryz.func164, Tryz.ntmps164
 go_wp2_with fail; refine bodyPost_ret (v := .agg #[.int .i64 6, vs [], .int .i64 0, .int .i64 0, .slice A n c]) (by simp [results, Tryz.results164, go_sem]) rfl ⟨rfl, ?_⟩; exact (Below.refl _ _).alloc (lR _) _
theorem qae : Ij true 124 7 := by
 refine ⟨fun A n c w => ?_⟩; go_enter Tryz.func124, Tryz.ntmps124
 go_wp2_with fail; refine bodyPost_ret (v := .agg #[.int .i64 7, vs [], .int .i64 0, .int .i64 0, .slice A n c]) (by simp [results, Tryz.results124, go_sem]) rfl ⟨rfl, ?_⟩; exact (Below.refl _ _).alloc (lR _) _
theorem qec : Ij false 190 8 := by
 refine ⟨fun A n c w => ?_⟩; go_enter Tryz.func190, Tryz.ntmps190
 go_wp2_with fail; refine bodyPost_ret (v := .agg #[.int .i64 8, vs [], .int .i64 0, .slice A n c]) (by simp [results, Tryz.results190, go_sem]) rfl ⟨rfl, ?_⟩; exact (Below.refl _ _).alloc (lR _) _
theorem Dr : Ij false 168 9 := by
 refine ⟨fun A n c w => ?_⟩; go_enter Tryz.func168, Tryz.ntmps168
 go_wp2_with fail; refine bodyPost_ret (v := .agg #[.int .i64 9, vs [], .int .i64 0, .slice A n c]) (by simp [results, Tryz.results168, go_sem]) rfl ⟨rfl, ?_⟩; exact (Below.refl _ _).alloc (lR _) _
theorem qan : Xo 164 := fun _ _ => by kernel_rfl
theorem Nk : Xo 163 := fun _ _ => by kernel_rfl
theorem qb3 {p fin n : Nat} {one : List Tok -> R Qb} (aC : Xa true 163 p fin n one) (hn : n <= 6001) : Xa true 123 p fin n (severalF one [97, 110, 100] 6 n) := by
 refine ⟨fun l w hp hl => ?_, aC.sane.severalF _⟩; have aK := hp.lt; have HC := Hi (Ba _ _ 6 [97, 110, 100] one n p fin aC qeb Nk qan l _ (Qi hp (.cells #[.int .i64 0, .string ⟨#[]⟩, .int .i64 0, .int .i64 0, .slice none 0 0] 24 (0, 0))) hl (by omega)); clear aC hp; go_enter Tryz.func123, Tryz.ntmps123
 go_wp2_with fail; refine Qq HC.out ?_ ?_
 case refine_2 =>
  intro c s w1 hq he; have HQ := Hi hq; clear hq; go_wp2_with fail; refine ⟨rfl, ?_⟩; rw [HQ.out]; exact ⟨rfl, (Qd p w _).trans he⟩
 case refine_1 =>
  intro t r v w1 hq hv aL he; obtain ⟨cs, rfl, aH⟩ := hv; have aQ := Hi aH; obtain ⟨o1, name, cm, m, ks⟩ := t; obtain ⟨A, cap, rfl, -, -⟩ := aH; simp only [tcs]
  have aA : w1.heap[w.heap.size]? = some (.cells #[.int .i64 0, .string ⟨#[]⟩, .int .i64 0, .int .i64 0, .slice none 0 0] 24 (0, 0)) := by
   rw [he.block _ (by simp) (by omega)]; exact heap_alloc_new w _
  have c0 := cOb (o := 0) aA rfl; have c1 := cOb (o := 1) aA rfl; have c2 := cOb (o := 2) aA rfl; have c3 := cOb (o := 3) aA rfl; have c4 := cOb (o := 4) aA rfl; have f0 := fOb (o := 0) aA; have f1 := fOb (o := 1) aA; have f2 := fOb (o := 2) aA; have f3 := fOb (o := 3) aA; have f4 := fOb (o := 4) aA; have dl := lHp aA; have aS := Hi aL; have HE := Hi he; have HQ := Hi hq; clear aA aL he hq; go_wp2_with fail; refine bodyPost_ret (v := .agg (tcs true o1 name cm m (.slice A ks.length cap)).toArray) (by simp [results, Tryz.results123, go_sem, tcs, *]) rfl ?_; exact Wm (lR _) (aQ.out.keep (lR _) (fun b hb _ => ⟨by simpa using hb, rfl⟩)) aS.out ((Qd p w _).trans HE.out) (((((Off.refl w.heap.size w1).set (o := 0) (.int .i64 o1)).set (o := 1) (vs name)).set (o := 2) (.int .i64 cm)).set (o := 3) (.int .i64 m) |>.set (o := 4) (.slice A ks.length cap)) aK HQ.out
theorem F5 : Xo 124 := fun _ _ => by kernel_rfl
theorem P5 : Xo 123 := fun _ _ => by kernel_rfl
theorem F6 {p fin n : Nat} {one : List Tok -> R Qb} (aC : Xa true 123 p fin n one) (hn : n <= 6001) : Xa true 83 p fin n (severalF one [111, 114] 7 n) := by
 refine ⟨fun l w hp hl => ?_, aC.sane.severalF _⟩; have aK := hp.lt; have HC := Hi (Ba _ _ 7 [111, 114] one n p fin aC qae P5 F5 l _ (Qi hp (.cells #[.int .i64 0, .string ⟨#[]⟩, .int .i64 0, .int .i64 0, .slice none 0 0] 24 (0, 0))) hl (by omega)); clear aC hp; go_enter Tryz.func83, Tryz.ntmps83
 go_wp2_with fail; refine Qq HC.out ?_ ?_
 case refine_2 =>
  intro c s w1 hq he; have HQ := Hi hq; clear hq; go_wp2_with fail; refine ⟨rfl, ?_⟩; rw [HQ.out]; exact ⟨rfl, (Qd p w _).trans he⟩
 case refine_1 =>
  intro t r v w1 hq hv aL he; obtain ⟨cs, rfl, aH⟩ := hv; have aQ := Hi aH; obtain ⟨o1, name, cm, m, ks⟩ := t; obtain ⟨A, cap, rfl, -, -⟩ := aH; simp only [tcs]
  have aA : w1.heap[w.heap.size]? = some (.cells #[.int .i64 0, .string ⟨#[]⟩, .int .i64 0, .int .i64 0, .slice none 0 0] 24 (0, 0)) := by
   rw [he.block _ (by simp) (by omega)]; exact heap_alloc_new w _
  have c0 := cOb (o := 0) aA rfl; have c1 := cOb (o := 1) aA rfl; have c2 := cOb (o := 2) aA rfl; have c3 := cOb (o := 3) aA rfl; have c4 := cOb (o := 4) aA rfl; have f0 := fOb (o := 0) aA; have f1 := fOb (o := 1) aA; have f2 := fOb (o := 2) aA; have f3 := fOb (o := 3) aA; have f4 := fOb (o := 4) aA; have dl := lHp aA; have aS := Hi aL; have HE := Hi he; have HQ := Hi hq; clear aA aL he hq; go_wp2_with fail; refine bodyPost_ret (v := .agg (tcs true o1 name cm m (.slice A ks.length cap)).toArray) (by simp [results, Tryz.results83, go_sem, tcs, *]) rfl ?_; exact Wm (lR _) (aQ.out.keep (lR _) (fun b hb _ => ⟨by simpa using hb, rfl⟩)) aS.out ((Qd p w _).trans HE.out) (((((Off.refl w.heap.size w1).set (o := 0) (.int .i64 o1)).set (o := 1) (vs name)).set (o := 2) (.int .i64 cm)).set (o := 3) (.int .i64 m) |>.set (o := 4) (.slice A ks.length cap)) aK HQ.out
theorem qao : Xo 190 := fun _ _ => by kernel_rfl
theorem Nl : Xo 189 := fun _ _ => by kernel_rfl
theorem qb4 {p fin n : Nat} {one : List Tok -> R Qb} (aC : Xa false 189 p fin n one) (hn : n <= 6001) : Xa false 167 p fin n (severalF one [97, 110, 100] 8 n) := by
 refine ⟨fun l w hp hl => ?_, aC.sane.severalF _⟩; have aK := hp.lt; have HC := Hi (N9 _ _ 8 [97, 110, 100] one n p fin aC qec Nl qao l _ (Qi hp (.cells #[.int .i64 0, .string ⟨#[]⟩, .int .i64 0, .slice none 0 0] 28 (0, 0))) hl (by omega)); clear aC hp; go_enter Tryz.func167, Tryz.ntmps167
 go_wp2_with fail; refine Qq HC.out ?_ ?_
 case refine_2 =>
  intro c s w1 hq he; have HQ := Hi hq; clear hq; go_wp2_with fail; refine ⟨rfl, ?_⟩; rw [HQ.out]; exact ⟨rfl, (Qd p w _).trans he⟩
 case refine_1 =>
  intro t r v w1 hq hv aL he; obtain ⟨cs, rfl, aH⟩ := hv; have aQ := Hi aH; obtain ⟨o1, name, cm, m, ks⟩ := t; obtain ⟨A, cap, rfl, -, -⟩ := aH; simp only [tcs]
  have aA : w1.heap[w.heap.size]? = some (.cells #[.int .i64 0, .string ⟨#[]⟩, .int .i64 0, .slice none 0 0] 28 (0, 0)) := by
   rw [he.block _ (by simp) (by omega)]; exact heap_alloc_new w _
  have c0 := cOb (o := 0) aA rfl; have c1 := cOb (o := 1) aA rfl; have c2 := cOb (o := 2) aA rfl; have c3 := cOb (o := 3) aA rfl; have f0 := fOb (o := 0) aA; have f1 := fOb (o := 1) aA; have f2 := fOb (o := 2) aA; have f3 := fOb (o := 3) aA; have dl := lHp aA; have aS := Hi aL; have HE := Hi he; have HQ := Hi hq; clear aA aL he hq; go_wp2_with fail; refine bodyPost_ret (v := .agg (tcs false o1 name cm m (.slice A ks.length cap)).toArray) (by simp [results, Tryz.results167, go_sem, tcs, *]) rfl ?_; exact Wm (lR _) (aQ.out.keep (lR _) (fun b hb _ => ⟨by simpa using hb, rfl⟩)) aS.out ((Qd p w _).trans HE.out) ((((Off.refl w.heap.size w1).set (o := 0) (.int .i64 o1)).set (o := 1) (vs name)).set (o := 2) (.int .i64 m) |>.set (o := 3) (.slice A ks.length cap)) aK HQ.out
theorem Cb : Xo 168 := fun _ _ => by kernel_rfl
theorem Rr : Xo 167 := fun _ _ => by kernel_rfl
theorem N8 {p fin n : Nat} {one : List Tok -> R Qb} (aC : Xa false 167 p fin n one) (hn : n <= 6001) : Xa false 127 p fin n (severalF one [111, 114] 9 n) := by
 refine ⟨fun l w hp hl => ?_, aC.sane.severalF _⟩; have aK := hp.lt; have HC := Hi (N9 _ _ 9 [111, 114] one n p fin aC Dr Rr Cb l _ (Qi hp (.cells #[.int .i64 0, .string ⟨#[]⟩, .int .i64 0, .slice none 0 0] 28 (0, 0))) hl (by omega)); clear aC hp; go_enter Tryz.func127, Tryz.ntmps127
 go_wp2_with fail; refine Qq HC.out ?_ ?_
 case refine_2 =>
  intro c s w1 hq he; have HQ := Hi hq; clear hq; go_wp2_with fail; refine ⟨rfl, ?_⟩; rw [HQ.out]; exact ⟨rfl, (Qd p w _).trans he⟩
 case refine_1 =>
  intro t r v w1 hq hv aL he; obtain ⟨cs, rfl, aH⟩ := hv; have aQ := Hi aH; obtain ⟨o1, name, cm, m, ks⟩ := t; obtain ⟨A, cap, rfl, -, -⟩ := aH; simp only [tcs]
  have aA : w1.heap[w.heap.size]? = some (.cells #[.int .i64 0, .string ⟨#[]⟩, .int .i64 0, .slice none 0 0] 28 (0, 0)) := by
   rw [he.block _ (by simp) (by omega)]; exact heap_alloc_new w _
  have c0 := cOb (o := 0) aA rfl; have c1 := cOb (o := 1) aA rfl; have c2 := cOb (o := 2) aA rfl; have c3 := cOb (o := 3) aA rfl; have f0 := fOb (o := 0) aA; have f1 := fOb (o := 1) aA; have f2 := fOb (o := 2) aA; have f3 := fOb (o := 3) aA; have dl := lHp aA; have aS := Hi aL; have HE := Hi he; have HQ := Hi hq; clear aA aL he hq; go_wp2_with fail; refine bodyPost_ret (v := .agg (tcs false o1 name cm m (.slice A ks.length cap)).toArray) (by simp [results, Tryz.results127, go_sem, tcs, *]) rfl ?_; exact Wm (lR _) (aQ.out.keep (lR _) (fun b hb _ => ⟨by simpa using hb, rfl⟩)) aS.out ((Qd p w _).trans HE.out) ((((Off.refl w.heap.size w1).set (o := 0) (.int .i64 o1)).set (o := 1) (vs name)).set (o := 2) (.int .i64 m) |>.set (o := 3) (.slice A ks.length cap)) aK HQ.out
end
set_option maxRecDepth 20000
set_option maxHeartbeats 800000
section
open Go.RowKit
theorem qgi {ws : List (List UInt8)} {x : List UInt8} {i : Nat} (h : ws.idxOf? x = some i) : i < ws.length := by
 unfold List.idxOf? at h; rw [List.findIdx?_eq_some_iff_getElem] at h; exact h.1
theorem Ua (ws : List (List UInt8)) (W : Option Addr) (n : Nat) (hn : ws.length = n) (cw : Nat) (p fin : Nat) (l : List Tok) (w : World) (hp : PS w p fin l) (hr : RdS w W ws) (hl : n <= 100) {K : Ending -> World -> Prop}
 (dR : ∀ w', Xb ws l = (none, l) -> PS w' p fin l -> Eff p w w' -> K (.returned (.int .i64 (-1))) w')
 (dC : ∀ i r w', Xb ws l = (some i, r) -> i < n -> r.length < l.length -> PS w' p fin r -> Eff p w w' -> K (.returned (.int .i64 i)) w') :
 Calls Tryz.prog 81 #[.pointer (some ⟨p, 0, none⟩), .slice W n cw] w K := by
 subst hn; rcases J9 ws l with ht | ⟨t, r, i, rfl, ht, -, hi⟩
 · refine (P9 ws W cw p fin l w hp hr hl ht).mono ?_; rintro e w' ⟨rfl, hb⟩; exact dR w' ht (hp.below hb) (Eff.of_below hb)
 · refine (Ov ws W cw p fin t r w hp hr hl i ht).mono ?_; rintro e w' ⟨rfl, h1, h2⟩; exact dC i r w' ht (qgi hi) (by simp) h1 h2
theorem Qe {w : World} {b : Nat} {o : Obj} (h : b = w.heap.size) : (w.alloc o).heap[b]? = some o := h ▸ heap_alloc_new w o
theorem Qn {w : World} {b : Nat} {o x : Obj} (h : w.heap[b]? = some x) : (w.alloc o).heap[b]? = some x := (Below.heap_alloc _ _ _ (lHp h)).trans h
theorem qig {fm : Bool} {base g : Nat} {w : World} {cs : List Value} {t : Qb} {ty : TypeId} (op : Nat) (name : List UInt8) (cmp n : Nat) (hg : g = w.heap.size) (hb : base <= g) (h : Qg fm (fun k => base <= k) w cs t) : Qg fm (fun k => base <= k) (w.alloc (.cells cs.toArray ty (0, 0))) (tcs fm op name cmp n (.slice (some ⟨g, 0, none⟩) 1 1)) (.mk op name cmp n [t]) := by
 subst hg; refine ⟨_, _, rfl, lR _, .inr ⟨_, 0, rfl, hb, by simp, ⟨⟨cs, fun j v hv => ?_, h.keep (by simp) (fun b hb aO => ⟨hb, Below.heap_alloc _ _ _ aO⟩)⟩, trivial⟩⟩⟩; rw [Nat.zero_add]; exact cOb (heap_alloc_new w _) (by simpa using hv)
theorem qd9 {p fin n : Nat} (hn : n <= 6000) (ih : Xa true 163 p fin n (Jj n)) : Xa true 163 p fin (n + 1) (Jj (n + 1)) := by
 refine ⟨fun l w hp hl => ?_, Pd (n + 1)⟩; have aK := hp.lt; have HA := Hi ih; have HC := Hi (F6 (qb3 ih (by omega)) (by omega)); have HP := Hi hp; clear ih hp; go_enter Tryz.func163, Tryz.ntmps163
 go_wp2_with fail; refine Ua [[110, 111, 116], [40], [116, 114, 117, 101], [102, 97, 108, 115, 101]] _ 4 rfl 4 p fin l _ (Qi (Qi HP.out _) _) (RdS.new (Qe (by simp))) (by omega) ?_ ?_
 case refine_1 =>
  intro w1 ht aL aP; have HT := Hi ht; have aS := Hi aL; have he := (Qd p w _).trans ((Qd p _ _).trans aP); have aA := (aP.block w.heap.size (by simp; omega) (by omega)).trans (Qn (Qe rfl)); have aF := Hi aA; have HE := Hi he; clear ht aL aP he aA; go_wp2_with fail; refine Qq (Km p fin l _ aS.out) ?_ ?_
  case refine_2 =>
   intro c s w2 hq aG; have HQ := Hi hq; clear hq; go_wp2_with fail; refine ⟨rfl, ?_⟩; rw [show Jj (n + 1) l = .error (c, s) by simp only [Jj, Jc, HT.out, HQ.out, Qc]]; exact ⟨rfl, HE.out.trans aG⟩
  case refine_1 =>
   intro s r v w2 hq hv aR aG; subst hv; have HQ := Hi hq; have bB := Hi aR; have z2 : w.heap.size < w2.heap.size := Nat.lt_of_lt_of_le (lHp aF.out) aG.size; have aA := (aG.block w.heap.size (lHp aF.out) (by omega)).trans aF.out; have he := HE.out.trans aG; have aW := Hi aA; have aT := Hi he; clear hq aR aG aA he aF HE; go_wp2_with fail; refine Ua [[61], [33, 61], [60], [60, 61], [62], [62, 61]] _ 6 rfl 6 p fin r _ (Qi (Qi bB.out _) _) (RdS.new (Qe (by simp))) (by omega) ?_ ?_
   case refine_1 =>
    intro w3 cI aX aI; have cZ := Hi cI; have cU := Hi aX; have h1 : ¬ w.heap.size = w2.heap.size := by omega
    have h2 : ¬ w2.heap.size = w.heap.size := by omega
    have hf := (aI.block w2.heap.size (by simp; omega) (by omega)).trans (Qn (Qe rfl)); have aA := (aI.block w.heap.size (by simp; omega) (by omega)).trans (Qn (Qn aW.out)); have cG := Hi (aT.out.trans ((Qd p _ _).trans ((Qd p _ _).trans aI))); have e0 := cOb (o := 0) hf rfl; have e1 := cOb (o := 1) hf rfl; have e2 := cOb (o := 2) hf rfl; have e3 := cOb (o := 3) hf rfl; have e4 := cOb (o := 4) hf rfl; have fl := lHp hf; have c0 := cOb (o := 0) aA rfl; have c1 := cOb (o := 1) aA rfl; have c2 := cOb (o := 2) aA rfl; have c3 := cOb (o := 3) aA rfl; have c4 := cOb (o := 4) aA rfl; have f0 := fOb (o := 0) aA; have f1 := fOb (o := 1) aA; have f2 := fOb (o := 2) aA; have f3 := fOb (o := 3) aA; have f4 := fOb (o := 4) aA; have dl := lHp aA; clear cI aX aI hf aA; go_wp2_with fail; refine bodyPost_ret (v := .agg (tcs true 4 s 0 0 (.slice none 0 0)).toArray) (by simp [results, Tryz.results163, go_sem, tcs, *]) rfl ?_; exact Wm (lR _) (Qg.leaf 4 s 0 0 none 0) cU.out cG.out (((((Off.refl w.heap.size w3).set (o := 0) (.int .i64 (4 : Nat))).set (o := 1) (vs s)).set (o := 2) (.int .i64 (0 : Nat))).set (o := 3) (.int .i64 (0 : Nat)) |>.set (o := 4) (.slice none 0 0)) aK (show Jj (n + 1) l = .ok (.mk 4 s 0 0 [], r) by simp only [Jj, Jc, HT.out, HQ.out, cZ.out, Qc])
   case refine_2 =>
    intro i r2 w3 cI eF dO aX aI; have cZ := Hi cI; have cU := Hi aX; have h0 : (0 : Int) <= i := by omega
    have hf := (aI.block w2.heap.size (by simp; omega) (by omega)).trans (Qn (Qe rfl)); have aA := (aI.block w.heap.size (by simp; omega) (by omega)).trans (Qn (Qn aW.out)); have HF := Hi hf; have cT := Hi aA; have cG := Hi (aT.out.trans ((Qd p _ _).trans ((Qd p _ _).trans aI))); have z3 : w2.heap.size < w3.heap.size := lHp hf; clear cI aX aI hf aA aW aT; go_wp2_with fail; refine Qq (Gz 1000000 p fin r2 _ cU.out) ?_ ?_
    case refine_2 =>
     intro c s2 w4 cJ cE; have dK := Hi cJ; clear cJ; go_wp2_with fail; refine ⟨rfl, ?_⟩; rw [show Jj (n + 1) l = .error (c, s2) by simp only [Jj, Jc, HT.out, HQ.out, cZ.out, dK.out, Qc]]; exact ⟨rfl, cG.out.trans cE⟩
    case refine_1 =>
     intro m r3 v w4 cJ hv dP cE; subst hv; have dK := Hi cJ; have eA := Hi dP; have h1 : ¬ w.heap.size = w2.heap.size := (by omega)
     have h2 : ¬ w2.heap.size = w.heap.size := (by omega)
     have hf := (cE.block w2.heap.size z3 (by omega)).trans HF.out; have aA := (cE.block w.heap.size (by omega) (by omega)).trans cT.out; have eB := Hi (cG.out.trans cE); have e0 := cOb (o := 0) hf rfl; have e1 := cOb (o := 1) hf rfl; have e2 := cOb (o := 2) hf rfl; have e3 := cOb (o := 3) hf rfl; have e4 := cOb (o := 4) hf rfl; have eL := fOb (o := 0) hf; have eK := fOb (o := 1) hf; have eJ := fOb (o := 2) hf; have eI := fOb (o := 3) hf; have eH := fOb (o := 4) hf; have fl := lHp hf; have c0 := cOb (o := 0) aA rfl; have c1 := cOb (o := 1) aA rfl; have c2 := cOb (o := 2) aA rfl; have c3 := cOb (o := 3) aA rfl; have c4 := cOb (o := 4) aA rfl; have f0 := fOb (o := 0) aA; have f1 := fOb (o := 1) aA; have f2 := fOb (o := 2) aA; have f3 := fOb (o := 3) aA; have f4 := fOb (o := 4) aA; have dl := lHp aA; clear cJ dP cE hf aA; go_wp2_with fail; refine bodyPost_ret (v := .agg (tcs true 3 s (1 + i) m (.slice none 0 0)).toArray) (by simp [results, Tryz.results163, go_sem, tcs, *]) rfl ?_; have hx := (((Off.refl w2.heap.size w4).set (o := 0) (.int .i64 3)).set (o := 2) (.int .i64 (1 + i))).set (o := 3) (.int .i64 m); exact Wm (lR _) (Qg.leaf 3 s (1 + i) m none 0) (eA.out.off hx (by omega)) (eB.out.off hx (by omega)) (((((Off.refl w.heap.size _).set (o := 0) (.int .i64 (3 : Nat))).set (o := 1) (vs s)).set (o := 2) (.int .i64 (1 + i : Nat))).set (o := 3) (.int .i64 m) |>.set (o := 4) (.slice none 0 0)) aK (show Jj (n + 1) l = .ok (.mk 3 s (1 + i) m [], r3) by simp only [Jj, Jc, HT.out, HQ.out, cZ.out, dK.out, Qc])
 case refine_2 =>
  intro i r w1 ht eG hr aL aP; have HT := Hi ht; have aS := Hi aL; have he := (Qd p w _).trans ((Qd p _ _).trans aP); have aA := (aP.block w.heap.size (by simp; omega) (by omega)).trans (Qn (Qe rfl)); have aF := Hi aA; have HE := Hi he; clear ht aL aP he aA; obtain rfl | rfl | rfl | rfl : i = 0 \/ i = 1 \/ i = 2 \/ i = 3 := by omega
  · go_wp2_with fail; refine HA.out.call aS.out (by omega) ?_ ?_
    case refine_2 =>
     intro c s w2 hq aG; have HQ := Hi hq; clear hq; go_wp2_with fail; refine ⟨rfl, ?_⟩; rw [show Jj (n + 1) l = .error (c, s) by simp only [Jj, Jc, HT.out, HQ.out, Qc]]; exact ⟨rfl, HE.out.trans aG⟩
    case refine_1 =>
     intro t r2 v w2 hq hv aR aG dO; obtain ⟨cs, rfl, aH⟩ := hv; have aQ := Hi aH; obtain ⟨o1, name, cm, m, ks⟩ := t; obtain ⟨A, cap, rfl, -, -⟩ := aH; simp only [tcs]; have HQ := Hi hq; have bB := Hi aR; have aT := Hi (HE.out.trans aG); have hs := aG.size; have aA := (aG.block w.heap.size (lHp aF.out) (by omega)).trans aF.out; have z2 := lHp aA; have h1 : ¬ w.heap.size = w2.heap.size := (by omega)
     have h2 : ¬ w2.heap.size = w.heap.size := (by omega)
     have c0 := cOb (o := 0) aA rfl; have c1 := cOb (o := 1) aA rfl; have c2 := cOb (o := 2) aA rfl; have c3 := cOb (o := 3) aA rfl; have c4 := cOb (o := 4) aA rfl; have f0 := fOb (o := 0) aA; have f1 := fOb (o := 1) aA; have f2 := fOb (o := 2) aA; have f3 := fOb (o := 3) aA; have f4 := fOb (o := 4) aA; have dl := lHp aA; clear hq aR aG aA; go_wp2_with fail; refine bodyPost_ret (v := .agg (tcs true 5 [] 0 0 (.slice (some ⟨w2.heap.size, 0, none⟩) 1 1)).toArray) (by simp [results, Tryz.results163, go_sem, tcs, *]) rfl ?_; have ho := ((((Off.refl w.heap.size w2).set (o := 0) (.int .i64 (5 : Nat))).set (o := 1) (vs [])).set (o := 2) (.int .i64 (0 : Nat))).set (o := 3) (.int .i64 (0 : Nat)) |>.set (o := 4) (.slice (some ⟨w2.heap.size, 0, none⟩) 1 1); have cH := lHp aF.out; exact Wm (lR _) (qig (cs := tcs true o1 name cm m (.slice A ks.length cap)) (ty := 24) 5 [] 0 0 (by rw [ho.size]) (by omega) (aQ.out.off (base' := w.heap.size + 1) ho (by omega) (by omega))) (Qi (bB.out.off ho aK) _) ((aT.out.off ho (lR _)).trans (Qd p _ _)) (Off.refl _ _) aK (show Jj (n + 1) l = .ok (.mk 5 [] 0 0 [.mk o1 name cm m ks], r2) by simp only [Jj, Jc, HT.out, HQ.out, Qc])
  · go_wp2_with fail; refine HC.out.call aS.out (by omega) ?_ ?_
    case refine_2 =>
     intro c s w2 hq aG; have HQ := Hi hq; clear hq; go_wp2_with fail; refine ⟨rfl, ?_⟩; rw [show Jj (n + 1) l = .error (c, s) by simp only [Jj, Jc, HT.out, orF, Y7, HQ.out, Qc]]; exact ⟨rfl, HE.out.trans aG⟩
    case refine_1 =>
     intro t r2 v w2 hq hv aR aG dO; obtain ⟨cs, rfl, aH⟩ := hv; have aQ := Hi aH; obtain ⟨o1, name, cm, m, ks⟩ := t; obtain ⟨A, cap, rfl, -, -⟩ := aH; simp only [tcs]; have HQ := Hi hq; have bB := Hi aR; have aT := Hi (HE.out.trans aG); have hs := aG.size; have aA := (aG.block w.heap.size (lHp aF.out) (by omega)).trans aF.out; have z2 := lHp aA; have aW := Hi aA; clear hq aR aG aA; go_wp2_with fail; refine Qq (Xk [[41]] _ 1 p fin r2 _ (Qi (Qi bB.out _) _) (RdS.new (Qe (by simp))) (by simp)) ?_ ?_
     case refine_2 =>
      intro c s w3 aZ aI; have cC := Hi aZ; clear aZ; go_wp2_with fail; refine ⟨rfl, ?_⟩; rw [show Jj (n + 1) l = .error (c, s) by simp only [Jj, Jc, HT.out, orF, Y7, HQ.out, cC.out, Qc]]; exact ⟨rfl, aT.out.trans ((Qd p _ _).trans ((Qd p _ _).trans aI))⟩
     case refine_1 =>
      intro i3 r3 v w3 aZ hv aX aI; subst hv; have cC := Hi aZ; have cU := Hi aX; have h1 : ¬ w.heap.size = w2.heap.size := (by omega)
      have h2 : ¬ w2.heap.size = w.heap.size := (by omega)
      have hf := (aI.block w2.heap.size (by simp; omega) (by omega)).trans (Qn (Qe rfl)); have aA := (aI.block w.heap.size (by simp; omega) (by omega)).trans (Qn (Qn aW.out)); have cG := Hi (aT.out.trans ((Qd p _ _).trans ((Qd p _ _).trans aI))); have cH := lHp aF.out; have bM := Hi ((aQ.out.eff (Qd p _ (.cells #[.int .i64 o1, vs name, .int .i64 cm, .int .i64 m, .slice A ks.length cap] 24 (0, 0))) (by omega)).eff ((Qd p _ _).trans aI) (by omega)); have e0 := cOb (o := 0) hf rfl; have e1 := cOb (o := 1) hf rfl; have e2 := cOb (o := 2) hf rfl; have e3 := cOb (o := 3) hf rfl; have e4 := cOb (o := 4) hf rfl; have fl := lHp hf; have c0 := cOb (o := 0) aA rfl; have c1 := cOb (o := 1) aA rfl; have c2 := cOb (o := 2) aA rfl; have c3 := cOb (o := 3) aA rfl; have c4 := cOb (o := 4) aA rfl; have f0 := fOb (o := 0) aA; have f1 := fOb (o := 1) aA; have f2 := fOb (o := 2) aA; have f3 := fOb (o := 3) aA; have f4 := fOb (o := 4) aA; have dl := lHp aA; clear aZ aX aI hf aA; go_wp2_with fail; refine bodyPost_ret (v := .agg (tcs true o1 name cm m (.slice A ks.length cap)).toArray) (by simp [results, Tryz.results163, go_sem, tcs, *]) rfl ?_; exact Wm (lR _) (bM.out.keep (lR _) (fun b hb _ => ⟨by omega, rfl⟩)) cU.out cG.out (((((Off.refl w.heap.size w3).set (o := 0) (.int .i64 o1)).set (o := 1) (vs name)).set (o := 2) (.int .i64 cm)).set (o := 3) (.int .i64 m) |>.set (o := 4) (.slice A ks.length cap)) aK (show Jj (n + 1) l = .ok (.mk o1 name cm m ks, r3) by simp only [Jj, Jc, HT.out, orF, Y7, HQ.out, cC.out, Qc])
  · have aA := aF.out; have c0 := cOb (o := 0) aA rfl; have c1 := cOb (o := 1) aA rfl; have c2 := cOb (o := 2) aA rfl; have c3 := cOb (o := 3) aA rfl; have c4 := cOb (o := 4) aA rfl; have f0 := fOb (o := 0) aA; have f1 := fOb (o := 1) aA; have f2 := fOb (o := 2) aA; have f3 := fOb (o := 3) aA; have f4 := fOb (o := 4) aA; have dl := lHp aA; clear aA; go_wp2_with fail; refine bodyPost_ret (v := .agg (tcs true 1 [] 0 0 (.slice none 0 0)).toArray) (by simp [results, Tryz.results163, go_sem, tcs, *]) rfl ?_; exact Wm (lR _) (Qg.leaf 1 [] 0 0 none 0) aS.out HE.out (((((Off.refl w.heap.size w1).set (o := 0) (.int .i64 (1 : Nat))).set (o := 1) (vs [])).set (o := 2) (.int .i64 (0 : Nat))).set (o := 3) (.int .i64 (0 : Nat)) |>.set (o := 4) (.slice none 0 0)) aK (show Jj (n + 1) l = .ok (.mk 1 [] 0 0 [], r) by simp only [Jj, Jc, HT.out])
  · have aA := aF.out; have c0 := cOb (o := 0) aA rfl; have c1 := cOb (o := 1) aA rfl; have c2 := cOb (o := 2) aA rfl; have c3 := cOb (o := 3) aA rfl; have c4 := cOb (o := 4) aA rfl; have f0 := fOb (o := 0) aA; have f1 := fOb (o := 1) aA; have f2 := fOb (o := 2) aA; have f3 := fOb (o := 3) aA; have f4 := fOb (o := 4) aA; have dl := lHp aA; clear aA; go_wp2_with fail; refine bodyPost_ret (v := .agg (tcs true 2 [] 0 0 (.slice none 0 0)).toArray) (by simp [results, Tryz.results163, go_sem, tcs, *]) rfl ?_; exact Wm (lR _) (Qg.leaf 2 [] 0 0 none 0) aS.out HE.out (((((Off.refl w.heap.size w1).set (o := 0) (.int .i64 (2 : Nat))).set (o := 1) (vs [])).set (o := 2) (.int .i64 (0 : Nat))).set (o := 3) (.int .i64 (0 : Nat)) |>.set (o := 4) (.slice none 0 0)) aK (show Jj (n + 1) l = .ok (.mk 2 [] 0 0 [], r) by simp only [Jj, Jc, HT.out])
theorem Sf {p fin : Nat} : ∀ n, n <= 6001 -> Xa true 163 p fin n (Jj n)
 | 0, _ => ⟨fun l w _ h => absurd h (Nat.not_lt_zero _), O3⟩
 | n + 1, h => qd9 (by omega) (Sf n (by omega))
theorem qdv {p fin : Nat} (n : Nat) (hn : n <= 6001) : Xa true 83 p fin n (Rl n) := F6 (qb3 (Sf n hn) hn) hn
