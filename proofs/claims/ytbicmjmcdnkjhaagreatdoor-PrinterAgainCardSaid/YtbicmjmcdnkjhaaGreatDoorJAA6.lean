/- What the printer answers, as a plain function; its laws. -/
import Derived.Test.YtbicmjmcdnkjhaaGreatDoorJAA5
set_option linter.unusedVariables false
set_option linter.unusedSimpArgs false
namespace Go.Proofs.YtbicmjmcdnkjhaaGreatDoor
section
mutual
theorem Ft : ∀ (t : Qb) (l d : Int), Jn t = true -> (t.size : Int) <= l -> (t.deep : Int) <= d -> Jg (up t) l d = (true, l - t.size)
 | .mk op name cmp n ks, l, d, hs, hl, hd => by
   rw [Jn] at hs; simp only [Bool.and_eq_true] at hs; obtain ⟨⟨⟨h1, h2⟩, h3⟩, h4⟩ := hs; rw [Qb.size] at hl ⊢; rw [Qb.deep] at hd; rw [up, Jg]
   have hr : Nw op name cmp n = false := by
    unfold Nw Lm
    by_cases o3 : op = 3
    · rw [if_pos o3] at h1; simp only [Bool.and_eq_true, decide_eq_true_eq] at h1; subst o3; have e1 : (1 : Int) <= cmp := (by omega)
      have e2 : (cmp : Int) <= 6 := (by omega)
      have e3 : (n : Int) <= 1000000 := (by omega)
      simp [e1, e2, e3]
    · rw [if_neg o3] at h1; simp only [Bool.and_eq_true, decide_eq_true_eq] at h1; obtain ⟨rfl, rfl⟩ := h1; have e1 : ¬ (op : Int) = 3 := (by omega)
      by_cases o4 : op = 4
      · subst o4; simp
      · have e4 : ¬ (op : Int) = 4 := by omega
        rw [if_neg (by omega)] at h2; have : name = [] := by simpa using h2
        subst this; simp [e1, e4]
   rw [if_neg (by simp only [not_or, Bool.not_eq_true]; exact ⟨by omega, by omega, hr⟩), Z3]
   by_cases o1 : op = 1 \/ op = 2 \/ op = 3 \/ op = 4
   · rw [if_pos o1] at h3; have : ks = [] := by simpa using h3
     subst this; rw [if_pos (by omega), sizes]; simp
   · rw [if_neg o1] at h3; rw [if_neg (by omega), if_pos, Bj ks (l - 1) (d - 1) h4 (by omega) (by omega)]
     · apply Prod.ext
       · rfl
       · show l - 1 - _ = _
         omega
     · split at h3
       · have : ks.length = 1 := by simpa using h3
         omega
       · split at h3
         · have : 2 <= ks.length := by simpa using h3
           omega
         · cases h3
theorem Bj : ∀ (ks : List Qb) (l d : Int), Ze ks = true -> (sizes ks : Int) <= l -> ((deeps ks : Nat) : Int) <= d -> J6 (ups ks) l d = (true, l - sizes ks)
 | [], l, d, _, _, _ => by rw [ups, J6, sizes]; simp
 | k :: r, l, d, hs, hl, hd => by
   rw [Ze, Bool.and_eq_true] at hs; rw [sizes] at hl ⊢; rw [deeps] at hd; rw [ups, J6, Ft k l d hs.1 (by omega) (by omega)]; simp only [if_true]; rw [Bj r _ d hs.2 (by omega) (by omega)]; apply Prod.ext
   · rfl
   · show l - k.size - sizes r = _
     omega
end
mutual
theorem Oy : ∀ (t : Qb) (l d : Int), Ja t = true -> (t.size : Int) <= l -> (t.deep : Int) <= d -> Q0 (up t) l d = (true, l - t.size)
 | .mk op name cmp n ks, l, d, hs, hl, hd => by
   rw [Ja] at hs; simp only [Bool.and_eq_true, decide_eq_true_eq] at hs; obtain ⟨⟨⟨⟨hc, h1⟩, h2⟩, h3⟩, h4⟩ := hs; rw [Qb.size] at hl ⊢; rw [Qb.deep] at hd; rw [up, Q0]
   have hn : op = 3 /\ n <= 1000000 \/ op ≠ 3 /\ n = 0 := by
    split at h1
    · exact Or.inl ⟨by assumption, by simpa using h1⟩
    · exact Or.inr ⟨by assumption, by simpa using h1⟩
   have hm : 4 <= op /\ op <= 7 \/ name = [] := by
    split at h2
    · exact Or.inl (by omega)
    · exact Or.inr (by simpa using h2)
   have hr : Nv op name n = false := by
    unfold Nv; have e1 : ¬ (n : Int) < 0 := by omega
    have e2 : ¬ (1000000 : Int) < n := by omega
    have e3 : (op != (3 : Int) && (n : Int) != 0) = false := by
     rcases hn with ⟨a, b⟩ | ⟨a, b⟩
     · subst a; rfl
     · subst b; simp
    have e4 : (name != [] && !(decide ((4 : Int) <= op) && decide ((op : Int) <= 7))) = false := by
     rcases hm with ⟨a, b⟩ | a
     · have a1 : (4 : Int) <= op := by omega
       have a2 : (op : Int) <= 7 := (by omega)
       simp [a1, a2]
     · subst a; rfl
    have aQ : (((op : Nat) : Int) != 3 && ((n : Nat) : Int) != 0) = false := e3; rw [e4, aQ, decide_eq_false e1, decide_eq_false e2]; rfl
   rw [if_neg (by simp only [not_or, Bool.not_eq_true]; exact ⟨by omega, by omega, hr⟩), Z3]
   by_cases o8 : op = 8 \/ op = 9
   · rw [if_pos o8] at h3; have : 2 <= ks.length := by simpa using h3
     rw [if_pos (by omega), if_pos this, Lq ks (l - 1) (d - 1) h4 (by omega) (by omega)]; apply Prod.ext
     · rfl
     · show l - 1 - _ = _
       omega
   · rw [if_neg o8] at h3
     split at h3
     · have : ks = [] := by simpa using h3
       subst this; rw [if_neg (by omega), if_pos (by omega), sizes]; simp
     · cases h3
theorem Lq : ∀ (ks : List Qb) (l d : Int), Jz ks = true -> (sizes ks : Int) <= l -> ((deeps ks : Nat) : Int) <= d -> Jr (ups ks) l d = (true, l - sizes ks)
 | [], l, d, _, _, _ => by rw [ups, Jr, sizes]; simp
 | k :: r, l, d, hs, hl, hd => by
   rw [Jz, Bool.and_eq_true] at hs; rw [sizes] at hl ⊢; rw [deeps] at hd; rw [ups, Jr, Oy k l d hs.1 (by omega) (by omega)]; simp only [if_true]; rw [Lq r _ d hs.2 (by omega) (by omega)]; apply Prod.ext
   · rfl
   · show l - k.size - sizes r = _
     omega
end
structure Zt where
 id : List UInt8
 rank : Int
 kind : Int
 name : List UInt8
 value : Int
 cond : TreeI
 exc : List (List UInt8)
 beg : TreeI
 fin : TreeI
 aga : TreeI
def upP (p : Qf) : Zt := ⟨p.id, p.rank, p.kind, p.name, p.value, up p.cond, p.exc, up p.beg, up p.fin, up p.aga⟩
def Xh (p : Zt) : Qf := ⟨p.id, p.rank.toNat, p.kind.toNat, p.name, p.value.toNat, down p.cond, p.exc, down p.beg, down p.fin, down p.aga⟩
theorem Yh (p : Qf) : Xh (upP p) = p := by
 cases p; simp only [Xh, upP, Lf, Int.toNat_natCast]
def Lx (p : Zt) : Bool := decide (p.rank < 1) || decide (4 < p.rank) || (p.kind != 1 && p.kind != 2) || decide (p.value < 0) || decide (1000000 < p.value) || (p.kind == 1 && p.value != 0) || decide (20 < p.exc.length)
def Zw (p : Zt) : Bool := !Lx p && decide p.exc.Nodup && (Jg p.cond 200 20).1 && (Q0 p.beg 200 20).1 && (Q0 p.fin 200 20).1 && (Q0 p.aga 200 20).1
structure Y8 (p : Qf) : Prop where
 rank : 1 <= p.rank /\ p.rank <= 4
 kind : p.kind = 1 /\ p.value = 0 \/ p.kind = 2
 value : p.value <= 1000000
 cond : Jn p.cond = true
 condS : small p.cond = true
 excN : p.exc.Nodup
 excL : p.exc.length <= 20
 beg : Ja p.beg = true
 begS : small p.beg = true
 fin : Ja p.fin = true
 finS : small p.fin = true
 aga : Ja p.aga = true
 agaS : small p.aga = true
def Q7 (p : Qf) : List Qa := p.id :: p.name :: (p.exc ++ (Ql p.cond ++ (Qo p.beg ++ (Qo p.fin ++ Qo p.aga))))
theorem qbc {p : Qf} : Zo p ↔ Y8 p /\ ∀ s ∈ Q7 p, Qp s = true := by
 constructor
 · intro h; have h1 := h.cond; have h2 := h.beg; have h3 := h.fin; have h4 := h.aga; rw [Th, Bool.and_eq_true, List.all_eq_true] at h1; rw [L9, Bool.and_eq_true, List.all_eq_true] at h2 h3 h4; refine ⟨⟨h.rank, h.kind, h.value, h1.1, h.condS, h.excN, h.excL, h2.1, h.begS, h3.1, h.finS, h4.1, h.agaS⟩, fun s hs => ?_⟩; unfold Q7 at hs; simp only [List.mem_cons, List.mem_append] at hs; rcases hs with rfl | rfl | hs | hs | hs | hs | hs
   · exact h.id
   · exact h.name
   · exact h.exc s hs
   · exact h1.2 s hs
   · exact h2.2 s hs
   · exact h3.2 s hs
   · exact h4.2 s hs
 · intro ⟨h, hn⟩; unfold Q7 at hn; simp only [List.mem_cons, List.mem_append] at hn; refine ⟨h.rank, hn _ (Or.inl rfl), h.kind, hn _ (Or.inr (Or.inl rfl)), h.value, ?_, h.condS, fun s hs => hn s (Or.inr (Or.inr (Or.inl hs))), h.excN, h.excL, ?_, h.begS, ?_, h.finS, ?_, h.agaS⟩
   · rw [Th, Bool.and_eq_true, List.all_eq_true]; exact ⟨h.cond, fun s hs => hn s (by simp [hs])⟩
   · rw [L9, Bool.and_eq_true, List.all_eq_true]; exact ⟨h.beg, fun s hs => hn s (by simp [hs])⟩
   · rw [L9, Bool.and_eq_true, List.all_eq_true]; exact ⟨h.fin, fun s hs => hn s (by simp [hs])⟩
   · rw [L9, Bool.and_eq_true, List.all_eq_true]; exact ⟨h.aga, fun s hs => hn s (by simp [hs])⟩
theorem L8 {p : Qf} : So.Zo p ↔ Y8 p /\ ∀ s ∈ Q7 p, So.Qp s = true := by
 constructor
 · intro h; have h1 := h.cond; have h2 := h.beg; have h3 := h.fin; have h4 := h.aga; rw [Cm, Bool.and_eq_true, List.all_eq_true] at h1; rw [Ra, Bool.and_eq_true, List.all_eq_true] at h2 h3 h4; refine ⟨⟨h.rank, h.kind, h.value, h1.1, h.condS, h.excN, h.excL, h2.1, h.begS, h3.1, h.finS, h4.1, h.agaS⟩, fun s hs => ?_⟩; unfold Q7 at hs; simp only [List.mem_cons, List.mem_append] at hs; rcases hs with rfl | rfl | hs | hs | hs | hs | hs
   · exact h.id
   · exact h.name
   · exact h.exc s hs
   · exact h1.2 s hs
   · exact h2.2 s hs
   · exact h3.2 s hs
   · exact h4.2 s hs
 · intro ⟨h, hn⟩; unfold Q7 at hn; simp only [List.mem_cons, List.mem_append] at hn; refine ⟨h.rank, hn _ (Or.inl rfl), h.kind, hn _ (Or.inr (Or.inl rfl)), h.value, ?_, h.condS, fun s hs => hn s (Or.inr (Or.inr (Or.inl hs))), h.excN, h.excL, ?_, h.begS, ?_, h.finS, ?_, h.agaS⟩
   · rw [Cm, Bool.and_eq_true, List.all_eq_true]; exact ⟨h.cond, fun s hs => hn s (by simp [hs])⟩
   · rw [Ra, Bool.and_eq_true, List.all_eq_true]; exact ⟨h.beg, fun s hs => hn s (by simp [hs])⟩
   · rw [Ra, Bool.and_eq_true, List.all_eq_true]; exact ⟨h.fin, fun s hs => hn s (by simp [hs])⟩
   · rw [Ra, Bool.and_eq_true, List.all_eq_true]; exact ⟨h.aga, fun s hs => hn s (by simp [hs])⟩
def Y2 (p : Zt) : Prop := V7 p.beg /\ V7 p.fin /\ V7 p.aga
theorem Ix {t : Qb} (h1 : (t.size : Int) <= 200) (h2 : (t.deep : Int) <= 20) : small t = true := by
 unfold small; rw [Bool.and_eq_true, decide_eq_true_eq, decide_eq_true_eq]; omega
theorem Vg {t : Qb} (h : small t = true) : (t.size : Int) <= 200 /\ (t.deep : Int) <= 20 := by
 unfold small at h; rw [Bool.and_eq_true, decide_eq_true_eq, decide_eq_true_eq] at h; omega
theorem qh3 {p : Zt} (h : Lx p = false) : 1 <= p.rank /\ p.rank <= 4 /\ (p.kind = 1 /\ p.value = 0 \/ p.kind = 2) /\ 0 <= p.value /\ p.value <= 1000000 /\ p.exc.length <= 20 := by
 unfold Lx at h; simp only [Bool.or_eq_false_iff, decide_eq_false_iff_not, Bool.and_eq_false_iff, bne_eq_false_iff_eq, beq_eq_false_iff_ne] at h; obtain ⟨⟨⟨⟨⟨⟨h1, h2⟩, h3⟩, h4⟩, h5⟩, h6⟩, h7⟩ := h; refine ⟨by omega, by omega, ?_, by omega, by omega, by omega⟩; rcases h3 with h3 | h3
 · rcases h6 with h6 | h6
   · exact absurd h3 h6
   · exact Or.inl ⟨h3, h6⟩
 · exact Or.inr h3
theorem Vs {p : Zt} (hp : Y2 p) (h : Zw p = true) : p = upP (Xh p) /\ Y8 (Xh p) := by
 unfold Zw at h; simp only [Bool.and_eq_true, Bool.not_eq_true', decide_eq_true_eq] at h; obtain ⟨⟨⟨⟨⟨h1, h2⟩, h3⟩, h4⟩, h5⟩, h6⟩ := h; obtain ⟨r1, r2, r3, r4, r5, r6⟩ := qh3 h1; obtain ⟨hb, hf, ha⟩ := hp; obtain ⟨id, rank, kind, name, value, cond, exc, beg, fin, aga⟩ := p; simp only at *; obtain ⟨c', c1, c2, c3, c4, -⟩ := Mw cond 200 20 (by omega) h3; obtain ⟨b', b1, b2, b3, b4, -⟩ := Yo beg 200 20 (by omega) hb h4; obtain ⟨f', f1, f2, f3, f4, -⟩ := Yo fin 200 20 (by omega) hf h5; obtain ⟨a', a1, a2, a3, a4, -⟩ := Yo aga 200 20 (by omega) ha h6; subst c1 b1 f1 a1; have hk : 0 <= kind := by omega
 constructor
 · simp only [Xh, upP, Lf, Zt.mk.injEq, true_and, and_true]; refine ⟨by omega, by omega, by omega⟩
 · refine ⟨?_, ?_, ?_, ?_, ?_, h2, r6, ?_, ?_, ?_, ?_, ?_, ?_⟩ <;> simp only [Xh, Lf]
   · omega
   · omega
   · omega
   · exact c2
   · exact Ix c3 c4
   · exact b2
   · exact Ix b3 b4
   · exact f2
   · exact Ix f3 f4
   · exact a2
   · exact Ix a3 a4
theorem Wv {p : Qf} (h : Y8 p) : Zw (upP p) = true := by
 unfold Zw; have e1 := Ft p.cond 200 20 h.cond (Vg h.condS).1 (Vg h.condS).2; have e2 := Oy p.beg 200 20 h.beg (Vg h.begS).1 (Vg h.begS).2; have e3 := Oy p.fin 200 20 h.fin (Vg h.finS).1 (Vg h.finS).2; have e4 := Oy p.aga 200 20 h.aga (Vg h.agaS).1 (Vg h.agaS).2
 have e5 : Lx (upP p) = false := by
  have := h.rank; have := h.kind; have := h.value; have := h.excL; rw [show Lx (upP p) = (decide ((p.rank : Int) < 1) || decide (4 < (p.rank : Int)) || (((p.kind : Nat) : Int) != 1 && ((p.kind : Nat) : Int) != 2) || decide (((p.value : Nat) : Int) < 0) || decide (1000000 < ((p.value : Nat) : Int)) || (((p.kind : Nat) : Int) == 1 && ((p.value : Nat) : Int) != 0) || decide (20 < p.exc.length)) from rfl]; simp only [Bool.or_eq_false_iff, decide_eq_false_iff_not, Bool.and_eq_false_iff, bne_eq_false_iff_eq, beq_eq_false_iff_ne]; refine ⟨⟨⟨⟨⟨⟨by omega, by omega⟩, ?_⟩, by omega⟩, by omega⟩, ?_⟩, by omega⟩
  · rcases h.kind with ⟨k, _⟩ | k
    · exact Or.inl (by omega)
    · exact Or.inr (by omega)
  · rcases h.kind with ⟨k, v⟩ | k
    · exact Or.inr (by omega)
    · exact Or.inl (by omega)
 have e6 : (upP p).exc.Nodup := h.excN; rw [e5, decide_eq_true e6]; show (!false && true && (Jg (up p.cond) 200 20).1 && (Q0 (up p.beg) 200 20).1 && (Q0 (up p.fin) 200 20).1 && (Q0 (up p.aga) 200 20).1) = true
 rw [e1, e2, e3, e4]; rfl
theorem Ct {c : UInt8} {r : Qa} {n v : Nat} (h : Qt c r = .ok (1, n, v)) : n <= 24 := by
 unfold Qt at h
 split at h
 · split at h
   · cases h
   · simp only [Except.ok.injEq, Prod.mk.injEq] at h; omega
 · repeat' split at h
   all_goals first | (cases h; done) | (simp only [Except.ok.injEq, Prod.mk.injEq] at h; omega)
theorem D5 {s : Qa} : (∃ t, Zr s = .ok [t] /\ t.kind = 1 /\ t.text = s) ↔ (Qv s).1 = 1 := by
 constructor
 · intro ⟨t, h1, h2, h3⟩; have h4 := (Kt h1).1; have h5 := qa6 s 0 t (by rw [h4]; simp); obtain ⟨c, r, e, _, _, hl⟩ := h5; rw [h3] at e; subst e; unfold Qv; simp only [hl, if_true]; exact h2
 · intro h; obtain ⟨c, r, k, v, rfl, hl, hc⟩ := V3 (w := s) (by omega); rw [hc] at h; obtain ⟨h1, h2⟩ := U3 hl; have hk : k = 1 := h; subst hk; have aM := Ct hl; refine ⟨⟨1, c :: r, v, 0⟩, Cu ?_ (by simp) (by simp; omega), rfl, rfl⟩; rw [Gu 0 h1 h2 hl]; have e1 : (c :: r).take (r.length + 1) = c :: r := List.take_length (l := c :: r); have e2 : r.drop (r.length + 1 - 1) = [] := by rw [Nat.add_sub_cancel]; exact List.drop_length
   rw [e1, e2]; rfl
def Ii (ok : Qa -> Bool) (text : Qf -> Qa) (p : Zt) : Qa × Nat :=
 if Zw p = true then
  if (Q7 (Xh p)).all ok = true then (match Zr (text (Xh p)) with | .ok _ => (text (Xh p), 0) | .error _ => ([], 2)) else ([], 7)
 else ([], 1)
def J3 (p : Zt) : Qa × Nat := Ii Qp Yn p
def J0 (p : Zt) : Qa × Nat := Ii So.Qp So.Ik p
theorem qb2 {ok : Qa -> Bool} {text : Qf -> Qa} {p : Zt} (h : (Ii ok text p).2 = 0) : Zw p = true /\ (∀ s ∈ Q7 (Xh p), ok s = true) /\ (∃ ts, Zr (text (Xh p)) = .ok ts) /\ (Ii ok text p).1 = text (Xh p) := by
 unfold Ii at *
 by_cases h1 : Zw p = true
 · rw [if_pos h1] at h ⊢
   by_cases h2 : (Q7 (Xh p)).all ok = true
   · rw [if_pos h2] at h ⊢; cases h3 : Zr (text (Xh p)) with
     | error e => rw [h3] at h; cases h
     | ok ts => exact ⟨h1, fun s hs => List.all_eq_true.1 h2 s hs, ⟨ts, rfl⟩, rfl⟩
   · rw [if_neg h2] at h; cases h
 · rw [if_neg h1] at h; cases h
open Go.RowKit
theorem J4 {w : World} {b : Nat} {o : Obj} (h : b = w.heap.size) : (w.alloc o).heap[b]? = some o := h ▸ heap_alloc_new w o
theorem Z8 {w : World} {b : Nat} {o x : Obj} (h : w.heap[b]? = some x) : (w.alloc o).heap[b]? = some x := (Below.heap_alloc _ _ _ (lHp h)).trans h
def In (fm : Bool) : Nat := if fm then 5 else 4
def tcX (fm : Bool) (op : Int) (name : List UInt8) (cmp n : Int) (s : Value) : List Value :=
 match fm with
 | true => [.int .i64 op, vs name, .int .i64 cmp, .int .i64 n, s]
 | false => [.int .i64 op, vs name, .int .i64 n, s]
mutual
def RdX (fm : Bool) (w : World) (cs : List Value) : TreeI -> Prop
 | .mk op name cmp n ks => ∃ A cap, cs = tcX fm op name cmp n (.slice A ks.length cap) /\ ks.length <= cap /\ (ks = [] \/ ∃ b o, A = some ⟨b, o, none⟩ /\ b < w.heap.size /\ Wb fm w b o ks)
def Wb (fm : Bool) (w : World) (b : Nat) (o : Nat) : List TreeI -> Prop
 | [] => True
 | t :: r => (∃ cs, (∀ j v, cs[j]? = some v -> w.cell? ⟨b, o + j, none⟩ = some v) /\ RdX fm w cs t) /\ Wb fm w b (o + In fm) r
end
mutual
theorem RdX.keep {fm : Bool} {w w' : World} (hb : Below w.heap.size w w') : ∀ {cs : List Value} {t : TreeI}, RdX fm w cs t -> RdX fm w' cs t
 | cs, .mk op name cmp n ks, h => by
   obtain ⟨A, cap, h1, h2, h3⟩ := h; refine ⟨A, cap, h1, h2, ?_⟩; rcases h3 with h3 | ⟨b, o, hA, aA, h3⟩
   · exact .inl h3
   · exact .inr ⟨b, o, hA, Nat.lt_of_lt_of_le aA hb.size, Wb.keep hb aA h3⟩
theorem Wb.keep {fm : Bool} {w w' : World} (hb : Below w.heap.size w w') {b : Nat} (aA : b < w.heap.size) : ∀ {o : Nat} {ks : List TreeI}, Wb fm w b o ks -> Wb fm w' b o ks
 | o, [], h => by rw [Wb]; trivial
 | o, t :: r, h => by
   rw [Wb] at h ⊢; obtain ⟨⟨cs, h1, h2⟩, h3⟩ := h; exact ⟨⟨cs, fun j v hv => (hb.cell (p := ⟨b, o + j, none⟩) aA).trans (h1 j v hv), RdX.keep hb h2⟩, Wb.keep hb aA h3⟩
end
theorem RdX.len {fm : Bool} {w : World} {cs : List Value} {t : TreeI} (h : RdX fm w cs t) : cs.length = In fm := by
 cases t with
 | mk op name cmp n ks =>
   obtain ⟨A, cap, rfl, _⟩ := h; cases fm <;> rfl
theorem Wb.get {fm : Bool} {w : World} {b : Nat} : ∀ {ks : List TreeI} {o k : Nat} {t : TreeI}, Wb fm w b o ks -> ks[k]? = some t -> ∃ cs, (∀ j v, cs[j]? = some v -> w.cell? ⟨b, o + k * In fm + j, none⟩ = some v) /\ RdX fm w cs t
 | [], o, k, t, _, h => by simp at h
 | x :: r, o, 0, t, h, hx => by
   rw [Wb] at h; simp at hx; subst hx; simpa using h.1
 | x :: r, o, k + 1, t, h, hx => by
   rw [Wb] at h; obtain ⟨cs, h1, h2⟩ := Wb.get (k := k) h.2 (by simpa using hx); refine ⟨cs, fun j v hv => ?_, h2⟩; have := h1 j v hv; rwa [show o + In fm + k * In fm = o + (k + 1) * In fm by rw [Nat.add_mul, Nat.one_mul]; omega] at this
def Wo (w : World) (cs : List Value) (p : Zt) : Prop := ∃ cc A cap cb cf ca, cs = [vs p.id, .int .i64 p.rank, .int .i64 p.kind, vs p.name, .int .i64 p.value] ++ (cc ++ (.slice A p.exc.length cap :: (cb ++ (cf ++ ca)))) /\ p.exc.length <= cap /\
 RdX true w cc p.cond /\ RdS w A p.exc /\ RdX false w cb p.beg /\ RdX false w cf p.fin /\ RdX false w ca p.aga
theorem Wo.keep {w w' : World} {cs : List Value} {p : Zt} (h : Wo w cs p) (hb : Below w.heap.size w w') : Wo w' cs p := by
 obtain ⟨cc, A, cap, cb, cf, ca, h1, h2, h3, h4, h5, h6, h7⟩ := h; exact ⟨cc, A, cap, cb, cf, ca, h1, h2, h3.keep hb, h4.below hb, h5.keep hb, h6.keep hb, h7.keep hb⟩
theorem Wo.len {w : World} {cs : List Value} {p : Zt} (h : Wo w cs p) : cs.length = 23 := by
 obtain ⟨cc, A, cap, cb, cf, ca, rfl, h2, h3, h4, h5, h6, h7⟩ := h; have a := h3.len; have b := h5.len; have c := h6.len; have d := h7.len; simp [a, b, c, d, In]
end
section
namespace So
end So
namespace So
theorem Uf {ws : List (List UInt8)} {l : List Tok} (h : Ji ws l = true) : ∃ t v, l = t :: v /\ Yg t = true /\ t.text ∈ ws := by
 cases l with
 | nil => cases h
 | cons t v =>
   simp [Ji] at h; exact ⟨t, v, rfl, h.1, h.2⟩
end So
theorem R2 {l : List UInt8} {ts : List Tok} (h : Zr l = .ok ts) : Qu l = match pr ts with | .error (e, s) => .error (e, (Xd l.length s : Nat)) | .ok (p, _) => .ok p := by
 unfold Qu; rw [h]; rfl
theorem Tg {ts : List Tok} {p : Qf} {r : List Tok} (h : pr ts = .ok (p, r)) : r = [] := by
 rcases D3 ts with ⟨p', h1, h2⟩ | ⟨p', t', v', h1, h2⟩ | ⟨e, s, h1, h2⟩
 · rw [h2] at h; cases h; rfl
 · rw [h2] at h; cases h
 · rw [h2] at h; cases h
theorem R3 {l : List UInt8} {ts : List Tok} {p : Qf} (h : Zr l = .ok ts) (hp : pr ts = .ok (p, [])) : Qu l = .ok p := by
 rw [R2 h, hp]
theorem Gx {l : List UInt8} {ts : List Tok} {e : Nat} {s : List Tok} (h : Zr l = .ok ts) (hp : pr ts = .error (e, s)) : Qu l = .error (e, (Xd l.length s : Nat)) := by
 rw [R2 h, hp]
def stage (w : List UInt8) (P : List Tok -> R Qb) (d : Qb) (K : Qb -> List Tok -> R Qf) (l : List Tok) : R Qf :=
 Qc (Jc [w] l (fun _ r => Zn P r) (fun r => .ok (d, r))) K
def Kp (s : List UInt8) : Bool := s.head?.any Ke && s.all wordB && decide (s.length <= 24) && !Wq s
def TokN (t : Tok) : Prop := t.kind = 1 -> Wq t.text = false -> Kp t.text = true
theorem Y0 {α : Type} {p : α -> Bool} : ∀ {l : List α}, (l.takeWhile p).length = l.length -> ∀ x ∈ l, p x = true
 | [], _, x, hx => by cases hx
 | a :: l, h, x, hx => by
   by_cases ha : p a = true
   · rw [List.takeWhile_cons_of_pos ha] at h; rcases List.mem_cons.1 hx with rfl | hx
     · exact ha
     · exact Y0 (by simpa using h) x hx
   · rw [List.takeWhile_cons_of_neg ha] at h; simp at h
theorem Sr {t : Tok} (h : Bv t) : TokN t := by
 intro hk hq; obtain ⟨c, r, ht, h1, h2, h3⟩ := h; rw [hk] at h3; unfold Qt at h3
 split at h3
 · rename_i hc
   split at h3
   · cases h3
   · rename_i hl; injection h3 with h3; injection h3 with _ h3; injection h3 with h3 _; have hr : (r.takeWhile wordB).length = r.length := (by omega)
     have aD := Y0 hr; unfold Kp; rw [hq, ht]; have aO : wordB c = true := by simp [wordB, hc]
     simp [hc, aO]; exact ⟨fun x hx => aD x hx, by omega⟩
 · exfalso
   split at h3
   · split at h3
     · cases h3
     · injection h3 with h3; injection h3 with h3 _; exact absurd h3 (by decide)
   · split at h3
     · injection h3 with h3; injection h3 with h3 _; exact absurd h3 (by decide)
     · split at h3
       · split at h3 <;> (injection h3 with h3; injection h3 with h3 _; exact absurd h3 (by decide))
       · split at h3
         · split at h3
           · injection h3 with h3; injection h3 with h3 _; exact absurd h3 (by decide)
           · cases h3
         · cases h3
def AllN (l : List Tok) : Prop := ∀ t ∈ l, TokN t
def Qh {α : Type} (V : α -> Prop) (P : List Tok -> R α) : Prop := ∀ l x r, AllN l -> P l = .ok (x, r) -> V x /\ AllN r
theorem Qh.pure {α : Type} {V : α -> Prop} {x : α} (h : V x) : Qh V (fun l => .ok (x, l)) := fun l y r hl hp => by cases hp; exact ⟨h, hl⟩
theorem Qh.fail {α : Type} {V : α -> Prop} : Qh V (fun l => (failR l : R α)) := fun l y r hl hp => by cases hp
theorem Qh.bind {α β : Type} {V : α -> Prop} {U : β -> Prop} {P : List Tok -> R α} {Q : α -> List Tok -> R β} (hP : Qh V P) (hQ : ∀ x, V x -> Qh U (Q x)) : Qh U (fun l => Qc (P l) Q) := by
 intro l y r hl hp; cases hq : P l with
 | error e => simp only [hq, Qc] at hp; cases hp
 | ok v =>
   obtain ⟨x, r1⟩ := v; simp only [hq, Qc] at hp; obtain ⟨h1, h2⟩ := hP l x r1 hl hq; exact hQ x h1 r1 y r h2 hp
theorem Qh.opt {α : Type} {V : α -> Prop} {ws : List (List UInt8)} {yes : Nat -> List Tok -> R α} {no : List Tok -> R α} (hy : ∀ i, i < ws.length -> Qh V (yes i)) (hn : Qh V no) : Qh V (fun l => Jc ws l yes no) := by
 intro l y r hl hp; rcases J9 ws l with ht | ⟨t, r0, i, rfl, ht, -, hi⟩
 · simp only [Jc, ht] at hp; exact hn l y r hl hp
 · simp only [Jc, ht] at hp
   have : i < ws.length := by
    unfold List.idxOf? at hi; rw [List.findIdx?_eq_some_iff_getElem] at hi; exact hi.1
   exact hy i this r0 y r (fun x hx => hl x (by simp [hx])) hp
theorem Qh.must {ws : List (List UInt8)} : Qh (fun i => i < ws.length) (Q3 ws) := Qh.opt (fun i hi => Qh.pure hi) Qh.fail
theorem Qh.name : Qh (fun s => Kp s = true) Jb := by
 intro l x r hl hp; cases l with
 | nil => cases hp
 | cons t r0 =>
   simp only [Jb] at hp
   split at hp
   · rename_i hk; cases hp; simp at hk; exact ⟨hl t (by simp) hk.1 hk.2, fun x hx => hl x (by simp [hx])⟩
   · cases hp
theorem Qh.number (most : Nat) : Qh (fun n => n <= most) (Q6 most) := by
 intro l x r hl hp; cases l with
 | nil => cases hp
 | cons t r0 =>
   simp only [Q6] at hp
   split at hp
   · split at hp
     · cases hp
     · cases hp; exact ⟨by omega, fun x hx => hl x (by simp [hx])⟩
   · cases hp
theorem Qh.severalL {α : Type} {V : α -> Prop} {one : List Tok -> R α} (w : List UInt8) (h : Qh V one) : ∀ n, Qh (fun l => l ≠ [] /\ ∀ x ∈ l, V x) (severalL one w n)
 | 0 => fun l x r _ hp => by cases hp
 | n + 1 => Qh.bind h fun x hx => Qh.opt (fun i _ => Qh.bind (Qh.severalL w h n) fun xs aB => Qh.pure ⟨by simp, fun y hy => by rcases List.mem_cons.1 hy with rfl | hy; exact hx; exact aB.2 y hy⟩) (Qh.pure ⟨by simp, fun y hy => by simp at hy; rw [hy]; exact hx⟩)
theorem Gq {V : Qb -> Prop} {P : List Tok -> R Qb} (h : Qh V P) : Qh (fun t => V t /\ Wn t = 0) (Zn P) := by
 intro l y r hl hp; cases hq : P l with
 | error e => simp only [Zn, hq, Qc] at hp; cases hp
 | ok v =>
   obtain ⟨x, r1⟩ := v; obtain ⟨h1, h2⟩ := h l x r1 hl hq; simp only [Zn, hq, Qc, Js] at hp
   split at hp
   · rename_i h0; cases hp; exact ⟨⟨h1, h0⟩, h2⟩
   · cases hp
def Ur (l : List (List UInt8)) : Prop := l.length <= 20 /\ (∀ s ∈ l, Kp s = true) /\ ∀ (i : Nat) s, l[i]? = some s -> s ∉ l.take i
theorem T7 {l : List (List UInt8)} {s : List UInt8} (h : Ur l) (hs : Kp s = true) (he : Xv l s = 0) : Ur (l ++ [s]) := by
 unfold Xv at he
 split at he
 · cases he
 · rename_i hc
   split at he
   · cases he
   · rename_i aP; obtain ⟨h1, h2, h3⟩ := h; refine ⟨by simp; omega, fun x hx => ?_, fun i x hx => ?_⟩
     · simp at hx; rcases hx with hx | rfl
       · exact h2 x hx
       · exact hs
     · rcases Nat.lt_or_ge i l.length with hi | hi
       · rw [List.getElem?_append_left hi] at hx; rw [List.take_append_of_le_length (Nat.le_of_lt hi)]; exact h3 i x hx
       · rw [List.getElem?_append_right hi] at hx
         have : i - l.length = 0 := by
          rcases Nat.eq_zero_or_pos (i - l.length) with h0 | h0
          · exact h0
          · rw [List.getElem?_eq_none (by simp; omega)] at hx; cases hx
         rw [this] at hx; simp at hx; subst hx; have : i = l.length := (by omega)
         subst this; rw [List.take_left]; intro hm; exact hc (by simpa using hm)
theorem Ri : ∀ n out, Ur out -> Qh Ur (Zf n out)
 | 0, out, _ => fun l x r _ hp => by cases hp
 | n + 1, out, ho => by
   intro l x r hl hp; cases hq : Jb l with
   | error e => simp only [Zf, hq, Qc] at hp; cases hp
   | ok v =>
     obtain ⟨s, r1⟩ := v; obtain ⟨hs, h1⟩ := Qh.name l s r1 hl hq; simp only [Zf, hq, Qc, Js] at hp
     split at hp
     · rename_i h0; have aL := T7 ho hs h0; exact Qh.opt (V := Ur) (ws := [[44]]) (fun _ _ => Ri n (out ++ [s]) aL) (Qh.pure aL) r1 x r h1 hp
     · cases hp
theorem qdr : Qh Ur Kx := Qh.opt (fun _ _ => Ri 22 [] ⟨by simp, by simp, by simp⟩) (Qh.pure ⟨by simp, by simp, by simp⟩)
theorem Ts : Qh (fun k => (k.1 = 1 /\ k.2.2 = 0 \/ k.1 = 2) /\ Kp k.2.1 = true /\ k.2.2 <= 1000000) K3 :=
 Qh.bind Qh.must fun i hi => by
  match i with
  | 0 => exact Qh.bind Qh.name fun s hs => Qh.pure ⟨.inl ⟨rfl, rfl⟩, hs, by show 0 <= _; omega⟩
  | _ + 1 => exact Qh.bind Qh.name fun s hs => Qh.bind Qh.must fun _ _ => Qh.bind (Qh.number _) fun v hv => Qh.pure ⟨.inr rfl, hs, hv⟩
theorem Ll : ∀ (s : List UInt8) (acc k : Nat), (∀ c ∈ s, digitB c = true) -> acc < 10 ^ k -> s.foldl (fun a c => 10 * a + (c.toNat - 48)) acc < 10 ^ (k + s.length)
 | [], acc, k, _, h => by simpa using h
 | c :: s, acc, k, hd, h => by
   have hc : digitB c = true := hd c (by simp); simp only [digitB, Bool.and_eq_true, decide_eq_true_eq] at hc; have h1 : c.toNat <= 57 := by have := UInt8.le_iff_toNat_le.1 hc.2; simpa using this
   have h2 : 10 * acc + (c.toNat - 48) < 10 ^ (k + 1) := by rw [Nat.pow_succ]; omega
   have := Ll s _ (k + 1) (fun x hx => hd x (by simp [hx])) h2; simpa [Nat.add_assoc, Nat.add_comm 1] using this
theorem qht {r : List UInt8} : ∀ x ∈ r.takeWhile digitB, digitB x = true := by
 intro x hx
 induction r with
 | nil => simp at hx
 | cons a r ih =>
   by_cases ha : digitB a = true
   · rw [List.takeWhile_cons_of_pos ha] at hx; rcases List.mem_cons.1 hx with rfl | hx
     · exact ha
     · exact ih hx
   · rw [List.takeWhile_cons_of_neg ha] at hx; simp at hx
theorem Tq {c : UInt8} {r : List UInt8} {k n v : Nat} (h : Qt c r = .ok (k, n, v)) : (k = 1 \/ k = 2 \/ k = 3) /\ n <= 30 /\ v <= 10000000 := by
 unfold Qt at h
 split at h
 · split at h
   · cases h
   · injection h with h; injection h with h1 h; injection h with h2 h3; omega
 · split at h
   · rename_i hd
     split at h
     · cases h
     · rename_i hl; injection h with h; injection h with h1 h; injection h with h2 h3; have hb := Ll (c :: r.takeWhile digitB) 0 0 (fun x hx => by rcases List.mem_cons.1 hx with rfl | hx; exact hd; exact qht x hx) (by decide); have aS : (c :: r.takeWhile digitB).length <= 7 := by simp; omega
       have h7 : 10 ^ (0 + (c :: r.takeWhile digitB).length) <= 10 ^ 7 := Nat.pow_le_pow_right (by decide) (by omega); have : B6 (c :: r.takeWhile digitB) < 10 ^ 7 := Nat.lt_of_lt_of_le hb h7; refine ⟨by omega, by omega, ?_⟩; rw [<- h3]; exact Nat.le_of_lt (Nat.lt_of_lt_of_le this (by decide))
   · split at h
     · injection h with h; injection h with h1 h; injection h with h2 h3; omega
     · split at h
       · split at h <;> (injection h with h; injection h with h1 h; injection h with h2 h3; omega)
       · split at h
         · split at h
           · injection h with h; injection h with h1 h; injection h with h2 h3; omega
           · cases h
         · cases h
theorem qdb {t : Tok} (h : Bv t) (hk : t.kind = 1) : ∀ c ∈ t.text, wordB c = true := by
 obtain ⟨c, r, ht, h1, h2, h3⟩ := h; rw [hk] at h3; unfold Qt at h3
 split at h3
 · rename_i hc
   split at h3
   · cases h3
   · injection h3 with h3; injection h3 with _ h3; injection h3 with h3 _; have aD := Y0 (p := wordB) (l := r) (by omega); rw [ht]; intro x hx; rcases List.mem_cons.1 hx with rfl | hx
     · simp [wordB, hc]
     · exact aD x hx
 · exfalso
   split at h3
   · split at h3
     · cases h3
     · injection h3 with h3; injection h3 with h3 _; exact absurd h3 (by decide)
   · split at h3
     · injection h3 with h3; injection h3 with h3 _; exact absurd h3 (by decide)
     · split at h3
       · split at h3 <;> (injection h3 with h3; injection h3 with h3 _; exact absurd h3 (by decide))
       · split at h3
         · split at h3
           · injection h3 with h3; injection h3 with h3 _; exact absurd h3 (by decide)
           · cases h3
         · cases h3
theorem B0 {c : UInt8} (h : wordB c = true) : c ≠ 32 := by rintro rfl; revert h; decide
theorem qaz {l : List UInt8} {ts : List Tok} (h : Zr l = .ok ts) : ∀ t ∈ ts, (t.kind = 1 \/ t.kind = 2 \/ t.kind = 3) /\ t.text.length <= 30 /\ t.n <= 10000000 /\ t.pos <= 1000000 /\ (t.kind = 1 -> ∀ c ∈ t.text, c ≠ 32) := by
 intro t ht; have hl := Kt h; have hm : t ∈ (sc l 0).1 := by rw [hl.1]; exact ht
 have hk := qa6 l 0 t hm; have hp := (qcp l 0).mem t hm; have hn := fun aN c hc => B0 (qdb hk aN c hc); obtain ⟨c, r, h0, h1, h2, h3⟩ := hk; obtain ⟨a, b, d⟩ := Tq h3; refine ⟨a, ?_, d, by omega, hn⟩; rw [h0]; simp; omega
theorem Tr {c : UInt8} {r : List UInt8} {e : Nat} (h : Qt c r = .error e) : e ≠ 0 := by
 unfold Qt at h
 split at h
 · split at h
   · cases h; decide
   · cases h
 · split at h
   · split at h
     · cases h; decide
     · cases h
   · split at h
     · cases h
     · split at h
       · split at h <;> cases h
       · split at h
         · split at h
           · cases h
           · cases h; decide
         · cases h; decide
theorem qcq (l : List UInt8) (p : Nat) : ∀ e q, (sc l p).2 = some (e, q) -> e ≠ 0 := by
 refine Rv (M := fun l p => ∀ e q, (sc l p).2 = some (e, q) -> e ≠ 0) ?_ ?_ ?_ ?_ ?_ l.length l p (lR _)
 · intro p e q h; simp [Cf] at h
 · intro c r p h ih e q hq; rw [I5 _ _ h] at hq; exact ih e q hq
 · intro r p ih e q hq; rw [Hz] at hq; exact ih e q hq
 · intro c r p e h1 h2 h3 e' q hq; rw [Cg _ h1 h2 h3] at hq; simp at hq; rw [<- hq.1]; exact Tr h3
 · intro c r p j n v h1 h2 h3 ih e q hq; rw [Gu _ h1 h2 h3] at hq; exact ih e q hq
theorem K1 {l : List UInt8} {e : Nat} {at' : Int} (h : Zr l = .error (e, at')) : e ≠ 0 := by
 unfold Zr at h; rw [show Uh l.length l 0 = sc l 0 from rfl] at h
 split at h
 · cases h; decide
 · split at h
   · cases h; decide
   · split at h
     · rename_i e' p' he; cases h; exact qcq l 0 _ _ he
     · cases h
theorem qc6 {p : Zt} (hp : Y2 p) (h : (J3 p).2 = 0) : p = upP (Xh p) /\ Zo (Xh p) /\ Qu (J3 p).1 = .ok (Xh p) /\ ∃ ts, Zr (J3 p).1 = .ok ts := by
 obtain ⟨h1, h2, ⟨ts, h3⟩, h4⟩ := qb2 h; obtain ⟨e, hw⟩ := Vs hp h1; have aG := qbc.2 ⟨hw, h2⟩; refine ⟨e, aG, ?_, ts, ?_⟩
 · rw [show (J3 p).1 = Yn (Xh p) from h4]; exact D9 aG h3
 · rw [show (J3 p).1 = Yn (Xh p) from h4]; exact h3
theorem qcj {p : Zt} (hp : Y2 p) (h : (J0 p).2 = 0) : p = upP (Xh p) /\ So.Zo (Xh p) /\ So.Qu (J0 p).1 = .ok (Xh p) /\ ∃ ts, Zr (J0 p).1 = .ok ts := by
 obtain ⟨h1, h2, ⟨ts, h3⟩, h4⟩ := qb2 h; obtain ⟨e, hw⟩ := Vs hp h1; have aG := L8.2 ⟨hw, h2⟩; refine ⟨e, aG, ?_, ts, ?_⟩
 · rw [show (J0 p).1 = So.Ik (Xh p) from h4]; exact So.Dt aG h3
 · rw [show (J0 p).1 = So.Ik (Xh p) from h4]; exact h3
theorem D0 {p : Zt} (h : Lx p = true) : Zw p = false := by
 unfold Zw; rw [h]; rfl
theorem C8 {p : Zt} (h : Zw p = false) : J3 p = ([], 1) /\ J0 p = ([], 1) := by
 have hn : ¬ Zw p = true := by rw [h]; simp
 exact ⟨by unfold J3 Ii; rw [if_neg hn], by unfold J0 Ii; rw [if_neg hn]⟩
theorem qdt {s : List UInt8} (h : Kp s = true) : (Qv s).1 = 1 := by
 unfold Kp at h; simp only [Bool.and_eq_true, decide_eq_true_eq, List.all_eq_true] at h; obtain ⟨⟨⟨h1, h2⟩, h3⟩, -⟩ := h; cases s with
 | nil => simp at h1
 | cons c r =>
   have hc : Ke c = true := by simpa using h1
   have ht : r.takeWhile wordB = r := Iu fun x hx => h2 x (by simp [hx])
   have hl : Qt c r = .ok (1, r.length + 1, 0) := by
    unfold Qt; rw [if_pos hc, ht, if_neg (by simp at h3; omega)]
   unfold Qv; simp only [hl, if_true]
theorem Gb {s : List UInt8} (h : Kp s = true) : Qp s = true := by
 unfold Qp; rw [qdt h]; unfold Kp at h; simp only [Bool.and_eq_true] at h; rw [h.2]; rfl
theorem Ux : ∀ {l : List Qb}, (∀ t ∈ l, okF t = true) -> Kv l = true
 | [], _ => by rw [Kv]
 | t :: r, h => by rw [Kv, h t (by simp), Ux fun x hx => h x (by simp [hx])]; rfl
theorem H9 : ∀ {l : List Qb}, (∀ t ∈ l, okS t = true) -> Ku l = true
 | [], _ => by rw [Ku]
 | t :: r, h => by rw [Ku, h t (by simp), H9 fun x hx => h x (by simp [hx])]; rfl
theorem qeq {α : Type} {l : List α} (h0 : l ≠ []) (hn : ∀ a, l ≠ [a]) : 2 <= l.length := by
 rcases l with - | ⟨a, - | ⟨b, l⟩⟩
 · exact absurd rfl h0
 · exact absurd rfl (hn a)
 · simp
theorem qga {op : Nat} {l : List Qb} (ho : op = 6 \/ op = 7) (h0 : l ≠ []) (h : ∀ t ∈ l, okF t = true) : okF (Gm op l) = true := by
 unfold Gm
 split
 · rename_i x; exact h x (by simp)
 · rename_i hn; have := qeq h0 hn; rw [okF, Ux h]; rcases ho with rfl | rfl <;> simp [this]
theorem qdk {op : Nat} {l : List Qb} (ho : op = 8 \/ op = 9) (h0 : l ≠ []) (h : ∀ t ∈ l, okS t = true) : okS (Gm op l) = true := by
 unfold Gm
 split
 · rename_i x; exact h x (by simp)
 · rename_i hn; have := qeq h0 hn; rw [okS, H9 h]; rcases ho with rfl | rfl <;> simp [this]
theorem Cd {one : List Tok -> R Qb} (w : List UInt8) {op n : Nat} (ho : op = 6 \/ op = 7) (h : Qh (fun t => okF t = true) one) : Qh (fun t => okF t = true) (severalF one w op n) :=
 Qh.bind (Qh.severalL w h n) fun xs aB => Qh.pure (qga ho aB.1 aB.2)
theorem La {one : List Tok -> R Qb} (w : List UInt8) {op n : Nat} (ho : op = 8 \/ op = 9) (h : Qh (fun t => okS t = true) one) : Qh (fun t => okS t = true) (severalF one w op n) :=
 Qh.bind (Qh.severalL w h n) fun xs aB => Qh.pure (qdk ho aB.1 aB.2)
theorem Se : ∀ n, Qh (fun t => okF t = true) (Jj n)
 | 0 => fun l x r _ hp => by cases hp
 | n + 1 => by
   have ih := Se n; refine Qh.opt (fun i hi => ?_) (Qh.bind Qh.name fun s hs => Qh.opt (fun c hc => Qh.bind (Qh.number _) fun v hv => Qh.pure ?_) (Qh.pure ?_))
   · match i with
     | 0 => exact Qh.bind ih fun f hf => Qh.pure (by rw [okF, Ux (l := [f]) (fun t ht => by rw [List.mem_singleton.1 ht]; exact hf)]; simp)
     | 1 => exact Qh.bind (Cd _ (.inr rfl) (Cd _ (.inl rfl) ih)) fun f hf => Qh.bind Qh.must fun _ _ => Qh.pure hf
     | 2 => exact Qh.pure (by rw [okF, Kv]; simp)
     | _ + 3 => exact Qh.pure (by rw [okF, Kv]; simp)
   · simp at hc; rw [okF, Kv]; simp [Gb hs]; omega
   · rw [okF, Kv]; simp [Gb hs]
theorem qba : ∀ n, Qh (fun t => okS t = true) (X8 n)
 | 0 => fun l x r _ hp => by cases hp
 | n + 1 => by
   have ih := qba n; refine Qh.bind Qh.must (fun i hi => ?_)
   match i with
   | 0 => exact Qh.pure (by rw [okS, Ku]; simp)
   | 1 => exact Qh.pure (by rw [okS, Ku]; simp)
   | 2 => exact Qh.bind (Qh.number _) fun v hv => Qh.pure (by rw [okS, Ku]; simp [hv])
   | 3 => exact Qh.bind (La _ (.inr rfl) (La _ (.inl rfl) ih)) fun f hf => Qh.bind Qh.must fun _ _ => Qh.pure hf
   | k + 4 =>
     exact Qh.bind Qh.name fun s hs => Qh.pure (by
      have hk : k < 4 := by simp at hi; omega
      rw [okS, Ku, if_pos (show 4 + k = 4 \/ 4 + k = 5 \/ 4 + k = 6 \/ 4 + k = 7 by omega), if_neg (show ¬ 4 + k = 3 by omega), if_neg (show ¬ (4 + k = 8 \/ 4 + k = 9) by omega), if_pos (show 1 <= 4 + k /\ 4 + k <= 7 by omega), Gb hs]; simp)
theorem Yp {t : Qb} (h : Wn t = 0) : small t = true := by
 unfold Wn at h
 split at h
 · cases h
 · rename_i hn; unfold small; rw [Bool.and_eq_true, decide_eq_true_eq, decide_eq_true_eq]; omega
theorem Lj (n : Nat) (w : List UInt8) {op : Nat} (ho : op = 1 \/ op = 2) : Qh (fun t => okS t = true /\ Wn t = 0) (Ym n w op) :=
 Qh.opt (fun _ _ => Gq (La _ (.inr rfl) (La _ (.inl rfl) (qba n)))) (Qh.pure (by
  refine ⟨?_, ?_⟩
  · rw [okS, Ku]; rcases ho with rfl | rfl <;> simp
  · simp [Wn, Qb.deep, deeps, Qb.size, sizes]))
theorem qkh (n : Nat) : Qh (fun t => okF t = true /\ Wn t = 0) (ifF n) :=
 Qh.opt (fun _ _ => Gq (Cd _ (.inr rfl) (Cd _ (.inl rfl) (Se n)))) (Qh.pure (by
  refine ⟨?_, ?_⟩
  · rw [okF, Kv]; simp
  · simp [Wn, Qb.deep, deeps, Qb.size, sizes]))
theorem Nx : ∀ {l : List (List UInt8)}, (∀ (i : Nat) s, l[i]? = some s -> s ∉ l.take i) -> l.Nodup := by
 intro l h; unfold List.Nodup; rw [List.pairwise_iff_getElem]; intro i j hi hj aT he; refine h j _ (List.getElem?_eq_getElem hj) ?_; rw [<- he]; exact List.mem_take_iff_getElem.2 ⟨i, by omega, rfl⟩
theorem qg7 (n : Nat) : Qh Zo (K6 n) :=
 Qh.bind Qh.must fun rank hr => Qh.bind Qh.name fun id hi => Qh.bind Qh.must fun _ _ => Qh.bind Ts fun k hk => Qh.bind (qkh n) fun cond hc =>
 Qh.bind qdr fun exc he => Qh.bind (Lj n _ (.inl rfl)) fun beg hb => Qh.bind (Lj n _ (.inr rfl)) fun fin hf => Qh.bind (Lj n _ (.inr rfl)) fun aga ha =>
 Qh.pure ⟨⟨by show 1 <= 1 + rank; omega, by show 1 + rank <= 4; simp at hr; omega⟩, Gb hi, hk.1, Gb hk.2.1, hk.2.2, hc.1, Yp hc.2, fun s hs => Gb (he.2.1 s hs), Nx he.2.2, he.1, hb.1, Yp hb.2, hf.1, Yp hf.2, ha.1, Yp ha.2⟩
theorem Xx {l : List UInt8} {p : Qf} (h : Qu l = .ok p) : Zo p := by
 unfold Qu at h
 split at h
 · cases h
 · rename_i ts aI
   split at h
   · cases h
   · rename_i q r hq; injection h with h; subst h; unfold Q4 at hq; cases hp : Qk Uo ts with
     | error e => simp only [hp, Qc] at hq; cases hq
     | ok v =>
       obtain ⟨x, r1⟩ := v; have hn : AllN ts := fun t ht => Sr (qa6 l 0 t (by rw [(Kt aI).1]; exact ht)); have := ((Qh.bind (qg7 Uo) fun p hp => Qh.bind Qh.must fun _ _ => Qh.pure hp) ts x r1 hn hp).1; simp only [hp, Qc] at hq
       split at hq
       · cases hq; exact this
       · cases hq
mutual
theorem O4 : ∀ {t : Qb}, Ja t = true -> V7 (up t)
 | .mk op name cmp n ks, h => by
   rw [Ja] at h; simp only [Bool.and_eq_true, decide_eq_true_eq] at h; rw [up, V7]; exact ⟨by omega, L6 h.2⟩
theorem L6 : ∀ {ks : List Qb}, Jz ks = true -> W9 (ups ks)
 | [], _ => by rw [ups, W9]; trivial
 | k :: r, h => by
   rw [Jz, Bool.and_eq_true] at h; rw [ups, W9]; exact ⟨O4 h.1, L6 h.2⟩
end
theorem Vz {p : Qf} (h : Y8 p) : Y2 (upP p) := ⟨O4 h.beg, O4 h.fin, O4 h.aga⟩
theorem qhd {ok : Qa -> Bool} {text : Qf -> Qa} {p : Qf} (h : Y8 p) : (Ii ok text (upP p)).2 = 0 \/ (Ii ok text (upP p)).2 = 2 \/ (Ii ok text (upP p)).2 = 7 := by
 unfold Ii; rw [if_pos (Wv h)]
 split
 · split
   · exact Or.inl rfl
   · exact Or.inr (Or.inl rfl)
 · exact Or.inr (Or.inr rfl)
theorem qhe {ok : Qa -> Bool} {text : Qf -> Qa} {p : Qf} (h : Y8 p) (hn : ∀ s ∈ Q7 p, ok s = true) : (Ii ok text (upP p)).2 = 0 \/ (Ii ok text (upP p)).2 = 2 := by
 unfold Ii; rw [if_pos (Wv h), Yh, if_pos (List.all_eq_true.2 hn)]
 split
 · exact Or.inl rfl
 · exact Or.inr rfl
theorem Py {p : Qf} (h : Y8 p) (h0 : (J3 (upP p)).2 = 0) : Qu (J3 (upP p)).1 = .ok p := by
 have := (qc6 (Vz h) h0).2.2.1; rw [Yh] at this; exact this
theorem Px {p : Qf} (h : Y8 p) (h0 : (J0 (upP p)).2 = 0) : So.Qu (J0 (upP p)).1 = .ok p := by
 have := (qcj (Vz h) h0).2.2.1; rw [Yh] at this; exact this
theorem Fa {l : List UInt8} {p : Qf} (h : Qu l = .ok p) :
 ((J3 (upP p)).2 = 0 \/ (J3 (upP p)).2 = 2) /\ ((J3 (upP p)).2 = 0 -> Qu (J3 (upP p)).1 = .ok p) /\ ((J0 (upP p)).2 = 0 \/ (J0 (upP p)).2 = 2 \/ (J0 (upP p)).2 = 7) /\ ((J0 (upP p)).2 = 0 -> So.Qu (J0 (upP p)).1 = .ok p) := by
 obtain ⟨hw, hn⟩ := qbc.1 (Xx h); exact ⟨qhe hw hn, Py hw, qhd hw, Px hw⟩
namespace So
def qei (l : List Tok) : Prop := ∀ t ∈ l, Bv t
theorem qei.tail {l : List Tok} (h : qei l) : qei l.tail := fun t ht => h t (List.mem_of_mem_tail ht)
def G {α : Type} (V : α -> Prop) (P : List Tok -> R α) : Prop := ∀ l x r, qei l -> P l = .ok (x, r) -> V x /\ qei r
theorem G.pure {α : Type} {V : α -> Prop} {x : α} (h : V x) : G V (fun l => .ok (x, l)) := fun l y r hl hp => by cases hp; exact ⟨h, hl⟩
theorem G.fail {α : Type} {V : α -> Prop} : G V (fun l => (failR l : R α)) := fun l y r hl hp => by cases hp
theorem G.bind {α β : Type} {V : α -> Prop} {U : β -> Prop} {P : List Tok -> R α} {Q : α -> List Tok -> R β} (hP : G V P) (hQ : ∀ x, V x -> G U (Q x)) : G U (fun l => Qc (P l) Q) := by
 intro l y r hl hp; cases hq : P l with
 | error e => simp only [hq, Qc] at hp; cases hp
 | ok v =>
   obtain ⟨x, r1⟩ := v; simp only [hq, Qc] at hp; obtain ⟨h1, h2⟩ := hP l x r1 hl hq; exact hQ x h1 r1 y r h2 hp
theorem G.is {α : Type} {V : α -> Prop} {w : List UInt8} {yes : List Tok -> List Tok -> R α} {no : List Tok -> R α} (hy : ∀ a, G V (yes a)) (hn : G V no) : G V (fun l => isF w l (yes l) no) := by
 intro l y r hl hp; simp only [isF] at hp
 split at hp
 · exact hy l l.tail y r hl.tail hp
 · exact hn l y r hl hp
theorem G.guard {α : Type} {V : α -> Prop} {e : Nat} {P : List Tok -> R α} (h : e = 0 -> G V P) : ∀ a, G V (fun l => Js a e (P l)) := by
 intro a l y r hl hp; simp only [Js] at hp
 split at hp
 · rename_i h0; exact h h0 l y r hl hp
 · cases hp
theorem G.must {w : List UInt8} : G (fun _ => True) (Q3 w) := G.is (fun _ => G.pure trivial) G.fail
theorem G.name : G (fun s => Qp s = true) Jb := by
 intro l x r hl hp; cases l with
 | nil => cases hp
 | cons t r0 =>
   simp only [Jb] at hp
   split at hp
   · rename_i hk; cases hp; refine ⟨?_, fun x hx => hl x (by simp [hx])⟩; simp at hk; obtain ⟨c, r', e, _, _, h3⟩ := hl t (by simp); unfold Qp; rw [hk.2]
     have : (Qv t.text).1 = 1 := by
      rw [e]; unfold Qv; simp only [h3, if_true]; exact hk.1
     rw [this]; rfl
   · cases hp
theorem G.number : G (fun _ => True) Q6 := by
 intro l x r hl hp; cases l with
 | nil => cases hp
 | cons t r0 =>
   simp only [Q6] at hp
   split at hp
   · cases hp; exact ⟨trivial, fun x hx => hl x (by simp [hx])⟩
   · cases hp
theorem G.limit (most : Nat) : G (fun n => n <= most) (Xf most) := by
 intro l y r hl hp; unfold Xf at hp; cases hq : Q6 l with
 | error e => simp only [hq, Qc] at hp; cases hp
 | ok v =>
   obtain ⟨x, r1⟩ := v; simp only [hq, Qc] at hp
   split at hp
   · cases hp
   · cases hp; exact ⟨by omega, (G.number l _ _ hl hq).2⟩
theorem G.choose (ws : List (List UInt8)) : G (fun i => i < ws.length) (Zl ws) := by
 intro l x r hl hp; cases l with
 | nil => cases hp
 | cons t r0 =>
   simp only [Zl] at hp
   split at hp
   · split at hp
     · rename_i j hj; cases hp; unfold List.idxOf? at hj; rw [List.findIdx?_eq_some_iff_getElem] at hj; exact ⟨hj.1, fun x hx => hl x (by simp [hx])⟩
     · cases hp
   · cases hp
structure St (ok : Qb -> Bool) (n : Nat) (st : Qm) : Prop where
 all : ∀ x ∈ st, ok x.1 = true /\ x.1.deep = x.2 /\ x.2 <= 20
 size : sizes (st.map (·.1)) <= n
theorem Ue : ∀ (a b : List Qb), sizes (a ++ b) = sizes a + sizes b
 | [], b => by simp [sizes]
 | x :: a, b => by rw [List.cons_append, sizes, sizes, Ue a b]; omega
theorem Mx : ∀ (st : Qm) (d : Nat), (∀ x ∈ st, x.1.deep = x.2) -> st.foldl (fun d x => max d (x.2 + 1)) d = max d (if st = [] then 0 else deeps (st.map (·.1)) + 1)
 | [], d, _ => by simp
 | x :: r, d, h => by
   rw [List.foldl_cons, Mx r _ (fun y hy => h y (by simp [hy])), List.map_cons]; simp only [deeps, h x (by simp)]; cases r with
   | nil => simp [deeps]
   | cons y r => simp <;> omega
theorem qgy {st : Qm} (h : ∀ x ∈ st, x.1.deep = x.2) : Qx st = deeps (st.map (·.1)) + 1 := by
 unfold Qx; rw [Mx st 1 h]; cases st with
 | nil => simp [deeps]
 | cons x r => simp
theorem St.snoc {ok : Qb -> Bool} {n m : Nat} {st : Qm} {t : Qb} {d : Nat} (h : St ok n st) (h1 : ok t = true) (h2 : t.deep = d) (h3 : d <= 20) (h4 : t.size + n <= m) : St ok m (st ++ [(t, d)]) := by
 refine ⟨fun y hy => ?_, ?_⟩
 · simp at hy; rcases hy with hy | rfl
   · exact h.all y hy
   · exact ⟨h1, h2, h3⟩
 · rw [List.map_append, Ue]; have := h.size; simp only [List.map_cons, List.map_nil, sizes]; omega
theorem G.combine {ok : Qb -> Bool} {n op k : Nat} {st : Qm} (hs : St ok n st) (hk : ∀ l : List Qb, (∀ t ∈ l, ok t = true) -> l.length = k -> ok (.mk op [] 0 0 l) = true) (a : List Tok) : G (St ok (n + 1)) (Jo op k a st) := by
 intro r y r' hr hp; unfold Jo at hp
 split at hp
 · cases hp
 split at hp
 · cases hp
 · rename_i h1 h2; cases hp; refine ⟨?_, hr⟩; have hd : ∀ x ∈ st.drop (st.length - k), ok x.1 = true /\ x.1.deep = x.2 /\ x.2 <= 20 := fun x hx => hs.all x (List.mem_of_mem_drop hx)
   have hz : sizes ((st.take (st.length - k)).map (·.1)) + sizes ((st.drop (st.length - k)).map (·.1)) <= n := by
    rw [<- Ue, <- List.map_append, List.take_append_drop]; exact hs.size
   have ht : St ok (sizes ((st.take (st.length - k)).map (·.1))) (st.take (st.length - k)) := ⟨fun x hx => hs.all x (List.mem_of_mem_take hx), lR _⟩
   refine ht.snoc (hk _ (fun t ht => ?_) (by simp; omega)) ?_ (by omega) ?_
   · obtain ⟨x, hx, rfl⟩ := List.mem_map.1 ht; exact (hd x hx).1
   · rw [qgy fun x hx => (hd x hx).2.1, Qb.deep]
   · rw [Qb.size]; omega
theorem G.group {ok : Qb -> Bool} {n op : Nat} {st : Qm} (hs : St ok n st) (hk : ∀ l : List Qb, (∀ t ∈ l, ok t = true) -> 2 <= l.length -> ok (.mk op [] 0 0 l) = true) (a : List Tok) : G (St ok (n + 1)) (Jv op a st) := by
 unfold Jv; refine G.bind G.number fun k _ => ?_; intro l y r hl hp; simp only at hp
 split at hp
 · cases hp
 · exact G.combine hs (fun l h1 h2 => hk l h1 (by omega)) a l y r hl hp
theorem G.push {ok : Qb -> Bool} {n op c v : Nat} {nm : List UInt8} {st : Qm} (hs : St ok n st) (h : ok (.mk op nm c v []) = true) : G (St ok (n + 1)) (Xc st (.mk op nm c v [])) := by
 unfold Xc; exact G.pure (hs.snoc h (by simp [Qb.deep, deeps]) (by omega) (by simp [Qb.size, sizes]; omega))
theorem Ux : ∀ {l : List Qb}, (∀ t ∈ l, okF t = true) -> Kv l = true
 | [], _ => by rw [Kv]
 | t :: r, h => by rw [Kv, h t (by simp), Ux fun x hx => h x (by simp [hx])]; rfl
theorem H9 : ∀ {l : List Qb}, (∀ t ∈ l, okS t = true) -> Ku l = true
 | [], _ => by rw [Ku]
 | t :: r, h => by rw [Ku, h t (by simp), H9 fun x hx => h x (by simp [hx])]; rfl
theorem qi9 {op : Nat} (ho : op = 6 \/ op = 7) (l : List Qb) (h : ∀ t ∈ l, okF t = true) (h2 : 2 <= l.length) : okF (.mk op [] 0 0 l) = true := by
 rw [okF, Ux h]; rcases ho with rfl | rfl <;> simp [h2]
theorem qi8 {op : Nat} (ho : op = 8 \/ op = 9) (l : List Qb) (h : ∀ t ∈ l, okS t = true) (h2 : 2 <= l.length) : okS (.mk op [] 0 0 l) = true := by
 rw [okS, H9 h]; rcases ho with rfl | rfl <;> simp [h2]
theorem G.item {n : Nat} {st : Qm} (hs : St okF n st) : G (St okF (n + 1)) (Zb st) := by
 unfold Zb; refine G.is (fun _ => G.push hs (by rw [okF, Kv]; simp)) ?_; refine G.is (fun _ => G.push hs (by rw [okF, Kv]; simp)) ?_; refine G.is (fun a => G.combine hs (fun l h1 h2 => by rw [okF, Ux h1]; simp [h2]) a) ?_; refine G.is (fun a => G.group hs (qi9 (Or.inl rfl)) a) ?_; refine G.is (fun a => G.group hs (qi9 (Or.inr rfl)) a) ?_; refine G.bind G.name fun s hg => ?_; refine G.is (fun _ => G.push hs (by rw [okF, Kv]; simp [hg])) ?_; unfold Hj; exact G.bind (G.limit _) fun v hv => G.bind (G.choose _) fun c hc => G.push hs (by simp at hc; rw [okF, Kv]; simp [hg, hv]; omega)
theorem G.sitem {n : Nat} {st : Qm} (hs : St okS n st) : G (St okS (n + 1)) (Q9 st) := by
 unfold Q9; refine G.is (fun _ => G.push hs (by rw [okS, Ku]; simp)) ?_; refine G.is (fun _ => G.push hs (by rw [okS, Ku]; simp)) ?_; refine G.is (fun a => G.group hs (qi8 (Or.inl rfl)) a) ?_; refine G.is (fun a => G.group hs (qi8 (Or.inr rfl)) a) ?_; intro l y r hl hp; simp only at hp
 split at hp
 · exact (G.bind (G.limit _) fun v hv => G.bind G.must fun _ _ => G.push hs (by rw [okS, Ku]; simp [hv])) l y r hl hp
 · exact (G.bind G.name fun s hg => G.bind (G.choose _) fun c hc => G.push hs (by
     have hk : c < 4 := by simpa using hc
     rw [okS, Ku, if_pos (show 4 + c = 4 \/ 4 + c = 5 \/ 4 + c = 6 \/ 4 + c = 7 by omega), if_neg (show ¬ 4 + c = 3 by omega), if_neg (show ¬ (4 + c = 8 \/ 4 + c = 9) by omega), if_pos (show 1 <= 4 + c /\ 4 + c <= 7 by omega), hg]; simp)) l y r hl hp
theorem G.loop {ok : Qb -> Bool} {begins : List Tok -> Bool} {item : Qm -> List Tok -> R Qm} (hi : ∀ n st, St ok n st -> G (St ok (n + 1)) (item st)) : ∀ (f n : Nat) (st : Qm), St ok n st -> n + f <= 201 -> G (St ok 200) (Zh begins item f st)
 | 0, n, st, _, _ => fun l x r _ hp => by cases hp
 | f + 1, n, st, hs, hn => by
   intro l y r hl hp; unfold Zh at hp
   split at hp
   · cases hp; exact ⟨⟨hs.all, by have := hs.size; omega⟩, hl⟩
   split at hp
   · split at hp
     · cases hp
     · exact (G.bind (hi n st hs) fun s2 h2 => G.loop hi f (n + 1) s2 h2 (by omega)) l y r hl hp
   · cases hp
theorem G.braces {ok : Qb -> Bool} {begins : List Tok -> Bool} {item : Qm -> List Tok -> R Qm} (hi : ∀ n st, St ok n st -> G (St ok (n + 1)) (item st)) : G (fun t => ok t = true /\ small t = true) (Wl begins item) := by
 unfold Wl; refine G.bind G.must fun _ _ => G.bind (G.loop hi 201 0 [] ⟨by simp, by simp [sizes]⟩ (by omega)) fun st hs => ?_; intro l y r hl hp
 match st, hp, hs with
 | [], hp, _ => cases hp
 | [x], hp, hs =>
   have h1 := hs.all x (by simp); have h2 := hs.size; simp only [List.map_cons, List.map_nil, sizes] at h2; have hg : ok x.1 = true /\ small x.1 = true := ⟨h1.1, Ix (by omega) (by omega)⟩
   exact (G.bind (V := fun _ => True) (U := fun t => ok t = true /\ small t = true) (Q := fun _ r => .ok (x.1, r)) (G.must (w := [125])) fun _ _ => G.pure hg) l y r hl hp
 | _ :: _ :: _, hp, _ => cases hp
theorem G.opt {α : Type} {V : α -> Prop} {w : List UInt8} {d : α} {p : List Tok -> R α} (hp : G V p) (hd : V d) : G V (H8 w d p) := G.is (fun _ => hp) (G.pure hd)
theorem Mo {op : Nat} (h : op = 1 \/ op = 2) : okS (Vq op) = true /\ small (Vq op) = true := by
 rcases h with rfl | rfl <;> exact ⟨by unfold Vq; rw [okS, Ku]; simp, by decide⟩
def Ur (l : List (List UInt8)) : Prop := (∀ s ∈ l, Qp s = true) /\ l.Nodup /\ l.length <= 20
theorem Ur.snoc {l : List (List UInt8)} {s : List UInt8} (h : Ur l) (hs : Qp s = true) (he : Xv l s = 0) : Ur (l ++ [s]) := by
 unfold Xv at he
 split at he
 · cases he
 · rename_i hc
   split at he
   · cases he
   · rename_i aP; obtain ⟨h1, h2, h3⟩ := h; refine ⟨fun x hx => ?_, ?_, by simp; omega⟩
     · simp at hx; rcases hx with hx | rfl
       · exact h1 x hx
       · exact hs
     · rw [List.nodup_append]; refine ⟨h2, by simp, fun a ha b hb => ?_⟩; simp at hb; subst hb; rintro rfl; exact hc (by simpa using ha)
theorem G.names : ∀ (n : Nat) (out : List (List UInt8)), Ur out -> G Ur (So.Ql n out)
 | 0, out, _ => fun l x r _ hp => by cases hp
 | n + 1, out, ho => by
   intro l y r hl hp; unfold So.Ql at hp; exact (G.bind G.name fun s hs => G.guard (fun h0 => G.is (fun _ => G.pure (ho.snoc hs h0)) (G.names n _ (ho.snoc hs h0))) l) l y r hl hp
theorem G.exc : G Ur Kx := G.bind G.must fun _ _ => G.names 22 [] ⟨by simp, by simp, by simp⟩
theorem G.kind : G (fun k => (k.1 = 1 /\ k.2.2 = 0 \/ k.1 = 2) /\ Qp k.2.1 = true /\ k.2.2 <= 1000000) K3 :=
 G.is (fun _ => G.bind G.name fun s hs => G.pure ⟨.inl ⟨rfl, rfl⟩, hs, by show 0 <= _; omega⟩)
  (G.bind G.must fun _ _ => G.bind G.name fun s hs => G.bind G.must fun _ _ => G.bind (G.limit _) fun v hv => G.pure ⟨.inr rfl, hs, hv⟩)
theorem G.prov : G Zo Qk := by
 unfold Qk; refine G.bind (G.opt (V := fun t => okF t = true /\ small t = true) (G.braces fun n st h => G.item h) ⟨by unfold Vq; rw [okF, Kv]; simp, by decide⟩) fun cond hc => ?_; refine G.bind G.kind fun k hk => ?_; refine G.bind (G.opt G.exc ⟨by simp, by simp, by simp⟩) fun exc he => ?_; refine G.bind (G.opt (V := fun t => okS t = true /\ small t = true) (G.braces fun n st h => G.sitem h) (Mo (Or.inl rfl))) fun beg hb => ?_; refine G.bind (G.opt (V := fun t => okS t = true /\ small t = true) (G.braces fun n st h => G.sitem h) (Mo (Or.inr rfl))) fun fin hf => ?_; refine G.bind (G.opt (V := fun t => okS t = true /\ small t = true) (G.braces fun n st h => G.sitem h) (Mo (Or.inr rfl))) fun aga ha => ?_; refine G.bind G.must fun _ _ => G.bind (G.choose _) fun rank hr => G.bind G.name fun id hi => G.bind G.must fun _ _ => G.pure ?_; have aR : rank < 4 := by simpa using hr
 exact ⟨⟨by show 1 <= 1 + rank; omega, by show 1 + rank <= 4; omega⟩, hi, hk.1, hk.2.1, hk.2.2, hc.1, hc.2, he.1, he.2.1, he.2.2, hb.1, hb.2, hf.1, hf.2, ha.1, ha.2⟩
theorem Xx {l : List UInt8} {p : Qf} (h : Qu l = .ok p) : Zo p := by
 unfold Qu at h
 split at h
 · cases h
 · rename_i ts aI
   split at h
   · cases h
   · rename_i q r hq; injection h with h; subst h; unfold pr Q4 at hq; cases hp : Qk ts with
     | error e => simp only [hp, Qc] at hq; cases hq
     | ok v =>
       obtain ⟨x, r1⟩ := v; have hn : qei ts := fun t ht => qa6 l 0 t (by rw [(Kt aI).1]; exact ht); have := (G.prov ts x r1 hn hp).1; simp only [hp, Qc] at hq
       split at hq
       · cases hq; exact this
       · cases hq
theorem Pj {l : List UInt8} {p : Qf} (h : Qu l = .ok p) :
 ((J0 (upP p)).2 = 0 \/ (J0 (upP p)).2 = 2) /\ ((J0 (upP p)).2 = 0 -> Qu (J0 (upP p)).1 = .ok p) /\ ((J3 (upP p)).2 = 0 \/ (J3 (upP p)).2 = 2 \/ (J3 (upP p)).2 = 7) /\ ((J3 (upP p)).2 = 0 -> Proofs.YtbicmjmcdnkjhaaGreatDoor.Qu (J3 (upP p)).1 = .ok p) := by
 obtain ⟨hw, hn⟩ := L8.1 (Xx h); exact ⟨qhe hw hn, Proofs.YtbicmjmcdnkjhaaGreatDoor.Px hw, qhd hw, Proofs.YtbicmjmcdnkjhaaGreatDoor.Py hw⟩
end So
open Go.RowKit
structure J8 (S S' : Nat -> Prop) (w w' : World) : Prop where
 os : w'.os = w.os
 tape : w'.tape = w.tape
 output : w'.output = w.output
 size : w.heap.size <= w'.heap.size
 block : ∀ k, k < w.heap.size -> ¬ S k -> w'.heap[k]? = w.heap[k]?
 sub : ∀ k, S' k -> S k \/ w.heap.size <= k
theorem J8.refl (S : Nat -> Prop) (w : World) : J8 S S w w := ⟨rfl, rfl, rfl, lR _, fun _ _ _ => rfl, fun _ h => Or.inl h⟩
theorem J8.of_below {w w' : World} (S : Nat -> Prop) (h : Below w.heap.size w w') : J8 S S w w' := ⟨h.os, h.tape, h.output, h.size, fun k hk _ => h.block k hk, fun _ h => Or.inl h⟩
theorem J8.trans {S S1 S2 : Nat -> Prop} {a b c : World} (h : J8 S S1 a b) (k : J8 S1 S2 b c) : J8 S S2 a c :=
 ⟨k.os.trans h.os, k.tape.trans h.tape, k.output.trans h.output, Nat.le_trans h.size k.size,
   fun i hi hn => (k.block i (Nat.lt_of_lt_of_le hi h.size) (fun hs => (h.sub i hs).elim hn (fun h' => absurd hi (Nat.not_lt.2 h')))).trans (h.block i hi hn),
   fun i hi => (k.sub i hi).elim (fun h1 => h.sub i h1) (fun h2 => Or.inr (Nat.le_trans h.size h2))⟩
theorem J8.box {S S' : Nat -> Prop} {w w' : World} {b : Nat} {o : Obj} (h : J8 S S' w w') (hb : w.heap[b]? = some o) (hn : ¬ S b) : w'.heap[b]? = some o /\ ¬ S' b :=
 ⟨(h.block b (lHp hb) hn).trans hb, fun hs => (h.sub b hs).elim hn (fun h' => absurd (lHp hb) (Nat.not_lt.2 h'))⟩
theorem J8.alloc {S S' : Nat -> Prop} {w w' : World} (h : J8 S S' w w') (o : Obj) : J8 S S' w (w'.alloc o) := h.trans (J8.of_below _ ((Below.refl _ _).alloc (lR _) _))
structure WrV (W w : World) (p : Nat) (T : TypeId) (S : Nat -> Prop) (v1 v2 : Value) (L N : List (List UInt8)) : Prop where
 is : w.heap[p]? = some (.cells #[v1, v2] T (0, 0))
 l : Xn w 0 v1 L
 n : Xn w 0 v2 N
 ol : ∀ b, v1.ownBlock = some b -> S b /\ b ≠ p
 on : ∀ b, v2.ownBlock = some b -> S b /\ b ≠ p /\ v1.ownBlock ≠ some b
 mem : S p
 lt : ∀ k, S k -> k < w.heap.size
 lo : ∀ k, S k -> W.heap.size <= k
 below : Below W.heap.size W w
def Wr (W w : World) (p : Nat) (T : TypeId) (S : Nat -> Prop) (L N : List (List UInt8)) : Prop := ∃ v1 v2, WrV W w p T S v1 v2 L N
theorem WrV.keep {W w w' : World} {p : Nat} {T : TypeId} {S : Nat -> Prop} {v1 v2 : Value} {L N : List (List UInt8)} (h : WrV W w p T S v1 v2 L N) (hb : Below w.heap.size w w') : WrV W w' p T S v1 v2 L N :=
 ⟨(hb.block p (h.lt p h.mem)).trans h.is, h.l.keep (fun b _ aA => hb.block b aA), h.n.keep (fun b _ aA => hb.block b aA), h.ol, h.on, h.mem, fun k hk => Nat.lt_of_lt_of_le (h.lt k hk) hb.size, h.lo, h.below.trans (hb.mono h.below.size)⟩
theorem Wr.keep {W w w' : World} {p : Nat} {T : TypeId} {S : Nat -> Prop} {L N : List (List UInt8)} (h : Wr W w p T S L N) (hb : Below w.heap.size w w') : Wr W w' p T S L N := by
 obtain ⟨v1, v2, h⟩ := h; exact ⟨v1, v2, h.keep hb⟩
theorem Wr.alloc {W w : World} {p : Nat} {T : TypeId} {S : Nat -> Prop} {L N : List (List UInt8)} (h : Wr W w p T S L N) (o : Obj) : Wr W (w.alloc o) p T S L N := h.keep ((Below.refl _ _).alloc (lR _) _)
theorem Wr.lt {W w : World} {p : Nat} {T : TypeId} {S : Nat -> Prop} {L N : List (List UInt8)} (h : Wr W w p T S L N) : ∀ k, S k -> k < w.heap.size := by
 obtain ⟨v1, v2, h⟩ := h; exact h.lt
theorem Wr.fresh {W w : World} {p : Nat} {T : TypeId} {S : Nat -> Prop} {L N : List (List UInt8)} (h : Wr W w p T S L N) : ¬ S w.heap.size := fun hs => Nat.lt_irrefl _ (h.lt _ hs)
theorem Wr.below {W w : World} {p : Nat} {T : TypeId} {S : Nat -> Prop} {L N : List (List UInt8)} (h : Wr W w p T S L N) : Below W.heap.size W w := by
 obtain ⟨v1, v2, h⟩ := h; exact h.below
theorem Ys {w : World} {v : Value} {l : List (List UInt8)} (h : Xn w 0 v l) {b : Nat} (hb : v.ownBlock = some b) : b < w.heap.size := (h.own b hb).2
theorem O9 (w : World) (p o : Nat) (v : Value) : w.grownBy (w.setCell ⟨p, o, none⟩ v) (some p) := ⟨rfl, rfl, rfl, by simp, fun k hk aK => Below.heap_setCell _ _ _ _ (fun e => aK (by rw [e]))⟩
theorem Xn.kept {w w' : World} {v : Value} {l : List (List UInt8)} {row : Option Nat} (h : Xn w 0 v l) (hg : w.grownBy w' row) (aK : ∀ b, v.ownBlock = some b -> some b ≠ row) : Xn w' 0 v l := by
 refine World.ownsRow.kept h hg ?_; cases hv : v.ownBlock with
 | none => exact Or.inl rfl
 | some b => exact Or.inr (aK b hv)
theorem Ru {w : World} {p o : Nat} {C : Array Value} {T : TypeId} {v : Value} (h : w.heap[p]? = some (.cells C T (0, 0))) : (w.setCell ⟨p, o, none⟩ v).heap[p]? = some (.cells (C.setIfInBounds o v) T (0, 0)) := by
 simp [World.setCell, Array.getElem?_modify, h]
theorem WrV.put1 {W w w' : World} {p : Nat} {T : TypeId} {S : Nat -> Prop} {v1 v2 v : Value} {L L' N : List (List UInt8)} (h : WrV W w p T S v1 v2 L N) (ho : Xn w' 0 v L') (hg : w.grownBy w' v1.ownBlock)
 (hb : v.ownBlock = v1.ownBlock \/ v.ownBlock = some w.heap.size) : WrV W (w'.setCell ⟨p, 0, none⟩ v) p T (fun k => S k \/ v.ownBlock = some k) v v2 L' N /\ J8 S (fun k => S k \/ v.ownBlock = some k) w (w'.setCell ⟨p, 0, none⟩ v) := by
 have aJ := h.lt p h.mem; have hp : w'.heap[p]? = some (.cells #[v1, v2] T (0, 0)) := (hg.block p aJ (fun e => (h.ol p e.symm).2 rfl)).trans h.is
 have aF : ∀ b, v.ownBlock = some b -> b ≠ p := by
  intro b e; rcases hb with e' | e'
  · rw [e'] at e; exact (h.ol b e).2
  · rw [e'] at e; injection e with e; omega
 have aC : (w'.setCell ⟨p, 0, none⟩ v).heap.size = w'.heap.size := by simp
 have aE := hg.size
 have aH : ∀ k, k < w.heap.size -> ¬ S k -> (w'.setCell ⟨p, 0, none⟩ v).heap[k]? = w.heap[k]? := fun k hk hn =>
  (Below.heap_setCell _ _ _ _ (fun (e : k = p) => hn (by rw [e]; exact h.mem))).trans (hg.block k hk (fun e => hn (h.ol k e.symm).1))
 refine ⟨⟨Ru hp, ho.kept (O9 _ _ _ _) (fun b e e' => aF b e (by injection e')), ?_, fun b e => ⟨Or.inr e, aF b e⟩, fun b e => ⟨Or.inl (h.on b e).1, (h.on b e).2.1, fun e' => ?_⟩, Or.inl h.mem, fun k hk => ?_, fun k hk => ?_, ?_⟩, ?_⟩
 · refine (h.n.kept hg (fun b e e' => (h.on b e).2.2 e'.symm)).kept (O9 _ _ _ _) (fun b e e' => (h.on b e).2.1 (by injection e'))
 · rcases hb with e2 | e2
   · rw [e2] at e'; exact (h.on b e).2.2 e'
   · rw [e2] at e'; injection e' with e'; have := Ys h.n e; omega
 · rw [aC]; rcases hk with hk | hk
   · have := h.lt k hk; omega
   · exact Ys ho hk
 · rcases hk with hk | hk
   · exact h.lo k hk
   · rcases hb with e2 | e2
     · rw [e2] at hk; exact h.lo k (h.ol k hk).1
     · rw [e2] at hk; injection hk with hk; have := h.below.size; omega
 · refine h.below.trans ⟨hg.os, hg.tape, hg.output, by rw [aC]; exact aE, fun k hk => aH k (by have := h.below.size; omega) (fun hs => by have := h.lo k hs; omega)⟩
 · refine ⟨hg.os, hg.tape, hg.output, by rw [aC]; exact aE, aH, fun k hk => ?_⟩; rcases hk with hk | hk
   · exact Or.inl hk
   · rcases hb with e2 | e2
     · rw [e2] at hk; exact Or.inl (h.ol k hk).1
     · rw [e2] at hk; injection hk with hk; exact Or.inr (by omega)
theorem WrV.put2 {W w w' : World} {p : Nat} {T : TypeId} {S : Nat -> Prop} {v1 v2 v : Value} {L N N' : List (List UInt8)} (h : WrV W w p T S v1 v2 L N) (ho : Xn w' 0 v N') (hg : w.grownBy w' v2.ownBlock)
 (hb : v.ownBlock = v2.ownBlock \/ v.ownBlock = some w.heap.size) : WrV W (w'.setCell ⟨p, 1, none⟩ v) p T (fun k => S k \/ v.ownBlock = some k) v1 v L N' /\ J8 S (fun k => S k \/ v.ownBlock = some k) w (w'.setCell ⟨p, 1, none⟩ v) := by
 have aJ := h.lt p h.mem; have hp : w'.heap[p]? = some (.cells #[v1, v2] T (0, 0)) := (hg.block p aJ (fun e => (h.on p e.symm).2.1 rfl)).trans h.is
 have aF : ∀ b, v.ownBlock = some b -> b ≠ p := by
  intro b e; rcases hb with e' | e'
  · rw [e'] at e; exact (h.on b e).2.1
  · rw [e'] at e; injection e with e; omega
 have aC : (w'.setCell ⟨p, 1, none⟩ v).heap.size = w'.heap.size := by simp
 have aE := hg.size
 have aH : ∀ k, k < w.heap.size -> ¬ S k -> (w'.setCell ⟨p, 1, none⟩ v).heap[k]? = w.heap[k]? := fun k hk hn =>
  (Below.heap_setCell _ _ _ _ (fun (e : k = p) => hn (by rw [e]; exact h.mem))).trans (hg.block k hk (fun e => hn (h.on k e.symm).1))
 refine ⟨⟨Ru hp, ?_, ho.kept (O9 _ _ _ _) (fun b e e' => aF b e (by injection e')), fun b e => ⟨Or.inl (h.ol b e).1, (h.ol b e).2⟩, fun b e => ⟨Or.inr e, aF b e, fun e' => ?_⟩, Or.inl h.mem, fun k hk => ?_, fun k hk => ?_, ?_⟩, ?_⟩
 · refine (h.l.kept hg (fun b e e' => (h.on b e'.symm).2.2 e)).kept (O9 _ _ _ _) (fun b e e' => (h.ol b e).2 (by injection e'))
 · rcases hb with e2 | e2
   · rw [e2] at e; exact (h.on b e).2.2 e'
   · rw [e2] at e; injection e with e; have := Ys h.l e'; omega
 · rw [aC]; rcases hk with hk | hk
   · have := h.lt k hk; omega
   · exact Ys ho hk
 · rcases hk with hk | hk
   · exact h.lo k hk
   · rcases hb with e2 | e2
     · rw [e2] at hk; exact h.lo k (h.on k hk).1
     · rw [e2] at hk; injection hk with hk; have := h.below.size; omega
 · refine h.below.trans ⟨hg.os, hg.tape, hg.output, by rw [aC]; exact aE, fun k hk => aH k (by have := h.below.size; omega) (fun hs => by have := h.lo k hs; omega)⟩
 · refine ⟨hg.os, hg.tape, hg.output, by rw [aC]; exact aE, aH, fun k hk => ?_⟩; rcases hk with hk | hk
   · exact Or.inl hk
   · rcases hb with e2 | e2
     · rw [e2] at hk; exact Or.inl (h.on k hk).1
     · rw [e2] at hk; injection hk with hk; exact Or.inr (by omega)
def Zy (W w : World) (p : Nat) (T : TypeId) (S : Nat -> Prop) (L N : List (List UInt8)) (e : Ending) (w' : World) : Prop := e = .returned (.tuple #[]) /\ ∃ S', Wr W w' p T S' L N /\ J8 S S' w w'
