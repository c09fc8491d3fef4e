/- What the printer answers, as a plain function; its laws. Conditions and provisions with whatever numbers, in memory. The writer's add and name. Conditions compared node by node: plain words. Plain laws of the lexer and the parser. Plain laws of the lexer and the parser. The printer's laws, of the plain functions. What the first language's parser reads can be written. What the second language's parser reads can be written. -/
import Derived.Test.YtbicmjmcdnkjhaaGreatDoorJMM3
import Derived.Test.YtbicmjmcdnkjhaaGreatDoorJMM1
import Derived.OwnWalk
set_option linter.unusedVariables false
set_option linter.unusedSimpArgs false
namespace Go.Proofs.YtbicmjmcdnkjhaaGreatDoor
mutual
theorem formI_up : ∀ (t : Tree) (l d : Int), shapeF t = true → (t.size : Int) ≤ l → (t.deep : Int) ≤ d → formI (up t) l d = (true, l - t.size)
 | .mk op name cmp n ks, l, d, hs, hl, hd => by
   rw [shapeF] at hs
   simp only [Bool.and_eq_true] at hs
   obtain ⟨⟨⟨h1, h2⟩, h3⟩, h4⟩ := hs
   rw [Tree.size] at hl ⊢
   rw [Tree.deep] at hd
   rw [up, formI]
   have hr : refF op name cmp n = false := by
    unfold refF testI
    by_cases o3 : op = 3
    · rw [if_pos o3] at h1
      simp only [Bool.and_eq_true, decide_eq_true_eq] at h1
      subst o3
      have e1 : (1 : Int) ≤ cmp := by omega
      have e2 : (cmp : Int) ≤ 6 := by omega
      have e3 : (n : Int) ≤ 1000000 := by omega
      simp [e1, e2, e3]
    · rw [if_neg o3] at h1
      simp only [Bool.and_eq_true, decide_eq_true_eq] at h1
      obtain ⟨rfl, rfl⟩ := h1
      have e1 : ¬ (op : Int) = 3 := by omega
      by_cases o4 : op = 4
      · subst o4
        simp
      · have e4 : ¬ (op : Int) = 4 := by omega
        rw [if_neg (by omega)] at h2
        have : name = [] := by simpa using h2
        subst this
        simp [e1, e4]
   rw [if_neg (by simp only [not_or, Bool.not_eq_true]; exact ⟨by omega, by omega, hr⟩), ups_len]
   by_cases o1 : op = 1 ∨ op = 2 ∨ op = 3 ∨ op = 4
   · rw [if_pos o1] at h3
     have : ks = [] := by simpa using h3
     subst this
     rw [if_pos (by omega), sizes]
     simp
   · rw [if_neg o1] at h3
     rw [if_neg (by omega), if_pos, formsI_up ks (l - 1) (d - 1) h4 (by omega) (by omega)]
     · apply Prod.ext
       · rfl
       · show l - 1 - _ = _
         omega
     · split at h3
       · have : ks.length = 1 := by simpa using h3
         omega
       · split at h3
         · have : 2 ≤ ks.length := by simpa using h3
           omega
         · cases h3
theorem formsI_up : ∀ (ks : List Tree) (l d : Int), shapeFs ks = true → (sizes ks : Int) ≤ l → ((deeps ks : Nat) : Int) ≤ d → formsI (ups ks) l d = (true, l - sizes ks)
 | [], l, d, _, _, _ => by rw [ups, formsI, sizes]; simp
 | k :: r, l, d, hs, hl, hd => by
   rw [shapeFs, Bool.and_eq_true] at hs
   rw [sizes] at hl ⊢
   rw [deeps] at hd
   rw [ups, formsI, formI_up k l d hs.1 (by omega) (by omega)]
   simp only [if_true]
   rw [formsI_up r _ d hs.2 (by omega) (by omega)]
   apply Prod.ext
   · rfl
   · show l - k.size - sizes r = _
     omega
end
mutual
theorem startI_up : ∀ (t : Tree) (l d : Int), shapeS t = true → (t.size : Int) ≤ l → (t.deep : Int) ≤ d → startI (up t) l d = (true, l - t.size)
 | .mk op name cmp n ks, l, d, hs, hl, hd => by
   rw [shapeS] at hs
   simp only [Bool.and_eq_true, decide_eq_true_eq] at hs
   obtain ⟨⟨⟨⟨hc, h1⟩, h2⟩, h3⟩, h4⟩ := hs
   rw [Tree.size] at hl ⊢
   rw [Tree.deep] at hd
   rw [up, startI]
   have hn : op = 3 ∧ n ≤ 1000000 ∨ op ≠ 3 ∧ n = 0 := by
    split at h1
    · exact Or.inl ⟨by assumption, by simpa using h1⟩
    · exact Or.inr ⟨by assumption, by simpa using h1⟩
   have hm : 4 ≤ op ∧ op ≤ 7 ∨ name = [] := by
    split at h2
    · exact Or.inl (by omega)
    · exact Or.inr (by simpa using h2)
   have hr : refS op name n = false := by
    unfold refS
    have e1 : ¬ (n : Int) < 0 := by omega
    have e2 : ¬ (1000000 : Int) < n := by omega
    have e3 : (op != (3 : Int) && (n : Int) != 0) = false := by
     rcases hn with ⟨a, b⟩ | ⟨a, b⟩
     · subst a; rfl
     · subst b; simp
    have e4 : (name != [] && !(decide ((4 : Int) ≤ op) && decide ((op : Int) ≤ 7))) = false := by
     rcases hm with ⟨a, b⟩ | a
     · have a1 : (4 : Int) ≤ op := by omega
       have a2 : (op : Int) ≤ 7 := by omega
       simp [a1, a2]
     · subst a; rfl
    have e3' : (((op : Nat) : Int) != 3 && ((n : Nat) : Int) != 0) = false := e3
    rw [e4, e3', decide_eq_false e1, decide_eq_false e2]
    rfl
   rw [if_neg (by simp only [not_or, Bool.not_eq_true]; exact ⟨by omega, by omega, hr⟩), ups_len]
   by_cases o8 : op = 8 ∨ op = 9
   · rw [if_pos o8] at h3
     have : 2 ≤ ks.length := by simpa using h3
     rw [if_pos (by omega), if_pos this, startsI_up ks (l - 1) (d - 1) h4 (by omega) (by omega)]
     apply Prod.ext
     · rfl
     · show l - 1 - _ = _
       omega
   · rw [if_neg o8] at h3
     split at h3
     · have : ks = [] := by simpa using h3
       subst this
       rw [if_neg (by omega), if_pos (by omega), sizes]
       simp
     · cases h3
theorem startsI_up : ∀ (ks : List Tree) (l d : Int), shapeSs ks = true → (sizes ks : Int) ≤ l → ((deeps ks : Nat) : Int) ≤ d → startsI (ups ks) l d = (true, l - sizes ks)
 | [], l, d, _, _, _ => by rw [ups, startsI, sizes]; simp
 | k :: r, l, d, hs, hl, hd => by
   rw [shapeSs, Bool.and_eq_true] at hs
   rw [sizes] at hl ⊢
   rw [deeps] at hd
   rw [ups, startsI, startI_up k l d hs.1 (by omega) (by omega)]
   simp only [if_true]
   rw [startsI_up r _ d hs.2 (by omega) (by omega)]
   apply Prod.ext
   · rfl
   · show l - k.size - sizes r = _
     omega
end
/- provisions -/
structure ProvI where
 id : List UInt8
 rank : Int
 kind : Int
 name : List UInt8
 value : Int
 cond : TreeI
 exc : List (List UInt8)
 beg : TreeI
 fin : TreeI
 aga : TreeI
def upP (p : Prov) : ProvI := ⟨p.id, p.rank, p.kind, p.name, p.value, up p.cond, p.exc, up p.beg, up p.fin, up p.aga⟩
def downP (p : ProvI) : Prov := ⟨p.id, p.rank.toNat, p.kind.toNat, p.name, p.value.toNat, down p.cond, p.exc, down p.beg, down p.fin, down p.aga⟩
theorem down_upP (p : Prov) : downP (upP p) = p := by
 cases p
 simp only [downP, upP, down_up, Int.toNat_natCast]
def refP (p : ProvI) : Bool := decide (p.rank < 1) || decide (4 < p.rank) || (p.kind != 1 && p.kind != 2) || decide (p.value < 0) || decide (1000000 < p.value) || (p.kind == 1 && p.value != 0) || decide (20 < p.exc.length)
def writtenI (p : ProvI) : Bool := !refP p && decide p.exc.Nodup && (formI p.cond 200 20).1 && (startI p.beg 200 20).1 && (startI p.fin 200 20).1 && (startI p.aga 200 20).1
/- what can be written, but for the names -/
structure WrOk (p : Prov) : Prop where
 rank : 1 ≤ p.rank ∧ p.rank ≤ 4
 kind : p.kind = 1 ∧ p.value = 0 ∨ p.kind = 2
 value : p.value ≤ 1000000
 cond : shapeF p.cond = true
 condS : small p.cond = true
 excN : p.exc.Nodup
 excL : p.exc.length ≤ 20
 beg : shapeS p.beg = true
 begS : small p.beg = true
 fin : shapeS p.fin = true
 finS : small p.fin = true
 aga : shapeS p.aga = true
 agaS : small p.aga = true
def namesP (p : Prov) : List Bytes := p.id :: p.name :: (p.exc ++ (namesF p.cond ++ (namesS p.beg ++ (namesS p.fin ++ namesS p.aga))))
theorem ok_wr {p : Prov} : WriteOk p ↔ WrOk p ∧ ∀ s ∈ namesP p, nameOk s = true := by
 constructor
 · intro h
   have h1 := h.cond
   have h2 := h.beg
   have h3 := h.fin
   have h4 := h.aga
   rw [okF_eq, Bool.and_eq_true, List.all_eq_true] at h1
   rw [okS_eq, Bool.and_eq_true, List.all_eq_true] at h2 h3 h4
   refine ⟨⟨h.rank, h.kind, h.value, h1.1, h.condS, h.excN, h.excL, h2.1, h.begS, h3.1, h.finS, h4.1, h.agaS⟩, fun s hs => ?_⟩
   unfold namesP at hs
   simp only [List.mem_cons, List.mem_append] at hs
   rcases hs with rfl | rfl | hs | hs | hs | hs | hs
   · exact h.id
   · exact h.name
   · exact h.exc s hs
   · exact h1.2 s hs
   · exact h2.2 s hs
   · exact h3.2 s hs
   · exact h4.2 s hs
 · intro ⟨h, hn⟩
   unfold namesP at hn
   simp only [List.mem_cons, List.mem_append] at hn
   refine ⟨h.rank, hn _ (Or.inl rfl), h.kind, hn _ (Or.inr (Or.inl rfl)), h.value, ?_, h.condS, fun s hs => hn s (Or.inr (Or.inr (Or.inl hs))), h.excN, h.excL, ?_, h.begS, ?_, h.finS, ?_, h.agaS⟩
   · rw [okF_eq, Bool.and_eq_true, List.all_eq_true]; exact ⟨h.cond, fun s hs => hn s (by simp [hs])⟩
   · rw [okS_eq, Bool.and_eq_true, List.all_eq_true]; exact ⟨h.beg, fun s hs => hn s (by simp [hs])⟩
   · rw [okS_eq, Bool.and_eq_true, List.all_eq_true]; exact ⟨h.fin, fun s hs => hn s (by simp [hs])⟩
   · rw [okS_eq, Bool.and_eq_true, List.all_eq_true]; exact ⟨h.aga, fun s hs => hn s (by simp [hs])⟩
theorem ok_wrS {p : Prov} : So.WriteOk p ↔ WrOk p ∧ ∀ s ∈ namesP p, So.nameOk s = true := by
 constructor
 · intro h
   have h1 := h.cond
   have h2 := h.beg
   have h3 := h.fin
   have h4 := h.aga
   rw [okF_eqS, Bool.and_eq_true, List.all_eq_true] at h1
   rw [okS_eqS, Bool.and_eq_true, List.all_eq_true] at h2 h3 h4
   refine ⟨⟨h.rank, h.kind, h.value, h1.1, h.condS, h.excN, h.excL, h2.1, h.begS, h3.1, h.finS, h4.1, h.agaS⟩, fun s hs => ?_⟩
   unfold namesP at hs
   simp only [List.mem_cons, List.mem_append] at hs
   rcases hs with rfl | rfl | hs | hs | hs | hs | hs
   · exact h.id
   · exact h.name
   · exact h.exc s hs
   · exact h1.2 s hs
   · exact h2.2 s hs
   · exact h3.2 s hs
   · exact h4.2 s hs
 · intro ⟨h, hn⟩
   unfold namesP at hn
   simp only [List.mem_cons, List.mem_append] at hn
   refine ⟨h.rank, hn _ (Or.inl rfl), h.kind, hn _ (Or.inr (Or.inl rfl)), h.value, ?_, h.condS, fun s hs => hn s (Or.inr (Or.inr (Or.inl hs))), h.excN, h.excL, ?_, h.begS, ?_, h.finS, ?_, h.agaS⟩
   · rw [okF_eqS, Bool.and_eq_true, List.all_eq_true]; exact ⟨h.cond, fun s hs => hn s (by simp [hs])⟩
   · rw [okS_eqS, Bool.and_eq_true, List.all_eq_true]; exact ⟨h.beg, fun s hs => hn s (by simp [hs])⟩
   · rw [okS_eqS, Bool.and_eq_true, List.all_eq_true]; exact ⟨h.fin, fun s hs => hn s (by simp [hs])⟩
   · rw [okS_eqS, Bool.and_eq_true, List.all_eq_true]; exact ⟨h.aga, fun s hs => hn s (by simp [hs])⟩
def plainP (p : ProvI) : Prop := plainS p.beg ∧ plainS p.fin ∧ plainS p.aga
theorem small_mk {t : Tree} (h1 : (t.size : Int) ≤ 200) (h2 : (t.deep : Int) ≤ 20) : small t = true := by
 unfold small
 rw [Bool.and_eq_true, decide_eq_true_eq, decide_eq_true_eq]
 omega
theorem of_small {t : Tree} (h : small t = true) : (t.size : Int) ≤ 200 ∧ (t.deep : Int) ≤ 20 := by
 unfold small at h
 rw [Bool.and_eq_true, decide_eq_true_eq, decide_eq_true_eq] at h
 omega
theorem refP_no {p : ProvI} (h : refP p = false) : 1 ≤ p.rank ∧ p.rank ≤ 4 ∧ (p.kind = 1 ∧ p.value = 0 ∨ p.kind = 2) ∧ 0 ≤ p.value ∧ p.value ≤ 1000000 ∧ p.exc.length ≤ 20 := by
 unfold refP at h
 simp only [Bool.or_eq_false_iff, decide_eq_false_iff_not, Bool.and_eq_false_iff, bne_eq_false_iff_eq, beq_eq_false_iff_ne] at h
 obtain ⟨⟨⟨⟨⟨⟨h1, h2⟩, h3⟩, h4⟩, h5⟩, h6⟩, h7⟩ := h
 refine ⟨by omega, by omega, ?_, by omega, by omega, by omega⟩
 rcases h3 with h3 | h3
 · rcases h6 with h6 | h6
   · exact absurd h3 h6
   · exact Or.inl ⟨h3, h6⟩
 · exact Or.inr h3
theorem written_down {p : ProvI} (hp : plainP p) (h : writtenI p = true) : p = upP (downP p) ∧ WrOk (downP p) := by
 unfold writtenI at h
 simp only [Bool.and_eq_true, Bool.not_eq_true', decide_eq_true_eq] at h
 obtain ⟨⟨⟨⟨⟨h1, h2⟩, h3⟩, h4⟩, h5⟩, h6⟩ := h
 obtain ⟨r1, r2, r3, r4, r5, r6⟩ := refP_no h1
 obtain ⟨hb, hf, ha⟩ := hp
 obtain ⟨id, rank, kind, name, value, cond, exc, beg, fin, aga⟩ := p
 simp only at *
 obtain ⟨c', c1, c2, c3, c4, -⟩ := formI_true cond 200 20 (by omega) h3
 obtain ⟨b', b1, b2, b3, b4, -⟩ := startI_true beg 200 20 (by omega) hb h4
 obtain ⟨f', f1, f2, f3, f4, -⟩ := startI_true fin 200 20 (by omega) hf h5
 obtain ⟨a', a1, a2, a3, a4, -⟩ := startI_true aga 200 20 (by omega) ha h6
 subst c1 b1 f1 a1
 have hk : 0 ≤ kind := by omega
 constructor
 · simp only [downP, upP, down_up, ProvI.mk.injEq, true_and, and_true]
   refine ⟨by omega, by omega, by omega⟩
 · refine ⟨?_, ?_, ?_, ?_, ?_, h2, r6, ?_, ?_, ?_, ?_, ?_, ?_⟩ <;> simp only [downP, down_up]
   · omega
   · omega
   · omega
   · exact c2
   · exact small_mk c3 c4
   · exact b2
   · exact small_mk b3 b4
   · exact f2
   · exact small_mk f3 f4
   · exact a2
   · exact small_mk a3 a4
theorem written_up {p : Prov} (h : WrOk p) : writtenI (upP p) = true := by
 unfold writtenI
 have e1 := formI_up p.cond 200 20 h.cond (of_small h.condS).1 (of_small h.condS).2
 have e2 := startI_up p.beg 200 20 h.beg (of_small h.begS).1 (of_small h.begS).2
 have e3 := startI_up p.fin 200 20 h.fin (of_small h.finS).1 (of_small h.finS).2
 have e4 := startI_up p.aga 200 20 h.aga (of_small h.agaS).1 (of_small h.agaS).2
 have e5 : refP (upP p) = false := by
  have := h.rank
  have := h.kind
  have := h.value
  have := h.excL
  rw [show refP (upP p) = (decide ((p.rank : Int) < 1) || decide (4 < (p.rank : Int)) || (((p.kind : Nat) : Int) != 1 && ((p.kind : Nat) : Int) != 2) || decide (((p.value : Nat) : Int) < 0) || decide (1000000 < ((p.value : Nat) : Int)) || (((p.kind : Nat) : Int) == 1 && ((p.value : Nat) : Int) != 0) || decide (20 < p.exc.length)) from rfl]
  simp only [Bool.or_eq_false_iff, decide_eq_false_iff_not, Bool.and_eq_false_iff, bne_eq_false_iff_eq, beq_eq_false_iff_ne]
  refine ⟨⟨⟨⟨⟨⟨by omega, by omega⟩, ?_⟩, by omega⟩, by omega⟩, ?_⟩, by omega⟩
  · rcases h.kind with ⟨k, _⟩ | k
    · exact Or.inl (by omega)
    · exact Or.inr (by omega)
  · rcases h.kind with ⟨k, v⟩ | k
    · exact Or.inr (by omega)
    · exact Or.inl (by omega)
 have e6 : (upP p).exc.Nodup := h.excN
 rw [e5, decide_eq_true e6]
 show (!false && true && (formI (up p.cond) 200 20).1 && (startI (up p.beg) 200 20).1 && (startI (up p.fin) 200 20).1 && (startI (up p.aga) 200 20).1) = true
 rw [e1, e2, e3, e4]
 rfl
theorem lexOne_short {c : UInt8} {r : Bytes} {n v : Nat} (h : lexOne c r = .ok (1, n, v)) : n ≤ 24 := by
 unfold lexOne at h
 split at h
 · split at h
   · cases h
   · simp only [Except.ok.injEq, Prod.mk.injEq] at h
     omega
 · repeat' split at h
   all_goals first | (cases h; done) | (simp only [Except.ok.injEq, Prod.mk.injEq] at h; omega)
/- a name is one token -/
theorem one_name {s : Bytes} : (∃ t, lexF s = .ok [t] ∧ t.kind = 1 ∧ t.text = s) ↔ (coreW s).1 = 1 := by
 constructor
 · intro ⟨t, h1, h2, h3⟩
   have h4 := (lexF_ok h1).1
   have h5 := sc_ok s 0 t (by rw [h4]; simp)
   obtain ⟨c, r, e, _, _, hl⟩ := h5
   rw [h3] at e
   subst e
   unfold coreW
   simp only [hl, if_true]
   exact h2
 · intro h
   obtain ⟨c, r, k, v, rfl, hl, hc⟩ := coreW_lex (w := s) (by omega)
   rw [hc] at h
   obtain ⟨h1, h2⟩ := lexOne_start hl
   have hk : k = 1 := h
   subst hk
   have hlen := lexOne_short hl
   refine ⟨⟨1, c :: r, v, 0⟩, lexF_mk ?_ (by simp) (by simp; omega), rfl, rfl⟩
   rw [sc_tok 0 h1 h2 hl]
   have e1 : (c :: r).take (r.length + 1) = c :: r := List.take_length (l := c :: r)
   have e2 : r.drop (r.length + 1 - 1) = [] := by rw [Nat.add_sub_cancel]; exact List.drop_length
   rw [e1, e2]
   rfl
/- what the printer answers -/
def ansP (ok : Bytes → Bool) (text : Prov → Bytes) (p : ProvI) : Bytes × Nat :=
 if writtenI p = true then
  if (namesP (downP p)).all ok = true then (match lexF (text (downP p)) with | .ok _ => (text (downP p), 0) | .error _ => ([], 2)) else ([], 7)
 else ([], 1)
def northA (p : ProvI) : Bytes × Nat := ansP nameOk textN p
def southA (p : ProvI) : Bytes × Nat := ansP So.nameOk So.textS p
open Go.RowKit
theorem new_at {w : World} {b : Nat} {o : Obj} (h : b = w.heap.size) : (w.alloc o).heap[b]? = some o := h ▸ heap_alloc_new w o
theorem kept_at {w : World} {b : Nat} {o x : Obj} (h : w.heap[b]? = some x) : (w.alloc o).heap[b]? = some x := (Below.heap_alloc _ _ _ (lHp h)).trans h
def tszX (fm : Bool) : Nat := if fm then 5 else 4
def tcX (fm : Bool) (op : Int) (name : List UInt8) (cmp n : Int) (s : Value) : List Value :=
 match fm with
 | true => [.int .i64 op, vs name, .int .i64 cmp, .int .i64 n, s]
 | false => [.int .i64 op, vs name, .int .i64 n, s]
mutual
def RdX (fm : Bool) (w : World) (cs : List Value) : TreeI → Prop
 | .mk op name cmp n ks => ∃ A cap, cs = tcX fm op name cmp n (.slice A ks.length cap) ∧ ks.length ≤ cap ∧ (ks = [] ∨ ∃ b o, A = some ⟨b, o, none⟩ ∧ b < w.heap.size ∧ RdXs fm w b o ks)
def RdXs (fm : Bool) (w : World) (b : Nat) (o : Nat) : List TreeI → Prop
 | [] => True
 | t :: r => (∃ cs, (∀ j v, cs[j]? = some v → w.cell? ⟨b, o + j, none⟩ = some v) ∧ RdX fm w cs t) ∧ RdXs fm w b (o + tszX fm) r
end
mutual
theorem RdX.keep {fm : Bool} {w w' : World} (hb : Below w.heap.size w w') : ∀ {cs : List Value} {t : TreeI}, RdX fm w cs t → RdX fm w' cs t
 | cs, .mk op name cmp n ks, h => by
   obtain ⟨A, cap, h1, h2, h3⟩ := h
   refine ⟨A, cap, h1, h2, ?_⟩
   rcases h3 with h3 | ⟨b, o, hA, hlt, h3⟩
   · exact .inl h3
   · exact .inr ⟨b, o, hA, Nat.lt_of_lt_of_le hlt hb.size, RdXs.keep hb hlt h3⟩
theorem RdXs.keep {fm : Bool} {w w' : World} (hb : Below w.heap.size w w') {b : Nat} (hlt : b < w.heap.size) : ∀ {o : Nat} {ks : List TreeI}, RdXs fm w b o ks → RdXs fm w' b o ks
 | o, [], h => by rw [RdXs]; trivial
 | o, t :: r, h => by
   rw [RdXs] at h ⊢
   obtain ⟨⟨cs, h1, h2⟩, h3⟩ := h
   exact ⟨⟨cs, fun j v hv => (hb.cell (p := ⟨b, o + j, none⟩) hlt).trans (h1 j v hv), RdX.keep hb h2⟩, RdXs.keep hb hlt h3⟩
end
theorem RdX.len {fm : Bool} {w : World} {cs : List Value} {t : TreeI} (h : RdX fm w cs t) : cs.length = tszX fm := by
 cases t with
 | mk op name cmp n ks =>
   obtain ⟨A, cap, rfl, _⟩ := h
   cases fm <;> rfl
theorem RdXs.get {fm : Bool} {w : World} {b : Nat} : ∀ {ks : List TreeI} {o k : Nat} {t : TreeI}, RdXs fm w b o ks → ks[k]? = some t → ∃ cs, (∀ j v, cs[j]? = some v → w.cell? ⟨b, o + k * tszX fm + j, none⟩ = some v) ∧ RdX fm w cs t
 | [], o, k, t, _, h => by simp at h
 | x :: r, o, 0, t, h, hx => by
   rw [RdXs] at h
   simp at hx
   subst hx
   simpa using h.1
 | x :: r, o, k + 1, t, h, hx => by
   rw [RdXs] at h
   obtain ⟨cs, h1, h2⟩ := RdXs.get (k := k) h.2 (by simpa using hx)
   refine ⟨cs, fun j v hv => ?_, h2⟩
   have := h1 j v hv
   rwa [show o + tszX fm + k * tszX fm = o + (k + 1) * tszX fm by rw [Nat.add_mul, Nat.one_mul]; omega] at this
theorem RdXs.mk {fm : Bool} {w : World} {b : Nat} : ∀ {ks : List TreeI} {o : Nat}, (∀ (k : Nat) (t : TreeI), ks[k]? = some t → ∃ cs, (∀ j v, cs[j]? = some v → w.cell? ⟨b, o + k * tszX fm + j, none⟩ = some v) ∧ RdX fm w cs t) → RdXs fm w b o ks
 | [], o, _ => by rw [RdXs]; trivial
 | x :: r, o, h => by
   rw [RdXs]
   refine ⟨by simpa using h 0 x rfl, RdXs.mk fun k t ht => ?_⟩
   obtain ⟨cs, h1, h2⟩ := h (k + 1) t (by simpa using ht)
   refine ⟨cs, fun j v hv => ?_, h2⟩
   have := h1 j v hv
   rwa [show o + (k + 1) * tszX fm = o + tszX fm + k * tszX fm by rw [Nat.add_mul, Nat.one_mul]; omega] at this
/- a provision -/
def RdPX (w : World) (cs : List Value) (p : ProvI) : Prop := ∃ cc A cap cb cf ca, cs = [vs p.id, .int .i64 p.rank, .int .i64 p.kind, vs p.name, .int .i64 p.value] ++ (cc ++ (.slice A p.exc.length cap :: (cb ++ (cf ++ ca)))) ∧ p.exc.length ≤ cap ∧
 RdX true w cc p.cond ∧ RdS w A p.exc ∧ RdX false w cb p.beg ∧ RdX false w cf p.fin ∧ RdX false w ca p.aga
theorem RdPX.keep {w w' : World} {cs : List Value} {p : ProvI} (h : RdPX w cs p) (hb : Below w.heap.size w w') : RdPX w' cs p := by
 obtain ⟨cc, A, cap, cb, cf, ca, h1, h2, h3, h4, h5, h6, h7⟩ := h
 exact ⟨cc, A, cap, cb, cf, ca, h1, h2, h3.keep hb, h4.below hb, h5.keep hb, h6.keep hb, h7.keep hb⟩
theorem RdPX.len {w : World} {cs : List Value} {p : ProvI} (h : RdPX w cs p) : cs.length = 23 := by
 obtain ⟨cc, A, cap, cb, cf, ca, rfl, h2, h3, h4, h5, h6, h7⟩ := h
 have a := h3.len
 have b := h5.len
 have c := h6.len
 have d := h7.len
 simp [a, b, c, d, tszX]
end Go.Proofs.YtbicmjmcdnkjhaaGreatDoor
set_option maxRecDepth 20000
set_option maxHeartbeats 1000000
namespace Go.Proofs.YtbicmjmcdnkjhaaGreatDoor
open Go.RowKit
theorem wpList_append_words {ops : Array Oper} {rest : List Oper} {o : Oper} {a : Act} {w : World} {Q : Exit → Act → World → Prop} (hgd : o.guard = none) (s x : Operand) (hop : o.op = Op.call { callee := Callee.builtin Builtin.append, args := #[s, x], argTypes := #[25, 25] })
 (v : Value) (l X : List (List UInt8)) (g0 c : Nat) (hs : a.eval s = v) (hx : a.eval x = .slice (some ⟨g0, 0, none⟩) X.length c) (hown : OwnS w 0 v l) (hc : ∀ (j : Nat) x, X[j]? = some x → w.cell? ⟨g0, j, none⟩ = some (vs x))
 (hlen : l.length + X.length ≤ 1000000) (h : ∀ v' w', OwnS w' 0 v' (l ++ X) → w.grownBy w' v.ownBlock → (v'.ownBlock = v.ownBlock ∨ v'.ownBlock = some w.heap.size) → wpList Tryz.prog ops Q rest (a.put o.dst v') w') : wpList Tryz.prog ops Q (o :: rest) a w := by
 obtain ⟨i0, hi0, hz0, hz1, hz2⟩ := info_parts info_str
 refine wpList_append_own_at _ hgd s x _ hop 0 9 i0 (.string ⟨#[]⟩) 1 16 Tryz.underlying25 hi0 hz0 hz1 hz2 rfl (by decide) v l.length (l.map vs) hs hown ⟨g0, 0, none⟩ X.length c (X.map vs) hx (by simp) (fun j u hu => ?_) (fun u hu => ?_) (by unfold maxLen; omega) (by omega) (Nat.zero_le _) ?_
 · rw [List.getElem?_map] at hu
   cases hj : X[j]? with
   | none => rw [hj] at hu; cases hu
   | some x =>
     rw [hj] at hu
     cases hu
     rw [Addr.add_lit, Nat.zero_add]
     exact hc j x hj
 · rw [List.mem_map] at hu
   obtain ⟨x, -, rfl⟩ := hu
   rfl
 · intro v' w' ho hg _ hb
   exact h v' w' (by unfold OwnS; simpa using ho) hg hb
theorem WrV.cells {W w : World} {p : Nat} {T : TypeId} {S : Nat → Prop} {v1 v2 : Value} {L N : List (List UInt8)} (h : WrV W w p T S v1 v2 L N) : w.cell? ⟨p, 0, none⟩ = some v1 ∧ w.cell? ⟨p, 1, none⟩ = some v2 ∧ w.frozen? ⟨p, 0, none⟩ = false ∧ w.frozen? ⟨p, 1, none⟩ = false ∧ p < w.heap.size :=
 ⟨cOb h.is rfl, cOb h.is rfl, fOb h.is, fOb h.is, h.lt p h.mem⟩
theorem grown_cells {w w' : World} {p : Nat} {T : TypeId} {C : Array Value} {row : Option Nat} (hp : w.heap[p]? = some (.cells C T (0, 0))) (hg : w.grownBy w' row) (hne : some p ≠ row) : w'.heap[p]? = some (.cells C T (0, 0)) := (hg.block p (lHp hp) hne).trans hp
theorem OwnS.sl {w : World} {b : Nat} {v : Value} {l : List (List UInt8)} (h : OwnS w b v l) : ∃ A n c, v = .slice A n c := by
 obtain ⟨A, c, h, -⟩ := h.form
 exact ⟨A, _, c, h⟩
theorem add_any (W w : World) (p : Nat) (T : TypeId) (S : Nat → Prop) (L N X : List (List UInt8)) (g c : Nat) (h : Wr W w p T S L N) (hX : ∀ (j : Nat) x, X[j]? = some x → w.cell? ⟨g, j, none⟩ = some (vs x)) (hlen : L.length + X.length ≤ 1000000) :
 Calls Tryz.prog 27 #[.pointer (some ⟨p, 0, none⟩), .slice (some ⟨g, 0, none⟩) X.length c] w (WrPost W w p T S (L ++ X) N) := by
 obtain ⟨v1, v2, h⟩ := h
 obtain ⟨c1, c2, f1, f2, hpl⟩ := h.cells
 have H := Hi h
 have HX := Hi hX
 clear h hX
 go_enter Tryz.func27, Tryz.ntmps27
 go_wp2_with (at_builtin; refine wpList_append_words rfl (.tmp 8) (.tmp 9) rfl v1 L X g c rfl rfl H.out.l HX.out hlen ?_; intro v' w2 ho hg hb; have hk := grown_cells H.out.is hg (fun e => (H.out.ol p e.symm).2 rfl); have k1 : w2.cell? ⟨p, 0, none⟩ = some v1 := cOb (o := 0) hk rfl; have kl := lHp hk; obtain ⟨A', n', cap', rfl⟩ := ho.sl; have k2 := fOb (o := 0) hk; have HO := Hi (And.intro ho (And.intro hg hb)); clear ho hg hb hk c1 c2 f1 f2)
 go_end0
 obtain ⟨ho, hg, hb⟩ := HO.out
 exact ⟨rfl, _, ⟨_, _, (H.out.put1 ho hg hb).1⟩, (H.out.put1 ho hg hb).2⟩
theorem cells_one {w : World} {s : List UInt8} {t : TypeId} : ∀ (j : Nat) x, [s][j]? = some x → (w.alloc (.cells #[vs s] t)).cell? ⟨w.heap.size, j, none⟩ = some (vs x) := by
 intro j x hx
 cases j with
 | succ j => simp at hx
 | zero =>
   simp at hx
   subst hx
   exact cOb (new_at rfl) rfl
theorem name_w (W w : World) (p : Nat) (T : TypeId) (S : Nat → Prop) (L N : List (List UInt8)) (s : List UInt8) (h : Wr W w p T S L N) (hlen : L.length + 1 ≤ 1000000) (hlen2 : N.length + 1 ≤ 1000000) :
 Calls Tryz.prog 28 #[.pointer (some ⟨p, 0, none⟩), vs s] w (WrPost W w p T S (L ++ [s]) (N ++ [s])) := by
 obtain ⟨v1, v2, h⟩ := h
 have H0 := Hi h
 have H := Hi (h.keep ((Below.refl _ _).alloc (lR _) (.cells #[vs s] 9)))
 obtain ⟨c1, c2, f1, f2, hpl⟩ := h.cells
 clear h
 go_enter Tryz.func28, Tryz.ntmps28
 go_wp2_with (at_builtin; refine wpList_append_words rfl (.tmp 8) (.tmp 10) rfl v2 N [s] w.heap.size 1 rfl rfl H.out.n cells_one (by simpa using hlen2) ?_; intro v' w2 ho hg hb; have hk := grown_cells H.out.is hg (fun e => (H.out.on p e.symm).2.1 rfl); have k1 : w2.cell? ⟨p, 1, none⟩ = some v2 := cOb (o := 1) hk rfl; obtain ⟨A', n', cap', rfl⟩ := ho.sl; have k2 := fOb (o := 1) hk; have kl := lHp hk; have HO := Hi (And.intro ho (And.intro hg hb)); clear ho hg hb hk c1 c2 f1 f2 hpl)
 obtain ⟨ho, hg, hb⟩ := HO.out
 obtain ⟨q1, q2⟩ := H.out.put2 ho hg hb
 have Q1 := Hi q1
 have Q2 := Hi q2
 clear ho hg hb q1 q2
 refine (add_any W _ p T _ L (N ++ [s]) [s] _ 1 ⟨_, _, Q1.out.keep ((Below.refl _ _).alloc (lR _) (.cells #[vs s] 9))⟩ (by simpa using cells_one (w := w2.setCell ⟨p, 1, none⟩ (.slice A' n' cap')) (s := s) (t := 9)) (by simpa using hlen)).mono ?_
 rintro e w3 ⟨rfl, S', hw, hf⟩
 have HW := Hi hw
 have HF := Hi hf
 clear hw hf
 go_wp2_with fail
 go_end0
 refine ⟨rfl, S', HW.out, ?_⟩
 exact ((WrFr.of_below S ((Below.refl _ _).alloc (lR _) _)).trans Q2.out).trans ((WrFr.of_below _ ((Below.refl _ _).alloc (lR _) _)).trans HF.out)
end Go.Proofs.YtbicmjmcdnkjhaaGreatDoor
namespace Go.Proofs.YtbicmjmcdnkjhaaGreatDoor
/- from a place on -/
/- What stands before a condition, and behind it; conditions joined. -/
/- a separator: a blank, where the first text has no comment -/
/- a symbol of one byte -/
/- the words before a condition -/
/- the parser behind those words -/
/- a whole condition -/
/- one that ends the list goes on before a token that no condition takes there -/
/- conditions in parentheses -/
/- NorthJoins in plain words. -/
/- what such a text comes to -/
/- what a condition makes that is read whole -/
/- NorthAbsent in plain words: parts that are left out. -/
/- the words that end a part -/
/- a stage: a part, or its default -/
def stage (w : List UInt8) (P : List Tok → R Tree) (d : Tree) (K : Tree → List Tok → R Prov) (l : List Tok) : R Prov :=
 bindR (optF [w] l (fun _ r => boundedF P r) (fun r => .ok (d, r))) K
/- the stages behind 'act a: define b' -/
/- a part as tokens: nothing, its default, or what it has -/
/- the default of a part is read as it -/
/- NorthAbsent, from texts. -/
/- before anything that is no part of a word -/
/- what stands behind a part begins so -/
/- a free text -/
/- What a provision that was read is like. -/
theorem takeWhile_all {α : Type} {p : α → Bool} : ∀ {l : List α}, (l.takeWhile p).length = l.length → ∀ x ∈ l, p x = true
 | [], _, x, hx => by cases hx
 | a :: l, h, x, hx => by
   by_cases ha : p a = true
   · rw [List.takeWhile_cons_of_pos ha] at h
     rcases List.mem_cons.1 hx with rfl | hx
     · exact ha
     · exact takeWhile_all (by simpa using h) x hx
   · rw [List.takeWhile_cons_of_neg ha] at h; simp at h
/- what a parser answers, from tokens of the lexer -/
/- different names -/
/- where an error is -/
/- Bounds of the lexer's tokens. -/
theorem lexOne_err {c : UInt8} {r : List UInt8} {e : Nat} (h : lexOne c r = .error e) : e ≠ 0 := by
 unfold lexOne at h
 split at h
 · split at h
   · cases h; decide
   · cases h
 · split at h
   · split at h
     · cases h; decide
     · cases h
   · split at h
     · cases h
     · split at h
       · split at h <;> cases h
       · split at h
         · split at h
           · cases h
           · cases h; decide
         · cases h; decide
theorem sc_err_ne (l : List UInt8) (p : Nat) : ∀ e q, (sc l p).2 = some (e, q) → e ≠ 0 := by
 refine sc_ind (M := fun l p => ∀ e q, (sc l p).2 = some (e, q) → e ≠ 0) ?_ ?_ ?_ ?_ ?_ l.length l p (lR _)
 · intro p e q h; simp [sc_nil] at h
 · intro c r p h ih e q hq; rw [sc_blank _ _ h] at hq; exact ih e q hq
 · intro r p ih e q hq; rw [sc_hash] at hq; exact ih e q hq
 · intro c r p e h1 h2 h3 e' q hq; rw [sc_err _ h1 h2 h3] at hq; simp at hq; rw [← hq.1]; exact lexOne_err h3
 · intro c r p j n v h1 h2 h3 ih e q hq
   rw [sc_tok _ h1 h2 h3] at hq
   exact ih e q hq
theorem lexF_err_ne {l : List UInt8} {e : Nat} {at' : Int} (h : lexF l = .error (e, at')) : e ≠ 0 := by
 unfold lexF at h
 rw [show scan l.length l 0 = sc l 0 from rfl] at h
 split at h
 · cases h; decide
 · split at h
   · cases h; decide
   · split at h
     · rename_i e' p' he
       cases h
       exact sc_err_ne l 0 _ _ he
     · cases h
/- the key words of both languages are words -/
/- what is refused -/
theorem refuses_ref {p : ProvI} (h : refP p = true) : writtenI p = false := by
 unfold writtenI
 rw [h]
 rfl
theorem ans_arg {p : ProvI} (h : writtenI p = false) : northA p = ([], 1) ∧ southA p = ([], 1) := by
 have hn : ¬ writtenI p = true := by rw [h]; simp
 exact ⟨by unfold northA ansP; rw [if_neg hn], by unfold southA ansP; rw [if_neg hn]⟩
/- written again -/
mutual
theorem plainS_up : ∀ {t : Tree}, shapeS t = true → plainS (up t)
 | .mk op name cmp n ks, h => by
   rw [shapeS] at h
   simp only [Bool.and_eq_true, decide_eq_true_eq] at h
   rw [up, plainS]
   exact ⟨by omega, plainSs_up h.2⟩
theorem plainSs_up : ∀ {ks : List Tree}, shapeSs ks = true → plainSs (ups ks)
 | [], _ => by rw [ups, plainSs]; trivial
 | k :: r, h => by
   rw [shapeSs, Bool.and_eq_true] at h
   rw [ups, plainSs]
   exact ⟨plainS_up h.1, plainSs_up h.2⟩
end
theorem plainP_up {p : Prov} (h : WrOk p) : plainP (upP p) := ⟨plainS_up h.beg, plainS_up h.fin, plainS_up h.aga⟩
/- a text of the first language, written again in both -/
namespace So
/- the stack -/
/- a text of the second language, written again in both -/
end So
end Go.Proofs.YtbicmjmcdnkjhaaGreatDoor
