/- The lexer's iterator: its contract. -/
import Derived.Test.YtbicmjmcdnkjhaaGreatDoorJMM1
import Derived.RangeFuncNested
import Derived.RangeFuncLeaves
import Derived.RangeFuncBox
import Derived.Shelf.Abstract
import Derived.WalkKit
import Derived.OwnWalkIn
import Derived.TacticsInMore
import Derived.LoopNIn
import Derived.LoopIn
import Derived.Deep.CutBlock
import Derived.ScopeJumps
import Derived.WalkMore
import Derived.Test.YtbicmjmcdnkjhaaGreatDoorJMM25
set_option linter.unusedVariables false
set_option linter.unusedSimpArgs false
set_option maxRecDepth 100000
set_option maxHeartbeats 4000000
namespace Go.Proofs.YtbicmjmcdnkjhaaGreatDoor
open Go.RowKit Go.Shelf
attribute [local go_sem] Oper.semAt_some
def encT (x : Tok × Nat) : Array Value := #[.agg #[.int .i64 x.1.kind, vs x.1.text, .int .i64 x.1.n, .int .i64 x.1.pos, .int .i64 x.2]]
/- what is yielded: tokens, and an error as the last -/
def noErr (ts : List Tok) : List (Tok × Nat) := ts.map fun t => (t, 0)
def FullT (l : List UInt8) (xs : List (Tok × Nat)) : Prop :=
 (∃ ts, xs = noErr ts ∧ sc l 0 = (ts, none)) ∨ (∃ ts t e, xs = noErr ts ++ [(t, e)] ∧ e ≠ 0 ∧ sc l 0 = (ts, some (e, t.pos)))
def PreT (l : List UInt8) (xs : List (Tok × Nat)) : Prop :=
 (∃ ts us o, xs = noErr ts ∧ sc l 0 = (ts ++ us, o)) ∨ (∃ ts t e, xs = noErr ts ++ [(t, e)] ∧ e ≠ 0 ∧ sc l 0 = (ts, some (e, t.pos)))
structure Mid (lo n₀ : Nat) (A B : World) : Prop where
 size : A.heap.size ≤ B.heap.size
 block : ∀ k, lo ≤ k → k < n₀ → B.heap[k]? = A.heap[k]?
theorem Mid.refl (lo n₀ : Nat) (A : World) : Mid lo n₀ A A := ⟨lR _, fun _ _ _ => rfl⟩
theorem Mid.trans {lo n₀ : Nat} {A B C : World} (h : Mid lo n₀ A B) (k : Mid lo n₀ B C) : Mid lo n₀ A C := ⟨Nat.le_trans h.size k.size, fun i h1 h2 => (k.block i h1 h2).trans (h.block i h1 h2)⟩
theorem Mid.of_below {lo n₀ : Nat} {A B : World} (h : Below n₀ A B) : Mid lo n₀ A B := ⟨h.size, fun i _ h2 => h.block i h2⟩
def KpT (lo n₀ : Nat) (A B : World) : Prop := Mid lo n₀ A B ∧ ∀ (k : Nat) (C : Array Value) (fr : Nat × Nat), A.heap[k]? = some (.cells C 144 fr) → B.heap[k]? = some (.cells C 144 fr)
structure TextB (w : World) (l : List UInt8) (bt ba bc lo n₀ : Nat) : Prop where
 text : w.cell? ⟨bt, 0, none⟩ = some (vs l)
 at' : w.cell? ⟨ba, 0, none⟩ = some (.func (.func 115) #[] #[.pointer (some ⟨bt, 0, none⟩), .pointer (some ⟨bc, 0, none⟩)])
 tab : Tab clsN w bc
 lt : (lo ≤ bt ∧ bt < n₀) ∧ (lo ≤ ba ∧ ba < n₀) ∧ (lo ≤ bc ∧ bc < n₀)
 le : n₀ ≤ w.heap.size
theorem TextB.mid {w w' : World} {l : List UInt8} {bt ba bc lo n₀ : Nat} (h : TextB w l bt ba bc lo n₀) (hb : Mid lo n₀ w w') : TextB w' l bt ba bc lo n₀ :=
 ⟨(cOh (hb.block _ h.lt.1.1 h.lt.1.2) 0).trans h.text, (cOh (hb.block _ h.lt.2.1.1 h.lt.2.1.2) 0).trans h.at', h.tab.keep (hb.block _ h.lt.2.2.1 h.lt.2.2.2), h.lt, Nat.le_trans h.le hb.size⟩
/- one step of the scan -/
def StepT (l : List UInt8) (i kind k n err : Nat) : Prop := ∃ c r, l.drop i = c :: r ∧ blankB c = false ∧ c ≠ 35 ∧ i + k ≤ l.length ∧ (err = 0 ∧ lexOne c r = .ok (kind, k, n) ∨ err ≠ 0 ∧ lexOne c r = .error err)
theorem tw_lt {α : Type} {p : α → Bool} : ∀ {d : List α} {j : Nat}, j < (d.takeWhile p).length → ∃ x, d[j]? = some x ∧ p x = true
 | [], j, h => by simp at h
 | a :: d, j, h => by
   by_cases ha : p a = true
   · rw [List.takeWhile_cons_of_pos ha] at h
     cases j with
     | zero => exact ⟨a, rfl, ha⟩
     | succ j => exact tw_lt (d := d) (by simpa using h)
   · rw [List.takeWhile_cons_of_neg ha] at h; simp at h
theorem tw_end {α : Type} {p : α → Bool} : ∀ {d : List α} {x : α}, d[(d.takeWhile p).length]? = some x → p x = false
 | [], x, h => by simp at h
 | a :: d, x, h => by
   by_cases ha : p a = true
   · rw [List.takeWhile_cons_of_pos ha] at h
     exact tw_end (d := d) (by simpa using h)
   · rw [List.takeWhile_cons_of_neg ha] at h
     simp at h
     subst h
     simpa using ha
theorem drop_get {l : List UInt8} {i : Nat} {c : UInt8} {r : List UInt8} (h : l.drop i = c :: r) : l[i]? = some c := by
 have : (l.drop i)[0]? = some c := by rw [h]; rfl
 rwa [List.getElem?_drop, Nat.add_zero] at this
theorem drop_more {l : List UInt8} {i : Nat} {c : UInt8} {r : List UInt8} (h : l.drop i = c :: r) (k : Nat) : l.drop (i + 1 + k) = r.drop k := by
 rw [Nat.add_assoc, ← List.drop_drop, h, Nat.add_comm 1 k, List.drop_succ_cons]
theorem drop_len {l : List UInt8} {i : Nat} {c : UInt8} {r : List UInt8} (h : l.drop i = c :: r) : l.length = i + 1 + r.length := by
 have := congrArg List.length h
 simp at this
 omega
theorem cls_eq {l : List UInt8} {i : Nat} {c : UInt8} (h : l[i]? = some c) : clsAt l i = clsN c.toNat := by simp [clsAt, h]
theorem cls_word {x : UInt8} (h : wordB x = true) : clsN x.toNat = 3 ∨ clsN x.toNat = 4 ∨ clsN x.toNat = 5 := by
 have f := cls_facts x
 simp only [wordB, Bool.or_eq_true] at h
 rcases h with (h | h) | h
 · exact .inl (by have := f.letter; rw [h] at this; simpa using this)
 · exact .inr (.inl (by have := f.digit; rw [h] at this; simpa using this))
 · exact .inr (.inr (by have := f.under; rw [h] at this; simpa using this))
theorem cls_noword {x : UInt8} (h : wordB x = false) : clsN x.toNat ≠ 3 ∧ clsN x.toNat ≠ 4 ∧ clsN x.toNat ≠ 5 := by
 have f := cls_facts x
 simp only [wordB, Bool.or_eq_false_iff] at h
 obtain ⟨⟨h1, h2⟩, h3⟩ := h
 refine ⟨?_, ?_, ?_⟩
 · have := f.letter; rw [h1] at this; simpa using this
 · have := f.digit; rw [h2] at this; simpa using this
 · have := f.under; rw [h3] at this; simpa using this
theorem clsAt_noword {l : List UInt8} {m : Nat} (h : ∀ x, l[m]? = some x → wordB x = false) : clsAt l m ≠ 3 ∧ clsAt l m ≠ 4 ∧ clsAt l m ≠ 5 := by
 cases hx : l[m]? with
 | none => simp [clsAt, hx]
 | some x => rw [cls_eq hx]; exact cls_noword (h x hx)
theorem below_grown {w w' : World} (h : Below w.heap.size w w') : w.grownBy w' none := ⟨h.os, h.tape, h.output, h.size, fun k hk _ => h.block k hk⟩
theorem nat_byte {x k : UInt8} (e : x.toNat = k.toNat) : x = k := UInt8.toNat_inj.1 e
theorem at_i (l : List UInt8) (bt bc : Nat) (w : World) (ht : w.cell? ⟨bt, 0, none⟩ = some (vs l)) (hc : Tab clsN w bc) (m : Int) (i : Nat) (hm : m = (i : Int)) (hl : l.length ≤ 1000000) :
 Calls Tryz.prog 115 #[.int .i64 m, .pointer (some ⟨bt, 0, none⟩), .pointer (some ⟨bc, 0, none⟩)] w fun e w' => e = .returned (.int .u8 (clsAt l i)) ∧ w' = w := by
 subst hm; exact at_any l bt bc w ht hc i hl
theorem lex_other {c : UInt8} (r : List UInt8) (F : ClsFacts c) (hk : clsN c.toNat = 0 ∨ clsN c.toNat = 5) : blankB c = false ∧ c ≠ 35 ∧ lexOne c r = .error 3 := by
 have h1 := F.letter
 have h2 := F.digit
 have h3 := F.blank
 have h4 := F.sym
 have h5 := F.pre
 have h6 := F.hash
 have h7 := F.bang
 rcases hk with hk | hk <;>
  (rw [hk] at h1 h2 h3 h4 h5 h6 h7
   refine ⟨h3.symm, by simpa using h6.symm, ?_⟩
   have h7' : ¬ c = 33 := by simpa using h7.symm
   unfold lexOne
   rw [← h1, ← h2, ← h4, ← h5, if_neg h7']
   rfl)
theorem lex_letter {c : UInt8} (r : List UInt8) (F : ClsFacts c) (hk : clsN c.toNat = 3) : blankB c = false ∧ c ≠ 35 ∧ wordB c = true ∧ lexOne c r = if 24 < (r.takeWhile wordB).length + 1 then .error 2 else .ok (1, (r.takeWhile wordB).length + 1, 0) := by
 have h1 := F.letter
 have h3 := F.blank
 have h6 := F.hash
 rw [hk] at h1 h3 h6
 refine ⟨h3.symm, by simpa using h6.symm, by simp [wordB, ← h1], ?_⟩
 unfold lexOne
 rw [← h1]
 rfl
theorem lex_digit {c : UInt8} (r : List UInt8) (F : ClsFacts c) (hk : clsN c.toNat = 4) : blankB c = false ∧ c ≠ 35 ∧ digitB c = true ∧ lexOne c r = if 7 < (r.takeWhile digitB).length + 1 ∨ ((r.drop (r.takeWhile digitB).length).head?.any wordB) = true then .error 4 else .ok (2, (r.takeWhile digitB).length + 1, valN (c :: r.takeWhile digitB)) := by
 have h1 := F.letter
 have h2 := F.digit
 have h3 := F.blank
 have h6 := F.hash
 rw [hk] at h1 h2 h3 h6
 refine ⟨h3.symm, by simpa using h6.symm, h2.symm, ?_⟩
 unfold lexOne
 rw [← h1, ← h2]
 rfl
theorem lex_sym {c : UInt8} (r : List UInt8) (F : ClsFacts c) (hk : clsN c.toNat = 6) : blankB c = false ∧ c ≠ 35 ∧ lexOne c r = .ok (3, 1, 0) := by
 have h1 := F.letter
 have h2 := F.digit
 have h3 := F.blank
 have h4 := F.sym
 have h6 := F.hash
 rw [hk] at h1 h2 h3 h4 h6
 refine ⟨h3.symm, by simpa using h6.symm, ?_⟩
 unfold lexOne
 rw [← h1, ← h2, ← h4]
 rfl
theorem lex_pre {c : UInt8} (r : List UInt8) (F : ClsFacts c) (hk : clsN c.toNat = 7) : blankB c = false ∧ c ≠ 35 ∧ lexOne c r = if r.head? = some 61 then .ok (3, 2, 0) else .ok (3, 1, 0) := by
 have h1 := F.letter
 have h2 := F.digit
 have h3 := F.blank
 have h4 := F.sym
 have h5 := F.pre
 have h6 := F.hash
 rw [hk] at h1 h2 h3 h4 h5 h6
 refine ⟨h3.symm, by simpa using h6.symm, ?_⟩
 unfold lexOne
 rw [← h1, ← h2, ← h4, ← h5]
 rfl
theorem lex_bang {c : UInt8} (r : List UInt8) (F : ClsFacts c) (hk : clsN c.toNat = 8) : blankB c = false ∧ c ≠ 35 ∧ lexOne c r = if r.head? = some 61 then .ok (3, 2, 0) else .error 3 := by
 have h1 := F.letter
 have h2 := F.digit
 have h3 := F.blank
 have h4 := F.sym
 have h5 := F.pre
 have h6 := F.hash
 have h7 := F.bang
 rw [hk] at h1 h2 h3 h4 h5 h6 h7
 refine ⟨h3.symm, by simpa using h6.symm, ?_⟩
 have h7' : c = 33 := by simpa using h7.symm
 unfold lexOne
 rw [← h1, ← h2, ← h4, ← h5, if_pos h7']
 rfl
theorem drop_one {l : List UInt8} {i : Nat} {c : UInt8} {r : List UInt8} (h : l.drop i = c :: r) : l.drop (i + 1) = r := by simpa using drop_more h 0
theorem tw_cons {p : UInt8 → Bool} {l : List UInt8} {i : Nat} {c : UInt8} {r : List UInt8} (h : l.drop i = c :: r) (hp : p c = true) : ((l.drop i).takeWhile p).length = (r.takeWhile p).length + 1 := by rw [h, List.takeWhile_cons_of_pos hp]; simp
theorem tw_le {p : UInt8 → Bool} (l : List UInt8) (i : Nat) : ((l.drop i).takeWhile p).length ≤ l.length - i := by have := takeWhile_len p (l.drop i); simpa using this
theorem cls_hash {c : UInt8} (F : ClsFacts c) (hk : clsN c.toNat = 2) : c = 35 := by have := F.hash; rw [hk] at this; simpa using this.symm
theorem cls_blank {c : UInt8} (F : ClsFacts c) (hk : clsN c.toNat = 1) : blankB c = true := by have := F.blank; rw [hk] at this; simpa using this.symm
theorem cls_digit {x : UInt8} (h : digitB x = true) : clsN x.toNat = 4 := by have := (cls_facts x).digit; rw [h] at this; simpa using this
theorem cls_nodigit {x : UInt8} (h : digitB x = false) : clsN x.toNat ≠ 4 := by have := (cls_facts x).digit; rw [h] at this; simpa using this
theorem noErr_snoc (ts : List Tok) (t : Tok) : noErr ts ++ [(t, 0)] = noErr (ts ++ [t]) := by simp [noErr]
theorem any_word {l : List UInt8} {i k : Nat} {c : UInt8} {r : List UInt8} (h : l.drop i = c :: r) (hnd : ∀ x, l[i + 1 + k]? = some x → digitB x = false) : ((r.drop k).head?.any wordB) = (clsAt l (i + 1 + k) == 3 || clsAt l (i + 1 + k) == 5) := by
 have e : (r.drop k).head? = l[i + 1 + k]? := by rw [← drop_more h k, List.head?_drop]
 rw [e]
 cases hx : l[i + 1 + k]? with
 | none => simp [clsAt, hx]
 | some x =>
   have f := cls_facts x
   rw [cls_eq hx, f.letter, f.under]
   simp [wordB, hnd x hx]
theorem text_slice (l : List UInt8) (i n : Nat) : ({ data := l.toArray } : ByteArray).extract i n = ⟨((l.drop i).take (n - i)).toArray⟩ := by
 apply ByteArray.ext
 rw [ByteArray.data_extract]
 apply Array.ext'
 simp [List.extract_eq_take_drop]
theorem dec_valN : ∀ (s : List UInt8) (acc : Nat), (∀ c ∈ s, digitB c = true) → Lib.decFrom acc s = some (s.foldl (fun a c => 10 * a + (c.toNat - 48)) acc)
 | [], acc, _ => rfl
 | b :: s, acc, h => by
   have hb : digitB b = true := h b (by simp)
   have hv : Lib.digitVal b = some (b.toNat - 48) := by
    unfold Lib.digitVal
    simp only [digitB, Bool.and_eq_true, decide_eq_true_eq] at hb
    rw [if_pos ⟨by have := UInt8.le_iff_toNat_le.1 hb.1; simpa using this, by have := UInt8.le_iff_toNat_le.1 hb.2; simpa using this⟩]
   rw [Lib.decFrom, hv, List.foldl_cons]
   show Lib.decFrom (acc * 10 + (b.toNat - 48)) s = _
   rw [dec_valN s _ (fun c hc => h c (by simp [hc])), Nat.mul_comm acc 10]
theorem atoi_valN (c : UInt8) (s : List UInt8) (h : ∀ x ∈ c :: s, digitB x = true) : Lib.atoi (c :: s) = some (valN (c :: s) : Int) := by
 have hc := h c (by simp)
 have h1 : (c == 45) = false := by
  cases hq : (c == 45) with
  | false => rfl
  | true => simp at hq; subst hq; revert hc; decide
 have h2 : (c == 43) = false := by
  cases hq : (c == 43) with
  | false => rfl
  | true => simp at hq; subst hq; revert hc; decide
 simp only [Lib.atoi, Lib.decNat, h1, h2, Bool.false_eq_true, if_false, List.isEmpty_cons, dec_valN _ _ h]
 rfl
theorem tw_take {p : UInt8 → Bool} {l : List UInt8} {i : Nat} {c : UInt8} {r : List UInt8} (h : l.drop i = c :: r) : (l.drop i).take ((r.takeWhile p).length + 1) = c :: r.takeWhile p := by
 rw [h, List.take_succ_cons]
 congr 1
 exact (List.prefix_iff_eq_take.1 (List.takeWhile_prefix p)).symm
theorem digits_all {c : UInt8} {r : List UInt8} (hc : digitB c = true) : ∀ x ∈ c :: r.takeWhile digitB, digitB x = true := by
 intro x hx
 rcases List.mem_cons.1 hx with rfl | hx
 · exact hc
 · obtain ⟨k, hk⟩ := List.mem_iff_getElem?.1 hx
   obtain ⟨hk1, hk2⟩ := List.getElem?_eq_some_iff.1 hk
   obtain ⟨y, hy, hp⟩ := tw_lt (p := digitB) (d := r) (j := k) hk1
   have : (r.takeWhile digitB)[k]? = r[k]? := by
    rw [List.prefix_iff_eq_take.1 (List.takeWhile_prefix digitB), List.getElem?_take, if_pos hk1]
   rw [this, hy] at hk
   cases hk
   exact hp
theorem below_bytes (w : World) (e : TypeId) (s : ByteArray) : Below w.heap.size w (Lib.bytesWorld w e s) := ⟨rfl, rfl, rfl, by rw [Lib.bytesWorld_size]; omega, fun k hk => Lib.bytesWorld_at_old w e s k hk⟩
theorem step_ok {l : List UInt8} {i kind k n : Nat} {ts : List Tok} (h : StepT l i kind k n 0) (hs : sc l 0 = (ts ++ (sc (l.drop i) i).1, (sc (l.drop i) i).2)) :
 1 ≤ k ∧ i + k ≤ l.length ∧ sc l 0 = ((ts ++ [⟨kind, (l.drop i).take k, n, i⟩]) ++ (sc (l.drop (i + k)) (i + k)).1, (sc (l.drop (i + k)) (i + k)).2) := by
 obtain ⟨c, r, hd, h1, h2, h3, ⟨-, h4⟩ | ⟨h4, -⟩⟩ := h
 · have hk := (lexOne_len h4).1
   refine ⟨hk, h3, ?_⟩
   have e : i + 1 + (k - 1) = i + k := by omega
   rw [hs, hd, sc_tok _ h1 h2 h4, ← drop_more hd, e]
   simp
 · exact absurd rfl h4
theorem step_err {l : List UInt8} {i kind k n err : Nat} {ts : List Tok} (h : StepT l i kind k n err) (he : err ≠ 0) (hs : sc l 0 = (ts ++ (sc (l.drop i) i).1, (sc (l.drop i) i).2)) : sc l 0 = (ts, some (err, i)) := by
 obtain ⟨c, r, hd, h1, h2, h3, ⟨h4, -⟩ | ⟨-, h4⟩⟩ := h
 · exact absurd h4 he
 · rw [hs, hd, sc_err _ h1 h2 h4]
   simp
theorem toks_any (lp bt ba bc lo n₀ : Nat) (l : List UInt8) (hl : l.length ≤ 20000) (J Jx : List (Tok × Nat) → World → Prop) (W : World) (hT : TextB W l bt ba bc lo n₀) (hJ : AbidesFrom W.heap.size J)
 (hY : ∀ pre x W1, J pre W1 → pre.length < 20000 → YieldAt Fence.wide 7 Tryz.prog lp (encT x) W1 fun e W' =>
   (e = .returned (.bool true) ∧ J (pre ++ [x]) W' ∧ KpT lo n₀ W1 W') ∨ (e = .returned (.bool false) ∧ Jx (pre ++ [x]) W')) (h0 : J [] W) :
 Calls Tryz.prog 116 #[.func (.yield lp) #[] #[], .pointer (some ⟨bt, 0, none⟩), .pointer (some ⟨ba, 0, none⟩)] W fun e W' => (∃ v, e = .returned v) ∧
  ((∃ xs, FullT l xs ∧ J xs W') ∨ (∃ pre, PreT l pre ∧ Jx pre W')) := by
 have HT := Hi hT
 have HJ := Hi hJ
 have HY := Hi hY
 have hl2 : (l.length : Int) ≤ 20000 := by omega
 clear hT hJ hY
 go_enter Tryz.func116, Tryz.ntmps116
 go_wp2_with fail
 go_step3
 go_wp2_with fail
 go_step3
 go_wp2_with fail
 go_loopw [4] (fun v wr => ∃ (i : Nat) (ts : List Tok), i ≤ l.length ∧ ts.length ≤ i ∧ v = .int .i64 i ∧ sc l 0 = (ts ++ (sc (l.drop i) i).1, (sc (l.drop i) i).2) ∧ J (noErr ts) wr ∧ Mid lo n₀ W wr) (fun v _ => l.length - (intOf v).toNat)
 case atStart => exact ⟨0, [], Nat.zero_le _, lR _, rfl, rfl, h0, Mid.refl _ _ _⟩
 case round =>
  obtain ⟨i, ts, hi, hti, rfl, hsc, hj, hbel⟩ := hrel
  have HTB := Hi (HT.out.mid hbel)
  have hct := HTB.out.text
  have hca := HTB.out.at'
  have hlb : bt < wr.heap.size ∧ ba < wr.heap.size := ⟨by have := HTB.out.lt; have := HTB.out.le; omega, by have := HTB.out.lt; have := HTB.out.le; omega⟩
  obtain ⟨hlb1, hlb2⟩ := hlb
  have HSC := Hi hsc
  have HJT := Hi hj
  have HB := Hi hbel
  clear hsc hj hbel
  by_cases hlt : i < l.length
  · have hlt2 : (i : Int) < l.length := by omega
    have hi0 : (0 : Int) ≤ i := by omega
    obtain ⟨c, r, hdr⟩ : ∃ c r, l.drop i = c :: r := by
     cases hd : l.drop i with
     | nil => have := congrArg List.length hd; simp at this; omega
     | cons c r => exact ⟨c, r, rfl⟩
    have hx := drop_get hdr
    have hlen := drop_len hdr
    have hck := cls_eq hx
    have HF := Hi (cls_facts c)
    have HDR := Hi hdr
    have HX := Hi hx
    clear hdr hx
    go_wp2_with fail
    obtain ⟨wA, rfl⟩ : ∃ x, x = wr := ⟨wr, rfl⟩
    have hbel1 : Below n₀ wA (wA.alloc (.cells #[.int .i64 0, .string ⟨#[]⟩, .int .i64 0, .int .i64 i, .int .i64 0] 144)) := (Below.refl _ _).alloc HTB.out.le _
    have hct1 := (HTB.out.mid (Mid.of_below hbel1)).text
    have hca1 := (HTB.out.mid (Mid.of_below hbel1)).at'
    have HT1 := Hi (HTB.out.mid (Mid.of_below hbel1))
    have HBEL1 := Hi hbel1
    have HTA : Hid (∀ o : Obj, TextB (wA.alloc o) l bt ba bc lo n₀) := Hi (fun o => HTB.out.mid (Mid.of_below ((Below.refl _ _).alloc HTB.out.le o)))
    clear hbel1
    refine (at_any l bt bc _ hct1 HT1.out.tab i (by omega)).mono ?_
    rintro e w1 ⟨rfl, rfl⟩
    go_upto_block 2 with fail
    go_cut [4] from 10 to 147 (fun s4 wc => ∃ (kind k n err : Nat), s4 = .int .i64 ((i + k : Nat) : Int) ∧ StepT l i kind k n err ∧ Below wA.heap.size wA wc ∧ wc.heap[wA.heap.size]? = some (.cells #[.int .i64 kind, vs [], .int .i64 n, .int .i64 i, .int .i64 err] 144 (0, 0)))
    case first =>
     have HCK := Hi hck
     have HLEN := Hi hlen
     clear hck hlen
     obtain hk | hk | hk | hk | hk | hk | hk | hk | hk : clsN c.toNat = 0 ∨ clsN c.toNat = 1 ∨ clsN c.toNat = 2 ∨ clsN c.toNat = 3 ∨ clsN c.toNat = 4 ∨ clsN c.toNat = 5 ∨ clsN c.toNat = 6 ∨ clsN c.toNat = 7 ∨ clsN c.toNat = 8 := by have := HF.out.le; omega
     all_goals
      rw [hk]
      have HK := Hi hk
      clear hk
     · go_wp2_with fail
       go_meet
       case rel => exact ⟨0, 0, 0, 3, rfl, ⟨c, r, HDR.out, (lex_other r HF.out (.inl HK.out)).1, (lex_other r HF.out (.inl HK.out)).2.1, hi, .inr ⟨by omega, (lex_other r HF.out (.inl HK.out)).2.2⟩⟩, ((Below.refl _ _).alloc (lR _) _), heap_alloc_new _ _⟩
     · go_wp2_with fail
       refine ⟨⟨i + 1, ts, by omega, by omega, by go_num, ?_, HJ.out _ _ _ _ HJT.out (below_grown ((Below.refl _ _).alloc (lR _) _)) (fun r e => by cases e), HB.out.trans (Mid.of_below HBEL1.out)⟩, by simp [intOf]; omega⟩
       rw [HSC.out, HDR.out, sc_blank _ _ (cls_blank HF.out HK.out), drop_one HDR.out]
     · have h35 := cls_hash HF.out HK.out
       have htw := tw_cons (p := (· != 10)) HDR.out (by rw [h35]; rfl)
       have hT1 := tw_le (p := (· != 10)) l i
       obtain ⟨T, hTT⟩ : ∃ T, T = ((l.drop i).takeWhile (· != 10)).length := ⟨_, rfl⟩
       rw [← hTT] at htw hT1
       have H35 := Hi h35
       have HTW := Hi htw
       have HTT := Hi hTT
       clear h35 htw hTT
       go_wp2_with fail
       go_loopw [4] (fun v wr' => wr' = (wA.alloc (.cells #[.int .i64 0, .string ⟨#[]⟩, .int .i64 0, .int .i64 i, .int .i64 0] 144)) ∧ ∃ (j : Nat) (m : Int), j ≤ T ∧ m = ((i + j : Nat) : Int) ∧ v = .int .i64 m) (fun v _ => l.length + 1 - (intOf v).toNat)
       case atStart => exact ⟨rfl, 0, i, Nat.zero_le _, rfl, rfl⟩
       case round =>
        obtain ⟨rfl, j, m, hj, hm, rfl⟩ := hrel
        have hm0 : (0 : Int) ≤ m := by omega
        have hm1 : m ≤ 20000 := by omega
        have HM := Hi hm
        by_cases hjT : j < T
        · obtain ⟨x, hx, hxp⟩ := tw_lt (p := (· != 10)) (d := l.drop i) (j := j) (by rw [← HTT.out]; exact hjT)
          rw [List.getElem?_drop] at hx
          have hb := byte_at hx
          have hlt3 : m < l.length := by have := (List.getElem?_eq_some_iff.1 hx).1; omega
          have hne : ((x.toNat : Int) != 10) = true := by
           have : x.toNat ≠ 10 := fun e => by rw [nat_byte (k := 10) e] at hxp; simp at hxp
           simp; omega
          have hmn : m.toNat = i + j := by omega
          have hb' : ∀ hh, (({ data := l.toArray } : ByteArray)[m.toNat]'hh) = x := by rw [hmn]; exact hb
          clear hx hxp hb hmn hm
          go_wp2_with fail
          exact ⟨⟨trivial, j + 1, m + 1, by omega, by have := HM.out; omega, rfl⟩, by have := HM.out; simp [intOf]; omega⟩
        · obtain rfl : j = T := by omega
          by_cases hend : m < l.length
          · obtain ⟨x, hx⟩ : ∃ x, l[i + j]? = some x := gLt (by omega)
            have hxp : (x != 10) = false := by
             refine tw_end (p := (· != 10)) (d := l.drop i) (x := x) ?_
             rw [← HTT.out, List.getElem?_drop]; exact hx
            have hne : ((x.toNat : Int) != 10) = false := by
             have : x = 10 := by simpa using hxp
             rw [this]; rfl
            have hmn : m.toNat = i + j := by omega
            have hb' : ∀ hh, (({ data := l.toArray } : ByteArray)[m.toNat]'hh) = x := by rw [hmn]; exact byte_at hx
            clear hx hxp hmn hm
            go_wp2_with fail
            refine ⟨⟨i + j, ts, by have := HTW.out; omega, by omega, by rw [HM.out], ?_, HJ.out _ _ _ _ HJT.out (below_grown ((Below.refl _ _).alloc (lR _) _)) (fun r e => by cases e), HB.out.trans (Mid.of_below HBEL1.out)⟩, by have := HM.out; have := HTW.out; simp [intOf]; omega⟩
            have e : i + j = i + 1 + (r.takeWhile (· != 10)).length := by have := HTW.out; omega
            rw [HSC.out, e, drop_more HDR.out, HDR.out, H35.out, sc_hash]
          · clear hm
            go_wp2_with fail
            refine ⟨⟨i + j, ts, by have := HTW.out; omega, by omega, by rw [HM.out], ?_, HJ.out _ _ _ _ HJT.out (below_grown ((Below.refl _ _).alloc (lR _) _)) (fun r e => by cases e), HB.out.trans (Mid.of_below HBEL1.out)⟩, by have := HM.out; have := HTW.out; simp [intOf]; omega⟩
            have e : i + j = i + 1 + (r.takeWhile (· != 10)).length := by have := HTW.out; omega
            rw [HSC.out, e, drop_more HDR.out, HDR.out, H35.out, sc_hash]
     · have HL := Hi (lex_letter r HF.out HK.out)
       have htw := tw_cons (p := wordB) HDR.out HL.out.2.2.1
       have hT1 := tw_le (p := wordB) l i
       obtain ⟨T, hTT⟩ : ∃ T, T = ((l.drop i).takeWhile wordB).length := ⟨_, rfl⟩
       rw [← hTT] at htw hT1
       have HTW := Hi htw
       have HTT := Hi hTT
       clear htw hTT
       go_wp2_with fail
       refine (at_i l bt bc _ (HTA.out _).text (HTA.out _).tab _ i rfl (by omega)).mono ?_
       rintro e w1 ⟨rfl, rfl⟩
       go_wp2_with fail
       go_loopw [4, 7] (fun v v7 wr' => wr' = (wA.alloc (.cells #[.int .i64 0, .string ⟨#[]⟩, .int .i64 0, .int .i64 i, .int .i64 0] 144)) ∧ ∃ (j : Nat) (m : Int), j ≤ T ∧ m = ((i + j : Nat) : Int) ∧ v = .int .i64 m ∧ v7 = .int .u8 (clsAt l (i + j) : Nat)) (fun v _ _ => l.length + 1 - (intOf v).toNat)
       case atStart => exact ⟨rfl, 0, i, Nat.zero_le _, rfl, rfl, rfl⟩
       case round =>
        obtain ⟨rfl, j, m, hj, hm, rfl, rfl⟩ := hrel
        have hm0 : (0 : Int) ≤ m := by omega
        have hm1 : m ≤ 20000 := by omega
        have HM := Hi hm
        by_cases hjT : j < T
        · obtain ⟨x, hx, hxp⟩ := tw_lt (p := wordB) (d := l.drop i) (j := j) (by rw [← HTT.out]; exact hjT)
          rw [List.getElem?_drop] at hx
          rw [cls_eq hx]
          have hil := (List.getElem?_eq_some_iff.1 hx).1
          have hmn : m < l.length := by omega
          obtain hq | hq | hq := cls_word hxp
          all_goals
           rw [hq]
           clear hx hxp hm hq
           go_wp2_with fail
           refine (at_i l bt bc _ (HTA.out _).text (HTA.out _).tab _ (i + (j + 1)) (by have := HM.out; omega) (by omega)).mono ?_
           rintro e w1 ⟨rfl, rfl⟩
           go_wp2_with fail
           exact ⟨⟨trivial, j + 1, m + 1, by omega, by have := HM.out; omega, rfl, rfl⟩, by have := HM.out; simp [intOf]; omega⟩
        · obtain rfl : j = T := by omega
          obtain ⟨n3, n4, n5⟩ := clsAt_noword (l := l) (m := i + j) (fun x hx => tw_end (p := wordB) (d := l.drop i) (by rw [← HTT.out, List.getElem?_drop]; exact hx))
          generalize clsAt l (i + j) = q at n3 n4 n5 ⊢
          have q3 : ((q : Int) == 3) = false := by simp; omega
          have q4 : ((q : Int) == 4) = false := by simp; omega
          have q5 : ((q : Int) == 5) = false := by simp; omega
          by_cases h24 : 24 < j
          · have h24' : (24 : Int) < m - i := by omega
            clear hm n3 n4 n5
            go_wp2_with fail
            go_meet
            case rel => exact ⟨1, j, 0, 2, by rw [HM.out], ⟨c, r, HDR.out, HL.out.1, HL.out.2.1, by omega, .inr ⟨by omega, by rw [HL.out.2.2.2, if_pos (by have := HTW.out; omega)]⟩⟩, ((Below.refl _ _).alloc (lR _) _), heap_alloc_new _ _⟩
          · have h24' : ¬ (24 : Int) < m - i := by omega
            clear hm n3 n4 n5
            go_wp2_with fail
            go_meet
            case rel => exact ⟨1, j, 0, 0, by rw [HM.out], ⟨c, r, HDR.out, HL.out.1, HL.out.2.1, by omega, .inl ⟨rfl, by rw [HL.out.2.2.2, if_neg (by have := HTW.out; omega), ← HTW.out]⟩⟩, ((Below.refl _ _).alloc (lR _) _), heap_alloc_new _ _⟩
     · have HL := Hi (lex_digit r HF.out HK.out)
       have htw := tw_cons (p := digitB) HDR.out HL.out.2.2.1
       have hT1 := tw_le (p := digitB) l i
       obtain ⟨T, hTT⟩ : ∃ T, T = ((l.drop i).takeWhile digitB).length := ⟨_, rfl⟩
       rw [← hTT] at htw hT1
       have HTW := Hi htw
       have HTT := Hi hTT
       clear htw hTT
       go_wp2_with fail
       go_loopw [4] (fun v wr' => wr' = (wA.alloc (.cells #[.int .i64 0, .string ⟨#[]⟩, .int .i64 0, .int .i64 i, .int .i64 0] 144)) ∧ ∃ (j : Nat) (m : Int), j ≤ T ∧ m = ((i + j : Nat) : Int) ∧ v = .int .i64 m) (fun v _ => l.length + 1 - (intOf v).toNat)
       case atStart => exact ⟨rfl, 0, i, Nat.zero_le _, rfl, rfl⟩
       case round =>
        obtain ⟨rfl, j, m, hj, hm, rfl⟩ := hrel
        have hm0 : (0 : Int) ≤ m := by omega
        have hm1 : m ≤ 20000 := by omega
        have HM := Hi hm
        by_cases hjT : j < T
        · obtain ⟨x, hx, hxp⟩ := tw_lt (p := digitB) (d := l.drop i) (j := j) (by rw [← HTT.out]; exact hjT)
          rw [List.getElem?_drop] at hx
          have hcx := cls_eq hx
          have hil := (List.getElem?_eq_some_iff.1 hx).1
          have hmn : m < l.length := by omega
          rw [cls_digit hxp] at hcx
          have HCX := Hi hcx
          clear hx hxp hm hcx
          go_wp2_with fail
          refine (at_i l bt bc _ (HTA.out _).text (HTA.out _).tab _ (i + j) HM.out (by omega)).mono ?_
          rintro e w1 ⟨rfl, rfl⟩
          rw [HCX.out]
          go_wp2_with fail
          go_roundw
          case rel =>
           repeat apply Exists.intro
           exact ⟨⟨trivial, j + 1, m + 1, by omega, by have := HM.out; omega, rfl⟩, rfl⟩
          case measure => have := HM.out; simp [intOf]; omega
        · obtain rfl : j = T := by omega
          have hnd : ∀ x, l[i + j]? = some x → digitB x = false := fun x hx => tw_end (p := digitB) (d := l.drop i) (by rw [← HTT.out, List.getElem?_drop]; exact hx)
          have hn4 : clsAt l (i + j) ≠ 4 := by
           cases hx : l[i + j]? with
           | none => simp [clsAt, hx]
           | some x => rw [cls_eq hx]; exact cls_nodigit (hnd x hx)
          have e : i + j = i + 1 + (r.takeWhile digitB).length := by have := HTW.out; omega
          have haw := any_word (k := (r.takeWhile digitB).length) HDR.out (by rw [← e]; exact hnd)
          rw [← e] at haw
          have HAW := Hi haw
          have him : (i : Int) ≤ m := by omega
          have hml : m ≤ l.length := by have := HLEN.out; omega
          obtain ⟨q, hq⟩ : ∃ q, q = clsAt l (i + j) := ⟨_, rfl⟩
          rw [← hq] at hn4
          have HQ := Hi hq
          have q4 : ((q : Int) == 4) = false := by simp; omega
          clear hnd haw hq e hm
          go_wp2_with fail
          refine (at_i l bt bc _ (HTA.out _).text (HTA.out _).tab _ (i + j) HM.out (by omega)).mono ?_
          rintro e w1 ⟨rfl, rfl⟩
          rw [← HQ.out]
          go_wp2_with fail
          refine (at_i l bt bc _ (HTA.out _).text (HTA.out _).tab _ (i + j) HM.out (by omega)).mono ?_
          rintro e w1 ⟨rfl, rfl⟩
          rw [← HQ.out]
          by_cases h7 : 7 < j
          · have h7' : (7 : Int) < m - i := by have := HM.out; omega
            clear hn4
            go_wp2_with fail
            go_meet
            case rel => exact ⟨2, j, 0, 4, by rw [HM.out], ⟨c, r, HDR.out, HL.out.1, HL.out.2.1, by omega, .inr ⟨by omega, by rw [HL.out.2.2.2, if_pos (.inl (by have := HTW.out; omega))]⟩⟩, ((Below.refl _ _).alloc (lR _) _), heap_alloc_new _ _⟩
          · have h7' : ¬ (7 : Int) < m - i := by have := HM.out; omega
            by_cases hq3 : q = 3
            · have q3 : ((q : Int) == 3) = true := by simp; omega
              have HQ3 := Hi hq3
              clear hn4 hq3
              go_wp2_with fail
              go_meet
              case rel => exact ⟨2, j, 0, 4, by rw [HM.out], ⟨c, r, HDR.out, HL.out.1, HL.out.2.1, by omega, .inr ⟨by omega, by rw [HL.out.2.2.2, if_pos (.inr (by rw [HAW.out, ← HQ.out, HQ3.out]; rfl))]⟩⟩, ((Below.refl _ _).alloc (lR _) _), heap_alloc_new _ _⟩
            · have q3 : ((q : Int) == 3) = false := by simp; omega
              by_cases hq5 : q = 5
              · have q5 : ((q : Int) == 5) = true := by simp; omega
                have HQ5 := Hi hq5
                clear hn4 hq3 hq5
                go_wp2_with fail
                go_meet
                case rel => exact ⟨2, j, 0, 4, by rw [HM.out], ⟨c, r, HDR.out, HL.out.1, HL.out.2.1, by omega, .inr ⟨by omega, by rw [HL.out.2.2.2, if_pos (.inr (by rw [HAW.out, ← HQ.out, HQ5.out]; rfl))]⟩⟩, ((Below.refl _ _).alloc (lR _) _), heap_alloc_new _ _⟩
              · have q5 : ((q : Int) == 5) = false := by simp; omega
                have HNW : Hid (¬ (7 < (r.takeWhile digitB).length + 1 ∨ ((r.drop (r.takeWhile digitB).length).head?.any wordB) = true)) := Hi (by
                 rw [HAW.out, ← HQ.out]
                 have := HTW.out
                 simp
                 omega)
                clear hn4 hq3 hq5
                go_wp2_with fail
                refine (Tryz.strconv_Atoi _ (valN (c :: r.takeWhile digitB) : Int) ?_ ?_ _).mono ?_
                · rw [text_slice]
                  have := HM.out
                  have hmn : m.toNat - i = j := by omega
                  simp [ByteArray.size, hmn]; omega
                · rw [text_slice]
                  have := HM.out
                  have hmn : m.toNat - i = (r.takeWhile digitB).length + 1 := by have := HTW.out; omega
                  rw [hmn, tw_take HDR.out]
                  exact atoi_valN c _ (digits_all HL.out.2.2.1)
                rintro e w2 ⟨rfl, t, rfl⟩
                have hb2 := below_bytes (wA.alloc (.cells #[.int .i64 2, .string ⟨#[]⟩, .int .i64 0, .int .i64 i, .int .i64 0] 144)) 5 t
                revert hb2
                generalize Lib.bytesWorld (wA.alloc (.cells #[.int .i64 2, .string ⟨#[]⟩, .int .i64 0, .int .i64 i, .int .i64 0] 144)) 5 t = w2
                intro hb2
                have hfb := (hb2.block wA.heap.size (by simp)).trans (heap_alloc_new wA _)
                have d2 := cOb (o := 2) hfb rfl
                have g2 := fOb (o := 2) hfb
                have dl := lHp hfb
                have HFB := Hi hfb
                have HB2 : Hid (Below wA.heap.size wA w2) := Hi (((Below.refl _ _).alloc (lR _) _).trans (hb2.mono (by simp)))
                clear hb2 hfb
                go_wp2_with fail
                go_meet
                case rel =>
                 refine ⟨2, j, valN (c :: r.takeWhile digitB), 0, by rw [HM.out], ⟨c, r, HDR.out, HL.out.1, HL.out.2.1, by omega, .inl ⟨rfl, by rw [HL.out.2.2.2, if_neg HNW.out, ← HTW.out]⟩⟩, HB2.out.setCell (lR _) _, ?_⟩
                 rw [rSc HFB.out]
                 rfl
     · go_wp2_with fail
       go_meet
       case rel => exact ⟨0, 0, 0, 3, rfl, ⟨c, r, HDR.out, (lex_other r HF.out (.inr HK.out)).1, (lex_other r HF.out (.inr HK.out)).2.1, hi, .inr ⟨by omega, (lex_other r HF.out (.inr HK.out)).2.2⟩⟩, ((Below.refl _ _).alloc (lR _) _), heap_alloc_new _ _⟩
     · go_wp2_with fail
       refine (at_i l bt bc _ (HTA.out _).text (HTA.out _).tab _ i rfl (by omega)).mono ?_
       rintro e w1 ⟨rfl, rfl⟩
       rw [HCK.out, HK.out]
       go_wp2_with fail
       go_meet
       case rel => exact ⟨3, 1, 0, 0, by go_num, ⟨c, r, HDR.out, (lex_sym r HF.out HK.out).1, (lex_sym r HF.out HK.out).2.1, by omega, .inl ⟨rfl, (lex_sym r HF.out HK.out).2.2⟩⟩, ((Below.refl _ _).alloc (lR _) _), heap_alloc_new _ _⟩
     · have HL := Hi (lex_pre r HF.out HK.out)
       go_wp2_with fail
       refine (at_i l bt bc _ (HTA.out _).text (HTA.out _).tab _ i rfl (by omega)).mono ?_
       rintro e w1 ⟨rfl, rfl⟩
       rw [HCK.out, HK.out]
       by_cases hi1 : i + 1 < l.length
       · obtain ⟨x, hx⟩ := gLt hi1
         have hb := byte_at hx
         have hrh : r.head? = some x := by
          have : (l.drop i)[1]? = some x := by rw [List.getElem?_drop]; exact hx
          rw [HDR.out] at this
          rw [List.head?_eq_getElem?]
          exact this
         have hi2 : (i : Int) + 1 < l.length := by omega
         have HX1 := Hi hx
         by_cases h61 : x = 61
         · have hx61 : ((x.toNat : Int) == 61) = true := by rw [h61]; rfl
           have H61 : Hid (r.head? = some 61) := Hi (by rw [hrh, h61])
           clear hrh h61 hx
           go_wp2_with fail
           go_meet
           case rel => exact ⟨3, 2, 0, 0, by go_num, ⟨c, r, HDR.out, HL.out.1, HL.out.2.1, by omega, .inl ⟨rfl, by rw [HL.out.2.2, if_pos H61.out]⟩⟩, ((Below.refl _ _).alloc (lR _) _), heap_alloc_new _ _⟩
         · have hx61 : ((x.toNat : Int) == 61) = false := by
             have : x.toNat ≠ 61 := fun e => h61 (nat_byte e)
             simp; omega
           have H61 : Hid (¬ r.head? = some 61) := Hi (by rw [hrh]; intro e; injection e with e; exact h61 e)
           clear hrh h61 hx
           go_wp2_with fail
           go_meet
           case rel => exact ⟨3, 1, 0, 0, by go_num, ⟨c, r, HDR.out, HL.out.1, HL.out.2.1, by omega, .inl ⟨rfl, by rw [HL.out.2.2, if_neg H61.out]⟩⟩, ((Below.refl _ _).alloc (lR _) _), heap_alloc_new _ _⟩
       · have hi2 : ¬ (i : Int) + 1 < l.length := by omega
         have H61 : Hid (¬ r.head? = some 61) := Hi (by
          have : r = [] := by have := HLEN.out; exact List.length_eq_zero_iff.1 (by omega)
          rw [this]; simp)
         go_wp2_with fail
         go_meet
         case rel => exact ⟨3, 1, 0, 0, by go_num, ⟨c, r, HDR.out, HL.out.1, HL.out.2.1, by omega, .inl ⟨rfl, by rw [HL.out.2.2, if_neg H61.out]⟩⟩, ((Below.refl _ _).alloc (lR _) _), heap_alloc_new _ _⟩
     · have HL := Hi (lex_bang r HF.out HK.out)
       go_wp2_with fail
       refine (at_i l bt bc _ (HTA.out _).text (HTA.out _).tab _ i rfl (by omega)).mono ?_
       rintro e w1 ⟨rfl, rfl⟩
       rw [HCK.out, HK.out]
       by_cases hi1 : i + 1 < l.length
       · obtain ⟨x, hx⟩ := gLt hi1
         have hb := byte_at hx
         have hrh : r.head? = some x := by
          have : (l.drop i)[1]? = some x := by rw [List.getElem?_drop]; exact hx
          rw [HDR.out] at this
          rw [List.head?_eq_getElem?]
          exact this
         have hi2 : (i : Int) + 1 < l.length := by omega
         have HX1 := Hi hx
         by_cases h61 : x = 61
         · have hx61 : ((x.toNat : Int) == 61) = true := by rw [h61]; rfl
           have H61 : Hid (r.head? = some 61) := Hi (by rw [hrh, h61])
           clear hrh h61 hx
           go_wp2_with fail
           go_meet
           case rel => exact ⟨3, 2, 0, 0, by go_num, ⟨c, r, HDR.out, HL.out.1, HL.out.2.1, by omega, .inl ⟨rfl, by rw [HL.out.2.2, if_pos H61.out]⟩⟩, ((Below.refl _ _).alloc (lR _) _), heap_alloc_new _ _⟩
         · have hx61 : ((x.toNat : Int) == 61) = false := by
             have : x.toNat ≠ 61 := fun e => h61 (nat_byte e)
             simp; omega
           have H61 : Hid (¬ r.head? = some 61) := Hi (by rw [hrh]; intro e; injection e with e; exact h61 e)
           clear hrh h61 hx
           go_wp2_with fail
           go_meet
           case rel => exact ⟨3, 1, 0, 3, by go_num, ⟨c, r, HDR.out, HL.out.1, HL.out.2.1, by omega, .inr ⟨by omega, by rw [HL.out.2.2, if_neg H61.out]⟩⟩, ((Below.refl _ _).alloc (lR _) _), heap_alloc_new _ _⟩
       · have hi2 : ¬ (i : Int) + 1 < l.length := by omega
         have H61 : Hid (¬ r.head? = some 61) := Hi (by
          have : r = [] := by have := HLEN.out; exact List.length_eq_zero_iff.1 (by omega)
          rw [this]; simp)
         go_wp2_with fail
         go_meet
         case rel => exact ⟨3, 1, 0, 3, by go_num, ⟨c, r, HDR.out, HL.out.1, HL.out.2.1, by omega, .inr ⟨by omega, by rw [HL.out.2.2, if_neg H61.out]⟩⟩, ((Below.refl _ _).alloc (lR _) _), heap_alloc_new _ _⟩
    case rest =>
     obtain ⟨kind, k, n, err, rfl, hst, hbl, hfb⟩ := hcut
     have hik : i + k ≤ l.length := by obtain ⟨_, _, -, -, -, h, -⟩ := hst; exact h
     obtain ⟨m, hm⟩ : ∃ m : Int, m = ((i + k : Nat) : Int) := ⟨_, rfl⟩
     rw [← hm]
     have him : (i : Int) ≤ m := by omega
     have hml : m ≤ l.length := by omega
     have hm0 : (0 : Int) ≤ m := by omega
     have HM := Hi hm
     have HST := Hi hst
     have HBL := Hi hbl
     have HTC := Hi (HTB.out.mid (Mid.of_below (hbl.mono HTB.out.le)))
     have hct2 := HTC.out.text
     have g1 := fOb (o := 1) hfb
     have d1 := cOb (o := 1) hfb rfl
     have dl := lHp hfb
     have HFB := Hi hfb
     have HLEN := Hi hlen
     have HCK := Hi hck
     clear hm hst hbl hfb hlen hck hik hct hca
     go_upto_region 38 with fail
     have hmn : m.toNat - i = k := by have := HM.out; omega
     rw [text_slice, hmn]
     have hfb2 : (wc.setCell ⟨wA.heap.size, 1, none⟩ (vs ((l.drop i).take k))).heap[wA.heap.size]? = some (.cells #[.int .i64 kind, vs ((l.drop i).take k), .int .i64 n, .int .i64 i, .int .i64 err] 144 (0, 0)) := by
      rw [rSc HFB.out]; rfl
     have hbl2 : Below wA.heap.size wA (wc.setCell ⟨wA.heap.size, 1, none⟩ (vs ((l.drop i).take k))) := HBL.out.setCell (lR _) _
     clear hmn d1 g1 hct2 HFB HBL
     revert hfb2 hbl2
     generalize wc.setCell ⟨wA.heap.size, 1, none⟩ (vs ((l.drop i).take k)) = W2
     intro hfb2 hbl2
     have hJ2 := HJ.out _ _ _ _ HJT.out (below_grown hbl2) (fun r e => by cases e)
     obtain ⟨fn, tmps, assign, body, hy, hR⟩ := HY.out (noErr ts) (⟨kind, (l.drop i).take k, n, i⟩, err) W2 hJ2 (by simp [noErr]; omega)
     simp only [encT] at hy
     have e0 := cOb (o := 0) hfb2 rfl
     have e1 := cOb (o := 1) hfb2 rfl
     have e2 := cOb (o := 2) hfb2 rfl
     have e3 := cOb (o := 3) hfb2 rfl
     have e4 := cOb (o := 4) hfb2 rfl
     have dl2 := lHp hfb2
     have HFB2 := Hi hfb2
     have HBL2 := Hi hbl2
     clear hfb2 hbl2 hJ2
     refine (wpIn_wide (n := 8)).1 ?_
     gi_wp2
     refine hR.mono ?_
     clear hy hR
     rintro e W3 (⟨rfl, hJ3, hk3⟩ | ⟨rfl, hJx3⟩)
     · have hfb3 := hk3.2 _ _ _ HFB2.out
       have d0 := cOb (o := 0) hfb3 rfl
       have d4 := cOb (o := 4) hfb3 rfl
       have dl3 := lHp hfb3
       have HJ3 := Hi hJ3
       have HK3 := Hi hk3
       clear hJ3 hk3 hfb3 e0 e1 e2 e3 e4 dl2
       by_cases he : err = 0
       · have z0 : ((err : Int) != 0) = false := by simp; omega
         have HE := Hi he
         clear he
         gi_wp2
         go_wp2_with fail
         obtain ⟨hk1, hk2, hk3⟩ := step_ok (by have := HST.out; rw [HE.out] at this; exact this) HSC.out
         have hJ' : J (noErr (ts ++ [⟨kind, (l.drop i).take k, n, i⟩])) W3 := by
          rw [← noErr_snoc]
          have := HJ3.out
          rw [HE.out] at this
          exact this
         refine ⟨⟨i + k, ts ++ [⟨kind, (l.drop i).take k, n, i⟩], hk2, by simp; omega, by rw [HM.out], hk3, hJ', ?_⟩, by have := HM.out; simp [intOf]; omega⟩
         exact HB.out.trans ((Mid.of_below (HBL2.out.mono HTB.out.le)).trans HK3.out.1)
       · have z0 : ((err : Int) != 0) = true := by simp; omega
         have HE := Hi he
         clear he
         gi_wp2
         go_wp2_with fail
         rw [Exit.noGoto_ret]
         refine bodyPost_ret (results_none rfl _ _ _) rfl ⟨⟨_, rfl⟩, .inl ⟨_, .inr ⟨ts, _, err, rfl, HE.out, step_err HST.out HE.out HSC.out⟩, HJ3.out⟩⟩
     · have HJX := Hi hJx3
       clear hJx3 e0 e1 e2 e3 e4 dl2
       gi_wp2
       go_wp2_with fail
       rw [Exit.noGoto_ret]
       refine bodyPost_ret (results_none rfl _ _ _) rfl ⟨⟨_, rfl⟩, .inr ⟨_, ?_, HJX.out⟩⟩
       by_cases he : err = 0
       · subst he
         obtain ⟨hk1, hk2, hk3⟩ := step_ok HST.out HSC.out
         exact .inl ⟨_, _, _, noErr_snoc _ _, hk3⟩
       · exact .inr ⟨ts, _, err, rfl, he, step_err HST.out he HSC.out⟩
  · have hlt2 : ¬ (i : Int) < l.length := by omega
    go_wp2_with fail
    go_end0
    refine ⟨⟨_, rfl⟩, .inl ⟨_, .inl ⟨ts, rfl, ?_⟩, HJT.out⟩⟩
    rw [HSC.out, List.drop_of_length_le (by omega), sc_nil]
    simp
end Go.Proofs.YtbicmjmcdnkjhaaGreatDoor
