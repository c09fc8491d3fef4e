/- Both models of the parser answer alike: the small functions. Both models of the parser answer alike: items, braces, names, the whole. Both models of the parser answer alike: braces, names, the whole. -/
import Derived.Test.YtcekampdldkjlaaGreatDoorUSz
set_option linter.unusedVariables false
set_option linter.unusedSimpArgs false
namespace Go.Proofs.YtcekampdldkjlaaGreatDoor
/- what a lexer's token is like -/
structure GT (t : Tok) : Prop where
  kind : t.kind = 1 ∨ t.kind = 2 ∨ t.kind = 3
  num : t.n ≤ 9999999
  sym : t.kind = 3 → ∀ c r, t.text = c :: r → letterB c = false
theorem gt_of {l : List UInt8} {ts : List Tok} (h : lexF l = .ok ts) : ∀ t ∈ ts, GT t := by
  intro t ht
  refine ⟨(tok_fit h t ht).1, tok_n h t ht, fun hk c r hc => ?_⟩
  have hl := lexF_ok h
  have hm : t ∈ (sc l 0).1 := by rw [hl.1]; exact ht
  obtain ⟨c', r', h0, h1, h2, h3⟩ := sc_ok l 0 t hm
  rw [hc] at h0
  cases h0
  rw [hk] at h3
  cases hb : letterB c with
  | false => rfl
  | true =>
    exfalso
    unfold lexOne at h3
    rw [if_pos hb] at h3
    split at h3
    · cases h3
    · injection h3 with h3; injection h3 with h3 _; exact absurd h3 (by decide)
def Okk (ts : List Tok) (s : Rs) (l : List Tok) : Prop := s.e = 0 ∧ s.i ≤ ts.length ∧ ts.drop s.i = l
def Bad (fin : Nat) (s : Rs) (e : Nat) (q : List Tok) : Prop := s.e = e ∧ e ≠ 0 ∧ s.a = (posAt fin q : Nat)
def Keep (s s' : Rs) : Prop := s.e ≠ 0 → s'.e = s.e ∧ s'.a = s.a
theorem Keep.refl (s : Rs) : Keep s s := fun _ => ⟨rfl, rfl⟩
theorem Keep.trans {a b c : Rs} (h : Keep a b) (k : Keep b c) : Keep a c := fun hn => by
  obtain ⟨h1, h2⟩ := h hn
  obtain ⟨k1, k2⟩ := k (by rw [h1]; exact hn)
  exact ⟨k1.trans h1, k2.trans h2⟩
theorem Keep.flt (s : Rs) (e : Nat) (a : Int) : Keep s (s.flt e a) := fun hn => by unfold Rs.flt; rw [if_neg hn]; exact ⟨rfl, rfl⟩
theorem Keep.next (s : Rs) : Keep s s.next := fun _ => ⟨rfl, rfl⟩
theorem Keep.ite {c : Prop} [Decidable c] {s a b : Rs} (h : Keep s a) (k : Keep s b) : Keep s (if c then a else b) := by
  split
  · exact h
  · exact k
theorem Keep.fail (ts : List Tok) (fin : Nat) (s : Rs) : Keep s (failA ts fin s) := by
  unfold failA
  split <;> exact Keep.flt _ _ _
theorem Keep.must (ts : List Tok) (fin : Nat) (s : Rs) (w : List UInt8) : Keep s (mustA ts fin s w) := Keep.ite (Keep.next s) (Keep.fail ts fin s)
theorem Keep.name (ts : List Tok) (fin : Nat) (s : Rs) : Keep s (nameA ts fin s).2 := by
  unfold nameA
  split
  · exact Keep.next s
  · exact Keep.fail ts fin s
theorem Keep.number (ts : List Tok) (fin : Nat) (s : Rs) (m : Nat) : Keep s (numberA ts fin s m).2 := by
  unfold numberA
  split
  · exact Keep.ite ((Keep.next s).trans (Keep.flt _ _ _)) (Keep.next s)
  · exact Keep.fail ts fin s
theorem Keep.one (ts : List Tok) (fin : Nat) (s : Rs) (ws : List (List UInt8)) : Keep s (oneA ts fin s ws).2 := by
  unfold oneA
  split
  · exact Keep.next s
  · exact Keep.fail ts fin s
theorem Keep.combine (st : Stack) (op k : Nat) (a : Int) (s : Rs) : Keep s (combineA st op k a s).2 := by
  unfold combineA
  split
  · exact Keep.refl s
  · split
    · exact Keep.flt _ _ _
    · exact Keep.ite (Keep.flt _ _ _) (Keep.refl s)
theorem Keep.groupB (a : Int) (y : Nat × Rs) : Keep y.2 (groupB a y) := Keep.ite (Keep.flt _ _ _) (Keep.refl _)
theorem Keep.group (ts : List Tok) (fin : Nat) (st : Stack) (o1 o2 : Nat) (s : Rs) : Keep s (groupA ts fin st o1 o2 s).2 :=
  (((Keep.one ts fin s _).trans (Keep.number ts fin _ _)).trans (Keep.groupB _ _)).trans (Keep.combine _ _ _ _ _)
theorem Keep.item (ts : List Tok) (fin : Nat) (st : Stack) (s : Rs) : Keep s (itemA ts fin st s).2 := by
  unfold itemA
  split
  · exact Keep.next s
  split
  · exact Keep.next s
  split
  · exact (Keep.next s).trans (Keep.combine _ _ _ _ _)
  split
  · exact Keep.group _ _ _ _ _ _
  split
  · exact (Keep.name ts fin s).trans (Keep.next _)
  · exact ((Keep.name ts fin s).trans (Keep.number ts fin _ _)).trans (Keep.one ts fin _ _)
theorem Keep.sitem (ts : List Tok) (fin : Nat) (st : Stack) (s : Rs) : Keep s (sitemA ts fin st s).2 := by
  unfold sitemA
  split
  · exact Keep.next s
  split
  · exact Keep.next s
  split
  · exact Keep.group _ _ _ _ _ _
  split
  · exact (Keep.number ts fin s _).trans (Keep.must _ _ _ _)
  · exact (Keep.name ts fin s).trans (Keep.one ts fin _ _)
theorem Keep.some (starts : Bool) (ts : List Tok) (fin : Nat) (st : Stack) (s : Rs) : Keep s (someItemA starts ts fin st s).2 := by
  unfold someItemA
  split
  · exact Keep.sitem ts fin st s
  · exact Keep.item ts fin st s
theorem Keep.loop (starts : Bool) (ts : List Tok) (fin : Nat) : ∀ (f : Nat) (st : Stack) (s : Rs), Keep s (loopA starts ts fin f st s).2.1
  | 0, st, s => Keep.refl s
  | f + 1, st, s => by
    unfold loopA
    split
    · exact Keep.refl s
    split
    · exact Keep.fail ts fin s
    split
    · exact Keep.flt _ _ _
    · exact (Keep.some starts ts fin st s).trans (Keep.loop starts ts fin f _ _)
theorem Keep.top (ts : List Tok) (fin : Nat) (x : Stack × Rs × Bool) : Keep x.2.1 (topA ts fin x).2 := by
  unfold topA
  have h : Keep x.2.1 (mustA ts fin (if seesA ts x.2.1 [125] = true ∧ x.1.length ≠ 1 then failA ts fin x.2.1 else x.2.1) [125]) := (Keep.ite (Keep.fail ts fin _) (Keep.refl _)).trans (Keep.must ts fin _ _)
  generalize mustA ts fin (if seesA ts x.2.1 [125] = true ∧ x.1.length ≠ 1 then failA ts fin x.2.1 else x.2.1) [125] = m at h
  split
  · exact Keep.refl _
  split
  · exact h
  · exact h
theorem Keep.braces (starts : Bool) (ts : List Tok) (fin : Nat) (s : Rs) : Keep s (bracesA starts ts fin s).2 := ((Keep.must ts fin s _).trans (Keep.loop starts ts fin 201 [] _)).trans (Keep.top ts fin _)
theorem Keep.once (l : List (List UInt8)) (t : Tok × Rs) : Keep t.2 (onceA l t) := Keep.ite (Keep.flt _ _ _) (Keep.refl _)
theorem Keep.full (l : List (List UInt8)) (a : Int) (s : Rs) : Keep s (fullA l a s) := Keep.ite (Keep.flt _ _ _) (Keep.refl _)
theorem Keep.namesLoop (ts : List Tok) (fin : Nat) : ∀ (f : Nat) (l : List (List UInt8)) (s : Rs), Keep s (namesL ts fin f l s).2
  | 0, l, s => Keep.refl s
  | f + 1, l, s => by
    unfold Go.Proofs.YtcekampdldkjlaaGreatDoor.namesL
    split
    · exact Keep.refl s
    · exact (((Keep.name ts fin s).trans (Keep.once l _)).trans (Keep.full l _ _)).trans (Keep.namesLoop ts fin f _ _)
theorem Keep.names (ts : List Tok) (fin : Nat) (s : Rs) : Keep s (namesA ts fin s).2 := ((Keep.must ts fin s _).trans (Keep.namesLoop ts fin 22 [] _)).trans (Keep.must ts fin _ _)
theorem Keep.part {α : Type} (ts : List Tok) (w : List UInt8) (d : α) (P : Rs → α × Rs) (s : Rs) (h : ∀ s, Keep s (P s).2) : Keep s (partA ts w d P s).2 := by
  unfold partA
  split
  · exact (Keep.next s).trans (h _)
  · exact Keep.refl s
theorem Keep.tree (starts : Bool) (ts : List Tok) (fin : Nat) (s : Rs) : Keep s (treeA starts ts fin s).2 := Keep.braces starts ts fin s
theorem Keep.kind (ts : List Tok) (fin : Nat) (s : Rs) : Keep s (kindA ts fin s).2 := by
  unfold kindA
  split
  · exact (Keep.next s).trans (Keep.name ts fin _)
  · exact (((Keep.must ts fin s _).trans (Keep.name ts fin _)).trans (Keep.must ts fin _ _)).trans (Keep.number ts fin _ _)
theorem Keep.tail (ts : List Tok) (fin : Nat) (s : Rs) : Keep s (tailA ts fin s).2 := (((Keep.must ts fin s _).trans (Keep.one ts fin _ _)).trans (Keep.name ts fin _)).trans (Keep.must ts fin _ _)
theorem Keep.end (ts : List Tok) (fin : Nat) (s : Rs) : Keep s (endA ts fin s) := Keep.ite (Keep.fail ts fin s) (Keep.refl s)
theorem Bad.keep {fin e : Nat} {s s' : Rs} {q : List Tok} (h : Bad fin s e q) (k : Keep s s') : Bad fin s' e q := by
  obtain ⟨h1, h2, h3⟩ := h
  obtain ⟨k1, k2⟩ := k (by rw [h1]; exact h2)
  exact ⟨k1.trans h1, h2, k2.trans h3⟩
/- the two models answer alike -/
def Rel {α : Type} (ts : List Tok) (fin : Nat) (F : R α) (x : α) (s : Rs) : Prop := match F with | .ok (a, r) => a = x ∧ Okk ts s r | .error (e, q) => Bad fin s e q
theorem Rel.bind {α β : Type} {ts : List Tok} {fin : Nat} {F : R α} {G : α → List Tok → R β} {x : α} {y : β} {s1 s2 : Rs} (h : Rel ts fin F x s1) (k : ∀ r, Okk ts s1 r → Rel ts fin (G x r) y s2) (hk : Keep s1 s2) : Rel ts fin (bindR F G) y s2 := by
  unfold bindR
  cases F with
  | error e =>
    obtain ⟨e, q⟩ := e
    exact Bad.keep h hk
  | ok v =>
    obtain ⟨a, r⟩ := v
    obtain ⟨rfl, h2⟩ := h
    exact k r h2
theorem Rel.err {α : Type} {ts : List Tok} {fin : Nat} {x : α} {s : Rs} {e : Nat} {q : List Tok} (h : Bad fin s e q) : Rel ts fin (.error (e, q)) x s := h
theorem Rel.ok {α : Type} {ts : List Tok} {fin : Nat} {x : α} {s : Rs} {r : List Tok} (h : Okk ts s r) : Rel ts fin (.ok (x, r)) x s := ⟨rfl, h⟩
theorem Okk.get {ts : List Tok} {s : Rs} {l : List Tok} (h : Okk ts s l) : ts[s.i]? = l.head? := by rw [← h.2.2, List.head?_drop]
theorem Okk.next {ts : List Tok} {s : Rs} {t : Tok} {r : List Tok} (h : Okk ts s (t :: r)) : Okk ts s.next r := by
  have hg := h.get
  obtain ⟨h1, h2, h3⟩ := h
  refine ⟨h1, (List.getElem?_eq_some_iff.1 hg).1, ?_⟩
  show ts.drop (s.i + 1) = r
  rw [← List.drop_drop, h3]
  rfl
theorem Okk.mem {ts : List Tok} {s : Rs} {l : List Tok} (h : Okk ts s l) : ∀ t ∈ l, t ∈ ts := fun t ht => by rw [← h.2.2] at ht; exact List.mem_of_mem_drop ht
theorem seesA_cons {ts : List Tok} {s : Rs} {t : Tok} {r : List Tok} (h : Okk ts s (t :: r)) (w : List UInt8) : seesA ts s w = (t.kind != 2 && t.text == w) := by
  unfold seesA
  rw [h.get, h.1]
  rfl
theorem seesA_nil {ts : List Tok} {s : Rs} (h : Okk ts s []) (w : List UInt8) : seesA ts s w = false := by
  unfold seesA
  rw [h.get, h.1]
  rfl
theorem isWord_eq {t : Tok} (h : GT t) : isWord t = (t.kind != 2) := by
  unfold isWord
  rcases h.kind with h | h | h <;> rw [h] <;> rfl
theorem sees_rel {ts : List Tok} (hg : ∀ t ∈ ts, GT t) {s : Rs} {l : List Tok} (h : Okk ts s l) (w : List UInt8) : seesA ts s w = seesF [w] l := by
  cases l with
  | nil => exact seesA_nil h w
  | cons t r =>
    rw [seesA_cons h, show seesF [w] (t :: r) = (isWord t && [w].contains t.text) from rfl, isWord_eq (hg t (h.mem t (by simp)))]
    cases hk : t.kind != 2 with
    | false => rfl
    | true =>
      rw [Bool.true_and, Bool.true_and, Bool.eq_iff_iff]
      simp
theorem seesF_cons {ws : List (List UInt8)} {l : List Tok} (h : seesF ws l = true) : ∃ t r, l = t :: r := by
  cases l with
  | nil => cases h
  | cons t r => exact ⟨t, r, rfl⟩
theorem fail_rel {α : Type} {ts : List Tok} {fin : Nat} {s : Rs} {l : List Tok} (x : α) (h : Okk ts s l) : Rel ts fin (failR l) x (failA ts fin s) := by
  unfold failA
  rw [h.get]
  cases l with
  | nil => exact ⟨by simp [Rs.flt, h.1, failC], by simp [failC], by simp [Rs.flt, h.1, posAt]⟩
  | cons t r => exact ⟨by simp [Rs.flt, h.1, failC], by simp [failC], by simp [Rs.flt, h.1, posAt]⟩
theorem is_rel {α : Type} {ts : List Tok} (hg : ∀ t ∈ ts, GT t) {fin : Nat} {s : Rs} {l : List Tok} {w : List UInt8} {y n : List Tok → R α} {x1 x2 : α} {s1 s2 : Rs} (h : Okk ts s l) (hy : ∀ t r, l = t :: r → seesA ts s w = true → Okk ts s.next r → Rel ts fin (y r) x1 s1) (hn : seesA ts s w = false → Rel ts fin (n l) x2 s2) : Rel ts fin (isF w l y n) (if seesA ts s w = true then x1 else x2) (if seesA ts s w = true then s1 else s2) := by
  unfold isF
  rw [sees_rel hg h w] at *
  cases hs : seesF [w] l with
  | true =>
    obtain ⟨t, r, rfl⟩ := seesF_cons hs
    simp only [if_true, List.tail_cons]
    exact hy t r rfl hs h.next
  | false =>
    simp only [Bool.false_eq_true, if_false]
    exact hn hs
theorem must_rel {ts : List Tok} (hg : ∀ t ∈ ts, GT t) (fin : Nat) {s : Rs} {l : List Tok} (w : List UInt8) (h : Okk ts s l) : Rel ts fin (mustF w l) () (mustA ts fin s w) := by
  have := is_rel (fin := fin) (x1 := ()) (x2 := ()) (s1 := s.next) (s2 := failA ts fin s) (y := fun r => .ok ((), r)) (n := failR) (w := w) hg h (fun t r _ _ hr => Rel.ok hr) (fun _ => fail_rel () h)
  simpa [mustF, mustA] using this
theorem name_rel {ts : List Tok} (fin : Nat) {s : Rs} {l : List Tok} (h : Okk ts s l) : Rel ts fin (nameF l) (nameA ts fin s).1.text (nameA ts fin s).2 := by
  unfold nameA namedA tokA
  rw [h.get, h.1]
  cases l with
  | nil => exact fail_rel _ h
  | cons t r =>
    unfold nameF
    simp only [List.head?_cons, beq_self_eq_true, Bool.true_and]
    cases hk : (t.kind == 1 && !keyF t.text) with
    | true => exact Rel.ok h.next
    | false => exact fail_rel _ h
theorem name_tok {ts : List Tok} (fin : Nat) {s : Rs} {l : List Tok} {x : List UInt8} {r : List Tok} (h : Okk ts s l) (hn : nameF l = .ok (x, r)) : ∃ t, l = t :: r ∧ nameA ts fin s = (t, s.next) ∧ t.text = x := by
  unfold nameA namedA tokA
  rw [h.get, h.1]
  cases l with
  | nil => cases hn
  | cons t r =>
    simp only [nameF] at hn
    simp only [List.head?_cons, beq_self_eq_true, Bool.true_and]
    cases hk : (t.kind == 1 && !keyF t.text) with
    | true =>
      rw [hk] at hn
      cases hn
      exact ⟨t, rfl, rfl, rfl⟩
    | false => rw [hk] at hn; cases hn
theorem num_rel {ts : List Tok} (fin : Nat) {s : Rs} {l : List Tok} (most : Nat) (h : Okk ts s l) : Rel ts fin (limitF most l) (numberA ts fin s most).1 (numberA ts fin s most).2 := by
  unfold numberA isNumA tokA
  rw [h.get, h.1]
  cases l with
  | nil => exact fail_rel _ h
  | cons t r =>
    have hN : numberF (t :: r) = if t.kind == 2 then .ok (t.n, r) else failR (t :: r) := rfl
    unfold limitF
    rw [hN]
    simp only [List.head?_cons, beq_self_eq_true, Bool.true_and, Option.getD_some]
    cases hk : t.kind == 2 with
    | true =>
      simp only [if_true, bindR]
      by_cases hm : most < t.n
      · simp only [hm, if_true]
        have h1 := h.1
        exact ⟨by simp [Rs.flt, Rs.next, h1], by simp, by simp [Rs.flt, Rs.next, h1, posAt]⟩
      · simp only [hm, if_false]
        exact Rel.ok h.next
    | false => exact fail_rel _ h
theorem num0_rel {ts : List Tok} (hg : ∀ t ∈ ts, GT t) (fin : Nat) {s : Rs} {l : List Tok} (h : Okk ts s l) : Rel ts fin (numberF l) (numberA ts fin s 100000000).1 (numberA ts fin s 100000000).2 := by
  have hr := num_rel fin 100000000 h
  have he : limitF 100000000 l = numberF l := by
    unfold limitF
    cases l with
    | nil => rfl
    | cons t r =>
      have hN : numberF (t :: r) = if t.kind == 2 then .ok (t.n, r) else failR (t :: r) := rfl
      rw [hN]
      cases hk : t.kind == 2 with
      | false => rfl
      | true =>
        have hn : ¬ 100000000 < t.n := by have := (hg t (h.mem t (by simp))).num; omega
        simp only [if_true, bindR, hn, if_false]
  rw [he] at hr
  exact hr
def Alpha (ws : List (List UInt8)) : Prop := ∀ w ∈ ws, ∃ c r, w = c :: r ∧ letterB c = true
theorem one_rel {ts : List Tok} (hg : ∀ t ∈ ts, GT t) (fin : Nat) {s : Rs} {l : List Tok} (ws : List (List UInt8)) (hw : Alpha ws) (h : Okk ts s l) : Rel ts fin (chooseF ws l) (oneA ts fin s ws).1 (oneA ts fin s ws).2 := by
  unfold oneA
  cases l with
  | nil =>
    have : ws.findIdx? (seesA ts s) = none := List.findIdx?_eq_none_iff.2 (fun w _ => seesA_nil h w)
    rw [this]
    exact fail_rel _ h
  | cons t r =>
    have hgt := hg t (h.mem t (by simp))
    have hC : chooseF ws (t :: r) = if t.kind == 1 then (match ws.idxOf? t.text with | some i => .ok (i, r) | none => failR (t :: r)) else failR (t :: r) := rfl
    rw [hC]
    by_cases hk : t.kind = 1
    · have e : ws.findIdx? (seesA ts s) = ws.idxOf? t.text := by
        rw [List.idxOf?]
        congr 1
        funext w
        rw [seesA_cons h, hk]
        show (t.text == w) = (w == t.text)
        rw [Bool.eq_iff_iff, beq_iff_eq, beq_iff_eq]
        exact ⟨Eq.symm, Eq.symm⟩
      rw [e, hk]
      simp only [beq_self_eq_true, if_true]
      cases hx : ws.idxOf? t.text with
      | none => exact fail_rel _ h
      | some i => exact Rel.ok h.next
    · have e : ws.findIdx? (seesA ts s) = none := List.findIdx?_eq_none_iff.2 (fun w hw' => by
        rw [seesA_cons h]
        rcases hgt.kind with k | k | k
        · exact absurd k hk
        · rw [k]; rfl
        · obtain ⟨c, rr, rfl, hc⟩ := hw w hw'
          have := hgt.sym k
          cases hx : t.text == c :: rr with
          | false => simp
          | true => rw [this c rr (by simpa using hx)] at hc; cases hc)
      rw [e, if_neg (by simpa using hk)]
      exact fail_rel _ h
end Go.Proofs.YtcekampdldkjlaaGreatDoor
namespace Go.Proofs.YtcekampdldkjlaaGreatDoor
theorem Okk.flt {ts : List Tok} {fin : Nat} {s : Rs} {l q : List Tok} (h : Okk ts s l) (e : Nat) (he : e ≠ 0) (a : Int) (ha : a = (posAt fin q : Nat)) : Bad fin (s.flt e a) e q := by
  unfold Rs.flt
  rw [if_pos h.1]
  exact ⟨rfl, he, ha⟩
theorem combine_rel {ts : List Tok} {fin : Nat} {s : Rs} {r q : List Tok} (op k : Nat) (a : Int) (st : Stack) (h : Okk ts s r) (ha : a = (posAt fin q : Nat)) : Rel ts fin (combineF op k q st r) (combineA st op k a s).1 (combineA st op k a s).2 := by
  unfold combineF combineA
  rw [if_neg (show ¬ s.e ≠ 0 from fun hn => hn h.1)]
  by_cases h1 : st.length < k
  · rw [if_pos h1, if_pos h1]
    exact h.flt 5 (by decide) a ha
  · rw [if_neg h1, if_neg h1]
    by_cases h2 : 20 < deepK (st.drop (st.length - k))
    · rw [if_pos h2, if_pos h2]
      exact h.flt 2 (by decide) a ha
    · rw [if_neg h2, if_neg h2]
      exact Rel.ok h
abbrev allW : List UInt8 := [97, 108, 108]
abbrev anyW : List UInt8 := [97, 110, 121]
theorem tok_pos {ts : List Tok} (fin : Nat) {s : Rs} {t : Tok} {r : List Tok} (h : Okk ts s (t :: r)) : ((tokA ts s).pos : Int) = (posAt fin (t :: r) : Nat) := by
  unfold tokA
  rw [h.get]
  rfl
theorem group_rel {ts : List Tok} (hg : ∀ t ∈ ts, GT t) {fin : Nat} {s : Rs} {t : Tok} {r : List Tok} (o1 o2 : Nat) (st : Stack) (h : Okk ts s (t :: r)) (o : Nat) (hone : oneA ts fin s [allW, anyW] = (o, s.next)) : Rel ts fin (groupF (if o = 0 then o1 else o2) (t :: r) st r) (groupA ts fin st o1 o2 s).1 (groupA ts fin st o1 o2 s).2 := by
  unfold groupA groupF
  rw [hone]
  refine (num0_rel hg fin h.next).bind (fun r2 h2 => ?_) ((Keep.groupB _ _).trans (Keep.combine _ _ _ _ _))
  simp only []
  generalize numberA ts fin s.next 100000000 = y at h2
  by_cases hk : y.1 < 2
  · rw [if_pos hk]
    refine Bad.keep ?_ (Keep.combine _ _ _ _ _)
    unfold groupB
    rw [if_pos ⟨h2.1, hk⟩]
    exact h2.flt 5 (by decide) _ (tok_pos fin h)
  · rw [if_neg hk]
    rw [show groupB (tokA ts s).pos y = y.2 from if_neg (fun hn => hk hn.2)]
    exact combine_rel _ _ _ _ h2 (tok_pos fin h)
theorem one_all {ts : List Tok} {fin : Nat} {s : Rs} (h : seesA ts s allW = true) : oneA ts fin s [allW, anyW] = (0, s.next) := by
  unfold oneA
  rw [List.findIdx?_cons, h]
  rfl
theorem one_any {ts : List Tok} {fin : Nat} {s : Rs} (h0 : seesA ts s allW = false) (h : seesA ts s anyW = true) : oneA ts fin s [allW, anyW] = (1, s.next) := by
  unfold oneA
  rw [List.findIdx?_cons, h0, List.findIdx?_cons, h]
  rfl
theorem isF_sees {α : Type} {ts : List Tok} (hg : ∀ t ∈ ts, GT t) {s : Rs} {t : Tok} {r : List Tok} (h : Okk ts s (t :: r)) {w : List UInt8} (hs : seesA ts s w = true) (y n : List Tok → R α) : isF w (t :: r) y n = y r := by
  unfold isF
  rw [← sees_rel hg h w, if_pos hs]
  rfl
theorem isF_nosee {α : Type} {ts : List Tok} (hg : ∀ t ∈ ts, GT t) {s : Rs} {l : List Tok} (h : Okk ts s l) {w : List UInt8} (hs : seesA ts s w = false) (y n : List Tok → R α) : isF w l y n = n l := by
  unfold isF
  rw [← sees_rel hg h w, if_neg (by rw [hs]; decide)]
theorem sees_some {ts : List Tok} (hg : ∀ t ∈ ts, GT t) {s : Rs} {l : List Tok} (h : Okk ts s l) {w : List UInt8} (hs : seesA ts s w = true) : ∃ t r, l = t :: r := seesF_cons (by rw [← sees_rel hg h w]; exact hs)
theorem alpha_of (ws : List (List UInt8)) (h : ws.all (fun w => match w with | c :: _ => letterB c | [] => false) = true) : Alpha ws := by
  intro w hw
  have := List.all_eq_true.1 h w hw
  cases w with
  | nil => cases this
  | cons c r => exact ⟨c, r, rfl, this⟩
theorem item_rel {ts : List Tok} (hg : ∀ t ∈ ts, GT t) {fin : Nat} {s : Rs} {l : List Tok} (st : Stack) (h : Okk ts s l) : Rel ts fin (itemF st l) (itemA ts fin st s).1 (itemA ts fin st s).2 := by
  unfold itemF itemA
  cases h1 : seesA ts s [121, 101, 115] with
  | true =>
    obtain ⟨t, r, rfl⟩ := sees_some hg h h1
    rw [isF_sees hg h h1]
    exact Rel.ok h.next
  | false =>
  rw [isF_nosee hg h h1]
  cases h2 : seesA ts s [110, 111] with
  | true =>
    obtain ⟨t, r, rfl⟩ := sees_some hg h h2
    rw [isF_sees hg h h2]
    exact Rel.ok h.next
  | false =>
  rw [isF_nosee hg h h2]
  cases h3 : seesA ts s [110, 101, 103, 97, 116, 101, 100] with
  | true =>
    obtain ⟨t, r, rfl⟩ := sees_some hg h h3
    rw [isF_sees hg h h3]
    exact combine_rel _ _ _ _ h.next (tok_pos fin h)
  | false =>
  rw [isF_nosee hg h h3]
  cases h4 : seesA ts s [97, 108, 108] with
  | true =>
    obtain ⟨t, r, rfl⟩ := sees_some hg h h4
    rw [isF_sees hg h h4]
    exact group_rel hg 6 7 st h 0 (one_all h4)
  | false =>
  rw [isF_nosee hg h h4]
  cases h5 : seesA ts s [97, 110, 121] with
  | true =>
    obtain ⟨t, r, rfl⟩ := sees_some hg h h5
    rw [isF_sees hg h h5]
    exact group_rel hg 6 7 st h 1 (one_any h4 h5)
  | false =>
  rw [isF_nosee hg h h5]
  simp only [Bool.false_eq_true, if_false, Bool.or_self]
  cases h6 : seesA ts (nameA ts fin s).2 [100, 101, 102, 105, 110, 101, 100] with
  | true =>
    simp only [if_true]
    refine (name_rel fin h).bind (fun r hr => ?_) (Keep.next _)
    obtain ⟨t, r', rfl⟩ := sees_some hg hr h6
    rw [isF_sees hg hr h6]
    exact Rel.ok hr.next
  | false =>
    simp only [Bool.false_eq_true, if_false]
    refine (name_rel fin h).bind (fun r hr => ?_) ((Keep.number ts fin _ _).trans (Keep.one ts fin _ _))
    rw [isF_nosee hg hr h6]
    refine (num_rel fin 1000000 hr).bind (fun r2 h2 => ?_) (Keep.one ts fin _ _)
    exact (one_rel hg fin cmpW (alpha_of _ (by decide)) h2).bind (fun r3 h3 => Rel.ok h3) (Keep.refl _)
theorem isNum_rel {ts : List Tok} {s : Rs} {l : List Tok} (h : Okk ts s l) : isNumA ts s = (l.head?.any fun t => t.kind == 2) := by
  unfold isNumA
  rw [h.get, h.1]
  cases l <;> rfl
theorem sitem_rel {ts : List Tok} (hg : ∀ t ∈ ts, GT t) {fin : Nat} {s : Rs} {l : List Tok} (st : Stack) (h : Okk ts s l) : Rel ts fin (sitemF st l) (sitemA ts fin st s).1 (sitemA ts fin st s).2 := by
  unfold sitemF sitemA
  cases h1 : seesA ts s [97, 108, 119, 97, 121, 115] with
  | true =>
    obtain ⟨t, r, rfl⟩ := sees_some hg h h1
    rw [isF_sees hg h h1]
    exact Rel.ok h.next
  | false =>
  rw [isF_nosee hg h h1]
  cases h2 : seesA ts s [110, 101, 118, 101, 114] with
  | true =>
    obtain ⟨t, r, rfl⟩ := sees_some hg h h2
    rw [isF_sees hg h h2]
    exact Rel.ok h.next
  | false =>
  rw [isF_nosee hg h h2]
  cases h4 : seesA ts s [97, 108, 108] with
  | true =>
    obtain ⟨t, r, rfl⟩ := sees_some hg h h4
    rw [isF_sees hg h h4]
    exact group_rel hg 8 9 st h 0 (one_all h4)
  | false =>
  rw [isF_nosee hg h h4]
  cases h5 : seesA ts s [97, 110, 121] with
  | true =>
    obtain ⟨t, r, rfl⟩ := sees_some hg h h5
    rw [isF_sees hg h h5]
    exact group_rel hg 8 9 st h 1 (one_any h4 h5)
  | false =>
  rw [isF_nosee hg h h5]
  simp only [Bool.false_eq_true, if_false, Bool.or_self]
  rw [← isNum_rel h]
  cases h6 : isNumA ts s with
  | true =>
    simp only [if_true]
    refine (num_rel fin 1000000 h).bind (fun r hr => ?_) (Keep.must ts fin _ _)
    exact (must_rel hg fin _ hr).bind (fun r2 h2 => Rel.ok h2) (Keep.refl _)
  | false =>
    simp only [Bool.false_eq_true, if_false]
    refine (name_rel fin h).bind (fun r hr => ?_) (Keep.one ts fin _ _)
    exact (one_rel hg fin opsW (alpha_of _ (by decide)) hr).bind (fun r2 h2 => Rel.ok h2) (Keep.refl _)
theorem named_rel {ts : List Tok} {s : Rs} {l : List Tok} (h : Okk ts s l) : namedA ts s = isNameF l := by
  unfold namedA
  rw [h.get, h.1]
  cases l <;> rfl
theorem seesF_or {ts : List Tok} (hg : ∀ t ∈ ts, GT t) {s : Rs} {l : List Tok} (h : Okk ts s l) (w : List UInt8) (ws : List (List UInt8)) : seesF (w :: ws) l = (seesA ts s w || seesF ws l) := by
  rw [sees_rel hg h]
  cases l with
  | nil => rfl
  | cons t r =>
    show (isWord t && (w :: ws).contains t.text) = ((isWord t && [w].contains t.text) || (isWord t && ws.contains t.text))
    rw [← Bool.and_or_distrib_left]
    congr 1
    rw [Bool.eq_iff_iff]
    simp
theorem begins_rel {ts : List Tok} (hg : ∀ t ∈ ts, GT t) {s : Rs} {l : List Tok} (starts : Bool) (h : Okk ts s l) : beginsA ts s starts = (if starts then beginsS l else beginsF l) := by
  have h0 : seesF [] l = false := by
    cases l with
    | nil => rfl
    | cons t r => simp [seesF]
  unfold beginsA
  cases starts with
  | false =>
    simp only [Bool.false_eq_true, if_false]
    unfold beginsF
    rw [named_rel h]
    simp only [seesF_or hg h, h0, Bool.or_false]
    cases isNameF l <;> cases seesA ts s [121, 101, 115] <;> cases seesA ts s [110, 111] <;> cases seesA ts s [110, 101, 103, 97, 116, 101, 100] <;> cases seesA ts s [97, 108, 108] <;> cases seesA ts s [97, 110, 121] <;> rfl
  | true =>
    simp only [if_true]
    unfold beginsS
    rw [named_rel h, ← isNum_rel h]
    simp only [seesF_or hg h, h0, Bool.or_false]
    cases isNameF l <;> cases seesA ts s [97, 108, 119, 97, 121, 115] <;> cases seesA ts s [110, 101, 118, 101, 114] <;> cases isNumA ts s <;> cases seesA ts s [97, 108, 108] <;> cases seesA ts s [97, 110, 121] <;> rfl
end Go.Proofs.YtcekampdldkjlaaGreatDoor
namespace Go.Proofs.YtcekampdldkjlaaGreatDoor
abbrev itemsF (starts : Bool) : Stack → List Tok → R Stack := if starts then sitemF else itemF
abbrev beginF (starts : Bool) : List Tok → Bool := if starts then beginsS else beginsF
theorem some_rel {ts : List Tok} (hg : ∀ t ∈ ts, GT t) {fin : Nat} {s : Rs} {l : List Tok} (starts : Bool) (st : Stack) (h : Okk ts s l) : Rel ts fin (itemsF starts st l) (someItemA starts ts fin st s).1 (someItemA starts ts fin st s).2 := by
  unfold someItemA itemsF
  cases starts with
  | true => exact sitem_rel hg st h
  | false => exact item_rel hg st h
/- how the items end -/
def LRel (ts : List Tok) (fin : Nat) (F : R Stack) (x : Stack × Rs × Bool) : Prop := match F with
  | .ok (a, r) => x.2.2 = false ∧ a = x.1 ∧ Okk ts x.2.1 r ∧ seesA ts x.2.1 [125] = true
  | .error (e, q) => Bad fin x.2.1 e q
theorem loop_rel {ts : List Tok} (hg : ∀ t ∈ ts, GT t) {fin : Nat} (starts : Bool) : ∀ (f : Nat) (st : Stack) (s : Rs) (l : List Tok), Okk ts s l → LRel ts fin (loopF (beginF starts) (itemsF starts) (f + 1) st l) (loopA starts ts fin (f + 1) st s) := by
  intro f
  induction f with
  | zero =>
    intro st s l h
    unfold loopF loopA
    rw [← sees_rel hg h]
    cases hs : seesA ts s [125] with
    | true => rw [if_pos rfl, if_pos (.inr rfl)]; exact ⟨rfl, rfl, h, hs⟩
    | false =>
      rw [show beginF starts l = beginsA ts s starts by rw [begins_rel hg starts h]; cases starts <;> rfl, if_neg (show ¬ (s.e ≠ 0 ∨ false = true) from fun hh => hh.elim (fun k => k h.1) (fun k => by cases k)), if_neg (show ¬ (false = true) by decide)]
      cases hb : beginsA ts s starts with
      | false =>
        rw [if_neg (show ¬ (false = true) by decide), if_pos rfl]
        exact fail_rel st h
      | true =>
        rw [if_pos rfl, if_neg (show ¬ (true = false) by decide), if_pos rfl, if_pos rfl]
        obtain ⟨t, r, rfl⟩ : ∃ t r, l = t :: r := by
          cases l with
          | nil => rw [begins_rel hg starts h] at hb; cases starts <;> exact absurd hb (by decide)
          | cons t r => exact ⟨t, r, rfl⟩
        exact h.flt 2 (by decide) _ (tok_pos fin h)
  | succ f ih =>
    intro st s l h
    rw [show loopF (beginF starts) (itemsF starts) (f + 1 + 1) st l = if seesF [[125]] l then .ok (st, l) else if beginF starts l then (if f + 1 = 0 then .error (2, l) else bindR (itemsF starts st l) fun st r => loopF (beginF starts) (itemsF starts) (f + 1) st r) else failR l from rfl]
    rw [show loopA starts ts fin (f + 1 + 1) st s = if s.e ≠ 0 ∨ seesA ts s [125] = true then (st, s, false) else if beginsA ts s starts = false then (st, failA ts fin s, true) else if f + 1 = 0 then (st, s.flt 2 (tokA ts s).pos, true) else loopA starts ts fin (f + 1) (someItemA starts ts fin st s).1 (someItemA starts ts fin st s).2 from rfl]
    rw [← sees_rel hg h]
    cases hs : seesA ts s [125] with
    | true => rw [if_pos rfl, if_pos (.inr rfl)]; exact ⟨rfl, rfl, h, hs⟩
    | false =>
      rw [show beginF starts l = beginsA ts s starts by rw [begins_rel hg starts h]; cases starts <;> rfl, if_neg (show ¬ (s.e ≠ 0 ∨ false = true) from fun hh => hh.elim (fun k => k h.1) (fun k => by cases k)), if_neg (show ¬ (false = true) by decide)]
      cases hb : beginsA ts s starts with
      | false =>
        rw [if_neg (show ¬ (false = true) by decide), if_pos rfl]
        exact fail_rel st h
      | true =>
        rw [if_pos rfl, if_neg (show ¬ (true = false) by decide), if_neg (Nat.succ_ne_zero f), if_neg (Nat.succ_ne_zero f)]
        have hi := some_rel hg (fin := fin) starts st h
        generalize someItemA starts ts fin st s = y at hi
        cases hq : itemsF starts st l with
        | error x =>
          obtain ⟨e, q⟩ := x
          rw [hq] at hi
          exact Bad.keep hi (Keep.loop starts ts fin (f + 1) y.1 y.2)
        | ok x =>
          obtain ⟨a, r⟩ := x
          rw [hq] at hi
          obtain ⟨rfl, h2⟩ := hi
          exact ih y.1 y.2 r h2
theorem must_yes {ts : List Tok} {fin : Nat} {s : Rs} {w : List UInt8} (h : seesA ts s w = true) : mustA ts fin s w = s.next := by unfold mustA; rw [if_pos h]
theorem top_rel {ts : List Tok} (hg : ∀ t ∈ ts, GT t) {fin : Nat} {F : R Stack} (x : Stack × Rs × Bool) (h : LRel ts fin F x) : Rel ts fin (bindR F topF) (topA ts fin x).1.1 (topA ts fin x).2 := by
  cases F with
  | error v =>
    obtain ⟨e, q⟩ := v
    exact Bad.keep h (Keep.top ts fin x)
  | ok v =>
    obtain ⟨a, r⟩ := v
    obtain ⟨h1, rfl, h3, h4⟩ := h
    obtain ⟨st, s, b⟩ := x
    simp only at h1 h3 h4
    subst h1
    obtain ⟨t, r, rfl⟩ := sees_some hg h3 h4
    show Rel ts fin (topF st (t :: r)) _ _
    unfold topA
    simp only [Bool.false_eq_true, if_false]
    by_cases hl : st.length = 1
    · obtain ⟨y, rfl⟩ : ∃ y, st = [y] := List.length_eq_one_iff.1 hl
      rw [if_neg (show ¬ (seesA ts s [125] = true ∧ ([y] : Stack).length ≠ 1) from fun hn => hn.2 rfl), must_yes h4, if_neg (show ¬ s.next.e ≠ 0 from fun hn => hn h3.1)]
      show Rel ts fin (bindR (mustF [125] (t :: r)) fun _ r => .ok (y.1, r)) _ _
      unfold mustF
      rw [isF_sees hg h3 h4]
      exact Rel.ok h3.next
    · rw [if_pos (show seesA ts s [125] = true ∧ st.length ≠ 1 from ⟨h4, hl⟩)]
      have hf : Bad fin (failA ts fin s) (failC (t :: r)) (t :: r) := fail_rel (α := Unit) () h3
      have hb := hf.keep (Keep.must ts fin _ [125])
      rw [show topF st (t :: r) = failR (t :: r) by
        cases st with
        | nil => rfl
        | cons a b =>
          cases b with
          | nil => exact absurd rfl hl
          | cons c d => rfl]
      rw [if_pos (by rw [hb.1]; exact hb.2.1)]
      exact hb
theorem braces_rel {ts : List Tok} (hg : ∀ t ∈ ts, GT t) {fin : Nat} {s : Rs} {l : List Tok} (starts : Bool) (h : Okk ts s l) : Rel ts fin (bracesF (beginF starts) (itemsF starts) l) (treeA starts ts fin s).1 (treeA starts ts fin s).2 := by
  unfold bracesF treeA bracesA
  refine (must_rel hg fin [123] h).bind (fun r hr => ?_) ((Keep.loop starts ts fin 201 [] _).trans (Keep.top ts fin _))
  exact top_rel hg _ (loop_rel hg starts 200 [] _ r hr)
theorem formula_rel {ts : List Tok} (hg : ∀ t ∈ ts, GT t) {fin : Nat} {s : Rs} {l : List Tok} (h : Okk ts s l) : Rel ts fin (formulaF l) (treeA false ts fin s).1 (treeA false ts fin s).2 := braces_rel hg false h
theorem start_rel {ts : List Tok} (hg : ∀ t ∈ ts, GT t) {fin : Nat} {s : Rs} {l : List Tok} (h : Okk ts s l) : Rel ts fin (startF l) (treeA true ts fin s).1 (treeA true ts fin s).2 := braces_rel hg true h
/- names -/
theorem names_rel {ts : List Tok} (hg : ∀ t ∈ ts, GT t) {fin : Nat} : ∀ (n : Nat) (out : List (List UInt8)) (s : Rs) (l : List Tok), Okk ts s l → (out ≠ [] → seesA ts s [41] = false) → out.length + n = 22 → out.length ≤ 20 → Rel ts fin (namesF n out l) (namesL ts fin n out s).1 (mustA ts fin (namesL ts fin n out s).2 [41])
  | 0, out, s, l, h, hs, hn, hm => by omega
  | n + 1, out, s, l, h, hs, hn, hm => by
    rw [show namesF (n + 1) out l = bindR (nameF l) fun s r => guardR l (excC out s) <| isF [41] r (fun r => .ok (out ++ [s], r)) fun r => namesF n (out ++ [s]) r from rfl]
    rw [show namesL ts fin (n + 1) out s = namesL ts fin n (out ++ [(nameA ts fin s).1.text]) (fullA out (nameA ts fin s).1.pos (onceA out (nameA ts fin s))) from by
      show (if s.e ≠ 0 ∨ (out ≠ [] ∧ seesA ts s [41] = true) then (out, s) else _) = _
      rw [if_neg]
      rintro (hh | ⟨h1, h2⟩)
      · exact hh h.1
      · rw [hs h1] at h2; cases h2]
    cases hq : nameF l with
    | error x =>
      obtain ⟨e, q⟩ := x
      have hr := name_rel fin h
      rw [hq] at hr
      exact Bad.keep hr ((((Keep.once out _).trans (Keep.full out _ _)).trans (Keep.namesLoop ts fin n _ _)).trans (Keep.must ts fin _ _))
    | ok x =>
      obtain ⟨nm, r⟩ := x
      obtain ⟨t, rfl, hN, rfl⟩ := name_tok fin h hq
      rw [hN]
      simp only [bindR]
      unfold guardR excC
      by_cases h1 : out.contains t.text = true
      · rw [if_pos h1, if_neg (by decide)]
        have hb : Bad fin (onceA out (t, s.next)) 9 (t :: r) := by
          unfold onceA
          rw [if_pos ⟨h.1, h1⟩]
          exact h.next.flt 9 (by decide) _ rfl
        exact hb.keep (((Keep.full out _ _).trans (Keep.namesLoop ts fin n _ _)).trans (Keep.must ts fin _ _))
      · rw [if_neg h1]
        have ho : onceA out (t, s.next) = s.next := if_neg (fun hh => h1 hh.2)
        rw [ho]
        by_cases h2 : out.length = 20
        · rw [if_pos h2, if_neg (by decide)]
          have hb : Bad fin (fullA out t.pos s.next) 2 (t :: r) := by
            unfold fullA
            rw [if_pos ⟨h.1, h2⟩]
            exact h.next.flt 2 (by decide) _ rfl
          exact hb.keep ((Keep.namesLoop ts fin n _ _).trans (Keep.must ts fin _ _))
        · rw [if_neg h2, if_pos rfl]
          have hf : fullA out t.pos s.next = s.next := if_neg (fun hh => h2 hh.2)
          rw [hf]
          have hr := h.next
          cases h3 : seesA ts s.next [41] with
          | true =>
            have hx : namesL ts fin n (out ++ [t.text]) s.next = (out ++ [t.text], s.next) := by
              cases n with
              | zero => rfl
              | succ m =>
                show (if s.next.e ≠ 0 ∨ (out ++ [t.text] ≠ [] ∧ seesA ts s.next [41] = true) then (out ++ [t.text], s.next) else _) = _
                rw [if_pos (.inr ⟨by simp, h3⟩)]
            obtain ⟨u, r', rfl⟩ := sees_some hg hr h3
            rw [hx, isF_sees hg hr h3, must_yes h3]
            exact Rel.ok hr.next
          | false =>
            rw [isF_nosee hg hr h3]
            exact names_rel hg n (out ++ [t.text]) s.next r hr (fun _ => h3) (by simp; omega) (by simp; omega)
theorem exc_rel {ts : List Tok} (hg : ∀ t ∈ ts, GT t) {fin : Nat} {s : Rs} {l : List Tok} (h : Okk ts s l) : Rel ts fin (excF l) (namesA ts fin s).1 (namesA ts fin s).2 := by
  unfold excF namesA
  refine (must_rel hg fin [40] h).bind (fun r hr => ?_) ((Keep.namesLoop ts fin 22 [] _).trans (Keep.must ts fin _ _))
  exact names_rel hg 22 [] _ r hr (fun hn => absurd rfl hn) (by simp) (by simp)
/- the whole -/
theorem opt_rel {α : Type} {ts : List Tok} (hg : ∀ t ∈ ts, GT t) {fin : Nat} {s : Rs} {l : List Tok} (w : List UInt8) (d : α) (p : List Tok → R α) (P : Rs → α × Rs) (h : Okk ts s l) (hp : ∀ r, Okk ts s.next r → Rel ts fin (p r) (P s.next).1 (P s.next).2) : Rel ts fin (optR w d p l) (partA ts w d P s).1 (partA ts w d P s).2 := by
  unfold optR partA
  cases hs : seesA ts s w with
  | true =>
    obtain ⟨t, r, rfl⟩ := sees_some hg h hs
    rw [isF_sees hg h hs]
    exact hp r h.next
  | false =>
    rw [isF_nosee hg h hs]
    exact Rel.ok h
theorem kind_rel {ts : List Tok} (hg : ∀ t ∈ ts, GT t) {fin : Nat} {s : Rs} {l : List Tok} (h : Okk ts s l) : Rel ts fin (kindF l) (kindA ts fin s).1 (kindA ts fin s).2 := by
  unfold kindF kindA
  cases hs : seesA ts s [116, 101, 114, 109] with
  | true =>
    obtain ⟨t, r, rfl⟩ := sees_some hg h hs
    rw [isF_sees hg h hs]
    exact (name_rel fin h.next).bind (fun r hr => Rel.ok hr) (Keep.refl _)
  | false =>
    rw [isF_nosee hg h hs]
    refine (must_rel hg fin _ h).bind (fun r1 h1 => ?_) (((Keep.name ts fin _).trans (Keep.must ts fin _ _)).trans (Keep.number ts fin _ _))
    refine (name_rel fin h1).bind (fun r2 h2 => ?_) ((Keep.must ts fin _ _).trans (Keep.number ts fin _ _))
    refine (must_rel hg fin _ h2).bind (fun r3 h3 => ?_) (Keep.number ts fin _ _)
    exact (num_rel fin 1000000 h3).bind (fun r4 h4 => Rel.ok h4) (Keep.refl _)
theorem end_rel {α : Type} {ts : List Tok} {fin : Nat} {s : Rs} {F : R α} {x : α} (h : Rel ts fin F x s) : Rel ts fin (endF F) x (endA ts fin s) := by
  unfold endF
  refine h.bind (fun r hr => ?_) (Keep.end ts fin s)
  unfold endA
  cases r with
  | nil =>
    have : ts.length ≤ s.i := by have := congrArg List.length hr.2.2; simp at this; omega
    rw [if_neg (fun hn => by omega)]
    exact Rel.ok hr
  | cons t r =>
    have : s.i < ts.length := by have := congrArg List.length hr.2.2; simp at this; omega
    rw [if_pos ⟨hr.1, this⟩]
    exact fail_rel x hr
theorem tail_rel {ts : List Tok} (hg : ∀ t ∈ ts, GT t) {fin : Nat} {s : Rs} {l : List Tok} (f : Nat → List UInt8 → Prov) (h : Okk ts s l) : Rel ts fin (bindR (mustF [91] l) fun _ r7 => bindR (chooseF [[99, 104, 97, 114, 116, 101, 114], [115, 116, 97, 116, 117, 116, 101], [111, 114, 100, 101, 114], [114, 117, 108, 101]] r7) fun rank r8 => bindR (nameF r8) fun id r9 => bindR (mustF [93] r9) fun _ r10 => .ok (f (1 + rank) id, r10)) (f (tailA ts fin s).1.1 (tailA ts fin s).1.2) (tailA ts fin s).2 := by
  unfold tailA
  refine (must_rel hg fin [91] h).bind (fun r7 h7 => ?_) (((Keep.one ts fin _ _).trans (Keep.name ts fin _)).trans (Keep.must ts fin _ _))
  refine (one_rel hg fin rankW (alpha_of _ (by decide)) h7).bind (fun r8 h8 => ?_) ((Keep.name ts fin _).trans (Keep.must ts fin _ _))
  refine (name_rel fin h8).bind (fun r9 h9 => ?_) (Keep.must ts fin _ _)
  exact (must_rel hg fin [93] h9).bind (fun r10 h10 => Rel.ok h10) (Keep.refl _)
theorem parts_rel {ts : List Tok} (hg : ∀ t ∈ ts, GT t) (fin : Nat) : Rel ts fin (pr ts) (partsA ts fin).prov (partsA ts fin).last := by
  obtain ⟨c, hc⟩ : ∃ c, partA ts [119, 104, 101, 114, 101] (leafT 1) (treeA false ts fin) ⟨0, 0, 0⟩ = c := ⟨_, rfl⟩
  obtain ⟨k, hk⟩ : ∃ k, kindA ts fin c.2 = k := ⟨_, rfl⟩
  obtain ⟨x, hx⟩ : ∃ x, partA ts [111, 118, 101, 114, 114, 105, 100, 101, 115] [] (namesA ts fin) k.2 = x := ⟨_, rfl⟩
  obtain ⟨g, hgg⟩ : ∃ g, partA ts [115, 116, 97, 114, 116, 115] (leafT 1) (treeA true ts fin) x.2 = g := ⟨_, rfl⟩
  obtain ⟨h, hh⟩ : ∃ h, partA ts [101, 110, 100, 115] (leafT 2) (treeA true ts fin) g.2 = h := ⟨_, rfl⟩
  obtain ⟨j, hj⟩ : ∃ j, partA ts [114, 101, 116, 117, 114, 110, 115] (leafT 2) (treeA true ts fin) h.2 = j := ⟨_, rfl⟩
  obtain ⟨t, ht⟩ : ∃ t, tailA ts fin j.2 = t := ⟨_, rfl⟩
  have hp : partsA ts fin = ⟨c, k, x, g, h, j, t, endA ts fin t.2⟩ := by unfold partsA; simp only [hc, hk, hx, hgg, hh, hj, ht]
  have kt : ∀ starts, ∀ s, Keep s (treeA starts ts fin s).2 := fun starts s => Keep.tree starts ts fin s
  have kn : ∀ s, Keep s (namesA ts fin s).2 := fun s => Keep.names ts fin s
  have R0 : Rel ts fin (optR [119, 104, 101, 114, 101] (leafT 1) formulaF ts) c.1 c.2 := hc ▸ opt_rel hg _ _ formulaF (treeA false ts fin) (show Okk ts ⟨0, 0, 0⟩ ts from ⟨rfl, Nat.zero_le _, List.drop_zero⟩) (fun r hr => formula_rel hg hr)
  have R1 : ∀ r, Okk ts c.2 r → Rel ts fin (kindF r) k.1 k.2 := fun r hr => hk ▸ kind_rel hg hr
  have R2 : ∀ r, Okk ts k.2 r → Rel ts fin (optR [111, 118, 101, 114, 114, 105, 100, 101, 115] [] excF r) x.1 x.2 := fun r hr => hx ▸ opt_rel hg _ _ excF (namesA ts fin) hr (fun r hr => exc_rel hg hr)
  have R3 : ∀ r, Okk ts x.2 r → Rel ts fin (optR [115, 116, 97, 114, 116, 115] (leafT 1) startF r) g.1 g.2 := fun r hr => hgg ▸ opt_rel hg _ _ startF (treeA true ts fin) hr (fun r hr => start_rel hg hr)
  have R4 : ∀ r, Okk ts g.2 r → Rel ts fin (optR [101, 110, 100, 115] (leafT 2) startF r) h.1 h.2 := fun r hr => hh ▸ opt_rel hg _ _ startF (treeA true ts fin) hr (fun r hr => start_rel hg hr)
  have R5 : ∀ r, Okk ts h.2 r → Rel ts fin (optR [114, 101, 116, 117, 114, 110, 115] (leafT 2) startF r) j.1 j.2 := fun r hr => hj ▸ opt_rel hg _ _ startF (treeA true ts fin) hr (fun r hr => start_rel hg hr)
  have K1 : Keep c.2 k.2 := hk ▸ Keep.kind ts fin _
  have K2 : Keep k.2 x.2 := hx ▸ Keep.part ts _ _ _ _ kn
  have K3 : Keep x.2 g.2 := hgg ▸ Keep.part ts _ _ _ _ (kt true)
  have K4 : Keep g.2 h.2 := hh ▸ Keep.part ts _ _ _ _ (kt true)
  have K5 : Keep h.2 j.2 := hj ▸ Keep.part ts _ _ _ _ (kt true)
  have K6 : Keep j.2 t.2 := ht ▸ Keep.tail ts fin _
  rw [hp]
  unfold pr
  refine end_rel (s := t.2) ?_
  unfold provF
  refine R0.bind (fun r1 h1 => ?_) ((((K1.trans K2).trans K3).trans K4).trans (K5.trans K6))
  refine (R1 r1 h1).bind (fun r2 h2 => ?_) (((K2.trans K3).trans K4).trans (K5.trans K6))
  refine (R2 r2 h2).bind (fun r3 h3 => ?_) ((K3.trans K4).trans (K5.trans K6))
  refine (R3 r3 h3).bind (fun r4 h4 => ?_) (K4.trans (K5.trans K6))
  refine (R4 r4 h4).bind (fun r5 h5 => ?_) (K5.trans K6)
  refine (R5 r5 h5).bind (fun r6 h6 => ?_) K6
  have := tail_rel hg (fin := fin) (fun rank id => (⟨id, rank, k.1.1, k.1.2.1, k.1.2.2, c.1, x.1, g.1, h.1, j.1⟩ : Prov)) h6
  rw [ht] at this
  exact this
end Go.Proofs.YtcekampdldkjlaaGreatDoor
