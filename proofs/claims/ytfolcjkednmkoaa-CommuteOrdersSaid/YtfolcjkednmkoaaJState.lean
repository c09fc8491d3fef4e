/- The state of a code: its items by Id, the order of the children of each, and how many there are; what patches do to it. What a patch that is possible does to the state of a code; codes with one state are one. What a patch does to the state of a code. Two patches that commute: both orders lead to one state. Two patches that commute, and two inserts that are exchanged: both orders lead to one code. -/
import Derived.Test.YtfolcjkednmkoaaLaw
set_option linter.unusedVariables false
set_option linter.unusedSimpArgs false
namespace Go.Proofs.Ytfolcjkednmkoaa
abbrev Its := Str → Item
abbrev Ords := Str → List Str
def ordL (l : List Item) : Ords := fun q => (l.filter fun x => x.par == q).map (·.id)
def insA (aft i : Str) (L : List Str) : List Str := if aft = [] then i :: L else L.flatMap fun j => if j = aft then [j, i] else [j]
def outA (i : Str) (L : List Str) : List Str := L.filter fun j => j != i
def itN (it : Its) (p : Patch) : Its := fun i => if i = p.id then (if p.kind = 1 then p.item else if p.kind = 4 then { it i with par := p.par } else chgF p (it i)) else it i
def ordN (O : Ords) (p : Patch) : Ords := fun q =>
  if p.kind = 1 then (if q = p.par then insA p.aft p.id (O q) else O q)
  else if p.kind = 4 then (if q = p.par then insA p.aft p.id (outA p.id (O q)) else outA p.id (O q))
  else O q
def lenN (n : Nat) (p : Patch) : Nat := if p.kind = 1 then n + 1 else n
inductive Up (it : Its) (z : Str) : Str → Prop
  | base {y : Str} : (it y).par = z → Up it z y
  | step {y : Str} : Up it z (it y).par → Up it z y
def exA (it : Its) (par aft : Str) : Prop := (par = [] ∨ (it par).kind = 1) ∧ (aft = [] ∨ ((it aft).kind ≠ 0 ∧ (it aft).par = par))
structure ChgOk (p : Patch) (x : Item) : Prop where
  here : x.kind ≠ 0
  art : p.kind ≠ 3 → x.kind = 2
  s6 : p.kind = 6 → x.gone = true
  s : p.kind ≠ 6 → x.gone = false
  w : p.kind = 2 → onceIs (wordsText p x) p.fr = true ∧ (wordsNew p x).length ≤ 400
  r : p.kind = 7 → p.item.no.length ≤ 400 ∧ p.item.so.length ≤ 400
structure MovOk (it : Its) (p : Patch) : Prop where
  here : (it p.id).kind ≠ 0
  s : (it p.id).gone = false
  ex : exA it p.par p.aft
  par : p.par ≠ p.id
  aft : p.aft ≠ p.id
  up : p.par ≠ [] → ¬ Up it p.id p.par
structure InsOk (it : Its) (n : Nat) (p : Patch) : Prop where
  new : (it p.id).kind = 0
  ex : exA it p.par p.aft
  le : n < 2000
def Poss (it : Its) (n : Nat) (p : Patch) : Prop := if p.kind = 1 then InsOk it n p else if p.kind = 4 then MovOk it p else ChgOk p (it p.id)
structure Inv (it : Its) : Prop where
  closed : ∀ y, (it y).kind ≠ 0 → (it y).par ≠ [] → (it (it y).par).kind = 1
  none : ∀ y, (it y).kind = 0 → (it y).par = []
  nil : (it []).kind = 0
theorem up_ne {it : Its} (hi : Inv it) {z y : Str} (hz : z ≠ []) (h : Up it z y) : y ≠ [] := by
  induction h with
  | base e =>
    rintro rfl
    rw [hi.none _ hi.nil] at e
    exact hz e.symm
  | step h ih =>
    rintro rfl
    exact ih (hi.none _ hi.nil)
theorem up_here {it : Its} (hi : Inv it) {z s : Str} (hs : (it s).kind ≠ 0) (h : Up it z s) : z = [] ∨ (it z).kind ≠ 0 := by
  by_cases hz : z = []
  · exact .inl hz
  right
  induction h with
  | @base y e =>
    have := hi.closed y hs (by rw [e]; exact hz)
    rw [e] at this
    omega
  | @step y h ih =>
    exact ih (by have := hi.closed y hs (up_ne hi hz h); omega)
theorem up_sub {it it' : Its} {z s : Str} (hh : ∀ y, (y = s ∨ Up it y s) → (it' y).par = (it y).par) (h : Up it z s) : Up it' z s := by
  induction h with
  | @base y e => exact .base (by rw [hh y (.inl rfl)]; exact e)
  | @step y h ih =>
    refine .step ?_
    rw [hh y (.inl rfl)]
    exact ih fun u hu => hh u (.inr (hu.elim (fun e => by subst e; exact .base rfl) .step))
theorem up_sup {it it' : Its} {z s : Str} (hh : ∀ y, (y = s ∨ Up it y s) → (it' y).par = (it y).par) (h : Up it' z s) : Up it z s := by
  induction h with
  | @base y e => exact .base (by rw [← hh y (.inl rfl)]; exact e)
  | @step y h ih =>
    have e := hh y (.inl rfl)
    refine .step ?_
    rw [← e]
    refine ih fun u hu => hh u (.inr ?_)
    rw [e] at hu
    exact hu.elim (fun e => by subst e; exact .base rfl) .step
/- the items of a code -/
theorem it_upd {l d : List Item} {R R' : List Row} (hg : Good l R) (hd : Good d R') (y : Item) {id : Str} (hy : y ∈ d) (hid : y.id = id) (hm : ∀ z, z.id ≠ id → (z ∈ d ↔ z ∈ l)) :
    itemF d = fun i => if i = id then y else itemF l i := by
  funext i
  by_cases h : i = id
  · rw [if_pos h, h, ← hid]
    exact hd.item_of hy
  · rw [if_neg h]
    rcases hg.look i with ⟨_, h2, h3⟩ | ⟨a, x, o, r, b, hx, hB, _, hi, _⟩
    · rw [h2]
      refine (find_none ?_).2
      intro z hz he
      exact h3 z ((hm z (by rw [he]; exact h)).1 hz) he
    · rw [hi, ← hx]
      refine hd.item_of ((hm x (by rw [hx]; exact h)).2 ?_)
      have : (x, o) ∈ R := by rw [hB.eq]; simp
      exact hg.mem this
theorem Good.it_kind {l : List Item} {R : List Row} (hg : Good l R) {i : Str} (h : (itemF l i).kind ≠ 0) : itemF l i ∈ l ∧ (itemF l i).id = i ∧ ∃ o, (itemF l i, o) ∈ R := by
  rcases hg.look i with ⟨_, h2, _⟩ | ⟨a, x, o, r, b, hx, hB, _, hi, _⟩
  · rw [h2] at h; exact absurd rfl h
  · have hm : (x, o) ∈ R := by rw [hB.eq]; simp
    rw [hi]
    exact ⟨hg.mem hm, hx, o, hm⟩
theorem Good.it_none {l : List Item} {R : List Row} (hg : Good l R) {i : Str} (h : (itemF l i).kind = 0) : itemF l i = noItem ∧ findI l i = -1 ∧ ∀ x ∈ l, x.id ≠ i := by
  rcases hg.look i with ⟨h1, h2, h3⟩ | ⟨a, x, o, r, b, hx, hB, _, hi, _⟩
  · exact ⟨h2, h1, h3⟩
  · have hm : (x, o) ∈ R := by rw [hB.eq]; simp
    have := proper_kind (hg.proper hm)
    rw [hi] at h
    simp only at this
    omega
/- the row of the parent -/
theorem Good.parent {l : List Item} {R : List Row} (hg : Good l R) {y : Row} (hy : y ∈ R) (hne : y.1.par ≠ []) : ∃ u, y.2 = u ++ [y.1.par] ∧ ∃ w ∈ R, w.1.id = y.1.par ∧ w.2 = u ∧ w.1.kind = 1 := by
  obtain ⟨h1, h2⟩ := hg.par_last hy
  have hn : y.2 ≠ [] := by
    intro h
    rw [h] at h1
    exact hne h1.symm
  obtain ⟨u, hu⟩ := last_split hn
  rw [h1] at hu
  exact ⟨u, hu, hg.anc y hy u y.1.par [] hu⟩
theorem Good.inv {l : List Item} {R : List Row} (hg : Good l R) : Inv (itemF l) := by
  refine ⟨?_, ?_, ?_⟩
  · intro y hy hp
    obtain ⟨hm, hi, o, ho⟩ := hg.it_kind hy
    obtain ⟨u, _, w, hw, hwi, _, hk⟩ := hg.parent ho hp
    rw [← hwi, hg.item_of (hg.mem hw)]
    exact hk
  · intro y hy
    rw [(hg.it_none hy).1]; rfl
  · cases Classical.em ((itemF l []).kind = 0) with
    | inl h => exact h
    | inr h =>
      obtain ⟨hm, hi, _⟩ := hg.it_kind h
      exact absurd hi (proper_id (hg.pr _ hm))
theorem Good.open_up {l : List Item} {R : List Row} (hg : Good l R) {z : Str} (hz : z ≠ []) : ∀ (n : Nat), ∀ y ∈ R, y.2.length = n → z ∈ y.2 → Up (itemF l) z y.1.id := by
  intro n
  induction n using Nat.strongRecOn with
  | _ n ih =>
    intro y hy hn hm
    have hpar : y.1.par ≠ [] := hg.par_ne hy (by rintro h; rw [h] at hm; cases hm)
    obtain ⟨u, hu, w, hw, hwi, hwu, _⟩ := hg.parent hy hpar
    have hit := hg.item_of (hg.mem hy)
    rw [hu] at hm
    rcases List.mem_append.1 hm with hm | hm
    · have := ih u.length (by rw [← hn, hu]; simp) w hw (by rw [hwu]) (by rw [hwu]; exact hm)
      rw [hwi] at this
      refine .step ?_
      rw [hit]
      exact this
    · simp at hm
      refine .base ?_
      rw [hit, hm]
theorem Good.up_open {l : List Item} {R : List Row} (hg : Good l R) {z s : Str} (hz : z ≠ []) (h : Up (itemF l) z s) : ∀ y ∈ R, y.1.id = s → z ∈ y.2 := by
  induction h with
  | @base s e =>
    intro y hy hs
    subst hs
    rw [hg.item_of (hg.mem hy)] at e
    obtain ⟨u, hu, _⟩ := hg.parent hy (by rw [e]; exact hz)
    rw [hu, e]; simp
  | @step s h ih =>
    intro y hy hs
    subst hs
    rw [hg.item_of (hg.mem hy)] at h ih
    obtain ⟨u, hu, w, hw, hwi, hwu, _⟩ := hg.parent hy (up_ne hg.inv hz h)
    have := ih w hw hwi
    rw [hwu] at this
    rw [hu]
    exact List.mem_append_left _ this
theorem Good.under {l : List Item} {R : List Row} (hg : Good l R) {par id : Str} (hp : (itemF l par).kind ≠ 0) (hid : id ≠ []) : underB l par id = true ↔ Up (itemF l) id par := by
  obtain ⟨hm, hi, o, ho⟩ := hg.it_kind hp
  have e := under_at hg ho hid
  simp only at e
  rw [hi] at e
  rw [e, decide_eq_true_eq]
  constructor
  · intro h
    have := hg.open_up hid _ _ ho rfl h
    simp only [hi] at this
    exact this
  · intro h
    exact hg.up_open hid h _ ho hi
theorem existsF_iff (l : List Item) (par aft : Str) : existsF l par aft = true ↔ exA (itemF l) par aft := by
  unfold existsF exA
  simp
theorem poss_chg {it : Its} {n : Nat} {p : Patch} (h : p.kind ≠ 1 ∧ p.kind ≠ 4) : Poss it n p ↔ ChgOk p (it p.id) := by
  unfold Poss; rw [if_neg h.1, if_neg h.2]
theorem poss_ins {it : Its} {n : Nat} {p : Patch} (h : p.kind = 1) : Poss it n p ↔ InsOk it n p := by unfold Poss; rw [if_pos h]
theorem poss_mov {it : Its} {n : Nat} {p : Patch} (h : p.kind = 4) : Poss it n p ↔ MovOk it p := by unfold Poss; rw [if_neg (by omega), if_pos h]
/- which patches are possible -/
theorem poss_iff {l : List Item} {R : List Row} (hg : Good l R) {p : Patch} (hf : formedF p = true) : (applyF l p).2 = 0 ↔ Poss (itemF l) l.length p := by
  have hkk := formed_kind hf
  unfold applyF
  rw [if_neg (by rw [hg.wB, hf]; simp)]
  by_cases h1 : p.kind = 1
  · rw [poss_ins h1, if_pos h1]
    unfold insertF
    constructor
    · intro h
      split at h
      · simp at h
      rename_i h2
      split at h
      · simp at h
      rename_i h3
      split at h
      · simp at h
      rename_i h4
      refine ⟨?_, (existsF_iff _ _ _).1 (by simpa using h3), by omega⟩
      cases Classical.em ((itemF l p.id).kind = 0) with
      | inl h => exact h
      | inr h5 =>
        obtain ⟨hm, hi, _⟩ := hg.it_kind h5
        obtain ⟨k, hk, _⟩ := hg.find_at hm
        rw [hi] at hk
        omega
    · rintro ⟨h2, h3, h4⟩
      rw [if_neg (by rw [(hg.it_none h2).2.1]; omega), if_neg (by rw [(existsF_iff _ _ _).2 h3]; simp), if_neg (by omega)]
  rw [if_neg h1]
  by_cases h0 : (itemF l p.id).kind = 0
  · rw [if_pos (.inl h0)]
    constructor
    · intro h; simp at h
    · intro h
      exfalso
      by_cases h4 : p.kind = 4
      · exact ((poss_mov h4).1 h).here h0
      · exact ((poss_chg ⟨h1, h4⟩).1 h).here h0
  have hk2 : (itemF l p.id).kind = 1 ∨ (itemF l p.id).kind = 2 := proper_kind (hg.pr _ (hg.it_kind h0).1)
  have hid : p.id ≠ [] := by
    have := proper_id (hg.pr _ (hg.it_kind h0).1)
    rw [(hg.it_kind h0).2.1] at this
    exact this
  by_cases h4 : p.kind = 4
  · have q1 : ¬ ((itemF l p.id).kind = 0 ∨ ((itemF l p.id).kind = 1 ∧ p.kind ≠ 3 ∧ p.kind ≠ 4)) := by omega
    have q2 : ¬ (p.kind = 6 ∧ (itemF l p.id).gone = false) := by omega
    have q3 : ¬ p.kind = 2 := by omega
    have q4 : ¬ p.kind = 3 := by omega
    rw [poss_mov h4, if_neg q1, if_neg q2, if_neg q3, if_neg q4, if_pos h4]
    constructor
    · intro h
      split at h
      · simp at h
      rename_i hgo
      unfold moveF at h
      split at h
      · rename_i hm
        unfold moveOk at hm
        simp only [Bool.and_eq_true, Bool.not_eq_true', beq_eq_false_iff_ne, Bool.or_eq_true, List.isEmpty_iff] at hm
        obtain ⟨m1, m2, m3, m4⟩ := hm
        have hex := (existsF_iff _ _ _).1 m1
        refine ⟨h0, ?_, hex, m2, m3, ?_⟩
        · cases hgg : (itemF l p.id).gone with
          | false => rfl
          | true => exact absurd ⟨by omega, hgg⟩ hgo
        · intro hp hu
          rcases m4 with m4 | m4
          · exact hp m4
          · rcases hex.1 with e | e
            · exact hp e
            · rw [(hg.under (by omega) hid).2 hu] at m4; cases m4
      · simp at h
    · rintro ⟨_, m1, m2, m3, m4, m5⟩
      rw [if_neg (by rw [m1]; simp)]
      unfold moveF
      rw [if_pos]
      unfold moveOk
      simp only [Bool.and_eq_true, Bool.not_eq_true', beq_eq_false_iff_ne, Bool.or_eq_true, List.isEmpty_iff]
      refine ⟨(existsF_iff _ _ _).2 m2, m3, m4, ?_⟩
      by_cases hp : p.par = []
      · exact .inl hp
      · right
        rcases m2.1 with e | e
        · exact absurd e hp
        · have := mt (hg.under (by omega) hid).1 (m5 hp)
          simpa using this
  rw [poss_chg ⟨h1, h4⟩]
  constructor
  · intro h
    split at h
    · simp at h
    rename_i ha
    split at h
    · simp at h
    rename_i hb
    split at h
    · simp at h
    rename_i hc
    refine ⟨h0, ?_, ?_, ?_, ?_, ?_⟩
    · intro h3
      rcases hk2 with e | e
      · exact absurd (.inr ⟨e, h3, h4⟩) ha
      · exact e
    · intro h6
      cases hgg : (itemF l p.id).gone with
      | true => rfl
      | false => exact absurd ⟨h6, hgg⟩ hb
    · intro h6
      cases hgg : (itemF l p.id).gone with
      | false => rfl
      | true => exact absurd ⟨h6, hgg⟩ hc
    · intro h2
      rw [if_pos h2] at h
      unfold wordsF at h
      split at h
      · simp at h
      rename_i hd
      split at h
      · simp at h
      rename_i he
      exact ⟨by simpa using hd, by omega⟩
    · intro h7
      have q2 : ¬ p.kind = 2 := by omega
      have q3 : ¬ p.kind = 3 := by omega
      simp only [if_neg q2, if_neg q3, if_neg h4, if_pos h7] at h
      unfold replaceF at h
      split at h
      · simp at h
      · omega
  · rintro ⟨_, ha, h6, hs, hw, hr⟩
    rw [if_neg (by
      rintro (h | ⟨h, h3, _⟩)
      · exact h0 h
      · have := ha h3; omega)]
    rw [if_neg (by rintro ⟨h, h'⟩; rw [h6 h] at h'; cases h')]
    rw [if_neg (by rintro ⟨h, h'⟩; rw [hs h] at h'; cases h')]
    by_cases h2 : p.kind = 2
    · rw [if_pos h2]
      unfold wordsF
      rw [if_neg (by rw [(hw h2).1]; simp), if_neg (by have := (hw h2).2; omega)]
    rw [if_neg h2]
    by_cases h3 : p.kind = 3
    · rw [if_pos h3]
    rw [if_neg h3, if_neg h4]
    by_cases h7 : p.kind = 7
    · rw [if_pos h7]
      unfold replaceF
      rw [if_neg (by have := hr h7; omega)]
    · rw [if_neg h7]
end Go.Proofs.Ytfolcjkednmkoaa
namespace Go.Proofs.Ytfolcjkednmkoaa
structure St where
  it : Its
  o : Ords
  n : Nat
def stL (l : List Item) : St := ⟨itemF l, ordL l, l.length⟩
def stN (s : St) (p : Patch) : St := ⟨itN s.it p, ordN s.o p, lenN s.n p⟩
/- rows are known by their items -/
theorem rows_det {A A' : List Row} (h : A.map (·.1) = A'.map (·.1)) (hc : Chain [] A) (hc' : Chain [] A') (hn : (idsR A).Nodup) (hp : ∀ y ∈ A, properB y.1 = true) : A = A' := by
  have h1 := walkF_of A [] [] hc List.nodup_nil (by simp) hn (by simp) hp
  have hi : idsR A' = idsR A := by
    have : ∀ B : List Row, idsR B = (B.map (·.1)).map (·.id) := fun B => by simp [idsR]
    rw [this, this, h]
  have h2 := walkF_of A' [] [] hc' List.nodup_nil (by simp) (by rw [hi]; exact hn) (by simp) (by
    intro y hy
    have : y.1 ∈ A.map (·.1) := by rw [h]; exact List.mem_map_of_mem hy
    obtain ⟨z, hz, he⟩ := List.mem_map.1 this
    rw [← he]
    exact hp z hz)
  rw [h, h2] at h1
  exact (Prod.mk.inj h1).1.symm
/- who comes next stands as deep as he may -/
theorem ext_key {l : List Item} {R A C : List Row} {x x' : Item} {o o' : List Str} (hg : Good l R) (hR : R = A ++ (x, o) :: C) (ho' : o' <+: stk [] A) (hl' : lastS o' = x'.par)
    (hm : x' ∈ l) (hu : ∀ y ∈ A, y.1 ≠ x') (hp : o <+: o') : o = o' := by
  obtain ⟨t, rfl⟩ := hp
  cases t with
  | nil => simp
  | cons z t =>
    exfalso
    have hc := hg.chain
    have hn := hg.nd
    rw [hR] at hc hn
    obtain ⟨n1, n2, n3, n4, n5⟩ := nodup_parts hn
    have hcA := (chain_append.1 hc).1
    obtain ⟨k1, k2, k3, k4⟩ := chain_mid hc
    have hq : x'.par ∈ z :: t := by rw [← hl']; exact lastS_app o z t
    have hSn : (stk [] A).Nodup := stk_nodup hcA List.nodup_nil (by simp) n3
    have hon : (o ++ z :: t).Nodup := ho'.sublist.nodup hSn
    have hqS : x'.par ∈ stk [] A := pre_sub ho' (List.mem_append_right _ hq)
    have hqA : x'.par ∈ idsR A := chain_sub0 hcA hqS
    have hqo : x'.par ∉ o := fun h => (List.nodup_append.1 hon).2.2 _ h _ hq rfl
    have hne : x'.par ≠ [] := by
      intro h
      have : x'.par ∈ A.map (·.1.id) := hqA
      obtain ⟨w, hw, he⟩ := List.mem_map.1 this
      have := proper_id (hg.proper (y := w) (by rw [hR]; simp [hw]))
      exact this (by rw [← h]; exact he)
    have hxx : x' ≠ x := by
      rintro rfl
      by_cases ho : o = []
      · exact hne (by rw [← k2, ho]; rfl)
      · exact hqo (by rw [← k2]; exact lastS_mem ho)
    rw [← hg.fst, hR] at hm
    simp only [List.map_append, List.map_cons, List.mem_append, List.mem_cons, List.mem_map] at hm
    rcases hm with ⟨w, hw, he⟩ | he | ⟨w, hw, he⟩
    · exact hu w hw he
    · exact hxx he
    · have hwR : w ∈ R := by rw [hR]; simp [hw]
      obtain ⟨u, hu2, _⟩ := hg.parent hwR (by rw [he]; exact hne)
      refine not_open k4 ?_ ?_ w hw (z := x'.par) ?_
      · intro h
        rcases mem_push h with h | h
        · exact hqo h
        · rw [h] at hqA; exact n1 hqA
      · exact n5 _ hqA
      · rw [hu2, he]; simp
theorem code_ext {l l' : List Item} (hw : walkB l = true) (hw' : walkB l' = true) (h : stL l = stL l') : l = l' := by
  have hg := good_of hw
  have hg' := good_of hw'
  generalize walkL l = R at hg
  generalize walkL l' = R' at hg'
  have hit : itemF l = itemF l' := congrArg St.it h
  have hor : ordL l = ordL l' := congrArg St.o h
  have hlen : l.length = l'.length := congrArg St.n h
  have hmem : ∀ x, x ∈ l → x ∈ l' := by
    intro x hx
    have e := hg.item_of hx
    rw [hit] at e
    have := (hg'.it_kind (i := x.id) (by rw [e]; have := proper_kind (hg.pr _ hx); omega)).1
    rw [e] at this
    exact this
  have hmem' : ∀ x, x ∈ l' → x ∈ l := by
    intro x hx
    have e := hg'.item_of hx
    rw [← hit] at e
    have := (hg.it_kind (i := x.id) (by rw [e]; have := proper_kind (hg'.pr _ hx); omega)).1
    rw [e] at this
    exact this
  have key : ∀ n, l.take n = l'.take n := by
    intro n
    induction n with
    | zero => simp
    | succ n ih =>
      by_cases hn : n < l.length
      · have hn' : n < l'.length := by omega
        have e1 := List.take_append_drop n l
        have e2 := List.take_append_drop n l'
        rw [List.drop_eq_getElem_cons hn] at e1
        rw [List.drop_eq_getElem_cons hn'] at e2
        rw [List.take_add_one, List.take_add_one, ih, List.getElem?_eq_getElem hn, List.getElem?_eq_getElem hn']
        congr 2
        generalize l[n] = x at e1
        generalize l'[n] = x' at e2
        generalize l.drop (n + 1) = r at e1
        generalize l'.drop (n + 1) = r' at e2
        rw [← ih] at e2
        generalize l.take n = u at e1 e2
        have f1 := hg.fst
        have f2 := hg'.fst
        rw [← e1, List.map_eq_append_iff] at f1
        rw [← e2, List.map_eq_append_iff] at f2
        obtain ⟨A, C0, hR, hA, hC0⟩ := f1
        obtain ⟨A', C0', hR', hA', hC0'⟩ := f2
        rw [List.map_eq_cons_iff] at hC0 hC0'
        obtain ⟨⟨x1, o⟩, C, rfl, hx1, hC⟩ := hC0
        obtain ⟨⟨x1', o'⟩, C', rfl, hx1', hC'⟩ := hC0'
        simp only at hx1 hx1'
        subst hx1 hx1'
        have hc := hg.chain
        have hc' := hg'.chain
        rw [hR] at hc
        rw [hR'] at hc'
        have hnd := hg.nd
        rw [hR] at hnd
        have hnd' := hg'.nd
        rw [hR'] at hnd'
        obtain ⟨n1, n2, n3, n4, n5⟩ := nodup_parts hnd
        obtain ⟨m1, m2, m3, m4, m5⟩ := nodup_parts hnd'
        have hAA : A = A' := rows_det (hA.trans hA'.symm) (chain_append.1 hc).1 (chain_append.1 hc').1 n3 (fun y hy => hg.proper (by rw [hR]; simp [hy]))
        subst hAA
        obtain ⟨k1, k2, k3, k4⟩ := chain_mid hc
        obtain ⟨j1, j2, j3, j4⟩ := chain_mid hc'
        have hxl : x1 ∈ l' := hmem _ (by rw [← e1]; simp)
        have hxl' : x1' ∈ l := hmem' _ (by rw [← e2]; simp)
        have hnu : ∀ y ∈ A, y.1 ≠ x1' := by
          rintro y hy rfl
          exact m1 (by unfold idsR; exact List.mem_map_of_mem (f := fun y : Row => y.1.id) hy)
        have hnu' : ∀ y ∈ A, y.1 ≠ x1 := by
          rintro y hy rfl
          exact n1 (by unfold idsR; exact List.mem_map_of_mem (f := fun y : Row => y.1.id) hy)
        have hoo : o = o' := by
          rcases Nat.le_total o.length o'.length with hle | hle
          · exact ext_key hg hR j1 j2 hxl' hnu (List.prefix_of_prefix_length_le k1 j1 hle)
          · exact (ext_key hg' hR' k1 k2 hxl hnu' (List.prefix_of_prefix_length_le j1 k1 hle)).symm
        have hpar : x1.par = x1'.par := by rw [← k2, ← j2, hoo]
        have ho := congrFun hor x1.par
        unfold ordL at ho
        rw [← e1, ← e2] at ho
        simp only [List.filter_append, List.filter_cons, List.map_append, beq_self_eq_true, if_true, ← hpar, List.map_cons, List.append_cancel_left_eq, List.cons.injEq] at ho
        have a1 := hg.item_of (x := x1) (by rw [← e1]; simp)
        have a2 := hg'.item_of (x := x1') (by rw [← e2]; simp)
        rw [← a1, ← a2, hit, ho.1]
      · have h1 : l.take (n + 1) = l.take n := by rw [List.take_of_length_le (by omega), List.take_of_length_le (by omega)]
        have h2 : l'.take (n + 1) = l'.take n := by rw [List.take_of_length_le (by omega), List.take_of_length_le (by omega)]
        rw [h1, h2, ih]
  have := key l.length
  rw [List.take_length, hlen, List.take_length] at this
  exact this
/- the order of the children -/
theorem insA_mid {aft i : Str} {U V : List Str} (h : aft ≠ []) (hU : aft ∉ U) (hV : aft ∉ V) : insA aft i (U ++ aft :: V) = U ++ aft :: i :: V := by
  have key : ∀ L : List Str, aft ∉ L → (L.flatMap fun j => if j = aft then [j, i] else [j]) = L := by
    intro L hL
    induction L with
    | nil => rfl
    | cons j r ih =>
      simp only [List.mem_cons, not_or] at hL
      rw [List.flatMap_cons, if_neg (fun e => hL.1 e.symm), ih hL.2]; rfl
  unfold insA
  rw [if_neg h, List.flatMap_append, List.flatMap_cons, if_pos rfl, key U hU, key V hV]; rfl
theorem ordL_append (u v : List Item) (q : Str) : ordL (u ++ v) q = ordL u q ++ ordL v q := by simp [ordL]
theorem ordL_cons (x : Item) (v : List Item) (q : Str) : ordL (x :: v) q = (if x.par = q then [x.id] else []) ++ ordL v q := by
  unfold ordL
  by_cases h : x.par = q
  · simp [h]
  · simp [h]
theorem ordL_nil (q : Str) : ordL [] q = [] := rfl
theorem ordL_none {v : List Item} {q : Str} (h : ∀ y ∈ v, y.par ≠ q) : ordL v q = [] := by
  unfold ordL
  rw [List.map_eq_nil_iff, List.filter_eq_nil_iff]
  intro y hy
  simpa using h y hy
theorem ordL_sub {v : List Item} {q s : Str} (h : s ∈ ordL v q) : s ∈ v.map (·.id) := by
  unfold ordL at h
  simp only [List.mem_map, List.mem_filter] at h ⊢
  obtain ⟨y, ⟨hy, _⟩, he⟩ := h
  exact ⟨y, hy, he⟩
theorem ins_ord {A B : List Item} {par aft i : Str} (hs : lastSib A par = aft) (hn : ((A ++ B).map (·.id)).Nodup) (h0 : ∀ y ∈ A, y.id ≠ []) : insA aft i (ordL (A ++ B) par) = ordL A par ++ i :: ordL B par := by
  rw [ordL_append]
  rcases lastSib_cases A par with ⟨h1, h2⟩ | ⟨u, y, v, rfl, h2, h3, h4⟩
  · rw [hs] at h1
    rw [ordL_none h2, h1]
    rfl
  · rw [hs] at h4
    subst h4
    have hy : y.id ≠ [] := h0 y (by simp)
    have e : ordL (u ++ y :: v) par = ordL u par ++ [y.id] := by
      rw [ordL_append, ordL_cons, if_pos h2, ordL_none h3]; rfl
    have hn' : ((u ++ y :: (v ++ B)).map (·.id)).Nodup := by simpa using hn
    simp only [List.map_append, List.map_cons] at hn'
    have hnu : y.id ∉ u.map (·.id) := fun h => (List.nodup_append.1 hn').2.2 _ h _ (by simp) rfl
    have hnB : y.id ∉ B.map (·.id) := by
      have := (List.nodup_cons.1 (List.nodup_append.1 hn').2.1).1
      exact fun h => this (List.mem_append_right _ h)
    rw [e]
    have := insA_mid (i := i) hy (fun h => hnu (ordL_sub (v := u) (q := par) h)) (fun h => hnB (ordL_sub (v := B) (q := par) h))
    simpa using this
theorem outA_none {i : Str} {L : List Str} (h : i ∉ L) : outA i L = L := by
  unfold outA
  rw [List.filter_eq_self]
  intro j hj
  simp
  rintro rfl
  exact h hj
theorem outA_append (i : Str) (U V : List Str) : outA i (U ++ V) = outA i U ++ outA i V := by simp [outA]
end Go.Proofs.Ytfolcjkednmkoaa
namespace Go.Proofs.Ytfolcjkednmkoaa
theorem ids_ne {l : List Item} {R : List Row} (hg : Good l R) {y : Item} (hy : y ∈ l) : y.id ≠ [] := proper_id (hg.pr _ hy)
theorem ordL_congr {u v : List Item} (h : u = v) (q : Str) : ordL u q = ordL v q := by rw [h]
/- where the items of a block have their parents -/
theorem Block.pars {l : List Item} {R a r b : List Row} {x : Item} {o : List Str} (hg : Good l R) (hB : Block R a x o r b) :
    (∀ y ∈ r, y.1.par = x.id ∨ y.1.par ∈ idsR r) ∧ (∀ y ∈ a ++ b, y.1.par ≠ x.id ∧ y.1.par ∉ idsR r) := by
  have hc := hg.chain
  have hn := hg.nd
  rw [hB.eq] at hn
  obtain ⟨n1, n2, n3, n4, n5⟩ := nodup_parts hn
  have hxl : x ∈ l := hg.mem (y := (x, o)) (by rw [hB.eq]; simp)
  have hmem : ∀ y, y ∈ r → y ∈ R := fun y hy => by rw [hB.eq]; simp [hy]
  constructor
  · intro y hy
    have hyR := hmem y hy
    obtain ⟨t, ht⟩ := hB.inner y hy
    have hne : y.2 ≠ [] := by rw [← ht]; simp
    have hpar := hg.par_ne hyR hne
    obtain ⟨hl, _⟩ := hg.par_last hyR
    have hcr := hB.parts hc
    have hnd := hg.nodup_of hyR
    have hm : y.1.par ∈ x.id :: t := by
      rw [← hl, ← ht, List.append_assoc]
      exact lastS_app o x.id t
    have hm2 : y.1.par ∈ y.2 := by rw [← hl]; exact lastS_mem hne
    rcases open_sub hcr y hy _ hm2 with h | h
    · rcases mem_push h with h | h
      · exfalso
        rw [← ht, List.append_assoc] at hnd
        exact (List.nodup_append.1 hnd).2.2 _ h _ (by simpa using hm) rfl
      · exact .inl h
    · exact .inr h
  · intro y hy
    have hyR : y ∈ R := by
      rw [hB.eq]
      rcases List.mem_append.1 hy with h | h <;> simp [h]
    have hno : x.id ∉ y.2 := by
      rcases List.mem_append.1 hy with h | h
      · exact hB.before y h
      · exact hB.after y h
    by_cases hp : y.1.par = []
    · rw [hp]
      refine ⟨fun h => ids_ne hg hxl h.symm, fun h => ?_⟩
      obtain ⟨w, hw, he⟩ := List.mem_map.1 (show [] ∈ r.map (fun y => y.1.id) from h)
      exact ids_ne hg (hg.mem (hmem w hw)) he
    · obtain ⟨u, hu, w, hw, hwi, hwu, _⟩ := hg.parent hyR hp
      refine ⟨fun h => hno (by rw [hu, h]; simp), fun h => ?_⟩
      obtain ⟨z, hz, he⟩ := List.mem_map.1 (show y.1.par ∈ r.map (fun y => y.1.id) from h)
      have : w = z := hg.uniq hw (hmem z hz) (by rw [hwi, he])
      subst this
      obtain ⟨t, ht⟩ := hB.inner w hz
      refine hno ?_
      rw [hu, ← hwu, ← ht]; simp
theorem eff_law {l : List Item} {p : Patch} (h : (applyF l p).2 = 0) : stL (applyF l p).1 = stN (stL l) p := by
  obtain ⟨R, hg, hf, hD⟩ := apply_done h
  generalize (applyF l p).1 = d at hD
  have hlid := hg.ids_nodup
  rcases hD with ⟨a, b, o, hI⟩ | ⟨a, c, x, o, hC⟩ | ⟨a, x, o, r, b, a', b', o', hM⟩
  · have hk := hI.kind
    have hw := hI.was hg
    have hi := hI.it
    show St.mk _ _ _ = St.mk _ _ _
    congr 1
    · rw [it_upd hg hI.good p.item (id := p.id) (by rw [hi]; simp) hI.id ?_]
      · funext i
        show _ = itN (itemF l) p i
        unfold itN
        rw [if_pos hk]
      · intro z hz
        rw [hi, hw]
        simp only [List.mem_append, List.mem_cons]
        constructor
        · rintro (h | h | h)
          · exact .inl h
          · rw [h] at hz; exact absurd hI.id hz
          · exact .inr h
        · rintro (h | h)
          · exact .inl h
          · exact .inr (.inr h)
    · funext q
      show _ = ordN (ordL l) p q
      unfold ordN
      rw [if_pos hk, hi, ordL_append, ordL_cons, hI.par, hw, hI.id]
      by_cases hq : q = p.par
      · rw [if_pos hq.symm, if_pos hq, hq]
        rw [ins_ord hI.place.sib (by rw [← hw]; exact hlid) (fun y hy => ids_ne hg (by rw [hw]; exact List.mem_append_left _ hy))]
        rfl
      · rw [if_neg (fun h => hq h.symm), if_neg hq, ordL_append]
        rfl
    · show _ = lenN l.length p
      unfold lenN
      rw [if_pos hk, hi, hw]
      simp; omega
  · obtain ⟨k1, k4⟩ := hC.kind
    have hw := hC.was hg
    have hi := hC.now
    obtain ⟨c1, c2, c3⟩ := chgF_id p x
    have hx2 : itemF l p.id = x := by
      rw [← hC.id]; exact hg.item_of (by rw [hw]; simp)
    have hnx : ∀ z ∈ a.map (·.1) ++ c.map (·.1), z.id ≠ x.id := by
      intro z hz he
      have := hlid
      rw [hw] at this
      simp only [List.map_append, List.map_cons, List.nodup_append, List.nodup_cons] at this
      rcases List.mem_append.1 hz with h | h
      · exact this.2.2 _ (List.mem_map_of_mem (f := (·.id)) h) _ (by simp) he
      · exact this.2.1.1 (by rw [← he]; exact List.mem_map_of_mem (f := (·.id)) h)
    show St.mk _ _ _ = St.mk _ _ _
    congr 1
    · rw [it_upd hg hC.good (chgF p x) (id := p.id) (by rw [hi]; simp) (by rw [c1, hC.id]) ?_]
      · funext i
        show _ = itN (itemF l) p i
        unfold itN
        rw [if_neg k1, if_neg k4]
        by_cases he : i = p.id
        · rw [if_pos he, if_pos he, he, hx2]
        · rw [if_neg he, if_neg he]
      · intro z hz
        rw [hi, hw]
        simp only [List.mem_append, List.mem_cons]
        constructor
        · rintro (h | h | h)
          · exact .inl h
          · rw [h, c1, hC.id] at hz; exact absurd rfl hz
          · exact .inr (.inr h)
        · rintro (h | h | h)
          · exact .inl h
          · rw [h, hC.id] at hz; exact absurd rfl hz
          · exact .inr (.inr h)
    · funext q
      show _ = ordN (ordL l) p q
      unfold ordN
      rw [if_neg k1, if_neg k4, hi, hw, ordL_append, ordL_cons, ordL_append, ordL_cons, c1, c3]
    · show _ = lenN l.length p
      unfold lenN
      rw [if_neg k1, hi, hw]
      simp
  · have hk := hM.kind
    have hk1 : ¬ p.kind = 1 := by omega
    have hB := hM.mv.block
    have hx := hM.mv.id
    have hw := hM.was hg
    have hi := hM.now
    have hr := hM.rest
    have hx2 : itemF l p.id = x := by
      rw [← hx]; exact hg.item_of (by rw [hw]; simp)
    have hrest := hg.rest hB
    obtain ⟨hin, hout⟩ := hB.pars hg
    have hn := hg.nd
    rw [hB.eq] at hn
    obtain ⟨n1, n2, n3, n4, n5⟩ := nodup_parts hn
    have hab : ∀ z : Item, (z ∈ a'.map (·.1) ∨ z ∈ b'.map (·.1)) ↔ (z ∈ a.map (·.1) ∨ z ∈ b.map (·.1)) := by
      intro z
      rw [← List.mem_append, ← List.mem_append, hr]
    show St.mk _ _ _ = St.mk _ _ _
    congr 1
    · rw [it_upd hg hM.good { x with par := p.par } (id := p.id) (by rw [hi]; simp) hx ?_]
      · funext i
        show _ = itN (itemF l) p i
        unfold itN
        rw [if_neg hk1, if_pos hk]
        by_cases he : i = p.id
        · rw [if_pos he, if_pos he, he, hx2]
        · rw [if_neg he, if_neg he]
      · intro z hz
        rw [hi, hw]
        have := hab z
        have hzx : z ≠ x := by rintro rfl; exact hz hx
        have hzx' : z ≠ { x with par := p.par } := by rintro rfl; exact hz hx
        simp only [List.mem_append, List.mem_cons, hzx, hzx', false_or]
        constructor
        · rintro (h | h | h)
          · exact (this.1 (.inl h)).elim .inl (fun h => .inr (.inr h))
          · exact .inr (.inl h)
          · exact (this.1 (.inr h)).elim .inl (fun h => .inr (.inr h))
        · rintro (h | h | h)
          · exact (this.2 (.inl h)).elim .inl (fun h => .inr (.inr h))
          · exact .inr (.inl h)
          · exact (this.2 (.inr h)).elim .inl (fun h => .inr (.inr h))
    · funext q
      show _ = ordN (ordL l) p q
      unfold ordN
      rw [if_neg hk1, if_pos hk]
      have ho : outA p.id (ordL l q) = ordL (a.map (·.1)) q ++ (ordL (r.map (·.1)) q ++ ordL (b.map (·.1)) q) := by
        have hno : ∀ {v : List Row}, x.id ∉ idsR v → outA p.id (ordL (v.map (·.1)) q) = ordL (v.map (·.1)) q := by
          intro v hv
          refine outA_none fun hm => hv ?_
          have := ordL_sub hm
          rw [← hx] at this
          simpa [idsR] using this
        rw [idsR_append] at n2
        rw [hw, ordL_append, ordL_cons, ordL_append, outA_append, outA_append, outA_append, hno n1, hno (fun h => n2 (List.mem_append_left _ h)), hno (fun h => n2 (List.mem_append_right _ h))]
        have : outA p.id (if x.par = q then [x.id] else []) = [] := by
          rw [hx]
          split <;> simp [outA]
        rw [this]; rfl
      rw [ho, hi, ordL_append, ordL_cons, ordL_append]
      have hsum : ordL (a'.map (·.1)) q ++ ordL (b'.map (·.1)) q = ordL (a.map (·.1)) q ++ ordL (b.map (·.1)) q := by
        rw [← ordL_append, ← ordL_append, hr]
      have hrd : ∀ y ∈ r, y.1 ∈ r.map (·.1) := fun y hy => List.mem_map_of_mem hy
      have hcase : ordL (r.map (·.1)) q = [] ∨ (ordL (a.map (·.1)) q = [] ∧ ordL (b.map (·.1)) q = []) := by
        by_cases hq : q = x.id ∨ q ∈ idsR r
        · right
          constructor
          · refine ordL_none ?_
            intro z hz
            obtain ⟨y, hy, rfl⟩ := List.mem_map.1 hz
            have := hout y (List.mem_append_left _ hy)
            rintro rfl
            exact hq.elim this.1 this.2
          · refine ordL_none ?_
            intro z hz
            obtain ⟨y, hy, rfl⟩ := List.mem_map.1 hz
            have := hout y (List.mem_append_right _ hy)
            rintro rfl
            exact hq.elim this.1 this.2
        · left
          refine ordL_none ?_
          intro z hz
          obtain ⟨y, hy, rfl⟩ := List.mem_map.1 hz
          rintro rfl
          exact hq (hin y hy)
      by_cases hq : q = p.par
      · rw [if_pos hq.symm, if_pos hq]
        have hre : ordL (r.map (·.1)) q = [] := by
          refine ordL_none ?_
          intro z hz
          obtain ⟨y, hy, rfl⟩ := List.mem_map.1 hz
          intro he
          have hP := hM.mv.place
          have hpar : p.par ≠ [] := by
            rw [← hq, ← he]
            have hyR : y ∈ R := by rw [hB.eq]; simp [hy]
            refine hg.par_ne hyR ?_
            obtain ⟨t, ht⟩ := hB.inner y hy
            rw [← ht]; simp
          have hne : o' ≠ [] := by
            intro h
            have := hP.last
            rw [h] at this
            exact hpar this.symm
          have hca : Chain [] a' := by
            have := hrest.chain
            rw [hP.place.eq] at this
            exact (chain_append.1 this).1
          have hm : p.par ∈ idsR a' := by
            refine chain_sub0 hca (pre_sub hP.place.pre ?_)
            rw [← hP.last]; exact lastS_mem hne
          have hm2 : p.par ∈ idsR (a ++ b) := by
            rw [hP.place.eq, idsR_append]; exact List.mem_append_left _ hm
          rw [idsR_append] at hm2 n2 n4
          have hj : p.par = x.id ∨ p.par ∈ idsR r := by rw [← hq, ← he]; exact hin y hy
          rcases List.mem_append.1 hm2 with h | h
          · rcases hj with e | e
            · rw [e] at h; exact n1 h
            · exact n5 _ h (by rw [idsR_append]; exact List.mem_append_left _ e)
          · rcases hj with e | e
            · rw [e] at h; exact n2 (List.mem_append_right _ h)
            · exact (List.nodup_append.1 n4).2.2 _ e _ h rfl
        rw [hre, List.nil_append, List.nil_append, ← ordL_append, hr, hq, ins_ord hM.mv.place.sib]
        · rw [hx]; simp
        · rw [← hr, ← List.map_append]; exact hrest.ids_nodup
        · intro y hy
          refine ids_ne hrest ?_
          rw [List.map_append, hr]
          exact List.mem_append_left _ hy
      · rw [if_neg (fun h => hq h.symm), if_neg hq, List.nil_append]
        rcases hcase with h | ⟨h1, h2⟩
        · rw [h]; simpa using hsum
        · rw [h1, h2] at hsum
          simp only [List.nil_append, List.append_eq_nil_iff] at hsum
          rw [hsum.1, hsum.2, h1, h2]
    · show _ = lenN l.length p
      unfold lenN
      rw [if_neg hk1, hi, hw]
      have := congrArg List.length hr
      simp only [List.length_append] at this
      simp only [List.length_append, List.length_cons]
      omega
end Go.Proofs.Ytfolcjkednmkoaa
namespace Go.Proofs.Ytfolcjkednmkoaa
def placesK (k : Int) : Bool := k == 1 || k == 4
def namesF (p : Patch) (id : Str) : Bool := p.par == id || p.aft == id
def ownF (j k : Int) : Bool := (j == 2 && k == 3) || ((j == 2 && k == 4) || ((j == 3 && k == 4) || ((j == 3 && k == 7) || (j == 4 && k == 7))))
def thereF (a b : Patch) : Bool := a.par == b.par && a.aft == b.aft
def commO (a b : Patch) : Bool :=
  if !formedF a || !formedF b then false
  else if patEq a b then true
  else if a.id == b.id then (a.kind == b.kind && (a.kind == 2 && a.lang != b.lang)) || ownF a.kind b.kind
  else if !placesK a.kind || !placesK b.kind then true
  else if b.kind == 1 then !thereF a b && (!namesF a b.id && !namesF b a.id)
  else if a.kind == 1 then !thereF a b && (!namesF b a.id && a.aft != b.id)
  else a.par == b.par && (!thereF a b && (a.aft != b.id && b.aft != a.id))
def commF (a b : Patch) : Bool := if b.kind < a.kind then commO b a else commO a b
theorem bool_ne {α : Type} [BEq α] [LawfulBEq α] {a b : α} : (a == b) = (b == a) := by
  rw [Bool.eq_iff_iff, beq_iff_eq, beq_iff_eq]; exact ⟨Eq.symm, Eq.symm⟩
theorem patEq_symm (a b : Patch) : patEq a b = patEq b a := by
  rw [Bool.eq_iff_iff, patEq_iff, patEq_iff, eq_comm]
theorem commF_symm (a b : Patch) : commF a b = commF b a := by
  unfold commF
  rcases Int.lt_trichotomy a.kind b.kind with h | h | h
  · rw [if_neg (by omega), if_pos h]
  · rw [if_neg (by omega), if_neg (by omega)]
    unfold commO thereF namesF
    rw [patEq_symm a b, h, bool_ne (a := a.id) (b := b.id), bool_ne (a := a.par) (b := b.par), bool_ne (a := a.aft) (b := b.aft), Bool.or_comm (!formedF a)]
    have e : (a.lang != b.lang) = (b.lang != a.lang) := by unfold bne; rw [bool_ne]
    rw [e]
    by_cases hk : b.kind = 1
    · simp only [hk]
      cases formedF a <;> cases formedF b <;> simp [Bool.and_comm, Bool.and_left_comm, Bool.and_assoc]
    · have : (b.kind == 1) = false := by simpa using hk
      simp only [this]
      cases formedF a <;> cases formedF b <;> simp [Bool.and_comm, Bool.and_left_comm, Bool.and_assoc]
  · rw [if_pos h, if_neg (by omega)]
/- how two patches commute, the first one of the lesser kind -/
inductive CommP (a b : Patch) : Prop
  | same : a = b → CommP a b
  | words : a.id = b.id → a.kind = 2 → b.kind = 2 → a.lang ≠ b.lang → CommP a b
  | own : a.id = b.id → ownF a.kind b.kind = true → CommP a b
  | own' : a.id = b.id → ownF b.kind a.kind = true → CommP a b
  | left : a.id ≠ b.id → (a.kind ≠ 1 ∧ a.kind ≠ 4) → CommP a b
  | right : a.id ≠ b.id → (b.kind ≠ 1 ∧ b.kind ≠ 4) → CommP a b
  | ins : a.id ≠ b.id → a.kind = 1 → b.kind = 1 → (a.par = b.par → a.aft ≠ b.aft) → a.par ≠ b.id → a.aft ≠ b.id → b.par ≠ a.id → b.aft ≠ a.id → CommP a b
  | mix : a.id ≠ b.id → a.kind = 1 → b.kind = 4 → (a.par = b.par → a.aft ≠ b.aft) → b.par ≠ a.id → b.aft ≠ a.id → a.aft ≠ b.id → CommP a b
  | mix' : a.id ≠ b.id → a.kind = 4 → b.kind = 1 → (a.par = b.par → a.aft ≠ b.aft) → a.par ≠ b.id → a.aft ≠ b.id → b.aft ≠ a.id → CommP a b
  | mov : a.id ≠ b.id → a.kind = 4 → b.kind = 4 → a.par = b.par → a.aft ≠ b.aft → a.aft ≠ b.id → b.aft ≠ a.id → CommP a b
theorem CommP.symm {a b : Patch} (h : CommP a b) : CommP b a := by
  cases h with
  | same h => exact .same h.symm
  | words h1 h2 h3 h4 => exact .words h1.symm h3 h2 (Ne.symm h4)
  | own h1 h2 => exact .own' h1.symm h2
  | own' h1 h2 => exact .own h1.symm h2
  | left h1 h2 => exact .right (Ne.symm h1) h2
  | right h1 h2 => exact .left (Ne.symm h1) h2
  | ins h1 h2 h3 h4 h5 h6 h7 h8 => exact .ins (Ne.symm h1) h3 h2 (fun e => Ne.symm (h4 e.symm)) h7 h8 h5 h6
  | mix h1 h2 h3 h4 h5 h6 h7 => exact .mix' (Ne.symm h1) h3 h2 (fun e => Ne.symm (h4 e.symm)) h5 h6 h7
  | mix' h1 h2 h3 h4 h5 h6 h7 => exact .mix (Ne.symm h1) h3 h2 (fun e => Ne.symm (h4 e.symm)) h5 h6 h7
  | mov h1 h2 h3 h4 h5 h6 h7 => exact .mov (Ne.symm h1) h3 h2 h4.symm (Ne.symm h5) h7 h6
theorem there_false {a b : Patch} : thereF a b = false ↔ (a.par = b.par → a.aft ≠ b.aft) := by
  unfold thereF
  simp
theorem names_false {a : Patch} {id : Str} : namesF a id = false ↔ a.par ≠ id ∧ a.aft ≠ id := by
  unfold namesF
  simp
theorem commO_cases {a b : Patch} (hk : a.kind ≤ b.kind) (h : commO a b = true) : formedF a = true ∧ formedF b = true ∧ CommP a b := by
  unfold commO at h
  split at h
  · cases h
  rename_i hf
  simp only [Bool.or_eq_true, Bool.not_eq_true', not_or, Bool.not_eq_false] at hf
  refine ⟨hf.1, hf.2, ?_⟩
  split at h
  · rename_i he
    exact .same (patEq_iff.1 he)
  split at h
  · rename_i he
    rw [beq_iff_eq] at he
    simp only [Bool.or_eq_true, Bool.and_eq_true, beq_iff_eq, bne_iff_ne] at h
    rcases h with ⟨h1, h2, h3⟩ | h
    · exact .words he h2 (by omega) h3
    · exact .own he h
  rename_i he
  rw [beq_iff_eq] at he
  split at h
  · rename_i hp
    unfold placesK at hp
    simp only [Bool.or_eq_true, Bool.not_eq_true', Bool.or_eq_false_iff, beq_eq_false_iff_ne] at hp
    rcases hp with hp | hp
    · exact .left he hp
    · exact .right he hp
  rename_i hp
  unfold placesK at hp
  simp at hp
  split at h
  · rename_i hb
    rw [beq_iff_eq] at hb
    simp only [Bool.and_eq_true, Bool.not_eq_true', there_false, names_false] at h
    exact .ins he (by omega) hb h.1 h.2.1.1 h.2.1.2 h.2.2.1 h.2.2.2
  rename_i hb
  rw [beq_iff_eq] at hb
  split at h
  · rename_i ha
    rw [beq_iff_eq] at ha
    simp only [Bool.and_eq_true, Bool.not_eq_true', there_false, names_false, bne_iff_ne] at h
    exact .mix he ha (by omega) h.1 h.2.1.1 h.2.1.2 h.2.2
  · rename_i ha
    rw [beq_iff_eq] at ha
    simp only [Bool.and_eq_true, Bool.not_eq_true', there_false, bne_iff_ne, beq_iff_eq] at h
    exact .mov he (by omega) (by omega) h.1 (h.2.1 h.1) h.2.2.1 h.2.2.2
theorem comm_cases {a b : Patch} (h : commF a b = true) : formedF a = true ∧ formedF b = true ∧ CommP a b := by
  unfold commF at h
  split at h
  · rename_i hk
    obtain ⟨h1, h2, h3⟩ := commO_cases (by omega) h
    exact ⟨h2, h1, h3.symm⟩
  · exact commO_cases (by omega) h
/- the laws of orders -/
theorem insA_cons {aft i j : Str} {r : List Str} (h : aft ≠ []) : insA aft i (j :: r) = (if j = aft then [j, i] else [j]) ++ insA aft i r := by
  unfold insA
  rw [if_neg h, if_neg h, List.flatMap_cons]
theorem insA_nil {i : Str} {L : List Str} : insA [] i L = i :: L := by
  unfold insA
  rw [if_pos rfl]
theorem insA_comm {a b x y : Str} {L : List Str} (h : a ≠ b) (h1 : a ≠ y) (h2 : b ≠ x) : insA a x (insA b y L) = insA b y (insA a x L) := by
  by_cases ha : a = []
  · subst ha
    have hb : b ≠ [] := fun e => h e.symm
    rw [insA_nil, insA_nil, insA_cons hb, if_neg (fun e => h2 e.symm)]; rfl
  by_cases hb : b = []
  · subst hb
    rw [insA_nil, insA_nil, insA_cons ha, if_neg (fun e => h1 e.symm)]; rfl
  induction L with
  | nil => simp [insA, ha, hb]
  | cons j r ih =>
    rw [insA_cons hb, insA_cons ha]
    by_cases e1 : j = a
    · subst e1
      rw [if_neg h, if_pos rfl]
      show insA j x (j :: insA b y r) = insA b y (j :: x :: insA j x r)
      rw [insA_cons ha, if_pos rfl, insA_cons hb, if_neg h, insA_cons hb, if_neg (fun e => h2 e.symm), ih]; rfl
    · by_cases e2 : j = b
      · subst e2
        rw [if_pos rfl, if_neg e1]
        show insA a x (j :: y :: insA j y r) = insA j y (j :: insA a x r)
        rw [insA_cons ha, if_neg e1, insA_cons ha, if_neg (fun e => h1 e.symm), insA_cons hb, if_pos rfl, ih]; rfl
      · rw [if_neg e2, if_neg e1]
        show insA a x (j :: insA b y r) = insA b y (j :: insA a x r)
        rw [insA_cons ha, if_neg e1, insA_cons hb, if_neg e2, ih]
theorem outA_cons {i j : Str} {r : List Str} : outA i (j :: r) = (if j = i then [] else [j]) ++ outA i r := by
  unfold outA
  by_cases h : j = i
  · subst h; simp
  · simp [h]
theorem outA_ins {z b y : Str} {L : List Str} (h1 : z ≠ y) (h2 : z ≠ b) : outA z (insA b y L) = insA b y (outA z L) := by
  by_cases hb : b = []
  · subst hb
    rw [insA_nil, insA_nil, outA_cons, if_neg (fun e => h1 e.symm)]; rfl
  induction L with
  | nil => simp [insA, hb, outA]
  | cons j r ih =>
    rw [insA_cons hb, outA_append, ih, outA_cons]
    by_cases e : j = b
    · subst e
      rw [if_pos rfl, if_neg (fun e => h2 e.symm)]
      show _ = insA j y (j :: outA z r)
      rw [insA_cons hb, if_pos rfl, outA_cons, outA_cons, if_neg (fun e => h2 e.symm), if_neg (fun e => h1 e.symm)]; rfl
    · rw [if_neg e]
      by_cases e3 : j = z
      · subst e3
        rw [if_pos rfl, outA_cons, if_pos rfl]; rfl
      · rw [if_neg e3, outA_cons, if_neg e3]
        show _ = insA b y (j :: outA z r)
        rw [insA_cons hb, if_neg e]; rfl
theorem outA_out {x y : Str} {L : List Str} : outA x (outA y L) = outA y (outA x L) := by
  unfold outA
  rw [List.filter_filter, List.filter_filter]
  congr 1
  funext j
  rw [Bool.and_comm]
/- the laws of items -/
theorem itN_ne {it : Its} {p : Patch} {i : Str} (h : i ≠ p.id) : itN it p i = it i := by
  unfold itN
  rw [if_neg h]
theorem itN_kp {it : Its} {p : Patch} (h : p.kind ≠ 1) (i : Str) : (itN it p i).kind = (it i).kind ∧ (p.kind ≠ 4 → (itN it p i).par = (it i).par) := by
  unfold itN
  by_cases hi : i = p.id
  · rw [if_pos hi, if_neg h]
    by_cases h4 : p.kind = 4
    · rw [if_pos h4]; exact ⟨rfl, fun h => absurd h4 h⟩
    · rw [if_neg h4]; exact ⟨(chgF_id p _).2.1, fun _ => (chgF_id p _).2.2⟩
  · rw [if_neg hi]; exact ⟨rfl, fun _ => rfl⟩
theorem it_comm_ne {it : Its} {a b : Patch} (h : a.id ≠ b.id) : itN (itN it a) b = itN (itN it b) a := by
  funext i
  by_cases h1 : i = a.id
  · subst h1
    rw [itN_ne h]
    unfold itN
    rw [if_pos rfl, if_pos rfl, if_neg h]
  · rw [itN_ne (it := itN it b) h1]
    by_cases h2 : i = b.id
    · subst h2
      unfold itN
      rw [if_pos rfl, if_pos rfl, if_neg h1]
    · rw [itN_ne h2, itN_ne h2, itN_ne h1]
theorem exA_congr {it it' : Its} {par aft : Str} (h1 : par ≠ [] → (it' par).kind = (it par).kind) (h2 : aft ≠ [] → (it' aft).kind = (it aft).kind ∧ (it' aft).par = (it aft).par) : exA it' par aft ↔ exA it par aft := by
  unfold exA
  constructor
  · rintro ⟨h, k⟩
    refine ⟨?_, ?_⟩
    · by_cases e : par = []
      · exact .inl e
      · rw [← h1 e]; exact .inr (h.resolve_left e)
    · by_cases e : aft = []
      · exact .inl e
      · rw [← (h2 e).1, ← (h2 e).2]; exact .inr (k.resolve_left e)
  · rintro ⟨h, k⟩
    refine ⟨?_, ?_⟩
    · by_cases e : par = []
      · exact .inl e
      · rw [h1 e]; exact .inr (h.resolve_left e)
    · by_cases e : aft = []
      · exact .inl e
      · rw [(h2 e).1, (h2 e).2]; exact .inr (k.resolve_left e)
theorem chgOk_congr {p : Patch} {x y : Item} (h1 : x.kind = y.kind) (h2 : x.gone = y.gone) (h3 : p.kind = 2 → wordsText p x = wordsText p y) : ChgOk p x ↔ ChgOk p y := by
  have key : ∀ {x y : Item}, x.kind = y.kind → x.gone = y.gone → (p.kind = 2 → wordsText p x = wordsText p y) → ChgOk p x → ChgOk p y := by
    intro x y h1 h2 h3 h
    refine ⟨by rw [← h1]; exact h.here, by rw [← h1]; exact h.art, by rw [← h2]; exact h.s6, by rw [← h2]; exact h.s, ?_, h.r⟩
    intro hk
    have := h.w hk
    unfold wordsNew at this ⊢
    rw [← h3 hk]
    exact this
  exact ⟨key h1 h2 h3, key h1.symm h2.symm (fun hk => (h3 hk).symm)⟩
/- nothing that a change asks turns with changes of other kinds -/
theorem poss_congr {it it' : Its} {n : Nat} {p : Patch} (h : ∀ i, (it' i).kind = (it i).kind ∧ (it' i).par = (it i).par) (hi : it' p.id = it p.id) : Poss it' n p ↔ Poss it n p := by
  have he : exA it' p.par p.aft ↔ exA it p.par p.aft := exA_congr (fun _ => (h _).1) (fun _ => h _)
  have hu : Up it' p.id p.par ↔ Up it p.id p.par := ⟨up_sup fun y _ => (h y).2, up_sub fun y _ => (h y).2⟩
  unfold Poss
  split
  · exact ⟨fun k => ⟨by rw [← hi]; exact k.new, he.1 k.ex, k.le⟩, fun k => ⟨by rw [hi]; exact k.new, he.2 k.ex, k.le⟩⟩
  split
  · exact ⟨fun k => ⟨by rw [← hi]; exact k.here, by rw [← hi]; exact k.s, he.1 k.ex, k.par, k.aft, fun hp h => k.up hp (hu.2 h)⟩, fun k => ⟨by rw [hi]; exact k.here, by rw [hi]; exact k.s, he.2 k.ex, k.par, k.aft, fun hp h => k.up hp (hu.1 h)⟩⟩
  · rw [hi]
end Go.Proofs.Ytfolcjkednmkoaa
namespace Go.Proofs.Ytfolcjkednmkoaa
theorem ord_chg {O : Ords} {p : Patch} (h : p.kind ≠ 1 ∧ p.kind ≠ 4) : ordN O p = O := by
  funext q; unfold ordN; rw [if_neg h.1, if_neg h.2]
theorem len_chg {n : Nat} {p : Patch} (h : p.kind ≠ 1) : lenN n p = n := by unfold lenN; rw [if_neg h]
theorem len_ins {n : Nat} {p : Patch} (h : p.kind = 1) : lenN n p = n + 1 := by unfold lenN; rw [if_pos h]
theorem gone_chg {p : Patch} {x : Item} (h : p.kind ≠ 5) (h6 : p.kind ≠ 6) (hk : p.kind = 2 ∨ p.kind = 3 ∨ p.kind = 7) : (chgF p x).gone = x.gone := by
  unfold chgF wordsPut
  rcases hk with h | h | h
  · rw [if_pos h]; split <;> rfl
  · rw [if_neg (by omega), if_pos h]
  · rw [if_neg (by omega), if_neg (by omega), if_pos h]
theorem up_ins {it : Its} {p : Patch} (hi : Inv it) (hid : p.id ≠ []) (hnew : (it p.id).kind = 0) {s : Str} (hs : (it s).kind ≠ 0) : ∀ y, (y = s ∨ Up it y s) → (itN it p y).par = (it y).par := by
  intro y hy
  rw [itN_ne]
  rintro rfl
  rcases hy with rfl | h
  · exact hs hnew
  · rcases up_here hi hs h with h | h
    · exact hid h
    · exact h hnew
/- two patches for one item -/
def Pair (a b : Patch) : Prop := a.id = b.id ∧ ((a.kind = 2 ∧ b.kind = 2 ∧ a.lang ≠ b.lang) ∨ ownF a.kind b.kind = true ∨ ownF b.kind a.kind = true)
theorem Pair.symm {a b : Patch} (h : Pair a b) : Pair b a := by
  refine ⟨h.1.symm, ?_⟩
  rcases h.2 with ⟨h1, h2, h3⟩ | h | h
  · exact .inl ⟨h2, h1, Ne.symm h3⟩
  · exact .inr (.inr h)
  · exact .inr (.inl h)
/- the kinds of a pair -/
theorem Pair.kinds {a b : Patch} (h : Pair a b) : (a.kind = 2 ∧ b.kind = 2 ∧ a.lang ≠ b.lang) ∨ (a.kind = 2 ∧ (b.kind = 3 ∨ b.kind = 4)) ∨ (b.kind = 2 ∧ (a.kind = 3 ∨ a.kind = 4)) ∨ (a.kind = 3 ∧ (b.kind = 4 ∨ b.kind = 7)) ∨ (b.kind = 3 ∧ (a.kind = 4 ∨ a.kind = 7)) ∨ (a.kind = 4 ∧ b.kind = 7) ∨ (b.kind = 4 ∧ a.kind = 7) := by
  rcases h.2 with h | h | h
  · exact .inl h
  all_goals
    unfold ownF at h
    simp only [Bool.or_eq_true, Bool.and_eq_true, beq_iff_eq] at h
    omega
theorem Pair.indep {it : Its} {n : Nat} {a b : Patch} (h : Pair a b) (ha : a.kind = 2 → a.lang = 1 ∨ a.lang = 2) (hb : b.kind = 2 → b.lang = 1 ∨ b.lang = 2) : Poss (itN it a) n b ↔ Poss it n b := by
  have hk := h.kinds
  have hid := h.1
  by_cases ha4 : a.kind = 4
  · rw [poss_chg (by omega), poss_chg (by omega), ← hid]
    unfold itN
    rw [if_pos rfl, if_neg (by omega), if_pos ha4]
    exact chgOk_congr rfl rfl (fun _ => rfl)
  have hg : ∀ x, (chgF a x).gone = x.gone := fun x => gone_chg (by omega) (by omega) (by omega)
  have hx : itN it a a.id = chgF a (it a.id) := by
    unfold itN
    rw [if_pos rfl, if_neg (by omega), if_neg ha4]
  by_cases hb4 : b.kind = 4
  · rw [poss_mov hb4, poss_mov hb4]
    have kp := fun i => itN_kp (it := it) (p := a) (by omega) i
    have he : exA (itN it a) b.par b.aft ↔ exA it b.par b.aft := exA_congr (fun _ => (kp _).1) (fun _ => ⟨(kp _).1, (kp _).2 ha4⟩)
    have hu : Up (itN it a) b.id b.par ↔ Up it b.id b.par := ⟨up_sup fun y _ => (kp y).2 ha4, up_sub fun y _ => (kp y).2 ha4⟩
    have hgo : (itN it a b.id).gone = (it b.id).gone := by rw [← hid, hx, hg]
    exact ⟨fun k => ⟨by rw [← (kp _).1]; exact k.here, by rw [← hgo]; exact k.s, he.1 k.ex, k.par, k.aft, fun hp h => k.up hp (hu.2 h)⟩, fun k => ⟨by rw [(kp _).1]; exact k.here, by rw [hgo]; exact k.s, he.2 k.ex, k.par, k.aft, fun hp h => k.up hp (hu.1 h)⟩⟩
  · rw [poss_chg (by omega), poss_chg (by omega), ← hid, hx]
    refine chgOk_congr (chgF_id a _).2.1 (hg _) fun h2 => ?_
    unfold chgF
    by_cases ha2 : a.kind = 2
    · rw [if_pos ha2]
      have h3 : a.lang ≠ b.lang := by omega
      have h4 := ha ha2
      have h5 := hb h2
      rcases h4 with h4 | h4
      · have hb1 : ¬ b.lang = 1 := by omega
        simp [wordsText, wordsPut, h4, hb1]
      · have hb1 : b.lang = 1 := by omega
        simp [wordsText, wordsPut, h4, hb1]
    · rw [if_neg ha2, if_pos (by omega)]; rfl
def updF (p : Patch) (x : Item) : Item := if p.kind = 4 then { x with par := p.par } else chgF p x
theorem itN_at {it : Its} {p : Patch} {i : Str} (hi : i = p.id) (h1 : p.kind ≠ 1) : itN it p i = updF p (it i) := by
  unfold itN updF
  rw [if_pos hi, if_neg h1]
theorem upd4 {p : Patch} (h : p.kind = 4) (x : Item) : updF p x = { x with par := p.par } := by unfold updF; rw [if_pos h]
theorem upd2 {p : Patch} (h : p.kind = 2) (x : Item) : updF p x = wordsPut p x (wordsNew p x) := by
  unfold updF chgF
  rw [if_neg (show ¬ p.kind = 4 by omega), if_pos h]
theorem upd3 {p : Patch} (h : p.kind = 3) (x : Item) : updF p x = { x with num := p.num } := by
  unfold updF chgF
  rw [if_neg (show ¬ p.kind = 4 by omega), if_neg (show ¬ p.kind = 2 by omega), if_pos h]
theorem upd7 {p : Patch} (h : p.kind = 7) (x : Item) : updF p x = { x with no := p.item.no, so := p.item.so } := by
  unfold updF chgF
  rw [if_neg (show ¬ p.kind = 4 by omega), if_neg (show ¬ p.kind = 2 by omega), if_neg (show ¬ p.kind = 3 by omega), if_pos h]
theorem upd_words {a : Patch} {f : Item → Item} (h1 : ∀ x, wordsText a (f x) = wordsText a x) (h2 : ∀ x s, wordsPut a (f x) s = f (wordsPut a x s)) (h : a.kind = 2) (x : Item) : updF a (f x) = f (updF a x) := by
  rw [upd2 h, upd2 h]
  have e : wordsNew a (f x) = wordsNew a x := by unfold wordsNew; rw [h1]
  rw [e, h2]
theorem upd_par {a : Patch} (h : a.kind = 2) (x : Item) (s : Str) : updF a { x with par := s } = { updF a x with par := s } :=
  upd_words (f := fun x => { x with par := s }) (fun _ => rfl) (fun x s' => by unfold wordsPut; split <;> rfl) h x
theorem upd_num {a : Patch} (h : a.kind = 2) (x : Item) (s : Str) : updF a { x with num := s } = { updF a x with num := s } :=
  upd_words (f := fun x => { x with num := s }) (fun _ => rfl) (fun x s' => by unfold wordsPut; split <;> rfl) h x
theorem upd_two {a b : Patch} (ha : a.kind = 2) (hb : b.kind = 2) (h1 : a.lang = 1) (h2 : ¬ b.lang = 1) (x : Item) : updF b (updF a x) = updF a (updF b x) := by
  rw [upd2 ha, upd2 hb, upd2 ha, upd2 hb]
  unfold wordsNew wordsText wordsPut
  simp [h1, h2]
theorem Pair.upd {a b : Patch} (h : Pair a b) (ha : a.kind = 2 → a.lang = 1 ∨ a.lang = 2) (hb : b.kind = 2 → b.lang = 1 ∨ b.lang = 2) (x : Item) : updF b (updF a x) = updF a (updF b x) := by
  rcases h.kinds with ⟨h1, h2, h3⟩ | ⟨h1, h2 | h2⟩ | ⟨h1, h2 | h2⟩ | ⟨h1, h2 | h2⟩ | ⟨h1, h2 | h2⟩ | ⟨h1, h2⟩ | ⟨h1, h2⟩
  · by_cases hl : a.lang = 1
    · exact upd_two h1 h2 hl (by omega) x
    · have := ha h1
      have := hb h2
      exact (upd_two h2 h1 (by omega) hl x).symm
  · rw [upd3 h2, upd3 h2, upd_num h1 x b.num]
  · rw [upd4 h2, upd4 h2, upd_par h1 x b.par]
  · rw [upd3 h2, upd3 h2, upd_num h1]
  · rw [upd4 h2, upd4 h2, upd_par h1]
  · rw [upd3 h1, upd4 h2, upd4 h2, upd3 h1]
  · rw [upd3 h1, upd7 h2, upd7 h2, upd3 h1]
  · rw [upd3 h1, upd4 h2, upd4 h2, upd3 h1]
  · rw [upd3 h1, upd7 h2, upd7 h2, upd3 h1]
  · rw [upd4 h1, upd7 h2, upd7 h2, upd4 h1]
  · rw [upd4 h1, upd7 h2, upd7 h2, upd4 h1]
theorem Pair.it_comm {it : Its} {a b : Patch} (h : Pair a b) (ha : a.kind = 2 → a.lang = 1 ∨ a.lang = 2) (hb : b.kind = 2 → b.lang = 1 ∨ b.lang = 2) : itN (itN it a) b = itN (itN it b) a := by
  have hk := h.kinds
  have hid := h.1
  funext i
  by_cases hi : i = a.id
  · have hj : i = b.id := by rw [← hid]; exact hi
    rw [itN_at hj (by omega), itN_at hi (by omega), itN_at hi (by omega), itN_at hj (by omega)]
    exact h.upd ha hb _
  · have hj : i ≠ b.id := by rw [← hid]; exact hi
    rw [itN_ne hj, itN_ne hi, itN_ne hi, itN_ne hj]
theorem Pair.ord {O : Ords} {a b : Patch} (h : Pair a b) : ordN (ordN O a) b = ordN (ordN O b) a := by
  have hk := h.kinds
  by_cases ha4 : a.kind = 4
  · rw [ord_chg (p := b) (by omega), ord_chg (O := O) (p := b) (by omega)]
  · rw [ord_chg (p := a) (by omega), ord_chg (p := a) (by omega)]
theorem heart {it : Its} {O : Ords} {n : Nat} {a b : Patch} (hi : Inv it) (hfa : formedF a = true) (hfb : formedF b = true) (hc : CommP a b) (h1 : Poss it n a) (h2 : Poss (itN it a) (lenN n a) b) :
    Poss it n b ∧ Poss (itN it b) (lenN n b) a ∧ itN (itN it a) b = itN (itN it b) a ∧ ordN (ordN O a) b = ordN (ordN O b) a := by
  have nid : ∀ p : Patch, formedF p = true → p.kind = 1 → p.id ≠ [] := by
    intro p hf hk
    obtain ⟨e1, _, e3⟩ := formed1 hk hf
    rw [← e1]; exact proper_id e3
  have lng : ∀ p : Patch, formedF p = true → p.kind = 2 → p.lang = 1 ∨ p.lang = 2 := fun p hf hk => (formed2 hk hf).2.2
  have pair : Pair a b → Poss it n b ∧ Poss (itN it b) (lenN n b) a ∧ itN (itN it a) b = itN (itN it b) a ∧ ordN (ordN O a) b = ordN (ordN O b) a := by
    intro hp
    have hk := hp.kinds
    rw [len_chg (p := a) (by omega)] at h2
    rw [len_chg (p := b) (by omega)]
    exact ⟨(hp.indep (lng _ hfa) (lng _ hfb)).1 h2, (hp.symm.indep (lng _ hfb) (lng _ hfa)).2 h1, hp.it_comm (lng _ hfa) (lng _ hfb), hp.ord⟩
  cases hc with
  | same h => subst h; exact ⟨h1, h2, rfl, rfl⟩
  | words e1 e2 e3 e4 => exact pair ⟨e1, .inl ⟨e2, e3, e4⟩⟩
  | own e1 e2 => exact pair ⟨e1, .inr (.inl e2)⟩
  | own' e1 e2 => exact pair ⟨e1, .inr (.inr e2)⟩
  | left hne hk =>
    rw [len_chg hk.1] at h2
    have kp := fun i => itN_kp (it := it) (p := a) hk.1 i
    refine ⟨(poss_congr (fun i => ⟨(kp i).1, (kp i).2 hk.2⟩) (itN_ne (Ne.symm hne))).1 h2, ?_, it_comm_ne hne, by rw [ord_chg hk, ord_chg hk]⟩
    rw [poss_chg hk] at h1 ⊢
    rw [itN_ne hne]; exact h1
  | right hne hk =>
    rw [len_chg hk.1]
    have kp := fun i => itN_kp (it := it) (p := b) hk.1 i
    refine ⟨?_, (poss_congr (fun i => ⟨(kp i).1, (kp i).2 hk.2⟩) (itN_ne hne)).2 h1, it_comm_ne hne, by rw [ord_chg hk, ord_chg hk]⟩
    rw [poss_chg hk] at h2 ⊢
    rw [itN_ne (Ne.symm hne)] at h2; exact h2
  | ins hne ka kb ht p1 p2 p3 p4 =>
    rw [len_ins ka, poss_ins kb] at h2
    rw [len_ins kb, poss_ins ka, poss_ins kb]
    rw [poss_ins ka] at h1
    refine ⟨⟨?_, ?_, h1.le⟩, ⟨?_, ?_, h2.le⟩, it_comm_ne hne, ?_⟩
    · have := h2.new
      rwa [itN_ne (Ne.symm hne)] at this
    · refine (exA_congr (fun _ => ?_) (fun _ => ?_)).1 h2.ex
      · rw [itN_ne p3]
      · rw [itN_ne p4]; exact ⟨rfl, rfl⟩
    · rw [itN_ne hne]; exact h1.new
    · refine (exA_congr (fun _ => ?_) (fun _ => ?_)).2 h1.ex
      · rw [itN_ne p1]
      · rw [itN_ne p2]; exact ⟨rfl, rfl⟩
    · funext q
      unfold ordN
      rw [if_pos ka, if_pos kb]
      simp only [if_pos ka, if_pos kb]
      by_cases q1 : q = a.par
      · by_cases q2 : q = b.par
        · rw [if_pos q1, if_pos q2, if_pos q2, if_pos q1]
          exact insA_comm (Ne.symm (ht (q1.symm.trans q2))) p4 p2
        · rw [if_pos q1, if_neg q2, if_neg q2, if_pos q1]
      · rw [if_neg q1, if_neg q1]
  | mix hne ka kb ht p1 p2 p3 =>
    rw [len_ins ka, poss_mov kb] at h2
    rw [len_chg (p := b) (by omega), poss_mov kb, poss_ins ka]
    rw [poss_ins ka] at h1
    have hex : exA it b.par b.aft := by
      refine (exA_congr (fun _ => ?_) (fun _ => ?_)).1 h2.ex
      · rw [itN_ne p1]
      · rw [itN_ne p2]; exact ⟨rfl, rfl⟩
    have hb := itN_ne (it := it) (p := a) (Ne.symm hne)
    have kp := fun i => itN_kp (it := it) (p := b) (by omega) i
    refine ⟨⟨by rw [← hb]; exact h2.here, by rw [← hb]; exact h2.s, hex, h2.par, h2.aft, ?_⟩, ⟨?_, ?_, h1.le⟩, it_comm_ne hne, ?_⟩
    · intro hp hu
      exact h2.up hp (up_sub (up_ins hi (nid _ hfa ka) h1.new (by have := hex.1.resolve_left hp; omega)) hu)
    · rw [itN_ne hne]; exact h1.new
    · refine (exA_congr (fun _ => (kp _).1) (fun _ => ?_)).2 h1.ex
      rw [itN_ne p3]; exact ⟨rfl, rfl⟩
    · funext q
      unfold ordN
      simp only [if_pos ka, if_neg (show ¬ b.kind = 1 by omega), if_pos kb]
      by_cases q1 : q = a.par
      · by_cases q2 : q = b.par
        · rw [if_pos q1, if_pos q2, if_pos q2, if_pos q1, outA_ins (Ne.symm hne) (Ne.symm p3)]
          exact insA_comm (Ne.symm (ht (q1.symm.trans q2))) p2 p3
        · rw [if_pos q1, if_neg q2, if_neg q2, if_pos q1]
          exact outA_ins (Ne.symm hne) (Ne.symm p3)
      · rw [if_neg q1, if_neg q1]
  | mix' hne ka kb ht p1 p2 p3 =>
    rw [len_chg (p := a) (by omega), poss_ins kb] at h2
    rw [len_ins kb, poss_ins kb, poss_mov ka]
    rw [poss_mov ka] at h1
    have kp := fun i => itN_kp (it := it) (p := a) (by omega) i
    have hnew : (it b.id).kind = 0 := by rw [← (kp _).1]; exact h2.new
    refine ⟨⟨hnew, ?_, h2.le⟩, ⟨by rw [itN_ne hne]; exact h1.here, by rw [itN_ne hne]; exact h1.s, ?_, h1.par, h1.aft, ?_⟩, it_comm_ne hne, ?_⟩
    · refine (exA_congr (fun _ => (kp _).1) (fun _ => ?_)).1 h2.ex
      rw [itN_ne p3]; exact ⟨rfl, rfl⟩
    · refine (exA_congr (fun _ => ?_) (fun _ => ?_)).2 h1.ex
      · rw [itN_ne p1]
      · rw [itN_ne p2]; exact ⟨rfl, rfl⟩
    · intro hp hu
      exact h1.up hp (up_sup (up_ins hi (nid _ hfb kb) hnew (by have := h1.ex.1.resolve_left hp; omega)) hu)
    · funext q
      unfold ordN
      simp only [if_pos kb, if_neg (show ¬ a.kind = 1 by omega), if_pos ka]
      by_cases q2 : q = b.par
      · by_cases q1 : q = a.par
        · rw [if_pos q2, if_pos q1, if_pos q1, if_pos q2, outA_ins hne (Ne.symm p3)]
          exact insA_comm (Ne.symm (ht (q1.symm.trans q2))) p3 p2
        · rw [if_pos q2, if_neg q1, if_neg q1, if_pos q2]
          exact (outA_ins hne (Ne.symm p3)).symm
      · rw [if_neg q2, if_neg q2]
  | mov hne ka kb hp pt p1 p2 =>
    rw [len_chg (p := a) (by omega), poss_mov kb] at h2
    rw [len_chg (p := b) (by omega), poss_mov kb, poss_mov ka]
    rw [poss_mov ka] at h1
    have kpa := fun i => itN_kp (it := it) (p := a) (by omega) i
    have kpb := fun i => itN_kp (it := it) (p := b) (by omega) i
    have hb := itN_ne (it := it) (p := a) (Ne.symm hne)
    have hmb : MovOk it b := by
      refine ⟨by rw [← hb]; exact h2.here, by rw [← hb]; exact h2.s, ?_, h2.par, h2.aft, ?_⟩
      · refine (exA_congr (fun _ => (kpa _).1) (fun _ => ?_)).1 h2.ex
        rw [itN_ne p2]; exact ⟨rfl, rfl⟩
      · intro hq hu
        refine h2.up hq (up_sub ?_ hu)
        intro y hy
        rw [itN_ne]
        rintro rfl
        rw [← hp] at hy hq
        rcases hy with e | e
        · exact h1.par e.symm
        · exact h1.up hq e
    refine ⟨hmb, ⟨by rw [itN_ne hne]; exact h1.here, by rw [itN_ne hne]; exact h1.s, ?_, h1.par, h1.aft, ?_⟩, it_comm_ne hne, ?_⟩
    · refine (exA_congr (fun _ => (kpb _).1) (fun _ => ?_)).2 h1.ex
      rw [itN_ne p1]; exact ⟨rfl, rfl⟩
    · intro hq hu
      refine h1.up hq (up_sup ?_ hu)
      intro y hy
      rw [itN_ne]
      rintro rfl
      rw [hp] at hy hq
      rcases hy with e | e
      · exact hmb.par e.symm
      · exact hmb.up hq e
    · funext q
      unfold ordN
      simp only [if_neg (show ¬ a.kind = 1 by omega), if_pos ka, if_neg (show ¬ b.kind = 1 by omega), if_pos kb]
      rw [← hp]
      by_cases q1 : q = a.par
      · rw [if_pos q1, if_pos q1, if_pos q1, if_pos q1, outA_ins (Ne.symm hne) (Ne.symm p1), outA_ins hne (Ne.symm p2), outA_out (x := b.id)]
        exact insA_comm (Ne.symm pt) p2 p1
      · rw [if_neg q1, if_neg q1, if_neg q1, if_neg q1, outA_out]
/- both orders -/
theorem all_two {l : List Item} {a b : Patch} {i : Nat} (h : (allF l [a, b] i).2.2 = 0) : (applyF l a).2 = 0 ∧ (applyF (applyF l a).1 b).2 = 0 ∧ allF l [a, b] i = ((applyF (applyF l a).1 b).1, -1, 0) := by
  unfold allF at h
  split at h
  · rename_i h1
    unfold allF at h
    split at h
    · rename_i h2
      refine ⟨h1, h2, ?_⟩
      unfold allF allF allF
      rw [if_pos h1, if_pos h2]
    · rename_i h2; exact absurd h h2
  · rename_i h1; exact absurd h h1
theorem all_two_of {l : List Item} {a b : Patch} (i : Nat) (h1 : (applyF l a).2 = 0) (h2 : (applyF (applyF l a).1 b).2 = 0) : allF l [a, b] i = ((applyF (applyF l a).1 b).1, -1, 0) := by
  unfold allF allF allF
  rw [if_pos h1, if_pos h2]
/- what one code answers, another order answers -/
theorem state_two {l : List Item} {a b c d : Patch} (hw : walkB l = true) (ha : formedF a = true) (hb : formedF b = true) (hc : formedF c = true) (hd : formedF d = true) (i : Nat) (h : (allF l [a, b] i).2.2 = 0)
    (key : Poss (itemF l) l.length a → Poss (itN (itemF l) a) (lenN l.length a) b → Poss (itemF l) l.length c ∧ Poss (itN (itemF l) c) (lenN l.length c) d ∧ itN (itN (itemF l) a) b = itN (itN (itemF l) c) d ∧ ordN (ordN (ordL l) a) b = ordN (ordN (ordL l) c) d)
    (hln : lenN (lenN l.length a) b = lenN (lenN l.length c) d) : allF l [c, d] i = allF l [a, b] i := by
  obtain ⟨h1, h2, h3⟩ := all_two h
  have hg := good_of hw
  have e1 := eff_law h1
  have w1 := (kept_law h1).good
  have g1 := good_of w1
  have e2 := eff_law h2
  have w2 := (kept_law h2).good
  have p1 := (poss_iff hg ha).1 h1
  have p2 := (poss_iff g1 hb).1 h2
  have i1 : itemF (applyF l a).1 = itN (itemF l) a := congrArg St.it e1
  have n1 : (applyF l a).1.length = lenN l.length a := congrArg St.n e1
  rw [i1, n1] at p2
  obtain ⟨q1, q2, q3, q4⟩ := key p1 p2
  have k1 := (poss_iff hg hc).2 q1
  have f1 := eff_law k1
  have v1 := (kept_law k1).good
  have j1 : itemF (applyF l c).1 = itN (itemF l) c := congrArg St.it f1
  have m1 : (applyF l c).1.length = lenN l.length c := congrArg St.n f1
  rw [← j1, ← m1] at q2
  have k2 := (poss_iff (good_of v1) hd).2 q2
  have f2 := eff_law k2
  have v2 := (kept_law k2).good
  rw [h3, all_two_of i k1 k2]
  refine congrArg (fun x => (x, (-1 : Int), (0 : Int))) ?_
  refine code_ext v2 w2 ?_
  rw [f2, f1, e2, e1]
  show St.mk _ _ _ = St.mk _ _ _
  congr 1
  · exact q3.symm
  · exact q4.symm
  · exact hln.symm
theorem swap_law {l : List Item} {a b : Patch} (hw : walkB l = true) (hc : commF a b = true) (i : Nat) (h : (allF l [a, b] i).2.2 = 0) : allF l [b, a] i = allF l [a, b] i := by
  obtain ⟨fa, fb, hp⟩ := comm_cases hc
  refine state_two hw fa fb fb fa i h (fun p1 p2 => heart (good_of hw).inv fa fb hp p1 p2) ?_
  unfold lenN
  split <;> split <;> omega
/- two inserts -/
theorem insA_two {aft x y : Str} {L : List Str} (hy : y ∉ L) (hx0 : x ≠ aft) (hy0 : y ≠ aft) (hxy : x ≠ y) (hne : y ≠ []) : insA aft y (insA aft x L) = insA y x (insA aft y L) := by
  have hno : insA y x L = L := by
    unfold insA
    rw [if_neg hne]
    clear hx0 hy0 hxy
    induction L with
    | nil => rfl
    | cons j r ih =>
      simp only [List.mem_cons, not_or] at hy
      rw [List.flatMap_cons, if_neg (fun e => hy.1 e.symm), ih hy.2]; rfl
  by_cases ha : aft = []
  · subst ha
    rw [insA_nil, insA_nil, insA_nil, insA_cons hne, if_pos rfl, hno]; rfl
  · clear hno
    induction L with
    | nil => simp [insA, ha, hne]
    | cons j r ih =>
      simp only [List.mem_cons, not_or] at hy
      have ih := ih hy.2
      rw [insA_cons ha, insA_cons ha]
      by_cases e : j = aft
      · subst e
        rw [if_pos rfl, if_pos rfl]
        show insA j y (j :: x :: insA j x r) = insA y x (j :: y :: insA j y r)
        rw [insA_cons ha, if_pos rfl, insA_cons ha, if_neg hx0, insA_cons hne, if_neg (fun e => hy.1 e.symm), insA_cons hne, if_pos rfl, ih]; rfl
      · rw [if_neg e, if_neg e]
        show insA aft y (j :: insA aft x r) = insA y x (j :: insA aft y r)
        rw [insA_cons ha, if_neg e, insA_cons hne, if_neg (fun e => hy.1 e.symm), ih]
theorem formed_aft {p : Patch} (hk : p.kind = 1) (s : Str) (h : formedF p = true) : formedF { p with aft := s } = true := by
  unfold formedF at h ⊢
  rw [if_pos hk] at h
  rw [if_pos (show ({ p with aft := s } : Patch).kind = 1 from hk)]
  simp only [Bool.and_eq_true, patEq_iff] at h ⊢
  refine ⟨?_, h.2⟩
  have := h.1
  conv => lhs; rw [this]
  rfl
theorem Good.not_ord {l : List Item} {R : List Row} (hg : Good l R) {i q : Str} (h : (itemF l i).kind = 0) : i ∉ ordL l q := by
  intro hm
  obtain ⟨x, hx, he⟩ := List.mem_map.1 (ordL_sub hm)
  exact (hg.it_none h).2.2 x hx he
/- two inserts at one place -/
theorem swap_same {l : List Item} {a b : Patch} (hw : walkB l = true) (ha : formedF a = true) (hb : formedF b = true) (ka : a.kind = 1) (kb : b.kind = 1) (hp : a.par = b.par) (ht : a.aft = b.aft) (i : Nat) (h : (allF l [a, b] i).2.2 = 0) :
    allF l [b, { a with aft := b.id }] i = allF l [a, b] i := by
  have hg := good_of hw
  have na : a.id ≠ [] := by obtain ⟨e1, _, e3⟩ := formed1 ka ha; rw [← e1]; exact proper_id e3
  have nb : b.id ≠ [] := by obtain ⟨e1, _, e3⟩ := formed1 kb hb; rw [← e1]; exact proper_id e3
  have f1 := formed1 kb hb
  have kb' := proper_kind f1.2.2
  refine state_two hw ha hb hb (formed_aft ka _ ha) i h (fun p1 p2 => ?_) ?_
  · rw [poss_ins ka] at p1
    rw [len_ins ka, poss_ins kb] at p2
    have hne : a.id ≠ b.id := by
      intro e
      have := p2.new
      unfold itN at this
      rw [if_pos e.symm, if_pos ka] at this
      have := proper_kind (formed1 ka ha).2.2
      omega
    have hnb : (itemF l b.id).kind = 0 := by have := p2.new; rwa [itN_ne (Ne.symm hne)] at this
    have hnew := p1.new
    have hafta : a.aft ≠ a.id := by
      rintro e
      rcases p1.ex.2 with h | h
      · exact na (e.symm.trans h)
      · rw [e] at h; exact h.1 hnew
    have haftb : a.aft ≠ b.id := by
      rintro e
      rcases p1.ex.2 with h | h
      · exact nb (e.symm.trans h)
      · rw [e] at h; exact h.1 hnb
    have hpara : a.par ≠ a.id := by
      rintro e
      rcases p1.ex.1 with h | h
      · exact na (e.symm.trans h)
      · rw [e, hnew] at h; omega
    have hparb : a.par ≠ b.id := by
      rintro e
      rcases p1.ex.1 with h | h
      · exact nb (e.symm.trans h)
      · rw [e, hnb] at h; omega
    rw [poss_ins kb, len_ins kb, poss_ins (show ({ a with aft := b.id } : Patch).kind = 1 from ka)]
    refine ⟨⟨hnb, by rw [← hp, ← ht]; exact p1.ex, p1.le⟩, ⟨?_, ⟨?_, ?_⟩, p2.le⟩, it_comm_ne hne, ?_⟩
    · show (itN (itemF l) b a.id).kind = 0
      rw [itN_ne hne]; exact hnew
    · show a.par = [] ∨ (itN (itemF l) b a.par).kind = 1
      rw [itN_ne hparb]; exact p1.ex.1
    · right
      show (itN (itemF l) b b.id).kind ≠ 0 ∧ (itN (itemF l) b b.id).par = a.par
      unfold itN
      rw [if_pos rfl, if_pos kb]
      exact ⟨by omega, by rw [hp]; exact f1.2.1⟩
    · funext q
      unfold ordN
      simp only [if_pos ka, if_pos kb]
      rw [← hp, ← ht]
      by_cases q1 : q = a.par
      · rw [if_pos q1, if_pos q1, if_pos q1, if_pos q1]
        exact insA_two (hg.not_ord hnb) (Ne.symm hafta) (Ne.symm haftb) hne nb
      · rw [if_neg q1, if_neg q1, if_neg q1, if_neg q1]
  · rw [len_ins ka, len_ins kb, len_ins kb, len_ins (show ({ a with aft := b.id } : Patch).kind = 1 from ka)]
/- an insert after another one -/
theorem swap_after {l : List Item} {a b : Patch} (hw : walkB l = true) (ha : formedF a = true) (hb : formedF b = true) (ka : a.kind = 1) (kb : b.kind = 1) (ht : b.aft = a.id) (i : Nat) (h : (allF l [a, b] i).2.2 = 0) :
    a.par = b.par ∧ allF l [{ b with aft := a.aft }, a] i = allF l [a, b] i := by
  have hg := good_of hw
  have na : a.id ≠ [] := by obtain ⟨e1, _, e3⟩ := formed1 ka ha; rw [← e1]; exact proper_id e3
  have nb : b.id ≠ [] := by obtain ⟨e1, _, e3⟩ := formed1 kb hb; rw [← e1]; exact proper_id e3
  have f1 := formed1 ka ha
  have ka' := proper_kind f1.2.2
  obtain ⟨h1, h2, h3⟩ := all_two h
  have e1 := eff_law h1
  have p1 := (poss_iff hg ha).1 h1
  have p2 := (poss_iff (good_of (kept_law h1).good) hb).1 h2
  rw [show itemF (applyF l a).1 = itN (itemF l) a from congrArg St.it e1, show (applyF l a).1.length = lenN l.length a from congrArg St.n e1, len_ins ka, poss_ins kb] at p2
  rw [poss_ins ka] at p1
  have hne : a.id ≠ b.id := by
    intro e
    have := p2.new
    unfold itN at this
    rw [if_pos e.symm, if_pos ka] at this
    omega
  have hp : a.par = b.par := by
    have := p2.ex.2.resolve_left (by rw [ht]; exact na)
    rw [ht] at this
    unfold itN at this
    rw [if_pos rfl, if_pos ka, f1.2.1] at this
    exact this.2
  refine ⟨hp, state_two hw ha hb (formed_aft kb _ hb) ha i h (fun _ _ => ?_) ?_⟩
  · have hnb : (itemF l b.id).kind = 0 := by have := p2.new; rwa [itN_ne (Ne.symm hne)] at this
    have hnew := p1.new
    have hafta : a.aft ≠ a.id := by
      rintro e
      rcases p1.ex.2 with h | h
      · exact na (e.symm.trans h)
      · rw [e] at h; exact h.1 hnew
    have haftb : a.aft ≠ b.id := by
      rintro e
      rcases p1.ex.2 with h | h
      · exact nb (e.symm.trans h)
      · rw [e] at h; exact h.1 hnb
    have hparb : a.par ≠ b.id := by
      rintro e
      rcases p1.ex.1 with h | h
      · exact nb (e.symm.trans h)
      · rw [e, hnb] at h; omega
    have kb1 : ({ b with aft := a.aft } : Patch).kind = 1 := kb
    rw [poss_ins kb1, len_ins kb1, poss_ins ka]
    refine ⟨⟨hnb, by rw [show ({ b with aft := a.aft } : Patch).par = a.par from hp.symm]; exact p1.ex, p1.le⟩, ⟨?_, ?_, p2.le⟩, ?_, ?_⟩
    · rw [itN_ne (p := { b with aft := a.aft }) (i := a.id) hne]; exact hnew
    · refine (exA_congr (fun _ => ?_) (fun _ => ?_)).2 p1.ex
      · rw [itN_ne (p := { b with aft := a.aft }) (i := a.par) hparb]
      · rw [itN_ne (p := { b with aft := a.aft }) (i := a.aft) haftb]; exact ⟨rfl, rfl⟩
    · exact it_comm_ne (a := a) (b := { b with aft := a.aft }) hne
    · funext q
      unfold ordN
      simp only [if_pos ka, if_pos kb]
      rw [← hp, ht]
      by_cases q1 : q = a.par
      · rw [if_pos q1, if_pos q1, if_pos q1, if_pos q1]
        exact (insA_two (hg.not_ord hnew) (Ne.symm haftb) (Ne.symm hafta) (Ne.symm hne) na).symm
      · rw [if_neg q1, if_neg q1, if_neg q1, if_neg q1]
  · rw [len_ins ka, len_ins kb, len_ins (show ({ b with aft := a.aft } : Patch).kind = 1 from kb), len_ins ka]
end Go.Proofs.Ytfolcjkednmkoaa
