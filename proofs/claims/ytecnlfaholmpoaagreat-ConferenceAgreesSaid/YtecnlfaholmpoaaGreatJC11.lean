/- The plain laws of codes and patches. -/
import Derived.Test.YtecnlfaholmpoaaGreatJC10
import Derived.Lib.LastIndexLaws
set_option linter.unusedVariables false
set_option linter.unusedSimpArgs false
namespace Go.Proofs.YtecnlfaholmpoaaGreat
/- what is open behind an item -/
def push (o : List Str) (x : Item) : List Str := if x.kind = 1 then o ++ [x.id] else o
def lastS (o : List Str) : Str := o.getLast?.getD []
abbrev Row := Item × List Str
def Chain : List Str → List Row → Prop
 | _, [] => True
 | s, y :: r => y.2 <+: s ∧ lastS y.2 = y.1.par ∧ (y.1.par = [] → y.2 = []) ∧ Chain (push y.2 y.1) r
def stk : List Str → List Row → List Str
 | s, [] => s
 | _, y :: r => stk (push y.2 y.1) r
def idsR (a : List Row) : List Str := a.map fun y => y.1.id
theorem chain_append {s : List Str} {a b : List Row} : Chain s (a ++ b) ↔ Chain s a ∧ Chain (stk s a) b := by
 induction a generalizing s with
 | nil => simp [Chain, stk]
 | cons y r ih =>
   simp only [List.cons_append, Chain, stk, ih]
   constructor
   · rintro ⟨h1, h2, h3, h4, h5⟩; exact ⟨⟨h1, h2, h3, h4⟩, h5⟩
   · rintro ⟨⟨h1, h2, h3, h4⟩, h5⟩; exact ⟨h1, h2, h3, h4, h5⟩
theorem stk_append {s : List Str} {a b : List Row} : stk s (a ++ b) = stk (stk s a) b := by
 induction a generalizing s with
 | nil => rfl
 | cons y r ih => simp only [List.cons_append, stk, ih]
theorem chain_head {s s' : List Str} {b : List Row} (h : Chain s b) (hh : ∀ y ∈ b.head?, y.2 <+: s') : Chain s' b := by
 cases b with
 | nil => trivial
 | cons y r =>
   obtain ⟨_, h2, h3, h4⟩ := h
   exact ⟨hh y (by simp), h2, h3, h4⟩
theorem chain_mono {s s' : List Str} {b : List Row} (h : Chain s b) (hs : s <+: s') : Chain s' b := by
 refine chain_head h ?_
 cases b with
 | nil => simp
 | cons y r => intro z hz; simp at hz; subst hz; exact h.1.trans hs
theorem mem_push {o : List Str} {x : Item} {t : Str} (h : t ∈ push o x) : t ∈ o ∨ t = x.id := by
 unfold push at h
 split at h
 · simpa using h
 · exact .inl h
theorem push_pre (o : List Str) (x : Item) : o <+: push o x := by
 unfold push
 split
 · exact ⟨[x.id], rfl⟩
 · exact List.prefix_refl _
theorem pre_sub {o s : List Str} (h : o <+: s) {t : Str} (ht : t ∈ o) : t ∈ s := h.subset ht
theorem stk_sub {s : List Str} {a : List Row} (h : Chain s a) {t : Str} (ht : t ∈ stk s a) : t ∈ s ∨ t ∈ idsR a := by
 induction a generalizing s with
 | nil => exact .inl ht
 | cons y r ih =>
   obtain ⟨h1, _, _, h4⟩ := h
   rcases ih h4 ht with h | h
   · rcases mem_push h with h | h
     · exact .inl (pre_sub h1 h)
     · right; simp [idsR, h]
   · right; simp [idsR] at h ⊢; exact .inr h
theorem push_nodup {o : List Str} {x : Item} (h : o.Nodup) (hx : x.id ∉ o) : (push o x).Nodup := by
 unfold push
 split
 · rw [List.nodup_append]
   refine ⟨h, by simp, ?_⟩
   intro a ha b hb
   simp at hb
   subst hb
   rintro rfl
   exact hx ha
 · exact h
theorem stk_nodup {s : List Str} {a : List Row} (h : Chain s a) (hs : s.Nodup) (hd : ∀ t ∈ s, t ∉ idsR a) (hn : (idsR a).Nodup) : (stk s a).Nodup := by
 induction a generalizing s with
 | nil => exact hs
 | cons y r ih =>
   obtain ⟨h1, _, _, h4⟩ := h
   have hn' : y.1.id ∉ idsR r ∧ (idsR r).Nodup := by simpa [idsR] using hn
   refine ih h4 (push_nodup (h1.sublist.nodup hs) (fun hm => hd _ (pre_sub h1 hm) (by simp [idsR]))) ?_ hn'.2
   intro t ht
   rcases mem_push ht with ht | rfl
   · have := hd t (pre_sub h1 ht)
     simp [idsR] at this ⊢
     exact this.2
   · exact hn'.1
structure Good (l : List Item) (d : List Row) : Prop where
 fst : d.map (·.1) = l
 chain : Chain [] d
 nd : (idsR d).Nodup
 pr : ∀ x ∈ l, properB x = true
 le : l.length ≤ 2000
theorem hasS_iff {l : List Str} {s : Str} : hasS l s = true ↔ s ∈ l := by
 unfold hasS
 rw [List.any_eq_true]
 constructor
 · rintro ⟨x, hx, he⟩; rw [beq_iff_eq] at he; subst he; exact hx
 · intro h; exact ⟨s, h, by simp⟩
theorem hasS_false {l : List Str} {s : Str} : hasS l s = false ↔ s ∉ l := by
 rw [← hasS_iff]; simp
theorem ixS_some {l : List Str} {s : Str} {i : Nat} (h : ixS l s = some i) : l[i]? = some s := by
 unfold ixS at h
 rw [List.findIdx?_eq_some_iff_getElem] at h
 obtain ⟨hi, hp, _⟩ := h
 rw [List.getElem?_eq_getElem hi]
 simp at hp
 rw [← hp]
theorem lastS_take {l : List Str} {s : Str} {i : Nat} (h : l[i]? = some s) : lastS (l.take (i + 1)) = s := by
 unfold lastS
 obtain ⟨hi, rfl⟩ := List.getElem?_eq_some_iff.1 h
 rw [List.getLast?_eq_getElem?]
 simp
 rw [show min (i + 1) l.length - 1 = i by omega, List.getElem?_take_of_lt (by omega), List.getElem?_eq_getElem hi]; rfl
theorem openCut_chain {opn o : List Str} {par : Str} (h : openCut opn par = some o) : o <+: opn ∧ lastS o = par ∧ (par = [] → o = []) := by
 unfold openCut at h
 split at h
 · rename_i hp
   cases h
   subst hp
   exact ⟨List.nil_prefix, rfl, fun _ => rfl⟩
 · rename_i hp
   cases hi : ixS opn par with
   | none => rw [hi] at h; cases h
   | some i =>
     rw [hi] at h
     cases h
     exact ⟨List.take_prefix _ _, lastS_take (ixS_some hi), fun h => absurd h hp⟩
theorem walkF_ok : ∀ (l : List Item) (seen opn : List Str), (walkF l seen opn).2 = true →
 (walkF l seen opn).1.map (·.1) = l ∧ Chain opn (walkF l seen opn).1 ∧ (idsR (walkF l seen opn).1).Nodup ∧ (∀ t ∈ idsR (walkF l seen opn).1, t ∉ seen) ∧ ∀ x ∈ l, properB x = true
 | [], _, _, _ => by simp [walkF, Chain, idsR]
 | x :: r, seen, opn, h => by
   rw [walkF] at h ⊢
   split at h
   · cases h
   · rename_i hp
     rw [if_neg hp]
     cases ho : openCut opn x.par with
     | none => rw [ho] at h; cases h
     | some o =>
       rw [ho] at h
       obtain ⟨h1, h2, h3, h4, h5⟩ := walkF_ok r _ _ h
       obtain ⟨c1, c2, c3⟩ := openCut_chain ho
       simp at hp
       have hx : x.id ∉ seen := hasS_false.1 hp.2
       refine ⟨by simp [h1], ⟨c1, c2, c3, h2⟩, ?_, ?_, ?_⟩
       · show (x.id :: idsR _).Nodup
         rw [List.nodup_cons]
         exact ⟨fun hm => h4 _ hm (by simp), h3⟩
       · intro t ht
         rcases List.mem_cons.1 ht with rfl | ht
         · exact hx
         · have := h4 t ht
           simp at this
           exact this.1
       · intro y hy
         rcases List.mem_cons.1 hy with rfl | hy
         · exact hp.1
         · exact h5 y hy
theorem ixS_nodup {opn o : List Str} {par : Str} (hn : opn.Nodup) (ho : o <+: opn) (hne : o ≠ []) (hl : lastS o = par) : ixS opn par = some (o.length - 1) := by
 have hpos : 0 < o.length := List.length_pos_iff.2 hne
 have hlast : o[o.length - 1]? = some par := by
  unfold lastS at hl
  rw [List.getLast?_eq_getElem?] at hl
  rw [List.getElem?_eq_getElem (by omega)] at hl ⊢
  simpa using hl
 have hop : opn[o.length - 1]? = some par := by
  obtain ⟨t, rfl⟩ := ho
  rw [List.getElem?_append_left (by omega)]
  exact hlast
 obtain ⟨hi, hv⟩ := List.getElem?_eq_some_iff.1 hop
 unfold ixS
 rw [List.findIdx?_eq_some_iff_getElem]
 refine ⟨hi, by simp [hv], fun j hj => ?_⟩
 intro he
 simp at he
 have := (List.getElem_inj hn (i := j) (j := o.length - 1) (h₀ := by omega) (h₁ := hi)).1 (by rw [hv]; exact he.symm)
 omega
theorem openCut_of {opn o : List Str} {par : Str} (hn : opn.Nodup) (ho : o <+: opn) (hl : lastS o = par) (h0 : par = [] → o = []) : openCut opn par = some o := by
 unfold openCut
 split
 · rename_i hp; rw [h0 hp]
 · rename_i hp
   have hne : o ≠ [] := by rintro rfl; exact hp (by rw [← hl]; rfl)
   rw [ixS_nodup hn ho hne hl]
   simp
   have hpos : 0 < o.length := List.length_pos_iff.2 hne
   rw [show o.length - 1 + 1 = o.length by omega]
   exact (List.prefix_iff_eq_take.1 ho).symm
theorem walkF_of : ∀ (d : List Row) (seen opn : List Str), Chain opn d → opn.Nodup → (∀ t ∈ opn, t ∈ seen) → (idsR d).Nodup → (∀ t ∈ idsR d, t ∉ seen) → (∀ y ∈ d, properB y.1 = true) → walkF (d.map (·.1)) seen opn = (d, true)
 | [], _, _, _, _, _, _, _, _ => rfl
 | y :: r, seen, opn, hc, hn, hs, hd, hf, hp => by
   obtain ⟨c1, c2, c3, c4⟩ := hc
   have hx : y.1.id ∉ seen := hf _ (by simp [idsR])
   have hd' : y.1.id ∉ idsR r ∧ (idsR r).Nodup := by simpa [idsR] using hd
   rw [List.map_cons, walkF, if_neg (by simp [hp y (by simp), hasS_false.2 hx]), openCut_of hn c1 c2 c3]
   have ih := walkF_of r (seen ++ [y.1.id]) (push y.2 y.1) c4 (push_nodup (c1.sublist.nodup hn) (fun hm => hx (hs _ (pre_sub c1 hm)))) ?_ hd'.2 ?_ (fun z hz => hp z (by simp [hz]))
   · show ((y.1, y.2) :: (walkF (r.map (·.1)) (seen ++ [y.1.id]) (push y.2 y.1)).1, (walkF (r.map (·.1)) (seen ++ [y.1.id]) (push y.2 y.1)).2) = _
     rw [ih]
   · intro t ht
     rcases mem_push ht with ht | rfl
     · exact List.mem_append_left _ (hs _ (pre_sub c1 ht))
     · simp
   · intro t ht hm
     rcases List.mem_append.1 hm with hm | hm
     · exact hf t (by simp [idsR] at ht ⊢; exact .inr ht) hm
     · simp at hm
       subst hm
       exact hd'.1 ht
theorem Good.walk {l : List Item} {d : List Row} (h : Good l d) : walkF l [] [] = (d, true) := by
 have := walkF_of d [] [] h.chain List.nodup_nil (by simp) h.nd (by simp) (fun y hy => h.pr _ (by rw [← h.fst]; exact List.mem_map_of_mem hy))
 rw [h.fst] at this
 exact this
theorem Good.wB {l : List Item} {d : List Row} (h : Good l d) : walkB l = true := by
 unfold walkB
 rw [h.walk]
 have := h.le
 simp
 omega
theorem Good.wL {l : List Item} {d : List Row} (h : Good l d) : walkL l = d := by
 unfold walkL
 rw [h.walk]
theorem good_of {l : List Item} (h : walkB l = true) : Good l (walkL l) := by
 unfold walkB at h
 simp at h
 obtain ⟨h1, h2, h3, h4, h5⟩ := walkF_ok l [] [] h.1
 exact ⟨h1, h2, h3, h5, by omega⟩

theorem idsR_append {a b : List Row} : idsR (a ++ b) = idsR a ++ idsR b := by simp [idsR]
theorem idsR_cons {y : Row} {b : List Row} : idsR (y :: b) = y.1.id :: idsR b := rfl
theorem open_sub {s : List Str} {a : List Row} (h : Chain s a) : ∀ y ∈ a, ∀ t ∈ y.2, t ∈ s ∨ t ∈ idsR a := by
 induction a generalizing s with
 | nil => simp
 | cons z r ih =>
   obtain ⟨h1, _, _, h4⟩ := h
   intro y hy t ht
   rcases List.mem_cons.1 hy with rfl | hy
   · exact .inl (pre_sub h1 ht)
   · rcases ih h4 y hy t ht with h | h
     · rcases mem_push h with h | h
       · exact .inl (pre_sub h1 h)
       · right; rw [idsR_cons, h]; simp
     · right; rw [idsR_cons]; exact List.mem_cons_of_mem _ h
/- whoever is not open, and does not come, is open nowhere -/
theorem not_open {s : List Str} {b : List Row} {z : Str} (h : Chain s b) (hz : z ∉ s) (hi : z ∉ idsR b) : ∀ y ∈ b, z ∉ y.2 :=
 fun y hy hm => (open_sub h y hy z hm).elim hz hi
theorem pre_cmp {o oy t : List Str} {z : Str} (h1 : o ++ [z] <+: t) (h2 : oy <+: t) : o ++ [z] <+: oy ∨ oy <+: o := by
 rcases List.prefix_or_prefix_of_prefix h1 h2 with h | h
 · exact .inl h
 · rcases List.prefix_concat_iff.1 h with h | h
   · left; rw [h]; exact List.prefix_refl _
   · exact .inr h
theorem block_in {t o : List Str} {z : Str} {b : List Row} (h : Chain t b) (hp : o ++ [z] <+: t) (hz : z ∉ idsR b) (ho : z ∉ o) :
 ∃ r c, b = r ++ c ∧ (∀ y ∈ r, o ++ [z] <+: y.2) ∧ (∀ y ∈ c, z ∉ y.2) ∧ (∀ y ∈ c.head?, y.2 <+: o) := by
 induction b generalizing t with
 | nil => exact ⟨[], [], rfl, by simp, by simp, by simp⟩
 | cons y r ih =>
   obtain ⟨h1, h2, h3, h4⟩ := h
   rw [idsR_cons] at hz
   simp at hz
   rcases pre_cmp hp h1 with hc | hc
   · obtain ⟨r', c, rfl, k1, k2, k3⟩ := ih h4 (hc.trans (push_pre _ _)) hz.2
     refine ⟨y :: r', c, rfl, ?_, k2, k3⟩
     intro x hx
     rcases List.mem_cons.1 hx with rfl | hx
     · exact hc
     · exact k1 x hx
   · refine ⟨[], y :: r, rfl, by simp, ?_, by simpa using hc⟩
     refine not_open (s := o) ⟨hc, h2, h3, h4⟩ ho ?_
     rw [idsR_cons]; simpa using hz
/- an item with all below it -/
structure Block (d a : List Row) (x : Item) (o : List Str) (r b : List Row) : Prop where
 eq : d = a ++ (x, o) :: (r ++ b)
 before : ∀ y ∈ a, x.id ∉ y.2
 self : x.id ∉ o
 inner : ∀ y ∈ r, o ++ [x.id] <+: y.2
 after : ∀ y ∈ b, x.id ∉ y.2
 next : ∀ y ∈ b.head?, y.2 <+: o
theorem nodup_parts {a c : List Row} {x : Item} {o : List Str} (h : (idsR (a ++ (x, o) :: c)).Nodup) : x.id ∉ idsR a ∧ x.id ∉ idsR c ∧ (idsR a).Nodup ∧ (idsR c).Nodup ∧ (∀ t ∈ idsR a, t ∉ idsR c) := by
 rw [idsR_append, idsR_cons, List.nodup_append] at h
 obtain ⟨h1, h2, h3⟩ := h
 rw [List.nodup_cons] at h2
 refine ⟨fun hm => h3 _ hm _ (by simp) rfl, h2.1, h1, h2.2, fun t h5 h6 => h3 _ h5 _ (by simp [h6]) rfl⟩
theorem block_of {d a c : List Row} {x : Item} {o : List Str} (hc : Chain [] d) (hn : (idsR d).Nodup) (he : d = a ++ (x, o) :: c) : ∃ r b, c = r ++ b ∧ Block d a x o r b := by
 subst he
 obtain ⟨n1, n2, n3, n4, n5⟩ := nodup_parts hn
 rw [chain_append] at hc
 obtain ⟨ca, c1, c2, c3, c4⟩ := hc
 simp only at c1 c2 c3 c4
 have hbef : ∀ y ∈ a, x.id ∉ y.2 := not_open ca (by simp) n1
 have hself : x.id ∉ o := fun hm => by
  rcases stk_sub ca (pre_sub c1 hm) with h | h
  · simp at h
  · exact n1 h
 by_cases hk : x.kind = 1
 · have hp : push o x = o ++ [x.id] := by unfold push; rw [if_pos hk]
   rw [hp] at c4
   obtain ⟨r, b, rfl, k1, k2, k3⟩ := block_in c4 (List.prefix_refl _) n2 hself
   exact ⟨r, b, rfl, rfl, hbef, hself, k1, k2, k3⟩
 · have hp : push o x = o := by unfold push; rw [if_neg hk]
   rw [hp] at c4
   refine ⟨[], c, rfl, rfl, hbef, hself, by simp, not_open c4 hself n2, ?_⟩
   cases c with
   | nil => simp
   | cons y r => intro z hz; simp at hz; subst hz; exact c4.1
theorem filterMap_none {id : Str} {a : List Row} (h : ∀ y ∈ a, id ∉ y.2) : belowF id a = [] := by
 unfold belowF
 rw [List.filterMap_eq_nil_iff]
 intro y hy
 rw [hasS_false.2 (h y hy)]; rfl
theorem filterMap_all {id : Str} {a : List Row} (h : ∀ y ∈ a, id ∈ y.2) : belowF id a = idsR a := by
 induction a with
 | nil => rfl
 | cons y r ih =>
   have h1 : hasS y.2 id = true := hasS_iff.2 (h y (by simp))
   have := ih (fun z hz => h z (by simp [hz]))
   unfold belowF at this ⊢
   rw [List.filterMap_cons, h1, if_pos rfl, this]; rfl
theorem belowF_append {id : Str} {a b : List Row} : belowF id (a ++ b) = belowF id a ++ belowF id b := by simp [belowF]
theorem Block.mem {d a : List Row} {x : Item} {o : List Str} {r b : List Row} (h : Block d a x o r b) : ∀ y ∈ r, x.id ∈ y.2 :=
 fun y hy => pre_sub (h.inner y hy) (by simp)
theorem Block.below {d a : List Row} {x : Item} {o : List Str} {r b : List Row} (h : Block d a x o r b) : belowF x.id d = idsR r := by
 have h1 : belowF x.id ((x, o) :: (r ++ b)) = idsR r := by
  have : belowF x.id ((x, o) :: (r ++ b)) = belowF x.id [(x, o)] ++ belowF x.id (r ++ b) := belowF_append (a := [(x, o)])
  rw [this, filterMap_none (by simpa using h.self), belowF_append, filterMap_all h.mem, filterMap_none h.after]; simp
 rw [h.eq, belowF_append, filterMap_none h.before, h1]; rfl
theorem Good.below {l : List Item} {d a : List Row} {x : Item} {o : List Str} {r b : List Row} (hg : Good l d) (h : Block d a x o r b) : belowL l x.id = idsR r := by
 unfold belowL
 rw [hg.wB, if_pos rfl, hg.wL, h.below]
theorem find_none {l : List Item} {id : Str} (h : ∀ x ∈ l, x.id ≠ id) : findI l id = -1 ∧ itemF l id = noItem := by
 have h1 : l.findIdx? (fun x => x.id == id) = none := by
  rw [List.findIdx?_eq_none_iff]
  intro x hx; simpa using h x hx
 have h2 : l.find? (fun x => x.id == id) = none := by
  rw [List.find?_eq_none]
  intro x hx; simpa using h x hx
 exact ⟨by unfold findI; rw [h1]; rfl, by unfold itemF; rw [h2]; rfl⟩
theorem find_mid {u v : List Item} {x : Item} (h : ∀ y ∈ u, y.id ≠ x.id) : findI (u ++ x :: v) x.id = u.length ∧ itemF (u ++ x :: v) x.id = x := by
 constructor
 · have : (u ++ x :: v).findIdx? (fun y => y.id == x.id) = some u.length := by
     rw [List.findIdx?_append]
     have : u.findIdx? (fun y => y.id == x.id) = none := by
      rw [List.findIdx?_eq_none_iff]
      intro y hy; simpa using h y hy
     rw [this, List.findIdx?_cons]
     simp
   unfold findI
   rw [this]; rfl
 · unfold itemF
   rw [List.find?_append]
   have : u.find? (fun y => y.id == x.id) = none := by
    rw [List.find?_eq_none]
    intro y hy; simpa using h y hy
   rw [this]
   simp
theorem Good.items {l : List Item} {d a c : List Row} {x : Item} {o : List Str} (hg : Good l d) (he : d = a ++ (x, o) :: c) : l = a.map (·.1) ++ x :: c.map (·.1) := by
 rw [← hg.fst, he]; simp
theorem Good.find {l : List Item} {d a c : List Row} {x : Item} {o : List Str} (hg : Good l d) (he : d = a ++ (x, o) :: c) : findI l x.id = a.length ∧ itemF l x.id = x := by
 have hn := hg.nd
 rw [he] at hn
 have h1 := (nodup_parts hn).1
 rw [hg.items he]
 have := find_mid (u := a.map (·.1)) (v := c.map (·.1)) (x := x) (fun y hy he => h1 (by
  simp only [List.mem_map] at hy
  obtain ⟨z, hz, rfl⟩ := hy
  rw [← he]
  exact List.mem_map_of_mem (f := fun y : Row => y.1.id) hz))
 simpa using this
/- each item: where it stands -/
theorem Good.split {l : List Item} {d : List Row} (hg : Good l d) {x : Item} (hx : x ∈ l) : ∃ a o c, d = a ++ (x, o) :: c := by
 rw [← hg.fst] at hx
 simp only [List.mem_map] at hx
 obtain ⟨y, hy, rfl⟩ := hx
 obtain ⟨a, c, rfl⟩ := List.append_of_mem hy
 exact ⟨a, y.2, c, rfl⟩
theorem Good.look {l : List Item} {d : List Row} (hg : Good l d) (id : Str) : (findI l id = -1 ∧ itemF l id = noItem ∧ ∀ x ∈ l, x.id ≠ id) ∨
 ∃ a x o r b, x.id = id ∧ Block d a x o r b ∧ findI l id = a.length ∧ itemF l id = x ∧ belowL l id = idsR r := by
 by_cases h : ∀ x ∈ l, x.id ≠ id
 · obtain ⟨h1, h2⟩ := find_none h
   exact .inl ⟨h1, h2, h⟩
 · right
   simp only [Classical.not_forall] at h
   obtain ⟨x, hx, he⟩ := h
   simp at he
   subst he
   obtain ⟨a, o, c, hd⟩ := hg.split hx
   obtain ⟨r, b, rfl, hB⟩ := block_of hg.chain hg.nd hd
   obtain ⟨h1, h2⟩ := hg.find hd
   exact ⟨a, x, o, r, b, rfl, hB, h1, h2, hg.below hB⟩
theorem stk_pre {s o : List Str} {B : List Row} (hne : B ≠ []) (h : ∀ y ∈ B, o <+: y.2) : o <+: stk s B := by
 induction B generalizing s with
 | nil => exact absurd rfl hne
 | cons y r ih =>
   cases r with
   | nil => exact (h y (by simp)).trans (push_pre _ _)
   | cons z t => exact ih (s := push y.2 y.1) (by simp) (fun w hw => h w (by simp [hw]))
/- a place: behind a, ahead of b, below o -/
structure Place (d a b : List Row) (o : List Str) : Prop where
 eq : d = a ++ b
 pre : o <+: stk [] a
 next : ∀ y ∈ b.head?, y.2 <+: o
theorem Place.put {d a b B : List Row} {o : List Str} (h : Place d a b o) (hc : Chain [] d) (hne : B ≠ []) (hB : Chain o B) (hin : ∀ y ∈ B, o <+: y.2) : Chain [] (a ++ (B ++ b)) := by
 rw [h.eq, chain_append] at hc
 rw [chain_append, chain_append]
 exact ⟨hc.1, chain_mono hB h.pre, chain_head hc.2 (fun y hy => (h.next y hy).trans (stk_pre hne hin))⟩
theorem Place.cut {d a x o r b} (h : Block d a x o r b) (hc : Chain [] d) : Chain [] (a ++ b) ∧ o <+: stk [] a := by
 rw [h.eq, show (x, o) :: (r ++ b) = ((x, o) :: r) ++ b from rfl, chain_append, chain_append] at hc
 rw [chain_append]
 have h1 : o <+: stk [] a := hc.2.1.1
 exact ⟨⟨hc.1, chain_head hc.2.2 (fun y hy => (h.next y hy).trans h1)⟩, h1⟩

theorem proper_id {x : Item} (h : properB x = true) : x.id ≠ [] := by
 unfold properB at h
 have : isNameB x.id = true := by
  split at h
  · simp at h; exact h.1.1.1.2
  · split at h
    · simp at h; exact h.1.1.2
    · cases h
 unfold isNameB at this
 simp at this
 exact this.1.2
theorem proper_kind {x : Item} (h : properB x = true) : x.kind = 1 ∨ x.kind = 2 := by
 unfold properB at h
 by_cases h1 : x.kind = 1
 · exact .inl h1
 · rw [if_neg h1] at h
   by_cases h2 : x.kind = 2
   · exact .inr h2
   · rw [if_neg h2] at h; cases h
theorem Good.mem {l : List Item} {d : List Row} (hg : Good l d) {y : Row} (hy : y ∈ d) : y.1 ∈ l := by
 rw [← hg.fst]; exact List.mem_map_of_mem hy
theorem Good.proper {l : List Item} {d : List Row} (hg : Good l d) {y : Row} (hy : y ∈ d) : properB y.1 = true := hg.pr _ (hg.mem hy)
theorem Good.item_of {l : List Item} {d : List Row} (hg : Good l d) {x : Item} (hx : x ∈ l) : itemF l x.id = x := by
 obtain ⟨a, o, c, he⟩ := hg.split hx
 exact (hg.find he).2
theorem Good.len {l : List Item} {d : List Row} (hg : Good l d) : l.length = d.length := by rw [← hg.fst]; simp
/- the parts of a row of d -/
theorem chain_mid {s : List Str} {a c : List Row} {x : Item} {o : List Str} (h : Chain s (a ++ (x, o) :: c)) : o <+: stk s a ∧ lastS o = x.par ∧ (x.par = [] → o = []) ∧ Chain (push o x) c := by
 rw [chain_append] at h
 exact h.2
theorem Good.open_nodup {l : List Item} {d a c : List Row} {x : Item} {o : List Str} (hg : Good l d) (he : d = a ++ (x, o) :: c) : o.Nodup := by
 have hc := hg.chain
 have hn := hg.nd
 rw [he] at hc hn
 have hn1 := (nodup_parts hn).2.2.1
 have hca := (chain_append.1 hc).1
 exact (chain_mid hc).1.sublist.nodup (stk_nodup hca List.nodup_nil (by simp) hn1)
theorem chain_sub0 {a : List Row} (h : Chain [] a) {t : Str} (ht : t ∈ stk [] a) : t ∈ idsR a := (stk_sub h ht).elim (by simp) id
/- who is open has come, with what was open then -/
def Anc (s : List Str) (d : List Row) : Prop := ∀ u z v, s = u ++ z :: v → ∃ w ∈ d, w.1.id = z ∧ w.2 = u ∧ w.1.kind = 1
theorem Anc.pre {s o : List Str} {d : List Row} (h : Anc s d) (ho : o <+: s) : Anc o d := by
 rintro u z v rfl
 obtain ⟨t, rfl⟩ := ho
 exact h u z (v ++ t) (by simp)
theorem Anc.pushed {o : List Str} {d : List Row} {y : Item} (h : Anc o d) (hm : (y, o) ∈ d) : Anc (push o y) d := by
 unfold push
 split
 · rename_i hk
   intro u z v he
   rcases List.append_eq_append_iff.1 he with ⟨t, h1, h2⟩ | ⟨t, h1, h2⟩
   · cases t with
     | nil =>
       simp at h1 h2
       exact ⟨(y, o), hm, h2.1, h1.symm, hk⟩
     | cons c t => simp at h2
   · cases t with
     | nil =>
       simp at h1 h2
       exact ⟨(y, o), hm, h2.1.symm, h1, hk⟩
     | cons c t =>
       simp at h2
       obtain ⟨rfl, _⟩ := h2
       exact h u z t h1
 · exact h
theorem anc_chain {s : List Str} {b d : List Row} (hs : Anc s d) (hc : Chain s b) (hb : ∀ y ∈ b, y ∈ d) : (∀ y ∈ b, Anc y.2 d) ∧ Anc (stk s b) d := by
 induction b generalizing s with
 | nil => exact ⟨by simp, hs⟩
 | cons y r ih =>
   obtain ⟨h1, _, _, h4⟩ := hc
   have hy := hs.pre h1
   obtain ⟨k1, k2⟩ := ih (hy.pushed (hb y (by simp))) h4 (fun z hz => hb z (by simp [hz]))
   refine ⟨fun z hz => ?_, k2⟩
   rcases List.mem_cons.1 hz with rfl | hz
   · exact hy
   · exact k1 z hz
theorem Good.anc {l : List Item} {d : List Row} (hg : Good l d) : ∀ y ∈ d, Anc y.2 d :=
 (anc_chain (s := []) (by intro u z v h; simp at h) hg.chain (fun _ h => h)).1
theorem Good.uniq {l : List Item} {d : List Row} (hg : Good l d) {y z : Row} (hy : y ∈ d) (hz : z ∈ d) (h : y.1.id = z.1.id) : y = z := by
 obtain ⟨a, c, he⟩ := List.append_of_mem hy
 have hn := hg.nd
 rw [he] at hn hz
 obtain ⟨y1, y2⟩ := y
 obtain ⟨n1, n2, _⟩ := nodup_parts hn
 have hm : ∀ {b : List Row}, z ∈ b → z.1.id ∈ idsR b := fun hb => List.mem_map_of_mem (f := fun y : Row => y.1.id) hb
 rcases List.mem_append.1 hz with hz | hz
 · exact absurd (hm hz) (by rw [← h]; exact n1)
 · rcases List.mem_cons.1 hz with rfl | hz
   · rfl
   · exact absurd (hm hz) (by rw [← h]; exact n2)
theorem exists_iff {l : List Item} {d : List Row} (hg : Good l d) (par aft : Str) : existsF l par aft = true ↔
 (par = [] ∨ ∃ q ∈ l, q.id = par ∧ q.kind = 1) ∧ (aft = [] ∨ ∃ s ∈ l, s.id = aft ∧ s.par = par) := by
 unfold existsF
 have hl : ∀ id, (∃ x ∈ l, x.id = id ∧ itemF l id = x) ∨ itemF l id = noItem := by
  intro id
  rcases hg.look id with ⟨_, h, _⟩ | ⟨a, x, o, r, b, rfl, hB, _, h, _⟩
  · exact .inr h
  · exact .inl ⟨x, hg.mem (y := (x, o)) (by rw [hB.eq]; simp), rfl, h⟩
 simp only [Bool.and_eq_true, Bool.or_eq_true, beq_iff_eq, bne_iff_ne]
 refine and_congr (or_congr Iff.rfl ?_) (or_congr Iff.rfl ?_)
 · constructor
   · intro h
     rcases hl par with ⟨x, hx, h1, h2⟩ | h2
     · exact ⟨x, hx, h1, by rw [h2] at h; exact h⟩
     · rw [h2] at h; simp [noItem] at h
   · rintro ⟨q, hq, rfl, hk⟩
     rw [hg.item_of hq]; exact hk
 · constructor
   · rintro ⟨h, h'⟩
     rcases hl aft with ⟨x, hx, h1, h2⟩ | h2
     · exact ⟨x, hx, h1, by rw [h2] at h'; exact h'⟩
     · rw [h2] at h; simp [noItem] at h
   · rintro ⟨q, hq, rfl, hk⟩
     rw [hg.item_of hq]
     refine ⟨?_, hk⟩
     rcases proper_kind (hg.pr q hq) with h | h <;> rw [h] <;> decide
theorem lastSib_none {l : List Item} {par : Str} (h : ∀ y ∈ l, y.par ≠ par) : lastSib l par = [] := by
 unfold lastSib
 have : ∀ (l : List Item) (b : Str), (∀ y ∈ l, y.par ≠ par) → l.foldl (fun b y => if y.par == par then y.id else b) b = b := by
  intro l
  induction l with
  | nil => intro b _; rfl
  | cons y r ih =>
    intro b h
    rw [List.foldl_cons, if_neg (by simpa using h y (by simp))]
    exact ih b (fun z hz => h z (by simp [hz]))
 exact this l [] h
theorem lastSib_at {u v : List Item} {x : Item} {par : Str} (hx : x.par = par) (h : ∀ y ∈ v, y.par ≠ par) : lastSib (u ++ x :: v) par = x.id := by
 unfold lastSib
 rw [List.foldl_append, List.foldl_cons, if_pos (by simpa using hx)]
 induction v with
 | nil => rfl
 | cons y r ih =>
   rw [List.foldl_cons, if_neg (by simpa using h y (by simp))]
   exact ih (fun z hz => h z (by simp [hz]))
theorem lastS_snoc (o : List Str) (z : Str) : lastS (o ++ [z]) = z := by simp [lastS]
theorem lastS_app (o : List Str) (z : Str) (t : List Str) : lastS (o ++ z :: t) ∈ z :: t := by
 unfold lastS
 rw [List.getLast?_append, List.getLast?_eq_some_getLast (l := z :: t) (by simp)]
 exact List.getLast_mem _
theorem lastS_mem {o : List Str} (h : o ≠ []) : lastS o ∈ o := by
 unfold lastS
 rw [List.getLast?_eq_some_getLast h]
 exact List.getLast_mem _
structure PlaceOk (l : List Item) (d a b : List Row) (o : List Str) (par aft : Str) : Prop where
 place : Place d a b o
 at_ : putAt l par aft = a.length
 last : lastS o = par
 nil : par = [] → o = []
 sib : lastSib (a.map (·.1)) par = aft
 ok : PutOk l par aft
theorem Good.par_ne {l : List Item} {d : List Row} (hg : Good l d) {y : Row} (hy : y ∈ d) (hne : y.2 ≠ []) : y.1.par ≠ [] := by
 obtain ⟨a, c, he⟩ := List.append_of_mem hy
 have hc := hg.chain
 obtain ⟨y1, y2⟩ := y
 rw [he] at hc
 exact fun h => hne ((chain_mid hc).2.2.1 h)
theorem Good.par_last {l : List Item} {d : List Row} (hg : Good l d) {y : Row} (hy : y ∈ d) : lastS y.2 = y.1.par ∧ (y.1.par = [] → y.2 = []) := by
 obtain ⟨a, c, he⟩ := List.append_of_mem hy
 have hc := hg.chain
 obtain ⟨y1, y2⟩ := y
 rw [he] at hc
 exact ⟨(chain_mid hc).2.1, (chain_mid hc).2.2.1⟩
theorem Good.nodup_of {l : List Item} {d : List Row} (hg : Good l d) {y : Row} (hy : y ∈ d) : y.2.Nodup := by
 obtain ⟨a, c, he⟩ := List.append_of_mem hy
 obtain ⟨y1, y2⟩ := y
 exact hg.open_nodup he
theorem Good.place {l : List Item} {d : List Row} (hg : Good l d) {par aft : Str} (he : existsF l par aft = true) : ∃ a b o, PlaceOk l d a b o par aft := by
 obtain ⟨hp, ha⟩ := (exists_iff hg par aft).1 he
 have hlen := hg.len
 by_cases h0 : aft = []
 · subst h0
   by_cases h1 : par = []
   · subst h1
     refine ⟨[], d, [], ⟨rfl, List.nil_prefix, ?_⟩, rfl, rfl, fun _ => rfl, rfl, ⟨0, rfl, by simp, .inl rfl, .inl rfl⟩⟩
     intro y hy
     cases d with
     | nil => simp at hy
     | cons z r => simp at hy; subst hy; exact hg.chain.1
   · obtain ⟨q, hq, rfl, hk⟩ := hp.resolve_left h1
     obtain ⟨a, o, c, hd⟩ := hg.split hq
     obtain ⟨hf, _⟩ := hg.find hd
     have hc := hg.chain
     rw [hd] at hc
     have hm := chain_mid hc
     have hpu : push o q = o ++ [q.id] := by unfold push; rw [if_pos hk]
     have hqe : q.id.isEmpty = false := by cases hq' : q.id with | nil => exact absurd hq' h1 | cons _ _ => rfl
     refine ⟨a ++ [(q, o)], c, o ++ [q.id], ⟨by rw [hd]; simp, ?_, ?_⟩, ?_, lastS_snoc _ _, fun h => absurd h h1, ?_, ?_⟩
     · rw [stk_append]; simp only [stk]; rw [hpu]; exact List.prefix_refl _
     · rw [hpu] at hm
       intro y hy
       cases c with
       | nil => simp at hy
       | cons z r => simp at hy; subst hy; exact hm.2.2.2.1
     · unfold putAt; simp [hf, hqe]
     · refine lastSib_none ?_
       intro y hy
       simp only [List.map_append, List.map_cons, List.map_nil, List.mem_append, List.mem_map, List.mem_singleton] at hy
       have hn := hg.nd
       rw [hd] at hn
       obtain ⟨n1, n2, n3, _⟩ := nodup_parts hn
       have hB := block_of hg.chain hg.nd hd
       obtain ⟨r, b, hrb, hB⟩ := hB
       rcases hy with ⟨z, hz, rfl⟩ | rfl
       · intro hpz
         have := (hg.par_last (y := z) (by rw [hd]; simp [hz])).1
         by_cases hz0 : z.2 = []
         · exact h1 (by rw [← hpz, ← this, hz0]; rfl)
         · exact hB.before z hz (by rw [← hpz, ← this]; exact lastS_mem hz0)
       · intro hpz
         have hl := hm.2.1
         by_cases hz0 : o = []
         · exact h1 (by rw [← hpz, ← hl, hz0]; rfl)
         · exact hB.self (by have := lastS_mem hz0; rw [hl, hpz] at this; exact this)
     · refine ⟨a.length + 1, ?_, ?_, .inl rfl, .inr ?_⟩
       · unfold putAt; simp [hf, hqe]
       · rw [hlen, hd]; simp
       · rw [hf]; omega
 · obtain ⟨s, hs, rfl, hsp⟩ := ha.resolve_left h0
   obtain ⟨a, o, c, hd⟩ := hg.split hs
   obtain ⟨r, b, rfl, hB⟩ := block_of hg.chain hg.nd hd
   obtain ⟨hf, _⟩ := hg.find hd
   have hbl := hg.below hB
   have hc := hg.chain
   rw [hd] at hc
   have hm := chain_mid hc
   have hse : s.id.isEmpty = false := by cases hs' : s.id with | nil => exact absurd hs' h0 | cons _ _ => rfl
   have hput : putAt l par s.id = ((a ++ (s, o) :: r).length : Nat) := by
    unfold putAt
    simp [hf, hbl, hse, idsR]
    omega
   refine ⟨a ++ (s, o) :: r, b, o, ⟨by rw [hd]; simp, ?_, hB.next⟩, hput, by rw [hm.2.1, hsp], fun h => hm.2.2.1 (by rw [hsp, h]), ?_, ?_⟩
   · rw [stk_append]
     refine stk_pre (by simp) ?_
     intro y hy
     rcases List.mem_cons.1 hy with rfl | hy
     · exact List.prefix_refl _
     · exact (List.prefix_append o [s.id]).trans (hB.inner y hy)
   · rw [List.map_append, List.map_cons]
     refine lastSib_at hsp ?_
     intro y hy hyp
     simp only [List.mem_map] at hy
     obtain ⟨z, hz, rfl⟩ := hy
     have hzd : z ∈ d := by rw [hd]; simp [hz]
     obtain ⟨t, ht⟩ := hB.inner z hz
     have ht' : z.2 = o ++ s.id :: t := by rw [← ht]; simp
     have hzl := (hg.par_last hzd).1
     have hin := lastS_app o s.id t
     rw [← ht', hzl, hyp] at hin
     have hnd := hg.nodup_of hzd
     rw [ht', List.nodup_append] at hnd
     by_cases ho : o = []
     · subst ho
       have hpn := hg.par_ne hzd (by rw [ht']; simp)
       exact hpn (by rw [hyp, ← hsp, ← hm.2.1]; rfl)
     · have hom := lastS_mem ho
       rw [hm.2.1, hsp] at hom
       exact hnd.2.2 _ hom _ hin rfl
   · refine ⟨(a ++ (s, o) :: r).length, hput, ?_, .inr (by rw [hf]; omega), ?_⟩
     · rw [hlen, hd]; simp
     · by_cases h1 : par = []
       · exact .inl (by rw [h1]; rfl)
       · right
         obtain ⟨q, hq, rfl, _⟩ := hp.resolve_left h1
         obtain ⟨a', o', c', hd'⟩ := hg.split hq
         rw [(hg.find hd').1]; omega

theorem Good.mk' {d : List Row} {l : List Item} (hl : d.map (·.1) = l) (hc : Chain [] d) (hn : (idsR d).Nodup) (hp : ∀ y ∈ d, properB y.1 = true) (hle : d.length ≤ 2000) : Good l d :=
 ⟨hl, hc, hn, fun x hx => by rw [← hl] at hx; simp only [List.mem_map] at hx; obtain ⟨y, hy, rfl⟩ := hx; exact hp y hy, by rw [← hl]; simpa using hle⟩
theorem map_mid (a c : List Row) (x : Item) (o : List Str) : (a ++ (x, o) :: c).map (·.1) = a.map (·.1) ++ x :: c.map (·.1) := by simp
/- an item changed in its place -/
theorem Good.set {l : List Item} {d a c : List Row} {x y : Item} {o : List Str} (hg : Good l d) (he : d = a ++ (x, o) :: c) (hy : properB y = true) (hi : y.id = x.id) (hk : y.kind = x.kind) (hp : y.par = x.par) :
 Good (l.set a.length y) (a ++ (y, o) :: c) := by
 have hc := hg.chain
 have hn := hg.nd
 refine Good.mk' ?_ ?_ ?_ ?_ ?_
 · rw [hg.items he, map_mid]
   simp
 · rw [he, chain_append] at hc
   rw [chain_append]
   obtain ⟨h1, h2, h3, h4, h5⟩ := hc
   refine ⟨h1, h2, by simpa [hp] using h3, by simpa [hp] using h4, ?_⟩
   have : push o y = push o x := by unfold push; rw [hk, hi]
   simp only [this]
   exact h5
 · rw [he] at hn
   simp only [idsR_append, idsR_cons, hi] at hn ⊢
   exact hn
 · intro z hz
   rcases List.mem_append.1 hz with hz | hz
   · exact hg.proper (by rw [he]; simp [hz])
   · rcases List.mem_cons.1 hz with rfl | hz
     · exact hy
     · exact hg.proper (by rw [he]; simp [hz])
 · have := hg.le
   rw [hg.len, he] at this
   simpa using this
/- a new item put in -/
theorem Good.insert {l : List Item} {d a b : List Row} {y : Item} {o : List Str} (hg : Good l d) (hpl : Place d a b o) (hy : properB y = true) (hi : y.id ∉ idsR d) (hl : lastS o = y.par) (h0 : y.par = [] → o = []) (hle : l.length < 2000) :
 Good (ins l [y] a.length) (a ++ (y, o) :: b) := by
 have hc := hpl.put (B := [(y, o)]) hg.chain (by simp) ⟨List.prefix_refl _, hl, h0, trivial⟩ (by simp)
 have hn := hg.nd
 rw [hpl.eq] at hn hi
 refine Good.mk' ?_ (by simpa using hc) ?_ ?_ ?_
 · rw [← hg.fst, hpl.eq, map_mid]
   unfold ins
   simp
 · rw [idsR_append, idsR_cons]
   rw [idsR_append] at hn hi
   rw [List.nodup_append] at hn ⊢
   rw [List.nodup_cons]
   simp at hi
   refine ⟨hn.1, ⟨hi.2, hn.2.1⟩, ?_⟩
   intro t ht u hu
   rcases List.mem_cons.1 hu with rfl | hu
   · rintro rfl; exact hi.1 ht
   · exact hn.2.2 t ht u hu
 · intro z hz
   rcases List.mem_append.1 hz with hz | hz
   · exact hg.proper (by rw [hpl.eq]; simp [hz])
   · rcases List.mem_cons.1 hz with rfl | hz
     · exact hy
     · exact hg.proper (by rw [hpl.eq]; simp [hz])
 · rw [hg.len, hpl.eq] at hle
   simp at hle ⊢
   omega
/- the rows of a block below another division -/
def reroot (o o' : List Str) (r : List Row) : List Row := r.map fun y => (y.1, o' ++ y.2.drop o.length)
theorem reroot_fst (o o' : List Str) (r : List Row) : (reroot o o' r).map (·.1) = r.map (·.1) := by simp [reroot]
theorem reroot_ids (o o' : List Str) (r : List Row) : idsR (reroot o o' r) = idsR r := by simp [reroot, idsR]
theorem reroot_chain {o o' s : List Str} {r : List Row} (h : Chain (o ++ s) r) (hin : ∀ y ∈ r, ∃ z t, y.2 = o ++ z :: t) : Chain (o' ++ s) (reroot o o' r) := by
 induction r generalizing s with
 | nil => trivial
 | cons y r ih =>
   obtain ⟨h1, h2, h3, h4⟩ := h
   obtain ⟨z, t, hy⟩ := hin y (by simp)
   obtain ⟨y1, y2⟩ := y
   simp only at hy h1 h2 h3 h4
   subst hy
   have hd : (o ++ z :: t).drop o.length = z :: t := by simp
   refine ⟨?_, ?_, ?_, ?_⟩
   · simp only [hd]
     exact (List.prefix_append_right_inj o').2 ((List.prefix_append_right_inj o).1 h1)
   · simp only [hd]
     rw [← h2]
     simp only [lastS, List.getLast?_append, List.getLast?_eq_some_getLast (l := z :: t) (by simp)]
     rfl
   · intro h0
     have := h3 h0
     simp at this
   · simp only [hd]
     have e1 : push (o ++ z :: t) y1 = o ++ push (z :: t) y1 := by unfold push; split <;> simp
     have e2 : push (o' ++ z :: t) y1 = o' ++ push (z :: t) y1 := by unfold push; split <;> simp
     rw [e1] at h4
     rw [e2]
     exact ih h4 (fun w hw => hin w (by simp [hw]))
theorem Block.parts {d a r b : List Row} {x : Item} {o : List Str} (hB : Block d a x o r b) (hc : Chain [] d) : Chain (push o x) r := by
 rw [hB.eq] at hc
 exact (chain_append.1 (chain_mid hc).2.2.2).1
theorem Block.kind {d a r b : List Row} {x : Item} {o : List Str} (hB : Block d a x o r b) (hc : Chain [] d) (hne : r ≠ []) : x.kind = 1 := by
 by_cases hk : x.kind = 1
 · exact hk
 · exfalso
   have h := hB.parts hc
   unfold push at h
   rw [if_neg hk] at h
   cases r with
   | nil => exact hne rfl
   | cons y t =>
     have h1 := h.1
     have h2 := hB.inner y (by simp)
     have := (h2.trans h1).length_le
     simp at this
     omega
theorem Good.rest {l : List Item} {d a r b : List Row} {x : Item} {o : List Str} (hg : Good l d) (hB : Block d a x o r b) : Good ((a ++ b).map (·.1)) (a ++ b) := by
 have hn := hg.nd
 refine Good.mk' rfl (Place.cut hB hg.chain).1 ?_ ?_ ?_
 · rw [hB.eq] at hn
   rw [show a ++ (x, o) :: (r ++ b) = a ++ ((x, o) :: r ++ b) from rfl] at hn
   simp only [idsR, List.map_append, List.nodup_append] at hn ⊢
   exact ⟨hn.1, hn.2.1.2.1, fun t ht u hu => hn.2.2 t ht u (List.mem_append_right _ hu)⟩
 · intro z hz
   refine hg.proper ?_
   rw [hB.eq]
   rcases List.mem_append.1 hz with hz | hz <;> simp [hz]
 · have := hg.le
   rw [hg.len, hB.eq] at this
   simp at this ⊢
   omega
theorem rest_items {l : List Item} {d a r b : List Row} {x : Item} {o : List Str} (hg : Good l d) (hB : Block d a x o r b) :
 l.take a.length ++ l.drop (a.length + (1 + (idsR r).length)) = (a ++ b).map (·.1) ∧ (l.drop a.length).take (1 + (idsR r).length) = x :: r.map (·.1) := by
 have h : l = a.map (·.1) ++ (x :: r.map (·.1) ++ b.map (·.1)) := by rw [← hg.fst, hB.eq]; simp
 have e1 : (a.map (·.1)).length = a.length := by simp
 have e2 : (x :: r.map (·.1)).length = 1 + (idsR r).length := by simp [idsR]; omega
 constructor
 · rw [h, List.map_append]
   rw [List.take_append_of_le_length (by omega), List.take_of_length_le (by omega)]
   congr 1
   rw [List.drop_append, List.drop_of_length_le (by omega), List.nil_append, e1, show a.length + (1 + (idsR r).length) - a.length = 1 + (idsR r).length by omega]
   rw [List.drop_append, List.drop_of_length_le (by omega), List.nil_append, e2, Nat.sub_self, List.drop_zero]
 · rw [h, List.drop_append, List.drop_of_length_le (by omega), List.nil_append, e1, Nat.sub_self, List.drop_zero, List.take_append_of_le_length (by omega), List.take_of_length_le (by omega)]
theorem underF_at {d a c : List Row} {x : Item} {o : List Str} (hn : (idsR d).Nodup) (he : d = a ++ (x, o) :: c) (div : Str) : underF x.id div d = (div == [] || hasS o div) := by
 subst he
 have n2 := (nodup_parts hn).2.1
 unfold underF
 rw [List.foldl_append, List.foldl_cons, if_pos (by simp)]
 generalize (div == [] || hasS o div) = v
 clear hn
 revert n2
 induction c with
 | nil => intro _; rfl
 | cons y r ih =>
   intro n2
   rw [idsR_cons] at n2
   simp at n2
   rw [List.foldl_cons, if_neg (by simpa using fun h => n2.1 h.symm)]
   exact ih n2.2
theorem under_at {l : List Item} {d : List Row} (hg : Good l d) {y : Row} (hy : y ∈ d) {div : Str} (hd : div ≠ []) : underB l y.1.id div = decide (div ∈ y.2) := by
 obtain ⟨a, c, he⟩ := List.append_of_mem hy
 obtain ⟨y1, y2⟩ := y
 unfold underB
 rw [hg.wB, hg.wL, underF_at hg.nd he]
 simp only [Bool.true_and]
 by_cases h : div ∈ y2
 · simp [hasS_iff.2 h, h]
 · simp [hasS_false.2 h, h, hd]
/- the place of a move exists without the block, too -/
theorem move_exists {l : List Item} {d a r b : List Row} {x : Item} {o : List Str} {p : Patch} (hg : Good l d) (hB : Block d a x o r b) (hx : x.id = p.id) (hm : moveOk l p = true) : existsF ((a ++ b).map (·.1)) p.par p.aft = true := by
 unfold moveOk at hm
 simp only [Bool.and_eq_true, Bool.not_eq_true', Bool.or_eq_true, beq_eq_false_iff_ne] at hm
 obtain ⟨he, h1, h2, h3⟩ := hm
 have hxd : (x, o) ∈ d := by rw [hB.eq]; simp
 have hxne : x.id ≠ [] := proper_id (hg.proper hxd)
 -- who is no part of the block stays
 have hin : ∀ y ∈ d, y.1.id ≠ x.id → x.id ∉ y.2 → y ∈ a ++ b := by
  intro y hy hi ho
  rw [hB.eq] at hy
  rcases List.mem_append.1 hy with hy | hy
  · exact List.mem_append_left _ hy
  · rcases List.mem_cons.1 hy with rfl | hy
    · exact absurd rfl hi
    · rcases List.mem_append.1 hy with hy | hy
      · exact absurd (hB.mem y hy) ho
      · exact List.mem_append_right _ hy
 obtain ⟨hp, ha⟩ := (exists_iff hg p.par p.aft).1 he
 refine (exists_iff (hg.rest hB) p.par p.aft).2 ⟨?_, ?_⟩
 · by_cases hp0 : p.par = []
   · exact .inl hp0
   · right
     obtain ⟨q, hq, hqi, hqk⟩ := hp.resolve_left hp0
     obtain ⟨a', o', c', hd'⟩ := hg.split hq
     have hqd : (q, o') ∈ d := by rw [hd']; simp
     have hu : underB l p.par p.id = false := by
      rcases h3 with h3 | h3
      · exact absurd (by simpa using h3) hp0
      · exact h3
     have hun := under_at hg hqd (div := p.id) (by rw [← hx]; exact hxne)
     rw [show (q, o').1.id = p.par from hqi, hu] at hun
     have hno : p.id ∉ o' := by simpa using hun.symm
     refine ⟨q, ?_, hqi, hqk⟩
     exact List.mem_map_of_mem (f := fun y : Row => y.1) (hin (q, o') hqd (by rw [show (q, o').1.id = p.par from hqi, hx]; exact h1) (by rw [hx]; exact hno))
 · by_cases ha0 : p.aft = []
   · exact .inl ha0
   · right
     obtain ⟨s, hs, hsi, hsp⟩ := ha.resolve_left ha0
     obtain ⟨a', o', c', hd'⟩ := hg.split hs
     have hsd : (s, o') ∈ d := by rw [hd']; simp
     refine ⟨s, ?_, hsi, hsp⟩
     refine List.mem_map_of_mem (f := fun y : Row => y.1) (hin (s, o') hsd (by rw [show (s, o').1.id = p.aft from hsi, hx]; exact h2) ?_)
     -- were it below the item, its division would be, or be the item
     intro hm
     obtain ⟨u, v, hv⟩ := List.append_of_mem hm
     simp only at hv
     have hl := (hg.par_last hsd).1
     simp only at hl
     rw [hsp] at hl
     cases hv' : v with
     | nil =>
       subst hv'
       rw [hv, lastS_snoc] at hl
       exact h1 (by rw [← hl, hx])
     | cons z t =>
       -- the division is open behind the item
       have hne : z :: t ≠ [] := by simp
       have hsplit : o' = (u ++ x.id :: (z :: t).dropLast) ++ (z :: t).getLast hne :: [] := by
        rw [hv, hv']
        have := List.dropLast_concat_getLast hne
        rw [List.append_assoc, List.cons_append, this]
       have hlast : (z :: t).getLast hne = p.par := by
        rw [← hl, hsplit, lastS_snoc]
       obtain ⟨w, hw, hwi, hwo, _⟩ := hg.anc _ hsd _ _ _ hsplit
       rw [hlast] at hwi
       have hp0 : p.par ≠ [] := by rw [← hwi]; exact proper_id (hg.proper hw)
       have hu : underB l p.par p.id = false := by
        rcases h3 with h3 | h3
        · exact absurd (by simpa using h3) hp0
        · exact h3
       have hun := under_at hg hw (div := p.id) (by rw [← hx]; exact hxne)
       rw [hwi, hu, hwo] at hun
       simp [hx] at hun
/- an item moved with all below it -/
structure Moved (l : List Item) (d : List Row) (p : Patch) (a : List Row) (x : Item) (o : List Str) (r b a' b' : List Row) (o' : List Str) : Prop where
 block : Block d a x o r b
 id : x.id = p.id
 place : PlaceOk ((a ++ b).map (·.1)) (a ++ b) a' b' o' p.par p.aft
 good : Good (moveL l p a.length) (a' ++ ({ x with par := p.par }, o') :: (reroot o o' r ++ b'))
theorem Good.move {l : List Item} {d a r b : List Row} {x : Item} {o : List Str} {p : Patch} (hg : Good l d) (hB : Block d a x o r b) (hx : x.id = p.id) (hm : moveOk l p = true) :
 ∃ a' b' o', Moved l d p a x o r b a' b' o' := by
 have hr := hg.rest hB
 obtain ⟨a', b', o', hP⟩ := hr.place (move_exists hg hB hx hm)
 refine ⟨a', b', o', hB, hx, hP, ?_⟩
 obtain ⟨e1, e2⟩ := rest_items hg hB
 have hbel := hg.below hB
 have hmv : moveL l p a.length = putL ((a ++ b).map (·.1)) ({ x with par := p.par } :: r.map (·.1)) p.par p.aft := by
  unfold moveL
  rw [← hx, hbel, e2]
  simp only []
  rw [e1, hx]
 have hpar := (hg.par_last (y := (x, o)) (by rw [hB.eq]; simp))
 have hchB : Chain o' (({ x with par := p.par }, o') :: reroot o o' r) := by
  refine ⟨List.prefix_refl _, hP.last, hP.nil, ?_⟩
  have h := hB.parts hg.chain
  by_cases hne : r = []
  · subst hne; trivial
  · have hk := hB.kind hg.chain hne
    have hk1 : push o x = o ++ [x.id] := by unfold push; rw [if_pos hk]
    have hk2 : push o' { x with par := p.par } = o' ++ [x.id] := by unfold push; rw [if_pos (show ({ x with par := p.par } : Item).kind = 1 from hk)]
    rw [hk1] at h
    simp only [hk2]
    refine reroot_chain h (fun y hy => ?_)
    obtain ⟨t, ht⟩ := hB.inner y hy
    exact ⟨x.id, t, by rw [← ht]; simp⟩
 have hc := hP.place.put (B := ({ x with par := p.par }, o') :: reroot o o' r) hr.chain (by simp) hchB (by
  intro y hy
  rcases List.mem_cons.1 hy with rfl | hy
  · exact List.prefix_refl _
  · simp only [reroot, List.mem_map] at hy
    obtain ⟨z, _, rfl⟩ := hy
    exact List.prefix_append _ _)
 refine Good.mk' ?_ (by simpa using hc) ?_ ?_ ?_
 · rw [hmv]
   unfold putL
   rw [hP.at_, hP.place.eq]
   unfold ins
   simp [reroot_fst]
 · have hn := hg.nd
   have hn2 : (idsR a' ++ (x.id :: (idsR r ++ idsR b'))).Perm (idsR d) := by
    have h1 : (idsR a' ++ idsR b').Perm (idsR a ++ idsR b) := by
     rw [← idsR_append, ← idsR_append, ← hP.place.eq]
    rw [hB.eq, idsR_append, idsR_cons, idsR_append]
    have h2 : (idsR a' ++ (x.id :: (idsR r ++ idsR b'))).Perm ((x.id :: idsR r) ++ (idsR a' ++ idsR b')) := by
     rw [show x.id :: (idsR r ++ idsR b') = (x.id :: idsR r) ++ idsR b' from rfl, ← List.append_assoc, ← List.append_assoc]
     exact List.Perm.append_right _ List.perm_append_comm
    have h3 : (idsR a ++ (x.id :: (idsR r ++ idsR b))).Perm ((x.id :: idsR r) ++ (idsR a ++ idsR b)) := by
     rw [show x.id :: (idsR r ++ idsR b) = (x.id :: idsR r) ++ idsR b from rfl, ← List.append_assoc, ← List.append_assoc]
     exact List.Perm.append_right _ List.perm_append_comm
    exact h2.trans ((List.Perm.append_left _ h1).trans h3.symm)
   rw [idsR_append, idsR_cons, idsR_append, reroot_ids]
   exact (hn2.nodup_iff).2 hn
 · intro z hz
   have hrest : ∀ z ∈ a' ++ b', properB z.1 = true := by
    intro z hz
    rw [← hP.place.eq] at hz
    exact hr.proper hz
   simp only [List.mem_append, List.mem_cons] at hz
   rcases hz with hz | rfl | hz | hz
   · exact hrest z (by simp [hz])
   · have := hg.proper (y := (x, o)) (by rw [hB.eq]; simp)
     unfold properB at this ⊢
     exact this
   · simp only [reroot, List.mem_map] at hz
     obtain ⟨w, hw, rfl⟩ := hz
     exact hg.proper (y := w) (by rw [hB.eq]; simp [hw])
   · exact hrest z (by simp [hz])
 · have h1 := hg.le
   have h2 := congrArg List.length hP.place.eq
   rw [hg.len, hB.eq] at h1
   simp [reroot] at h1 h2 ⊢
   omega

/- a text that occurs once -/
/- a text swapped, and swapped back -/
theorem patEq_iff {p q : Patch} : patEq p q = true ↔ p = q := by
 unfold patEq
 constructor
 · intro h
   simp only [Bool.and_eq_true, beq_iff_eq] at h
   obtain ⟨pk, pi, pp, pa, pn, ⟨ik, ii, ip, in_, ino, iso, ig⟩, pl, pf, pt⟩ := p
   obtain ⟨qk, qi, qp, qa, qn, ⟨jk, ji, jp, jn, jno, jso, jg⟩, ql, qf, qt⟩ := q
   simp only at h
   obtain ⟨rfl, rfl, rfl, rfl, rfl, rfl, rfl, rfl, rfl, rfl, rfl, rfl, rfl, rfl, rfl⟩ := h
   rfl
 · rintro rfl; simp
theorem walk1 {x : Item} : walkB [x] = true → properB x = true := by
 intro h
 exact (good_of h).pr x (by simp)
theorem formed1 {p : Patch} (hk : p.kind = 1) (h : formedF p = true) : p.item.id = p.id ∧ p.item.par = p.par ∧ properB p.item = true := by
 unfold formedF at h
 rw [if_pos hk] at h
 simp only [Bool.and_eq_true, beq_iff_eq] at h
 exact ⟨h.2.1, h.2.2.1, walk1 (x := { p.item with par := [] }) h.2.2.2⟩
theorem formed2 {p : Patch} (hk : p.kind = 2) (h : formedF p = true) : p = { bare p with lang := p.lang, fr := p.fr, to := p.to } ∧ p.fr ≠ [] ∧ (p.lang = 1 ∨ p.lang = 2) := by
 unfold formedF at h
 rw [if_neg (by omega), if_pos hk] at h
 simp only [Bool.and_eq_true, patEq_iff, Bool.or_eq_true, beq_iff_eq] at h
 refine ⟨h.1, ?_, h.2.2⟩
 intro he
 rw [he] at h
 simp at h
theorem formed3 {p : Patch} (hk : p.kind = 3) (h : formedF p = true) : p = { bare p with num := p.num } ∧ numOk p.num = true := by
 unfold formedF at h
 rw [if_neg (by omega), if_neg (by omega), if_pos hk] at h
 simp only [Bool.and_eq_true, patEq_iff] at h
 refine ⟨h.1, ?_⟩
 have := walk1 h.2
 unfold properB at this
 simp at this
 exact this.1
theorem formed_kind {p : Patch} (h : formedF p = true) : 1 ≤ p.kind ∧ p.kind ≤ 7 := by
 by_cases hk : 1 ≤ p.kind ∧ p.kind ≤ 7
 · exact hk
 · exfalso
   unfold formedF at h
   rw [if_neg (by omega), if_neg (by omega), if_neg (by omega), if_neg (by omega), if_neg (by omega), if_neg (by omega)] at h
   cases h
/- the item that a patch leaves in its place -/
def chgF (p : Patch) (x : Item) : Item :=
 if p.kind = 2 then wordsPut p x (wordsNew p x) else if p.kind = 3 then { x with num := p.num } else if p.kind = 7 then { x with no := p.item.no, so := p.item.so } else { x with gone := p.kind == 5 }
theorem chgF_id (p : Patch) (x : Item) : (chgF p x).id = x.id ∧ (chgF p x).kind = x.kind ∧ (chgF p x).par = x.par := by
 unfold chgF wordsPut
 repeat' split
 all_goals exact ⟨rfl, rfl, rfl⟩
structure Ins (l d : List Item) (R : List Row) (p : Patch) (a b : List Row) (o : List Str) : Prop where
 kind : p.kind = 1
 new : ∀ x ∈ l, x.id ≠ p.id
 id : p.item.id = p.id
 par : p.item.par = p.par
 place : PlaceOk l R a b o p.par p.aft
 good : Good d (a ++ (p.item, o) :: b)
structure Chg (l d : List Item) (R : List Row) (p : Patch) (a c : List Row) (x : Item) (o : List Str) : Prop where
 kind : p.kind ≠ 1 ∧ p.kind ≠ 4
 eq : R = a ++ (x, o) :: c
 id : x.id = p.id
 it : d = l.set a.length (chgF p x)
 good : Good d (a ++ (chgF p x, o) :: c)
 state : (p.kind = 6 → x.gone = true) ∧ (p.kind ≠ 6 → x.gone = false)
 art : p.kind ≠ 3 → x.kind = 2
 words : p.kind = 2 → onceIs (wordsText p x) p.fr = true
structure Mov (l d : List Item) (R : List Row) (p : Patch) (a : List Row) (x : Item) (o : List Str) (r b a' b' : List Row) (o' : List Str) : Prop where
 kind : p.kind = 4
 ok : moveOk l p = true
 it : d = moveL l p a.length
 mv : Moved l R p a x o r b a' b' o'
 state : x.gone = false
def Done (l d : List Item) (p : Patch) : Prop :=
 ∃ R, Good l R ∧ formedF p = true ∧ ((∃ a b o, Ins l d R p a b o) ∨ (∃ a c x o, Chg l d R p a c x o) ∨ (∃ a x o r b a' b' o', Mov l d R p a x o r b a' b' o'))
theorem proper2 {x : Item} (hk : x.kind = 2) : properB x = true ↔ numOk x.num = true ∧ isNameB x.id = true ∧ x.no.length ≤ 400 ∧ x.so.length ≤ 400 := by
 unfold properB
 rw [if_neg (by omega), if_pos hk]
 simp only [Bool.and_eq_true, decide_eq_true_eq]
 constructor
 · rintro ⟨⟨⟨h1, h2⟩, h3⟩, h4⟩; exact ⟨h1, h2, by omega, by omega⟩
 · rintro ⟨h1, h2, h3, h4⟩; exact ⟨⟨⟨h1, h2⟩, by omega⟩, by omega⟩
theorem Good.put {l : List Item} {R : List Row} {p : Patch} (hg : Good l R) {i : Int} (h0 : ¬ 0 ≤ i) (hi : i = findI l p.id) (he : existsF l p.par p.aft = true) (hle : ¬ 2000 ≤ l.length) (hk : p.kind = 1) (hf : formedF p = true) :
 ∃ a b o, Ins l (putL l [p.item] p.par p.aft) R p a b o := by
 subst hi
 obtain ⟨h1, h2, h3⟩ := formed1 hk hf
 obtain ⟨a, b, o, hP⟩ := hg.place he
 have hnew : ∀ x ∈ l, x.id ≠ p.id := by
  rcases hg.look p.id with ⟨_, _, h⟩ | ⟨a, x, o, r, b, _, _, h, _⟩
  · exact h
  · rw [h] at h0; omega
 refine ⟨a, b, o, hk, hnew, h1, h2, hP, ?_⟩
 have e : putL l [p.item] p.par p.aft = ins l [p.item] a.length := by unfold putL; rw [hP.at_]; rfl
 rw [e]
 refine hg.insert hP.place h3 ?_ (by rw [h2]; exact hP.last) (by rw [h2]; exact hP.nil) (by omega)
 intro hm
 simp only [idsR, List.mem_map] at hm
 obtain ⟨y, hy, hyi⟩ := hm
 exact hnew _ (hg.mem hy) (by rw [hyi, h1])
theorem apply_done {l : List Item} {p : Patch} (h : (applyF l p).2 = 0) : Done l (applyF l p).1 p := by
 unfold applyF at h ⊢
 split at h
 · simp at h
 rename_i hv
 rw [if_neg hv]
 simp only [not_or, Bool.not_eq_false] at hv
 have hg := good_of hv.1
 generalize walkL l = R at hg
 refine ⟨R, hg, hv.2, ?_⟩
 have hkk := formed_kind hv.2
 split at h
 · rename_i hk
   rw [if_pos hk]
   left
   unfold insertF at h ⊢
   split at h
   · simp at h
   rename_i h1
   rw [if_neg h1]
   split at h
   · simp at h
   rename_i h2
   rw [if_neg h2]
   split at h
   · simp at h
   rename_i h3
   rw [if_neg h3]
   exact hg.put h1 rfl (by simpa using h2) h3 hk hv.2
 rename_i hk1
 rw [if_neg hk1]
 split at h
 · simp at h
 rename_i hk2
 rw [if_neg hk2]
 split at h
 · simp at h
 rename_i hk3
 rw [if_neg hk3]
 split at h
 · simp at h
 rename_i hk4
 rw [if_neg hk4]
 rcases hg.look p.id with ⟨_, h2, _⟩ | ⟨a, x, o, r, b, hx, hB, hf, hi, hbl⟩
 · rw [h2] at hk2; simp [noItem] at hk2
 rw [hi] at h hk2 hk3 hk4 ⊢
 rw [hf, Int.toNat_natCast] at h ⊢
 have hxm : (x, o) ∈ R := by rw [hB.eq]; simp
 have hpx := hg.proper hxm
 have hxk := proper_kind hpx
 have hst : (p.kind = 6 → x.gone = true) ∧ (p.kind ≠ 6 → x.gone = false) := by
  constructor
  · intro h6; cases hg' : x.gone with
    | true => rfl
    | false => exact absurd ⟨h6, hg'⟩ hk3
  · intro h6; cases hg' : x.gone with
    | true => exact absurd ⟨h6, hg'⟩ hk4
    | false => rfl
 have hart : p.kind ≠ 3 → p.kind ≠ 4 → x.kind = 2 := by
  intro h3 h4
  rcases hxk with h5 | h5
  · exact absurd (.inr ⟨h5, h3, h4⟩) hk2
  · exact h5
 by_cases h4 : p.kind = 4
 · rw [if_neg (by omega), if_neg (by omega), if_pos h4] at h ⊢
   right; right
   unfold moveF at h ⊢
   split at h
   · rename_i hm
     rw [if_pos hm]
     obtain ⟨a', b', o', hM⟩ := hg.move hB hx hm
     exact ⟨a, x, o, r, b, a', b', o', h4, hm, rfl, hM, hst.2 (by omega)⟩
   · simp at h
 · right; left
   have key2 : ∀ y, y = chgF p x → properB y = true → (p.kind = 2 → onceIs (wordsText p x) p.fr = true) → ∃ a' c x' o', Chg l (l.set a.length y) R p a' c x' o' := by
    intro y hy hpy hw
    subst hy
    obtain ⟨c1, c2, c3⟩ := chgF_id p x
    exact ⟨a, r ++ b, x, o, ⟨hk1, h4⟩, hB.eq, hx, rfl, hg.set hB.eq hpy c1 c2 c3, hst, fun h3 => hart h3 h4, hw⟩
   by_cases h2 : p.kind = 2
   · rw [if_pos h2] at h ⊢
     unfold wordsF at h ⊢
     split at h
     · simp at h
     rename_i ho
     rw [if_neg ho]
     split at h
     · simp at h
     rename_i hl
     rw [if_neg hl]
     refine key2 _ (by unfold chgF; rw [if_pos h2]) ?_ (fun _ => by simpa using ho)
     have hx2 := hart (by omega) h4
     have hp2 := (proper2 hx2).1 hpx
     unfold wordsPut
     split
     · exact (proper2 (x := { x with no := wordsNew p x }) hx2).2 ⟨hp2.1, hp2.2.1, by simp only; omega, hp2.2.2.2⟩
     · exact (proper2 (x := { x with so := wordsNew p x }) hx2).2 ⟨hp2.1, hp2.2.1, hp2.2.2.1, by simp only; omega⟩
   rw [if_neg h2] at h ⊢
   by_cases h3 : p.kind = 3
   · rw [if_pos h3] at h ⊢
     refine key2 _ (by unfold chgF; rw [if_neg h2, if_pos h3]) ?_ (fun h => absurd h h2)
     have hn := (formed3 h3 hv.2).2
     unfold properB at hpx ⊢
     simp only [Bool.and_eq_true] at hpx ⊢
     split at hpx
     · rename_i hk; rw [if_pos (by exact hk)]; simp at hpx ⊢; exact ⟨⟨⟨⟨hn, hpx.1.1.1.2⟩, hpx.1.1.2⟩, hpx.1.2⟩, hpx.2⟩
     · rename_i hk
       rw [if_neg (by exact hk)]
       split at hpx
       · rename_i hk'; rw [if_pos (by exact hk')]; simp at hpx ⊢; exact ⟨⟨⟨hn, hpx.1.1.2⟩, hpx.1.2⟩, hpx.2⟩
       · cases hpx
   rw [if_neg h3, if_neg h4] at h ⊢
   have hx2 := hart h3 h4
   have hp2 := (proper2 hx2).1 hpx
   by_cases h7 : p.kind = 7
   · rw [if_pos h7] at h ⊢
     unfold replaceF at h ⊢
     split at h
     · simp at h
     rename_i hl
     rw [if_neg hl]
     refine key2 _ (by unfold chgF; rw [if_neg h2, if_neg h3, if_pos h7]) ?_ (fun h => absurd h h2)
     exact (proper2 (x := { x with no := p.item.no, so := p.item.so }) hx2).2 ⟨hp2.1, hp2.2.1, by simp only; omega, by simp only; omega⟩
   · rw [if_neg h7] at h ⊢
     refine key2 _ (by unfold chgF; rw [if_neg h2, if_neg h3, if_neg h7]) ?_ (fun h => absurd h h2)
     exact (proper2 (x := { x with gone := p.kind == 5 }) hx2).2 hp2
theorem Good.find_at {l : List Item} {R : List Row} (hg : Good l R) {x : Item} (hx : x ∈ l) : ∃ k : Nat, findI l x.id = k ∧ l[k]? = some x := by
 obtain ⟨a, o, c, he⟩ := hg.split hx
 refine ⟨a.length, (hg.find he).1, ?_⟩
 rw [hg.items he]
 simp
theorem Good.look_row {l : List Item} {R a c : List Row} {x : Item} {o : List Str} (hg : Good l R) (he : R = a ++ (x, o) :: c) : findI l x.id = a.length ∧ itemF l x.id = x ∧ l[a.length]? = some x := by
 refine ⟨(hg.find he).1, (hg.find he).2, ?_⟩
 rw [hg.items he]
 simp
/- a block is told by its ends -/
theorem split_uniq {α : Type} {P : α → Prop} {r b r2 b2 : List α} (h : r ++ b = r2 ++ b2) (h1 : ∀ y ∈ r, P y) (h2 : ∀ y ∈ b, ¬ P y) (h3 : ∀ y ∈ r2, P y) (h4 : ∀ y ∈ b2, ¬ P y) : r = r2 ∧ b = b2 := by
 induction r generalizing r2 with
 | nil =>
   cases r2 with
   | nil => exact ⟨rfl, by simpa using h⟩
   | cons z t =>
     simp at h
     subst h
     exact absurd (h3 z (by simp)) (h2 z (by simp))
 | cons y r ih =>
   cases r2 with
   | nil =>
     simp at h
     subst h
     exact absurd (h1 y (by simp)) (h4 y (by simp))
   | cons z t =>
     simp at h
     obtain ⟨rfl, h⟩ := h
     obtain ⟨e1, e2⟩ := ih h (fun w hw => h1 w (by simp [hw])) (fun w hw => h3 w (by simp [hw]))
     exact ⟨by rw [e1], e2⟩
theorem Moved.block' {l : List Item} {R : List Row} {p : Patch} {a : List Row} {x : Item} {o : List Str} {r b a' b' : List Row} {o' : List Str} (h : Moved l R p a x o r b a' b' o') :
 Block (a' ++ ({ x with par := p.par }, o') :: (reroot o o' r ++ b')) a' { x with par := p.par } o' (reroot o o' r) b' := by
 obtain ⟨r2, b2, he, hB⟩ := block_of h.good.chain h.good.nd rfl
 have hb : ∀ y ∈ b', ¬ x.id ∈ y.2 := by
  intro y hy
  have : y ∈ a ++ b := by rw [h.place.place.eq]; simp [hy]
  rcases List.mem_append.1 this with hm | hm
  · exact h.block.before y hm
  · exact h.block.after y hm
 have hr : ∀ y ∈ reroot o o' r, x.id ∈ y.2 := by
  intro y hy
  simp only [reroot, List.mem_map] at hy
  obtain ⟨z, hz, rfl⟩ := hy
  obtain ⟨t, ht⟩ := h.block.inner z hz
  simp only
  rw [← ht]
  simp
 obtain ⟨e1, e2⟩ := split_uniq (P := fun y : Row => x.id ∈ y.2) he hr hb (fun y hy => hB.mem y hy) hB.after
 rw [e1, e2] at hB ⊢
 exact hB
theorem moveL_eq {l : List Item} {R : List Row} {a r b : List Row} {x : Item} {o : List Str} {p : Patch} (hg : Good l R) (hB : Block R a x o r b) (hx : x.id = p.id) :
 moveL l p a.length = putL ((a ++ b).map (·.1)) ({ x with par := p.par } :: r.map (·.1)) p.par p.aft := by
 obtain ⟨e1, e2⟩ := rest_items hg hB
 unfold moveL
 rw [← hx, hg.below hB, e2]
 simp only []
 rw [e1, hx]
theorem apply_mov {l : List Item} {R a r b : List Row} {x : Item} {o : List Str} {p : Patch} (hg : Good l R) (hB : Block R a x o r b) (hx : x.id = p.id) (hf : formedF p = true) (h4 : p.kind = 4)
 (hst : x.gone = false) (hm : moveOk l p = true) : applyF l p = (moveL l p a.length, 0) := by
 obtain ⟨e1, e2, _⟩ := hg.look_row hB.eq
 have hpx := hg.proper (y := (x, o)) (by rw [hB.eq]; simp)
 have hxk : x.kind = 1 ∨ x.kind = 2 := proper_kind hpx
 unfold applyF
 rw [if_neg (by rw [hg.wB, hf]; simp), if_neg (by omega), ← hx, e1, e2, Int.toNat_natCast]
 rw [if_neg (by omega), if_neg (by omega), if_neg (by rw [hst]; simp), if_neg (by omega), if_neg (by omega), if_pos h4]
 unfold moveF
 rw [if_pos hm]
theorem lastSib_cases (l : List Item) (par : Str) : (lastSib l par = [] ∧ ∀ y ∈ l, y.par ≠ par) ∨ ∃ u y v, l = u ++ y :: v ∧ y.par = par ∧ (∀ z ∈ v, z.par ≠ par) ∧ lastSib l par = y.id := by
 induction l with
 | nil => exact .inl ⟨rfl, by simp⟩
 | cons x r ih =>
   rcases ih with ⟨h1, h2⟩ | ⟨u, y, v, rfl, h1, h2, h3⟩
   · by_cases hx : x.par = par
     · exact .inr ⟨[], x, r, rfl, hx, h2, lastSib_at (u := []) hx h2⟩
     · refine .inl ⟨lastSib_none ?_, ?_⟩ <;>
       · intro y hy
         rcases List.mem_cons.1 hy with rfl | hy
         · exact hx
         · exact h2 y hy
   · exact .inr ⟨x :: u, y, v, rfl, h1, h2, lastSib_at (u := x :: u) h1 h2⟩
theorem stk_not {s : List Str} {t : List Row} {z : Str} (h : Chain s t) (hz : z ∉ s) (hi : z ∉ idsR t) : z ∉ stk s t :=
 fun hm => (stk_sub h hm).elim hz hi
theorem last_split {o : List Str} (h : o ≠ []) : ∃ u, o = u ++ [lastS o] := by
 refine ⟨o.dropLast, ?_⟩
 unfold lastS
 rw [List.getLast?_eq_some_getLast h]
 exact (List.dropLast_concat_getLast h).symm
theorem pre_of {o' o : List Str} (h : o' <+: o) : o' = o ∨ ∃ u z, o = u ++ [z] ∧ o' <+: u := by
 by_cases ho : o = []
 · subst ho; left; exact List.prefix_nil.1 h
 · obtain ⟨u, hu⟩ := last_split ho
   rw [hu] at h
   rcases List.prefix_concat_iff.1 h with h | h
   · left; rw [h]; exact hu.symm
   · exact .inr ⟨u, _, hu, h⟩
/- where an item stands that was moved away: behind the last one of its parent's before it -/
theorem Good.sib {l : List Item} {R a b : List Row} {o : List Str} {par : Str} (hg : Good l R) (hR : R = a ++ b) (hpre : o <+: stk [] a) (hnext : ∀ y ∈ b.head?, y.2 <+: o) (hlast : lastS o = par) (hnil : par = [] → o = []) :
 existsF l par (lastSib (a.map (·.1)) par) = true ∧ putAt l par (lastSib (a.map (·.1)) par) = a.length := by
 have hc := hg.chain
 have hn := hg.nd
 have hcR := hc
 rw [hR, chain_append] at hc
 have hna : (idsR a).Nodup := by rw [hR, idsR_append, List.nodup_append] at hn; exact hn.1
 have hancS : Anc (stk [] a) R := (anc_chain (s := []) (by intro u z v h; simp at h) hc.1 (fun y hy => by rw [hR]; simp [hy])).2
 have hstk_nd : (stk [] a).Nodup := stk_nodup hc.1 List.nodup_nil (by simp) hna
 have hond : o.Nodup := hpre.sublist.nodup hstk_nd
 -- the division
 have hq : par = [] ∨ ∃ q ∈ R, q.1.id = par ∧ o = q.2 ++ [par] ∧ q.1.kind = 1 := by
  by_cases h0 : par = []
  · exact .inl h0
  · right
    have hne : o ≠ [] := by rintro rfl; exact h0 (by rw [← hlast]; rfl)
    obtain ⟨u, hu⟩ := last_split hne
    rw [hlast] at hu
    obtain ⟨t, ht⟩ := hpre
    obtain ⟨w, hw, h1, h2, h3⟩ := hancS u par t (by rw [← ht, hu]; simp)
    exact ⟨w, hw, h1, by rw [h2]; exact hu, h3⟩
 have hparin : par ≠ [] → par ∈ o := fun h => by
  rcases hq with h' | ⟨q, _, _, he, _⟩
  · exact absurd h' h
  · rw [he]; simp
 have hpe : par = [] ∨ ∃ q ∈ l, q.id = par ∧ q.kind = 1 := by
  rcases hq with h | ⟨q, hq, h1, _, h2⟩
  · exact .inl h
  · exact .inr ⟨q.1, hg.mem hq, h1, h2⟩
 -- who is popped does not come back
 have hpop : ∀ a0 h a1, a = a0 ++ h :: a1 → h.2 <+: o → h.1.par ≠ par → (par = [] ∨ par ∈ idsR a0) → False := by
  intro a0 h a1 ha hh hnp hin
  have hd' : R = a0 ++ (h.1, h.2) :: (a1 ++ b) := by rw [hR, ha]; simp
  have hhR : h ∈ R := by rw [hd']; simp
  have hcm := hcR
  rw [hd'] at hcm
  rcases pre_of hh with he | ⟨u, z, hu, hhu⟩
  · exact hnp (by rw [← (hg.par_last hhR).1, he, hlast])
  · have hz : z = par := by rw [← hlast, hu, lastS_snoc]
    subst hz
    have hz0 : z ≠ [] := by
     intro h0
     have := hnil h0
     rw [hu] at this
     simp at this
    have hzin := hin.resolve_left hz0
    have hzn : z ∉ h.2 := fun hm => by
     rw [hu, List.nodup_append] at hond
     exact hond.2.2 z (pre_sub hhu hm) z (by simp) rfl
    have hn2 := hn
    rw [hd'] at hn2
    obtain ⟨n1, n2, n3, n4, n5⟩ := nodup_parts hn2
    have hzh : z ≠ h.1.id := fun he => n1 (by rw [← he]; exact hzin)
    have hz1 : z ∉ idsR a1 := fun hm => n5 z hzin (by rw [idsR_append]; simp [hm])
    have hzp : z ∉ push h.2 h.1 := fun hm => (mem_push hm).elim hzn hzh
    have hc4 := (chain_mid hcm).2.2.2
    have := stk_not (chain_append.1 hc4).1 hzp hz1
    apply this
    have e : stk [] a = stk (push h.2 h.1) a1 := by rw [ha, stk_append]; rfl
    rw [← e]
    exact pre_sub hpre (by rw [hu]; simp)
 rcases lastSib_cases (a.map (·.1)) par with ⟨h1, h2⟩ | ⟨u, y, v, he, h1, h2, h3⟩
 · rw [h1]
   refine ⟨(exists_iff hg _ _).2 ⟨hpe, .inl rfl⟩, ?_⟩
   have hno : ∀ y ∈ a, y.1.par ≠ par := fun y hy => h2 _ (List.mem_map_of_mem hy)
   by_cases h0 : par = []
   · subst h0
     have ho := hnil rfl
     cases a with
     | nil => rfl
     | cons h t =>
       exfalso
       have := hc.1.1
       exact hpop [] h t rfl (by rw [ho]; exact this) (hno h (by simp)) (.inl rfl)
   · obtain ⟨q, hqR, hqi, hqo, hqk⟩ := hq.resolve_left h0
     obtain ⟨q1, q2⟩ := q
     simp only at hqi hqo hqk
     -- the division stands in a
     have hqa : par ∈ idsR a := chain_sub0 hc.1 (pre_sub hpre (hparin h0))
     simp only [idsR, List.mem_map] at hqa
     obtain ⟨q', hq'a, hq'i⟩ := hqa
     have hqq : q' = (q1, q2) := hg.uniq (by rw [hR]; simp [hq'a]) hqR (by rw [hq'i, hqi])
     subst hqq
     obtain ⟨a0, a1, ha⟩ := List.append_of_mem hq'a
     have ha1 : a1 = [] := by
      cases a1 with
      | nil => rfl
      | cons h t =>
        exfalso
        have hcm := hcR
        rw [hR, ha, List.append_assoc] at hcm
        have h4 := (chain_mid (a := a0) (x := q1) (o := q2) (c := h :: t ++ b) (by simpa using hcm)).2.2.2
        have hpu : push q2 q1 = o := by unfold push; rw [if_pos hqk, hqi, hqo]
        rw [hpu] at h4
        refine hpop (a0 ++ [(q1, q2)]) h t (by rw [ha]; simp) h4.1 (hno h (by rw [ha]; simp)) (.inr ?_)
        rw [idsR_append]; simp [idsR, hqi]
     subst ha1
     have hpe' : par.isEmpty = false := by cases hp : par with | nil => exact absurd hp h0 | cons _ _ => rfl
     have hf := (hg.find (a := a0) (x := q1) (o := q2) (c := b) (by rw [hR, ha]; simp)).1
     rw [hqi] at hf
     unfold putAt
     simp [hpe', hf, ha]
 · rw [h3]
   obtain ⟨a0, w, a1, ha, rfl, hy, rfl⟩ : ∃ a0 w a1, a = a0 ++ w :: a1 ∧ a0.map (·.1) = u ∧ w.1 = y ∧ a1.map (·.1) = v := by
    obtain ⟨a0, a2, ha, e1, e2⟩ := List.map_eq_append_iff.1 he
    obtain ⟨w, a1, ha2, e3, e4⟩ := List.map_eq_cons_iff.1 e2
    exact ⟨a0, w, a1, by rw [ha, ha2], e1, e3, e4⟩
   obtain ⟨y', oy⟩ := w
   simp only at hy
   subst hy
   have hyR : (y', oy) ∈ R := by rw [hR, ha]; simp
   have hd' : R = a0 ++ (y', oy) :: (a1 ++ b) := by rw [hR, ha]; simp
   refine ⟨(exists_iff hg _ _).2 ⟨hpe, .inr ⟨y', hg.mem hyR, rfl, h1⟩⟩, ?_⟩
   have hno : ∀ z ∈ a1, z.1.par ≠ par := fun z hz => h2 _ (List.mem_map_of_mem hz)
   -- both have the same division
   have hoy : oy = o := by
    have hl := hg.par_last hyR
    simp only at hl
    rw [h1] at hl
    by_cases h0 : par = []
    · rw [hl.2 h0, hnil h0]
    · obtain ⟨q, hqR, hqi, hqo, hqk⟩ := hq.resolve_left h0
      have hne : oy ≠ [] := by rintro rfl; exact h0 (by rw [← hl.1]; rfl)
      obtain ⟨u, hu⟩ := last_split hne
      rw [hl.1] at hu
      obtain ⟨w, hw, w1, w2, w3⟩ := hg.anc _ hyR u par [] (by simpa using hu)
      have : w = q := hg.uniq hw hqR (by rw [w1, hqi])
      subst this
      rw [hu, hqo, w2]
   subst hoy
   obtain ⟨r2, b2, hs, hB⟩ := block_of hg.chain hg.nd hd'
   have hn2 := hn
   rw [hd'] at hn2
   obtain ⟨n1, n2, n3, n4, n5⟩ := nodup_parts hn2
   have hb : ∀ z ∈ b, y'.id ∉ z.2 := by
    refine not_open (s := oy) (chain_head hc.2 hnext) hB.self ?_
    intro hm; exact n2 (by rw [idsR_append]; simp [hm])
   have hra : ∀ z ∈ a1, y'.id ∈ z.2 := by
    rcases List.append_eq_append_iff.1 hs with ⟨t, e1, e2⟩ | ⟨t, e1, e2⟩
    · -- the block reaches over a1
      intro z hz
      exact hB.mem z (by rw [e1]; simp [hz])
    · cases t with
      | nil => intro z hz; exact hB.mem z (by simpa using (show z ∈ r2 ++ [] from e1 ▸ hz))
      | cons h t =>
        exfalso
        have hh : h.2 <+: oy := hB.next h (by rw [e2]; simp)
        refine hpop (a0 ++ (y', oy) :: r2) h t (by rw [ha, e1]; simp) hh (hno h (by rw [e1]; simp)) ?_
        by_cases h0 : par = []
        · exact .inl h0
        · right
          have hcm := hcR
          rw [hd'] at hcm
          have := chain_sub0 (chain_append.1 hcm).1 (pre_sub (chain_mid hcm).1 (hparin h0))
          rw [idsR_append]; simp [this]
   obtain ⟨e1, e2⟩ := split_uniq (P := fun z : Row => y'.id ∈ z.2) hs hra hb (fun z hz => hB.mem z hz) hB.after
   subst e1 e2
   have hf := (hg.find hd').1
   have hbl := hg.below hB
   have hne0 : y'.id ≠ [] := proper_id (hg.proper hyR)
   have hpe' : y'.id.isEmpty = false := by cases hp : y'.id with | nil => exact absurd hp hne0 | cons _ _ => rfl
   unfold putAt
   simp [hpe', hf, hbl, ha, idsR]
   omega
theorem Ins.it {l d : List Item} {R : List Row} {p : Patch} {a b : List Row} {o : List Str} (h : Ins l d R p a b o) : d = a.map (·.1) ++ p.item :: b.map (·.1) := by
 rw [← h.good.fst, map_mid]
theorem Ins.was {l d : List Item} {R : List Row} {p : Patch} {a b : List Row} {o : List Str} (h : Ins l d R p a b o) (hg : Good l R) : l = a.map (·.1) ++ b.map (·.1) := by
 rw [← hg.fst, h.place.place.eq]; simp
theorem Chg.was {l d : List Item} {R : List Row} {p : Patch} {a c : List Row} {x : Item} {o : List Str} (h : Chg l d R p a c x o) (hg : Good l R) : l = a.map (·.1) ++ x :: c.map (·.1) := hg.items h.eq
theorem Chg.now {l d : List Item} {R : List Row} {p : Patch} {a c : List Row} {x : Item} {o : List Str} (h : Chg l d R p a c x o) : d = a.map (·.1) ++ chgF p x :: c.map (·.1) := by
 rw [← h.good.fst, map_mid]
theorem Mov.good {l d : List Item} {R : List Row} {p : Patch} {a : List Row} {x : Item} {o : List Str} {r b a' b' : List Row} {o' : List Str} (h : Mov l d R p a x o r b a' b' o') :
 Good d (a' ++ ({ x with par := p.par }, o') :: (reroot o o' r ++ b')) := by rw [h.it]; exact h.mv.good
theorem Mov.was {l d : List Item} {R : List Row} {p : Patch} {a : List Row} {x : Item} {o : List Str} {r b a' b' : List Row} {o' : List Str} (h : Mov l d R p a x o r b a' b' o') (hg : Good l R) :
 l = a.map (·.1) ++ x :: (r.map (·.1) ++ b.map (·.1)) := by rw [← hg.fst, h.mv.block.eq]; simp
theorem Mov.now {l d : List Item} {R : List Row} {p : Patch} {a : List Row} {x : Item} {o : List Str} {r b a' b' : List Row} {o' : List Str} (h : Mov l d R p a x o r b a' b' o') :
 d = a'.map (·.1) ++ { x with par := p.par } :: (r.map (·.1) ++ b'.map (·.1)) := by rw [← h.good.fst]; simp [reroot_fst]
theorem Mov.rest {l d : List Item} {R : List Row} {p : Patch} {a : List Row} {x : Item} {o : List Str} {r b a' b' : List Row} {o' : List Str} (h : Mov l d R p a x o r b a' b' o') : a.map (·.1) ++ b.map (·.1) = a'.map (·.1) ++ b'.map (·.1) := by
 rw [← List.map_append, ← List.map_append, h.mv.place.place.eq]
theorem find_lt {u v w : List Item} {x y : Item} (hn : ((u ++ x :: v ++ y :: w).map (·.id)).Nodup) : findI (u ++ x :: v ++ y :: w) x.id < findI (u ++ x :: v ++ y :: w) y.id := by
 have hn' := hn
 simp only [List.map_append, List.map_cons, List.nodup_append] at hn'
 have h1 : findI (u ++ x :: v ++ y :: w) x.id = u.length := by
  rw [List.append_assoc]
  exact (find_mid (u := u) (v := v ++ y :: w) (x := x) (fun z hz he => hn'.1.2.2 z.id (List.mem_map_of_mem hz) x.id (by simp) he)).1
 have h2 : findI (u ++ x :: v ++ y :: w) y.id = ((u ++ x :: v).length : Nat) := by
  refine (find_mid (u := u ++ x :: v) (v := w) (x := y) (fun z hz he => hn'.2.2 z.id ?_ y.id (by simp) he)).1
  have := List.mem_map_of_mem (f := fun x : Item => x.id) hz
  simpa using this
 rw [h1, h2]
 simp
 omega
theorem Good.ids_nodup {l : List Item} {R : List Row} (hg : Good l R) : (l.map (·.id)).Nodup := by
 have := hg.nd
 rw [← hg.fst]
 simpa [idsR, Function.comp_def] using this
theorem two_split {l : List Item} {i : Nat} {x y : Item} (hx : l[i]? = some x) (hy : l[i + 1]? = some y) : ∃ u w, l = u ++ x :: y :: w ∧ u.length = i := by
 obtain ⟨h1, rfl⟩ := List.getElem?_eq_some_iff.1 hx
 obtain ⟨h2, rfl⟩ := List.getElem?_eq_some_iff.1 hy
 refine ⟨l.take i, l.drop (i + 1 + 1), ?_, by simp; omega⟩
 rw [← List.drop_eq_getElem_cons h2, ← List.drop_eq_getElem_cons h1, List.take_append_drop]
/- the items of the code before: where they are, what they are -/
structure Kept (l d : List Item) (p : Patch) : Prop where
 good : walkB d = true
 find : ∀ x ∈ l, ∃ (k : Nat) (y : Item), findI d x.id = k ∧ d[k]? = some y ∧ (x.id ≠ p.id → y = x) ∧ y.kind = x.kind ∧ y.id = x.id
 order : p.kind ≠ 4 → ∀ (i : Nat) x y, l[i]? = some x → l[i + 1]? = some y → findI d x.id < findI d y.id
 one : p.kind = 1 → 0 ≤ findI d p.id ∧ findI l p.id < 0
 len : d.length = l.length + if p.kind = 1 then 1 else 0
theorem Good.kept_of {d : List Item} {R : List Row} (hg : Good d R) {x y : Item} (hy : y ∈ d) (hi : y.id = x.id) {p : Patch} (h1 : x.id ≠ p.id → y = x) (h2 : y.kind = x.kind) :
 ∃ (k : Nat) (y : Item), findI d x.id = k ∧ d[k]? = some y ∧ (x.id ≠ p.id → y = x) ∧ y.kind = x.kind ∧ y.id = x.id := by
 obtain ⟨k, e1, e2⟩ := hg.find_at hy
 exact ⟨k, y, by rw [← hi]; exact e1, e2, h1, h2, hi⟩
theorem kept_law {l : List Item} {p : Patch} (h : (applyF l p).2 = 0) : Kept l (applyF l p).1 p := by
 obtain ⟨R, hg, hf, hD⟩ := apply_done h
 generalize (applyF l p).1 = d at hD
 rcases hD with ⟨a, b, o, hI⟩ | ⟨a, c, x, o, hC⟩ | ⟨a, x, o, r, b, a', b', o', hM⟩
 · have hw := hI.was hg
   have hn := hI.it
   refine ⟨hI.good.wB, fun x hx => ?_, fun _ i x y hx hy => ?_, fun _ => ⟨?_, ?_⟩, ?_⟩
   · refine hI.good.kept_of (y := x) ?_ rfl (fun _ => rfl) rfl
     rw [hw] at hx
     rw [hn]
     rcases List.mem_append.1 hx with hx | hx <;> simp [hx]
   · obtain ⟨u, w, hl, _⟩ := two_split hx hy
     have hnd := hI.good.ids_nodup
     -- both stand in one part, or the item stands between them
     rw [hw] at hl
     rcases List.append_eq_append_iff.1 hl with ⟨t, e1, e2⟩ | ⟨t, e1, e2⟩
     · rw [hn, e2]
       rw [hn, e2] at hnd
       have e : a.map (·.1) ++ p.item :: (t ++ x :: y :: w) = (a.map (·.1) ++ p.item :: t) ++ x :: [] ++ y :: w := by simp
       rw [e] at hnd ⊢
       exact find_lt hnd
     · cases t with
       | nil =>
         simp at e1 e2
         rw [hn, ← e2, e1]
         rw [hn, ← e2, e1] at hnd
         have e : u ++ p.item :: x :: y :: w = (u ++ [p.item]) ++ x :: [] ++ y :: w := by simp
         rw [e] at hnd ⊢
         exact find_lt hnd
       | cons z t =>
         simp at e2
         obtain ⟨rfl, e2⟩ := e2
         cases t with
         | nil =>
           simp at e2
           rw [hn, e1, ← e2]
           rw [hn, e1, ← e2] at hnd
           have e : u ++ [x] ++ p.item :: y :: w = u ++ x :: [p.item] ++ y :: w := by simp
           rw [e] at hnd ⊢
           exact find_lt hnd
         | cons z t =>
           simp at e2
           obtain ⟨rfl, e2⟩ := e2
           rw [hn, e1]
           rw [hn, e1] at hnd
           have e : u ++ x :: y :: t ++ p.item :: b.map (·.1) = u ++ x :: [] ++ y :: (t ++ p.item :: b.map (·.1)) := by simp
           rw [e] at hnd ⊢
           exact find_lt hnd
   · have := (hI.good.find rfl).1
     rw [hI.id] at this
     rw [this]; omega
   · rw [(find_none hI.new).1]; omega
   · rw [if_pos hI.kind, hn, hw]; simp; omega
 · have hw := hC.was hg
   have hn := hC.now
   obtain ⟨c1, c2, c3⟩ := chgF_id p x
   have hids : d.map (·.id) = l.map (·.id) := by rw [hn, hw]; simp [c1]
   refine ⟨hC.good.wB, fun z hz => ?_, fun _ i z y hz hy => ?_, fun h1 => absurd h1 hC.kind.1, ?_⟩
   · rw [hw] at hz
     rcases List.mem_append.1 hz with hz | hz
     · exact hC.good.kept_of (y := z) (by rw [hn]; simp [hz]) rfl (fun _ => rfl) rfl
     · rcases List.mem_cons.1 hz with rfl | hz
       · exact hC.good.kept_of (y := chgF p z) (by rw [hn]; simp) c1 (fun hne => absurd hC.id hne) c2
       · exact hC.good.kept_of (y := z) (by rw [hn]; simp [hz]) rfl (fun _ => rfl) rfl
   · have hnd := hg.ids_nodup
     obtain ⟨u, w, hl, _⟩ := two_split hz hy
     have hfi : ∀ s, findI d s = findI l s := by
      intro s
      unfold findI
      have : ∀ (l d : List Item), d.map (·.id) = l.map (·.id) → d.findIdx? (fun x => x.id == s) = l.findIdx? (fun x => x.id == s) := by
       intro l
       induction l with
       | nil => intro d h; simp at h; rw [h]
       | cons x r ih =>
         intro d h
         cases d with
         | nil => simp at h
         | cons y t =>
           simp at h
           rw [List.findIdx?_cons, List.findIdx?_cons, h.1, ih t h.2]
      rw [this l d hids]
     rw [hfi, hfi, hl]
     rw [hl] at hnd
     have e : u ++ z :: y :: w = u ++ z :: [] ++ y :: w := by simp
     rw [e] at hnd ⊢
     exact find_lt hnd
   · rw [if_neg hC.kind.1]
     have := congrArg List.length hids
     simpa using this
 · have hw := hM.was hg
   have hn := hM.now
   have hrest := hM.rest
   refine ⟨hM.good.wB, fun z hz => ?_, fun h4 => absurd hM.kind h4, fun h1 => absurd h1 (by rw [hM.kind]; decide), ?_⟩
   · rw [hw] at hz
     have hin : z = x ∨ z ∈ d := by
      have hab : z ∈ a.map (·.1) ++ b.map (·.1) → z ∈ d := by
       intro h
       rw [hrest] at h
       rw [hn]
       rcases List.mem_append.1 h with h | h <;> simp only [List.mem_append, List.mem_cons]
       · exact .inl h
       · exact .inr (.inr (.inr h))
      rcases List.mem_append.1 hz with hz | hz
      · exact .inr (hab (List.mem_append_left _ hz))
      · rcases List.mem_cons.1 hz with rfl | hz
        · exact .inl rfl
        · rcases List.mem_append.1 hz with hz | hz
          · right; rw [hn]; simp only [List.mem_append, List.mem_cons]; exact .inr (.inr (.inl hz))
          · exact .inr (hab (List.mem_append_right _ hz))
     rcases hin with rfl | hin
     · exact hM.good.kept_of (x := z) (y := { z with par := p.par }) (by rw [hn]; simp) rfl (fun hne => absurd hM.mv.id hne) rfl
     · exact hM.good.kept_of hin rfl (fun _ => rfl) rfl
   · have h1 := congrArg List.length hrest
     rw [if_neg (by rw [hM.kind]; decide), hn, hw]
     simp at h1 ⊢
     omega
/- the law of order, as a walk meets it -/
theorem Mov.ok' {l d : List Item} {R : List Row} {p : Patch} {a : List Row} {x : Item} {o : List Str} {r b a' b' : List Row} {o' : List Str} (h : Mov l d R p a x o r b a' b' o') (hg : Good l R)
 {q : Patch} (hq : q.id = p.id) (he : existsF ((a ++ b).map (·.1)) q.par q.aft = true) : moveOk d q = true := by
 have hr := hg.rest h.mv.block
 have hgd := h.good
 have hB := h.mv.block'
 have hab : ∀ y ∈ a ++ b, y ∈ a' ++ ({ x with par := p.par }, o') :: (reroot o o' r ++ b') ∧ x.id ∉ y.2 ∧ y.1.id ≠ x.id := by
  intro y hy
  have hy' := hy
  rw [h.mv.place.place.eq] at hy'
  refine ⟨?_, ?_, ?_⟩
  · simp only [List.mem_append, List.mem_cons] at hy' ⊢
    rcases hy' with h | h
    · exact .inl h
    · exact .inr (.inr (.inr h))
  · rcases List.mem_append.1 hy with hy | hy
    · exact h.mv.block.before y hy
    · exact h.mv.block.after y hy
  · intro he
    have hnd := hg.nd
    rw [h.mv.block.eq] at hnd
    obtain ⟨n1, n2, _⟩ := nodup_parts hnd
    have hm : ∀ {b : List Row}, y ∈ b → y.1.id ∈ idsR b := fun hb => List.mem_map_of_mem (f := fun y : Row => y.1.id) hb
    rcases List.mem_append.1 hy with hy | hy
    · exact n1 (by rw [← he]; exact hm hy)
    · exact n2 (by rw [idsR_append, ← he]; simp [hm hy])
 obtain ⟨hp, ha⟩ := (exists_iff hr _ _).1 he
 have hxne : x.id ≠ [] := proper_id (hg.proper (y := (x, o)) (by rw [h.mv.block.eq]; simp))
 have hmem : ∀ z ∈ (a ++ b).map (·.1), z ∈ d := by
  intro z hz
  simp only [List.mem_map] at hz
  obtain ⟨y, hy, rfl⟩ := hz
  exact hgd.mem (hab y hy).1
 have hxq : x.id = q.id := by rw [hq]; exact h.mv.id
 have hpar : q.par = [] ∨ ∃ y ∈ a ++ b, y.1.id = q.par ∧ y.1.kind = 1 := by
  rcases hp with hp | ⟨z, hz, h1, h2⟩
  · exact .inl hp
  · simp only [List.mem_map] at hz
    obtain ⟨y, hy, rfl⟩ := hz
    exact .inr ⟨y, hy, h1, h2⟩
 unfold moveOk
 simp only [Bool.and_eq_true, Bool.not_eq_true', Bool.or_eq_true, beq_eq_false_iff_ne]
 refine ⟨(exists_iff hgd _ _).2 ⟨?_, ?_⟩, ?_, ?_, ?_⟩
 · rcases hp with hp | ⟨z, hz, h1, h2⟩
   · exact .inl hp
   · exact .inr ⟨z, hmem z hz, h1, h2⟩
 · rcases ha with ha | ⟨z, hz, h1, h2⟩
   · exact .inl ha
   · exact .inr ⟨z, hmem z hz, h1, h2⟩
 · rcases hpar with hp | ⟨y, hy, h1, h2⟩
   · rw [hp, ← hxq]; exact fun h => hxne h.symm
   · rw [← h1, ← hxq]; exact (hab y hy).2.2
 · rcases ha with ha | ⟨z, hz, h1, h2⟩
   · rw [ha, ← hxq]; exact fun h => hxne h.symm
   · simp only [List.mem_map] at hz
     obtain ⟨y, hy, rfl⟩ := hz
     rw [← h1, ← hxq]; exact (hab y hy).2.2
 · rcases hpar with hp | ⟨y, hy, h1, h2⟩
   · left; rw [hp]; rfl
   · right
     have := under_at hgd (hab y hy).1 (div := q.id) (by rw [← hxq]; exact hxne)
     rw [← h1, this]
     simpa [← hxq] using (hab y hy).2.1
/- what is moved twice -/
theorem Mov.twice {l d : List Item} {R : List Row} {p : Patch} {a : List Row} {x : Item} {o : List Str} {r b a' b' : List Row} {o' : List Str} (h : Mov l d R p a x o r b a' b' o') (hg : Good l R)
 {q : Patch} (hq : q.id = p.id) (hk : q.kind = 4) (hf : formedF q = true) (he : existsF ((a ++ b).map (·.1)) q.par q.aft = true) :
 applyF d q = (putL ((a ++ b).map (·.1)) ({ x with par := q.par } :: r.map (·.1)) q.par q.aft, 0) := by
 have hB := h.mv.block'
 have hxq : ({ x with par := p.par } : Item).id = q.id := by rw [hq]; exact h.mv.id
 rw [apply_mov h.good hB hxq hf hk h.state (h.ok' hg hq he), moveL_eq h.good hB hxq, reroot_fst, ← h.mv.place.place.eq]
/- once more -/
/- what is taken back -/
theorem all_append (l : List Item) (u v : List Patch) (i : Nat) : allF l (u ++ v) i = if (allF l u i).2.2 = 0 then allF (allF l u i).1 v (i + u.length) else allF l u i := by
 induction u generalizing l i with
 | nil => simp [allF]
 | cons p r ih =>
   rw [List.cons_append, allF, allF]
   split
   · rw [ih]
     simp only [List.length_cons]
     rw [show i + 1 + r.length = i + (r.length + 1) by omega]
   · rename_i h
     first | rfl | (simp only; rw [if_neg h])
/- the first error -/
theorem all_err (l : List Item) (v : List Patch) (i : Nat) (h : (allF l v i).2.2 ≠ 0) : (allF l v i).1 = [] ∧ ∃ (u : List Patch) (p : Patch) (t : List Patch), v = u ++ p :: t ∧ (allF l v i).2.1 = ((i + u.length : Nat) : Int) ∧
 (allF l u i).2.2 = 0 ∧ (applyF (allF l u i).1 p).2 = (allF l v i).2.2 ∧ allF l (u ++ [p]) i = allF l v i := by
 induction v generalizing l i with
 | nil => simp [allF] at h
 | cons p r ih =>
   rw [allF] at h ⊢
   split at h
   · rename_i h0
     rw [if_pos h0]
     obtain ⟨k1, u, q, t, rfl, k2, k3, k4, k5⟩ := ih _ _ h
     refine ⟨k1, p :: u, q, t, rfl, ?_, ?_, ?_, ?_⟩
     · rw [k2]; simp only [List.length_cons]; omega
     · rw [allF, if_pos h0]; exact k3
     · rw [allF, if_pos h0]; exact k4
     · rw [List.cons_append, allF, if_pos h0]; exact k5
   · rename_i h0
     rw [if_neg h0]
     refine ⟨rfl, [], p, r, rfl, by simp, rfl, rfl, ?_⟩
     rw [List.nil_append, allF, if_neg h0]
theorem all_good (l : List Item) (v : List Patch) (i : Nat) (hl : walkB l = true) (h : (allF l v i).2.2 = 0) : walkB (allF l v i).1 = true := by
 induction v generalizing l i with
 | nil => exact hl
 | cons p r ih =>
   rw [allF] at h ⊢
   split at h
   · rename_i h0
     rw [if_pos h0]
     exact ih _ _ (kept_law h0).good h
   · rename_i h0
     exact absurd h h0
end Go.Proofs.YtecnlfaholmpoaaGreat
