/- What a patch does to the state of a code. Two patches that commute: both orders lead to one state. -/
import Derived.Test.YtecnlfaholmpoaaGreatJC14
set_option linter.unusedVariables false
set_option linter.unusedSimpArgs false
namespace Go.Proofs.YtecnlfaholmpoaaGreat
theorem ids_ne {l : List Item} {R : List Row} (hg : Good l R) {y : Item} (hy : y ∈ l) : y.id ≠ [] := proper_id (hg.pr _ hy)
/- where the items of a block have their parents -/
theorem Block.pars {l : List Item} {R a r b : List Row} {x : Item} {o : List Str} (hg : Good l R) (hB : Block R a x o r b) :
 (∀ y ∈ r, y.1.par = x.id ∨ y.1.par ∈ idsR r) ∧ (∀ y ∈ a ++ b, y.1.par ≠ x.id ∧ y.1.par ∉ idsR r) := by
 have hc := hg.chain
 have hn := hg.nd
 rw [hB.eq] at hn
 obtain ⟨n1, n2, n3, n4, n5⟩ := nodup_parts hn
 have hxl : x ∈ l := hg.mem (y := (x, o)) (by rw [hB.eq]; simp)
 have hmem : ∀ y, y ∈ r → y ∈ R := fun y hy => by rw [hB.eq]; simp [hy]
 constructor
 · intro y hy
   have hyR := hmem y hy
   obtain ⟨t, ht⟩ := hB.inner y hy
   have hne : y.2 ≠ [] := by rw [← ht]; simp
   have hpar := hg.par_ne hyR hne
   obtain ⟨hl, _⟩ := hg.par_last hyR
   have hcr := hB.parts hc
   have hnd := hg.nodup_of hyR
   have hm : y.1.par ∈ x.id :: t := by
    rw [← hl, ← ht, List.append_assoc]
    exact lastS_app o x.id t
   have hm2 : y.1.par ∈ y.2 := by rw [← hl]; exact lastS_mem hne
   rcases open_sub hcr y hy _ hm2 with h | h
   · rcases mem_push h with h | h
     · exfalso
       rw [← ht, List.append_assoc] at hnd
       exact (List.nodup_append.1 hnd).2.2 _ h _ (by simpa using hm) rfl
     · exact .inl h
   · exact .inr h
 · intro y hy
   have hyR : y ∈ R := by
    rw [hB.eq]
    rcases List.mem_append.1 hy with h | h <;> simp [h]
   have hno : x.id ∉ y.2 := by
    rcases List.mem_append.1 hy with h | h
    · exact hB.before y h
    · exact hB.after y h
   by_cases hp : y.1.par = []
   · rw [hp]
     refine ⟨fun h => ids_ne hg hxl h.symm, fun h => ?_⟩
     obtain ⟨w, hw, he⟩ := List.mem_map.1 (show [] ∈ r.map (fun y => y.1.id) from h)
     exact ids_ne hg (hg.mem (hmem w hw)) he
   · obtain ⟨u, hu, w, hw, hwi, hwu, _⟩ := hg.parent hyR hp
     refine ⟨fun h => hno (by rw [hu, h]; simp), fun h => ?_⟩
     obtain ⟨z, hz, he⟩ := List.mem_map.1 (show y.1.par ∈ r.map (fun y => y.1.id) from h)
     have : w = z := hg.uniq hw (hmem z hz) (by rw [hwi, he])
     subst this
     obtain ⟨t, ht⟩ := hB.inner w hz
     refine hno ?_
     rw [hu, ← hwu, ← ht]; simp
theorem eff_law {l : List Item} {p : Patch} (h : (applyF l p).2 = 0) : stL (applyF l p).1 = stN (stL l) p := by
 obtain ⟨R, hg, hf, hD⟩ := apply_done h
 generalize (applyF l p).1 = d at hD
 have hlid := hg.ids_nodup
 rcases hD with ⟨a, b, o, hI⟩ | ⟨a, c, x, o, hC⟩ | ⟨a, x, o, r, b, a', b', o', hM⟩
 · have hk := hI.kind
   have hw := hI.was hg
   have hi := hI.it
   show St.mk _ _ _ = St.mk _ _ _
   congr 1
   · rw [it_upd hg hI.good p.item (id := p.id) (by rw [hi]; simp) hI.id ?_]
     · funext i
       show _ = itN (itemF l) p i
       unfold itN
       rw [if_pos hk]
     · intro z hz
       rw [hi, hw]
       simp only [List.mem_append, List.mem_cons]
       constructor
       · rintro (h | h | h)
         · exact .inl h
         · rw [h] at hz; exact absurd hI.id hz
         · exact .inr h
       · rintro (h | h)
         · exact .inl h
         · exact .inr (.inr h)
   · funext q
     show _ = ordN (ordL l) p q
     unfold ordN
     rw [if_pos hk, hi, ordL_append, ordL_cons, hI.par, hw, hI.id]
     by_cases hq : q = p.par
     · rw [if_pos hq.symm, if_pos hq, hq]
       rw [ins_ord hI.place.sib (by rw [← hw]; exact hlid) (fun y hy => ids_ne hg (by rw [hw]; exact List.mem_append_left _ hy))]
       rfl
     · rw [if_neg (fun h => hq h.symm), if_neg hq, ordL_append]
       rfl
   · show _ = lenN l.length p
     unfold lenN
     rw [if_pos hk, hi, hw]
     simp; omega
 · obtain ⟨k1, k4⟩ := hC.kind
   have hw := hC.was hg
   have hi := hC.now
   obtain ⟨c1, c2, c3⟩ := chgF_id p x
   have hx2 : itemF l p.id = x := by
    rw [← hC.id]; exact hg.item_of (by rw [hw]; simp)
   have hnx : ∀ z ∈ a.map (·.1) ++ c.map (·.1), z.id ≠ x.id := by
    intro z hz he
    have := hlid
    rw [hw] at this
    simp only [List.map_append, List.map_cons, List.nodup_append, List.nodup_cons] at this
    rcases List.mem_append.1 hz with h | h
    · exact this.2.2 _ (List.mem_map_of_mem (f := (·.id)) h) _ (by simp) he
    · exact this.2.1.1 (by rw [← he]; exact List.mem_map_of_mem (f := (·.id)) h)
   show St.mk _ _ _ = St.mk _ _ _
   congr 1
   · rw [it_upd hg hC.good (chgF p x) (id := p.id) (by rw [hi]; simp) (by rw [c1, hC.id]) ?_]
     · funext i
       show _ = itN (itemF l) p i
       unfold itN
       rw [if_neg k1, if_neg k4]
       by_cases he : i = p.id
       · rw [if_pos he, if_pos he, he, hx2]
       · rw [if_neg he, if_neg he]
     · intro z hz
       rw [hi, hw]
       simp only [List.mem_append, List.mem_cons]
       constructor
       · rintro (h | h | h)
         · exact .inl h
         · rw [h, c1, hC.id] at hz; exact absurd rfl hz
         · exact .inr (.inr h)
       · rintro (h | h | h)
         · exact .inl h
         · rw [h, hC.id] at hz; exact absurd rfl hz
         · exact .inr (.inr h)
   · funext q
     show _ = ordN (ordL l) p q
     unfold ordN
     rw [if_neg k1, if_neg k4, hi, hw, ordL_append, ordL_cons, ordL_append, ordL_cons, c1, c3]
   · show _ = lenN l.length p
     unfold lenN
     rw [if_neg k1, hi, hw]
     simp
 · have hk := hM.kind
   have hk1 : ¬ p.kind = 1 := by omega
   have hB := hM.mv.block
   have hx := hM.mv.id
   have hw := hM.was hg
   have hi := hM.now
   have hr := hM.rest
   have hx2 : itemF l p.id = x := by
    rw [← hx]; exact hg.item_of (by rw [hw]; simp)
   have hrest := hg.rest hB
   obtain ⟨hin, hout⟩ := hB.pars hg
   have hn := hg.nd
   rw [hB.eq] at hn
   obtain ⟨n1, n2, n3, n4, n5⟩ := nodup_parts hn
   have hab : ∀ z : Item, (z ∈ a'.map (·.1) ∨ z ∈ b'.map (·.1)) ↔ (z ∈ a.map (·.1) ∨ z ∈ b.map (·.1)) := by
    intro z
    rw [← List.mem_append, ← List.mem_append, hr]
   show St.mk _ _ _ = St.mk _ _ _
   congr 1
   · rw [it_upd hg hM.good { x with par := p.par } (id := p.id) (by rw [hi]; simp) hx ?_]
     · funext i
       show _ = itN (itemF l) p i
       unfold itN
       rw [if_neg hk1, if_pos hk]
       by_cases he : i = p.id
       · rw [if_pos he, if_pos he, he, hx2]
       · rw [if_neg he, if_neg he]
     · intro z hz
       rw [hi, hw]
       have := hab z
       have hzx : z ≠ x := by rintro rfl; exact hz hx
       have hzx' : z ≠ { x with par := p.par } := by rintro rfl; exact hz hx
       simp only [List.mem_append, List.mem_cons, hzx, hzx', false_or]
       constructor
       · rintro (h | h | h)
         · exact (this.1 (.inl h)).elim .inl (fun h => .inr (.inr h))
         · exact .inr (.inl h)
         · exact (this.1 (.inr h)).elim .inl (fun h => .inr (.inr h))
       · rintro (h | h | h)
         · exact (this.2 (.inl h)).elim .inl (fun h => .inr (.inr h))
         · exact .inr (.inl h)
         · exact (this.2 (.inr h)).elim .inl (fun h => .inr (.inr h))
   · funext q
     show _ = ordN (ordL l) p q
     unfold ordN
     rw [if_neg hk1, if_pos hk]
     have ho : outA p.id (ordL l q) = ordL (a.map (·.1)) q ++ (ordL (r.map (·.1)) q ++ ordL (b.map (·.1)) q) := by
      have hno : ∀ {v : List Row}, x.id ∉ idsR v → outA p.id (ordL (v.map (·.1)) q) = ordL (v.map (·.1)) q := by
       intro v hv
       refine outA_none fun hm => hv ?_
       have := ordL_sub hm
       rw [← hx] at this
       simpa [idsR] using this
      rw [idsR_append] at n2
      rw [hw, ordL_append, ordL_cons, ordL_append, outA_append, outA_append, outA_append, hno n1, hno (fun h => n2 (List.mem_append_left _ h)), hno (fun h => n2 (List.mem_append_right _ h))]
      have : outA p.id (if x.par = q then [x.id] else []) = [] := by
       rw [hx]
       split <;> simp [outA]
      rw [this]; rfl
     rw [ho, hi, ordL_append, ordL_cons, ordL_append]
     have hsum : ordL (a'.map (·.1)) q ++ ordL (b'.map (·.1)) q = ordL (a.map (·.1)) q ++ ordL (b.map (·.1)) q := by
      rw [← ordL_append, ← ordL_append, hr]
     have hrd : ∀ y ∈ r, y.1 ∈ r.map (·.1) := fun y hy => List.mem_map_of_mem hy
     have hcase : ordL (r.map (·.1)) q = [] ∨ (ordL (a.map (·.1)) q = [] ∧ ordL (b.map (·.1)) q = []) := by
      by_cases hq : q = x.id ∨ q ∈ idsR r
      · right
        constructor
        · refine ordL_none ?_
          intro z hz
          obtain ⟨y, hy, rfl⟩ := List.mem_map.1 hz
          have := hout y (List.mem_append_left _ hy)
          rintro rfl
          exact hq.elim this.1 this.2
        · refine ordL_none ?_
          intro z hz
          obtain ⟨y, hy, rfl⟩ := List.mem_map.1 hz
          have := hout y (List.mem_append_right _ hy)
          rintro rfl
          exact hq.elim this.1 this.2
      · left
        refine ordL_none ?_
        intro z hz
        obtain ⟨y, hy, rfl⟩ := List.mem_map.1 hz
        rintro rfl
        exact hq (hin y hy)
     by_cases hq : q = p.par
     · rw [if_pos hq.symm, if_pos hq]
       have hre : ordL (r.map (·.1)) q = [] := by
        refine ordL_none ?_
        intro z hz
        obtain ⟨y, hy, rfl⟩ := List.mem_map.1 hz
        intro he
        have hP := hM.mv.place
        have hpar : p.par ≠ [] := by
         rw [← hq, ← he]
         have hyR : y ∈ R := by rw [hB.eq]; simp [hy]
         refine hg.par_ne hyR ?_
         obtain ⟨t, ht⟩ := hB.inner y hy
         rw [← ht]; simp
        have hne : o' ≠ [] := by
         intro h
         have := hP.last
         rw [h] at this
         exact hpar this.symm
        have hca : Chain [] a' := by
         have := hrest.chain
         rw [hP.place.eq] at this
         exact (chain_append.1 this).1
        have hm : p.par ∈ idsR a' := by
         refine chain_sub0 hca (pre_sub hP.place.pre ?_)
         rw [← hP.last]; exact lastS_mem hne
        have hm2 : p.par ∈ idsR (a ++ b) := by
         rw [hP.place.eq, idsR_append]; exact List.mem_append_left _ hm
        rw [idsR_append] at hm2 n2 n4
        have hj : p.par = x.id ∨ p.par ∈ idsR r := by rw [← hq, ← he]; exact hin y hy
        rcases List.mem_append.1 hm2 with h | h
        · rcases hj with e | e
          · rw [e] at h; exact n1 h
          · exact n5 _ h (by rw [idsR_append]; exact List.mem_append_left _ e)
        · rcases hj with e | e
          · rw [e] at h; exact n2 (List.mem_append_right _ h)
          · exact (List.nodup_append.1 n4).2.2 _ e _ h rfl
       rw [hre, List.nil_append, List.nil_append, ← ordL_append, hr, hq, ins_ord hM.mv.place.sib]
       · rw [hx]; simp
       · rw [← hr, ← List.map_append]; exact hrest.ids_nodup
       · intro y hy
         refine ids_ne hrest ?_
         rw [List.map_append, hr]
         exact List.mem_append_left _ hy
     · rw [if_neg (fun h => hq h.symm), if_neg hq, List.nil_append]
       rcases hcase with h | ⟨h1, h2⟩
       · rw [h]; simpa using hsum
       · rw [h1, h2] at hsum
         simp only [List.nil_append, List.append_eq_nil_iff] at hsum
         rw [hsum.1, hsum.2, h1, h2]
   · show _ = lenN l.length p
     unfold lenN
     rw [if_neg hk1, hi, hw]
     have := congrArg List.length hr
     simp only [List.length_append] at this
     simp only [List.length_append, List.length_cons]
     omega
end Go.Proofs.YtecnlfaholmpoaaGreat
namespace Go.Proofs.YtecnlfaholmpoaaGreat
def placesK (k : Int) : Bool := k == 1 || k == 4
def namesF (p : Patch) (id : Str) : Bool := p.par == id || p.aft == id
def ownF (j k : Int) : Bool := (j == 2 && k == 3) || ((j == 2 && k == 4) || ((j == 3 && k == 4) || ((j == 3 && k == 7) || (j == 4 && k == 7))))
def thereF (a b : Patch) : Bool := a.par == b.par && a.aft == b.aft
def commO (a b : Patch) : Bool :=
 if !formedF a || !formedF b then false
 else if patEq a b then true
 else if a.id == b.id then (a.kind == b.kind && (a.kind == 2 && a.lang != b.lang)) || ownF a.kind b.kind
 else if !placesK a.kind || !placesK b.kind then true
 else if b.kind == 1 then !thereF a b && (!namesF a b.id && !namesF b a.id)
 else if a.kind == 1 then !thereF a b && (!namesF b a.id && a.aft != b.id)
 else a.par == b.par && (!thereF a b && (a.aft != b.id && b.aft != a.id))
def commF (a b : Patch) : Bool := if b.kind < a.kind then commO b a else commO a b
theorem bool_ne {α : Type} [BEq α] [LawfulBEq α] {a b : α} : (a == b) = (b == a) := by
 rw [Bool.eq_iff_iff, beq_iff_eq, beq_iff_eq]; exact ⟨Eq.symm, Eq.symm⟩
theorem patEq_symm (a b : Patch) : patEq a b = patEq b a := by
 rw [Bool.eq_iff_iff, patEq_iff, patEq_iff, eq_comm]
theorem commF_symm (a b : Patch) : commF a b = commF b a := by
 unfold commF
 rcases Int.lt_trichotomy a.kind b.kind with h | h | h
 · rw [if_neg (by omega), if_pos h]
 · rw [if_neg (by omega), if_neg (by omega)]
   unfold commO thereF namesF
   rw [patEq_symm a b, h, bool_ne (a := a.id) (b := b.id), bool_ne (a := a.par) (b := b.par), bool_ne (a := a.aft) (b := b.aft), Bool.or_comm (!formedF a)]
   have e : (a.lang != b.lang) = (b.lang != a.lang) := by unfold bne; rw [bool_ne]
   rw [e]
   by_cases hk : b.kind = 1
   · simp only [hk]
     cases formedF a <;> cases formedF b <;> simp [Bool.and_comm, Bool.and_left_comm, Bool.and_assoc]
   · have : (b.kind == 1) = false := by simpa using hk
     simp only [this]
     cases formedF a <;> cases formedF b <;> simp [Bool.and_comm, Bool.and_left_comm, Bool.and_assoc]
 · rw [if_pos h, if_neg (by omega)]
/- how two patches commute, the first one of the lesser kind -/
inductive CommP (a b : Patch) : Prop
 | same : a = b → CommP a b
 | words : a.id = b.id → a.kind = 2 → b.kind = 2 → a.lang ≠ b.lang → CommP a b
 | own : a.id = b.id → ownF a.kind b.kind = true → CommP a b
 | own' : a.id = b.id → ownF b.kind a.kind = true → CommP a b
 | left : a.id ≠ b.id → (a.kind ≠ 1 ∧ a.kind ≠ 4) → CommP a b
 | right : a.id ≠ b.id → (b.kind ≠ 1 ∧ b.kind ≠ 4) → CommP a b
 | ins : a.id ≠ b.id → a.kind = 1 → b.kind = 1 → (a.par = b.par → a.aft ≠ b.aft) → a.par ≠ b.id → a.aft ≠ b.id → b.par ≠ a.id → b.aft ≠ a.id → CommP a b
 | mix : a.id ≠ b.id → a.kind = 1 → b.kind = 4 → (a.par = b.par → a.aft ≠ b.aft) → b.par ≠ a.id → b.aft ≠ a.id → a.aft ≠ b.id → CommP a b
 | mix' : a.id ≠ b.id → a.kind = 4 → b.kind = 1 → (a.par = b.par → a.aft ≠ b.aft) → a.par ≠ b.id → a.aft ≠ b.id → b.aft ≠ a.id → CommP a b
 | mov : a.id ≠ b.id → a.kind = 4 → b.kind = 4 → a.par = b.par → a.aft ≠ b.aft → a.aft ≠ b.id → b.aft ≠ a.id → CommP a b
theorem CommP.symm {a b : Patch} (h : CommP a b) : CommP b a := by
 cases h with
 | same h => exact .same h.symm
 | words h1 h2 h3 h4 => exact .words h1.symm h3 h2 (Ne.symm h4)
 | own h1 h2 => exact .own' h1.symm h2
 | own' h1 h2 => exact .own h1.symm h2
 | left h1 h2 => exact .right (Ne.symm h1) h2
 | right h1 h2 => exact .left (Ne.symm h1) h2
 | ins h1 h2 h3 h4 h5 h6 h7 h8 => exact .ins (Ne.symm h1) h3 h2 (fun e => Ne.symm (h4 e.symm)) h7 h8 h5 h6
 | mix h1 h2 h3 h4 h5 h6 h7 => exact .mix' (Ne.symm h1) h3 h2 (fun e => Ne.symm (h4 e.symm)) h5 h6 h7
 | mix' h1 h2 h3 h4 h5 h6 h7 => exact .mix (Ne.symm h1) h3 h2 (fun e => Ne.symm (h4 e.symm)) h5 h6 h7
 | mov h1 h2 h3 h4 h5 h6 h7 => exact .mov (Ne.symm h1) h3 h2 h4.symm (Ne.symm h5) h7 h6
theorem there_false {a b : Patch} : thereF a b = false ↔ (a.par = b.par → a.aft ≠ b.aft) := by
 unfold thereF
 simp
theorem names_false {a : Patch} {id : Str} : namesF a id = false ↔ a.par ≠ id ∧ a.aft ≠ id := by
 unfold namesF
 simp
theorem commO_cases {a b : Patch} (hk : a.kind ≤ b.kind) (h : commO a b = true) : formedF a = true ∧ formedF b = true ∧ CommP a b := by
 unfold commO at h
 split at h
 · cases h
 rename_i hf
 simp only [Bool.or_eq_true, Bool.not_eq_true', not_or, Bool.not_eq_false] at hf
 refine ⟨hf.1, hf.2, ?_⟩
 split at h
 · rename_i he
   exact .same (patEq_iff.1 he)
 split at h
 · rename_i he
   rw [beq_iff_eq] at he
   simp only [Bool.or_eq_true, Bool.and_eq_true, beq_iff_eq, bne_iff_ne] at h
   rcases h with ⟨h1, h2, h3⟩ | h
   · exact .words he h2 (by omega) h3
   · exact .own he h
 rename_i he
 rw [beq_iff_eq] at he
 split at h
 · rename_i hp
   unfold placesK at hp
   simp only [Bool.or_eq_true, Bool.not_eq_true', Bool.or_eq_false_iff, beq_eq_false_iff_ne] at hp
   rcases hp with hp | hp
   · exact .left he hp
   · exact .right he hp
 rename_i hp
 unfold placesK at hp
 simp at hp
 split at h
 · rename_i hb
   rw [beq_iff_eq] at hb
   simp only [Bool.and_eq_true, Bool.not_eq_true', there_false, names_false] at h
   exact .ins he (by omega) hb h.1 h.2.1.1 h.2.1.2 h.2.2.1 h.2.2.2
 rename_i hb
 rw [beq_iff_eq] at hb
 split at h
 · rename_i ha
   rw [beq_iff_eq] at ha
   simp only [Bool.and_eq_true, Bool.not_eq_true', there_false, names_false, bne_iff_ne] at h
   exact .mix he ha (by omega) h.1 h.2.1.1 h.2.1.2 h.2.2
 · rename_i ha
   rw [beq_iff_eq] at ha
   simp only [Bool.and_eq_true, Bool.not_eq_true', there_false, bne_iff_ne, beq_iff_eq] at h
   exact .mov he (by omega) (by omega) h.1 (h.2.1 h.1) h.2.2.1 h.2.2.2
theorem comm_cases {a b : Patch} (h : commF a b = true) : formedF a = true ∧ formedF b = true ∧ CommP a b := by
 unfold commF at h
 split at h
 · rename_i hk
   obtain ⟨h1, h2, h3⟩ := commO_cases (by omega) h
   exact ⟨h2, h1, h3.symm⟩
 · exact commO_cases (by omega) h
/- the laws of orders -/
theorem insA_cons {aft i j : Str} {r : List Str} (h : aft ≠ []) : insA aft i (j :: r) = (if j = aft then [j, i] else [j]) ++ insA aft i r := by
 unfold insA
 rw [if_neg h, if_neg h, List.flatMap_cons]
theorem insA_nil {i : Str} {L : List Str} : insA [] i L = i :: L := by
 unfold insA
 rw [if_pos rfl]
theorem insA_comm {a b x y : Str} {L : List Str} (h : a ≠ b) (h1 : a ≠ y) (h2 : b ≠ x) : insA a x (insA b y L) = insA b y (insA a x L) := by
 by_cases ha : a = []
 · subst ha
   have hb : b ≠ [] := fun e => h e.symm
   rw [insA_nil, insA_nil, insA_cons hb, if_neg (fun e => h2 e.symm)]; rfl
 by_cases hb : b = []
 · subst hb
   rw [insA_nil, insA_nil, insA_cons ha, if_neg (fun e => h1 e.symm)]; rfl
 induction L with
 | nil => simp [insA, ha, hb]
 | cons j r ih =>
   rw [insA_cons hb, insA_cons ha]
   by_cases e1 : j = a
   · subst e1
     rw [if_neg h, if_pos rfl]
     show insA j x (j :: insA b y r) = insA b y (j :: x :: insA j x r)
     rw [insA_cons ha, if_pos rfl, insA_cons hb, if_neg h, insA_cons hb, if_neg (fun e => h2 e.symm), ih]; rfl
   · by_cases e2 : j = b
     · subst e2
       rw [if_pos rfl, if_neg e1]
       show insA a x (j :: y :: insA j y r) = insA j y (j :: insA a x r)
       rw [insA_cons ha, if_neg e1, insA_cons ha, if_neg (fun e => h1 e.symm), insA_cons hb, if_pos rfl, ih]; rfl
     · rw [if_neg e2, if_neg e1]
       show insA a x (j :: insA b y r) = insA b y (j :: insA a x r)
       rw [insA_cons ha, if_neg e1, insA_cons hb, if_neg e2, ih]
theorem outA_cons {i j : Str} {r : List Str} : outA i (j :: r) = (if j = i then [] else [j]) ++ outA i r := by
 unfold outA
 by_cases h : j = i
 · subst h; simp
 · simp [h]
theorem outA_ins {z b y : Str} {L : List Str} (h1 : z ≠ y) (h2 : z ≠ b) : outA z (insA b y L) = insA b y (outA z L) := by
 by_cases hb : b = []
 · subst hb
   rw [insA_nil, insA_nil, outA_cons, if_neg (fun e => h1 e.symm)]; rfl
 induction L with
 | nil => simp [insA, hb, outA]
 | cons j r ih =>
   rw [insA_cons hb, outA_append, ih, outA_cons]
   by_cases e : j = b
   · subst e
     rw [if_pos rfl, if_neg (fun e => h2 e.symm)]
     show _ = insA j y (j :: outA z r)
     rw [insA_cons hb, if_pos rfl, outA_cons, outA_cons, if_neg (fun e => h2 e.symm), if_neg (fun e => h1 e.symm)]; rfl
   · rw [if_neg e]
     by_cases e3 : j = z
     · subst e3
       rw [if_pos rfl, outA_cons, if_pos rfl]; rfl
     · rw [if_neg e3, outA_cons, if_neg e3]
       show _ = insA b y (j :: outA z r)
       rw [insA_cons hb, if_neg e]; rfl
theorem outA_out {x y : Str} {L : List Str} : outA x (outA y L) = outA y (outA x L) := by
 unfold outA
 rw [List.filter_filter, List.filter_filter]
 congr 1
 funext j
 rw [Bool.and_comm]
/- the laws of items -/
theorem itN_ne {it : Its} {p : Patch} {i : Str} (h : i ≠ p.id) : itN it p i = it i := by
 unfold itN
 rw [if_neg h]
theorem itN_kp {it : Its} {p : Patch} (h : p.kind ≠ 1) (i : Str) : (itN it p i).kind = (it i).kind ∧ (p.kind ≠ 4 → (itN it p i).par = (it i).par) := by
 unfold itN
 by_cases hi : i = p.id
 · rw [if_pos hi, if_neg h]
   by_cases h4 : p.kind = 4
   · rw [if_pos h4]; exact ⟨rfl, fun h => absurd h4 h⟩
   · rw [if_neg h4]; exact ⟨(chgF_id p _).2.1, fun _ => (chgF_id p _).2.2⟩
 · rw [if_neg hi]; exact ⟨rfl, fun _ => rfl⟩
theorem it_comm_ne {it : Its} {a b : Patch} (h : a.id ≠ b.id) : itN (itN it a) b = itN (itN it b) a := by
 funext i
 by_cases h1 : i = a.id
 · subst h1
   rw [itN_ne h]
   unfold itN
   rw [if_pos rfl, if_pos rfl, if_neg h]
 · rw [itN_ne (it := itN it b) h1]
   by_cases h2 : i = b.id
   · subst h2
     unfold itN
     rw [if_pos rfl, if_pos rfl, if_neg h1]
   · rw [itN_ne h2, itN_ne h2, itN_ne h1]
theorem exA_congr {it it' : Its} {par aft : Str} (h1 : par ≠ [] → (it' par).kind = (it par).kind) (h2 : aft ≠ [] → (it' aft).kind = (it aft).kind ∧ (it' aft).par = (it aft).par) : exA it' par aft ↔ exA it par aft := by
 unfold exA
 constructor
 · rintro ⟨h, k⟩
   refine ⟨?_, ?_⟩
   · by_cases e : par = []
     · exact .inl e
     · rw [← h1 e]; exact .inr (h.resolve_left e)
   · by_cases e : aft = []
     · exact .inl e
     · rw [← (h2 e).1, ← (h2 e).2]; exact .inr (k.resolve_left e)
 · rintro ⟨h, k⟩
   refine ⟨?_, ?_⟩
   · by_cases e : par = []
     · exact .inl e
     · rw [h1 e]; exact .inr (h.resolve_left e)
   · by_cases e : aft = []
     · exact .inl e
     · rw [(h2 e).1, (h2 e).2]; exact .inr (k.resolve_left e)
theorem chgOk_congr {p : Patch} {x y : Item} (h1 : x.kind = y.kind) (h2 : x.gone = y.gone) (h3 : p.kind = 2 → wordsText p x = wordsText p y) : ChgOk p x ↔ ChgOk p y := by
 have key : ∀ {x y : Item}, x.kind = y.kind → x.gone = y.gone → (p.kind = 2 → wordsText p x = wordsText p y) → ChgOk p x → ChgOk p y := by
  intro x y h1 h2 h3 h
  refine ⟨by rw [← h1]; exact h.here, by rw [← h1]; exact h.art, by rw [← h2]; exact h.s6, by rw [← h2]; exact h.s, ?_, h.r⟩
  intro hk
  have := h.w hk
  unfold wordsNew at this ⊢
  rw [← h3 hk]
  exact this
 exact ⟨key h1 h2 h3, key h1.symm h2.symm (fun hk => (h3 hk).symm)⟩
/- nothing that a change asks turns with changes of other kinds -/
theorem poss_congr {it it' : Its} {n : Nat} {p : Patch} (h : ∀ i, (it' i).kind = (it i).kind ∧ (it' i).par = (it i).par) (hi : it' p.id = it p.id) : Poss it' n p ↔ Poss it n p := by
 have he : exA it' p.par p.aft ↔ exA it p.par p.aft := exA_congr (fun _ => (h _).1) (fun _ => h _)
 have hu : Up it' p.id p.par ↔ Up it p.id p.par := ⟨up_sup fun y _ => (h y).2, up_sub fun y _ => (h y).2⟩
 unfold Poss
 split
 · exact ⟨fun k => ⟨by rw [← hi]; exact k.new, he.1 k.ex, k.le⟩, fun k => ⟨by rw [hi]; exact k.new, he.2 k.ex, k.le⟩⟩
 split
 · exact ⟨fun k => ⟨by rw [← hi]; exact k.here, by rw [← hi]; exact k.s, he.1 k.ex, k.par, k.aft, fun hp h => k.up hp (hu.2 h)⟩, fun k => ⟨by rw [hi]; exact k.here, by rw [hi]; exact k.s, he.2 k.ex, k.par, k.aft, fun hp h => k.up hp (hu.1 h)⟩⟩
 · rw [hi]
end Go.Proofs.YtecnlfaholmpoaaGreat
