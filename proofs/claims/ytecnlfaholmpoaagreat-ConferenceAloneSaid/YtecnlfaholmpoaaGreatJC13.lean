/- The page of clauses, its list, what Put and Join make: plain words. -/
import Derived.Test.YtecnlfaholmpoaaGreatJC11
import Derived.Test.YtecnlfaholmpoaaGreatJC12
set_option linter.unusedVariables false
set_option linter.unusedSimpArgs false
namespace Go.Proofs.YtecnlfaholmpoaaGreat
section
variable {β : Type} (lt : β → β → Bool)
def insB (x : β) : List β → List β
 | [] => [x]
 | y :: r => if lt x y then x :: y :: r else y :: insB x r
def sortB (l : List β) : List β := l.foldl (fun out x => insB lt x out) []
theorem insB_perm (x : β) : ∀ l, (insB lt x l).Perm (x :: l)
 | [] => List.Perm.refl _
 | y :: r => by
   unfold insB
   split
   · exact List.Perm.refl _
   · exact ((insB_perm x r).cons y).trans (List.Perm.swap x y r)
theorem foldl_insB_perm : ∀ (l out : List β), (l.foldl (fun out x => insB lt x out) out).Perm (out ++ l)
 | [], out => by simp
 | x :: r, out => by
   refine (foldl_insB_perm r _).trans ?_
   refine ((insB_perm lt x out).append_right r).trans ?_
   simp only [List.cons_append]
   exact (List.perm_middle).symm
theorem sortB_perm (l : List β) : (sortB lt l).Perm l := by
 have := foldl_insB_perm lt l []
 simpa [sortB] using this
variable {lt}
def Asc (lt : β → β → Bool) (l : List β) : Prop := l.Pairwise fun a b => lt b a = false
theorem insB_asc (hs : ∀ a b, lt a b = true → lt b a = false) (ht : ∀ a b c, lt b a = false → lt c b = false → lt c a = false) (x : β) : ∀ l, Asc lt l → Asc lt (insB lt x l)
 | [], _ => by simp [Asc, insB]
 | y :: r, h => by
   obtain ⟨h1, h2⟩ := List.pairwise_cons.1 h
   unfold insB
   split
   · rename_i hx
     refine List.pairwise_cons.2 ⟨fun z hz => ?_, h⟩
     rcases List.mem_cons.1 hz with rfl | hz
     · exact hs _ _ hx
     · exact ht _ _ _ (hs _ _ hx) (h1 z hz)
   · rename_i hx
     refine List.pairwise_cons.2 ⟨fun z hz => ?_, insB_asc hs ht x r h2⟩
     rcases List.mem_cons.1 ((insB_perm lt x r).mem_iff.1 hz) with rfl | hz
     · simpa using hx
     · exact h1 z hz
theorem foldl_insB_asc (hs : ∀ a b, lt a b = true → lt b a = false) (ht : ∀ a b c, lt b a = false → lt c b = false → lt c a = false) : ∀ (l out : List β), Asc lt out → Asc lt (l.foldl (fun out x => insB lt x out) out)
 | [], out, h => h
 | x :: r, out, h => foldl_insB_asc hs ht r _ (insB_asc hs ht x out h)
theorem sortB_asc (hs : ∀ a b, lt a b = true → lt b a = false) (ht : ∀ a b c, lt b a = false → lt c b = false → lt c a = false) (l : List β) : Asc lt (sortB lt l) := foldl_insB_asc hs ht l [] List.Pairwise.nil
theorem asc_unique : ∀ (l1 l2 : List β), l1.Perm l2 → Asc lt l1 → Asc lt l2 → (∀ a ∈ l1, ∀ b ∈ l1, lt a b = false → lt b a = false → a = b) → l1 = l2
 | [], l2, hp, _, _, _ => by simpa using hp.symm
 | a :: r, l2, hp, h1, h2, ht => by
   cases l2 with
   | nil => simp at hp
   | cons b s =>
     obtain ⟨a1, a2⟩ := List.pairwise_cons.1 h1
     obtain ⟨b1, b2⟩ := List.pairwise_cons.1 h2
     have hab : a = b := by
      have ha : a ∈ b :: s := hp.mem_iff.1 (by simp)
      have hb : b ∈ a :: r := hp.mem_iff.2 (by simp)
      rcases List.mem_cons.1 ha with rfl | ha'
      · rfl
      · rcases List.mem_cons.1 hb with rfl | hb'
        · rfl
        · exact ht a (by simp) b hb (b1 a ha') (a1 b hb')
     subst hab
     rw [asc_unique r s (hp.cons_inv) a2 b2 (fun x hx y hy => ht x (by simp [hx]) y (by simp [hy]))]
theorem insB_map {γ : Type} {lt2 : γ → γ → Bool} (f : β → γ) (x : β) : ∀ l : List β, (∀ y ∈ l, lt2 (f x) (f y) = lt x y) → (insB lt x l).map f = insB lt2 (f x) (l.map f)
 | [], _ => rfl
 | y :: r, h => by
   have h1 := h y (by simp)
   simp only [insB, List.map_cons, h1]
   split
   · simp
   · simp [insB_map f x r (fun z hz => h z (by simp [hz]))]
def ltI (lt : β → β → Bool) (a b : β × Nat) : Bool := lt a.1 b.1 || (!lt b.1 a.1 && decide (a.2 < b.2))
theorem sortB_tag (l : List β) : ∀ (r : List β) (out : List (β × Nat)) (n : Nat), (∀ p ∈ out, p.2 < n) → 
 ((r.zipIdx n).foldl (fun out x => insB (ltI lt) x out) out).map Prod.fst = r.foldl (fun out x => insB lt x out) (out.map Prod.fst)
 | [], out, n, _ => rfl
 | x :: r, out, n, h => by
   rw [List.zipIdx_cons, List.foldl_cons, List.foldl_cons]
   have e : (insB (ltI lt) (x, n) out).map Prod.fst = insB lt x (out.map Prod.fst) := by
    refine insB_map (lt := ltI lt) (lt2 := lt) Prod.fst (x, n) out (fun y hy => ?_)
    have := h y hy
    have hd : decide (n < y.2) = false := by simp; omega
    simp [ltI, hd]
   rw [← e]
   refine sortB_tag l r _ (n + 1) (fun p hp => ?_)
   rcases List.mem_cons.1 ((insB_perm _ _ _).mem_iff.1 hp) with rfl | hp
   · simp
   · have := h p hp; omega
theorem sortB_eq (l : List β) : (sortB (ltI lt) l.zipIdx).map Prod.fst = sortB lt l := sortB_tag l l [] 0 (by simp)
end
def pget (pg : List Clause) (s : Stamp) : Option Clause := pg.find? fun c => decide (c.id = s)
def openN (pg : List Clause) : Nat := pg.countP fun c => !c.gone
def pset (pg : List Clause) (c : Clause) : List Clause := pg.map fun x => if x.id = c.id then { x with gone := x.gone || c.gone } else x
def putE (pg : List Clause) (c : Clause) : Int :=
 if c.proper then
  match pget pg c.id with
  | some o => if o.after = c.after ∧ patEq o.patch c.patch = true then 0 else 9
  | none => if c.after ≠ noStamp ∧ pget pg c.after = none then 11 else if c.gone = false ∧ 64 ≤ openN pg then 27 else 0
 else 1
def putP (pg : List Clause) (c : Clause) : List Clause :=
 if putE pg c = 0 then (if (pget pg c.id).isSome then pset pg c else pg ++ [c]) else pg
def putAll : List Clause → List Clause → List Clause × Int
 | pg, [] => (pg, 0)
 | pg, c :: r => if putE pg c = 0 then putAll (putP pg c) r else (pg, putE pg c)
def putSome (pg : List Clause) (l : List Clause) : List Clause := l.foldl putP pg

def later (a b : Clause) : Bool := decide (b.id.count < a.id.count) || (decide (a.id.count = b.id.count) && decide (b.id.seat < a.id.seat))
def sooner (a b : Clause) : Bool := decide (a.id.count < b.id.count) || (decide (a.id.count = b.id.count) && decide (a.id.seat < b.id.seat))
def kids (pg : List Clause) (s : Stamp) : List Clause := sortB later (pg.filter fun c => decide (c.after = s))
def listF (pg : List Clause) : Nat → Stamp → List Clause
 | 0, _ => []
 | f + 1, s => (kids pg s).flatMap fun c => c :: listF pg f c.id
structure PageOk (pg : List Clause) : Prop where
 nodup : (pg.map (·.id)).Nodup
 prop : ∀ c ∈ pg, c.proper = true
 kin : ∀ c ∈ pg, c.after = noStamp ∨ ∃ p ∈ pg, p.id = c.after
def listP (pg : List Clause) : List Clause := listF pg pg.length noStamp
theorem later_asymm (a b : Clause) (h : later a b = true) : later b a = false := by
 unfold later at *
 simp only [Bool.or_eq_true, Bool.and_eq_true, decide_eq_true_eq, Bool.or_eq_false_iff, Bool.and_eq_false_iff, decide_eq_false_iff_not] at *
 omega
theorem later_ntrans (a b c : Clause) (h1 : later b a = false) (h2 : later c b = false) : later c a = false := by
 unfold later at *
 simp only [Bool.or_eq_false_iff, Bool.and_eq_false_iff, decide_eq_false_iff_not] at *
 omega
theorem sooner_asymm (a b : Clause) (h : sooner a b = true) : sooner b a = false := by
 unfold sooner at *
 simp only [Bool.or_eq_true, Bool.and_eq_true, decide_eq_true_eq, Bool.or_eq_false_iff, Bool.and_eq_false_iff, decide_eq_false_iff_not] at *
 omega
theorem sooner_ntrans (a b c : Clause) (h1 : sooner b a = false) (h2 : sooner c b = false) : sooner c a = false := by
 unfold sooner at *
 simp only [Bool.or_eq_false_iff, Bool.and_eq_false_iff, decide_eq_false_iff_not] at *
 omega
theorem later_eq (a b : Clause) (h1 : later a b = false) (h2 : later b a = false) : a.id = b.id := by
 unfold later at *
 simp only [Bool.or_eq_false_iff, Bool.and_eq_false_iff, decide_eq_false_iff_not] at *
 cases ha : a.id; cases hb : b.id
 simp only [ha, hb, Stamp.mk.injEq] at *
 omega
theorem sooner_eq (a b : Clause) (h1 : sooner a b = false) (h2 : sooner b a = false) : a.id = b.id := by
 unfold sooner at *
 simp only [Bool.or_eq_false_iff, Bool.and_eq_false_iff, decide_eq_false_iff_not] at *
 cases ha : a.id; cases hb : b.id
 simp only [ha, hb, Stamp.mk.injEq] at *
 omega

theorem pget_mem {pg : List Clause} {s : Stamp} {c : Clause} (h : pget pg s = some c) : c ∈ pg ∧ c.id = s := by
 unfold pget at h
 exact ⟨List.mem_of_find?_eq_some h, by simpa using List.find?_some h⟩
theorem pget_none {pg : List Clause} {s : Stamp} : pget pg s = none ↔ ∀ c ∈ pg, c.id ≠ s := by
 unfold pget
 simp
theorem nodup_eq {pg : List Clause} (h : (pg.map (·.id)).Nodup) {a b : Clause} (ha : a ∈ pg) (hb : b ∈ pg) (he : a.id = b.id) : a = b := by
 induction pg with
 | nil => cases ha
 | cons x r ih =>
   simp only [List.map_cons, List.nodup_cons, List.mem_map, not_exists, not_and] at h
   rcases List.mem_cons.1 ha with ha1 | ha1
   · rcases List.mem_cons.1 hb with hb1 | hb1
     · rw [ha1, hb1]
     · exact absurd (by rw [← ha1]; exact he.symm) (h.1 b hb1)
   · rcases List.mem_cons.1 hb with hb1 | hb1
     · exact absurd (by rw [← hb1]; exact he) (h.1 a ha1)
     · exact ih h.2 ha1 hb1
theorem pset_ids (pg : List Clause) (c : Clause) : (pset pg c).map (·.id) = pg.map (·.id) := by
 unfold pset
 rw [List.map_map]
 refine List.map_congr_left fun x _ => ?_
 simp only [Function.comp]
 split <;> rfl

theorem kids_mem {pg : List Clause} {s : Stamp} {c : Clause} : c ∈ kids pg s ↔ c ∈ pg ∧ c.after = s := by
 unfold kids
 rw [(sortB_perm _ _).mem_iff]
 simp
theorem kids_perm_eq {pg pg' : List Clause} (hp : pg.Perm pg') (hn : (pg.map (·.id)).Nodup) (s : Stamp) : kids pg s = kids pg' s := by
 unfold kids
 refine asc_unique (lt := later) _ _ ?_ (sortB_asc later_asymm later_ntrans _) (sortB_asc later_asymm later_ntrans _) ?_
 · exact (sortB_perm _ _).trans ((hp.filter _).trans (sortB_perm _ _).symm)
 · intro a ha b hb h1 h2
   have ha' := (List.mem_filter.1 ((sortB_perm _ _).mem_iff.1 ha)).1
   have hb' := (List.mem_filter.1 ((sortB_perm _ _).mem_iff.1 hb)).1
   exact nodup_eq hn ha' hb' (later_eq a b h1 h2)
theorem listF_perm_eq {pg pg' : List Clause} (hp : pg.Perm pg') (hn : (pg.map (·.id)).Nodup) : ∀ (f : Nat) (s : Stamp), listF pg f s = listF pg' f s
 | 0, s => rfl
 | f + 1, s => by
   unfold listF
   rw [kids_perm_eq hp hn s]
   congr 1
   funext c
   rw [listF_perm_eq hp hn f c.id]
theorem listP_perm_eq {pg pg' : List Clause} (hp : pg.Perm pg') (hn : (pg.map (·.id)).Nodup) : listP pg = listP pg' := by
 unfold listP
 rw [hp.length_eq, listF_perm_eq hp hn]
theorem mem_listF {pg : List Clause} {f : Nat} {s : Stamp} {c : Clause} : c ∈ listF pg (f + 1) s ↔ ∃ k ∈ kids pg s, c = k ∨ c ∈ listF pg f k.id := by
 simp [listF]
theorem listF_sub {pg : List Clause} : ∀ {f : Nat} {s : Stamp} {c : Clause}, c ∈ listF pg f s → c ∈ pg
 | 0, s, c, h => by simp [listF] at h
 | f + 1, s, c, h => by
   obtain ⟨k, hk, rfl | h⟩ := mem_listF.1 h
   · exact (kids_mem.1 hk).1
   · exact listF_sub h
theorem listF_mono1 {pg : List Clause} : ∀ {f : Nat} {s : Stamp} {c : Clause}, c ∈ listF pg f s → c ∈ listF pg (f + 1) s
 | 0, s, c, h => by simp [listF] at h
 | f + 1, s, c, h => by
   obtain ⟨k, hk, rfl | h⟩ := mem_listF.1 h
   · exact mem_listF.2 ⟨_, hk, Or.inl rfl⟩
   · exact mem_listF.2 ⟨k, hk, Or.inr (listF_mono1 h)⟩
theorem listF_mono {pg : List Clause} {f g : Nat} (hfg : f ≤ g) {s : Stamp} {c : Clause} (h : c ∈ listF pg f s) : c ∈ listF pg g s := by
 induction hfg with
 | refl => exact h
 | step _ ih => exact listF_mono1 ih
theorem listF_kid {pg : List Clause} : ∀ {f : Nat} {s : Stamp} {p c : Clause}, p ∈ listF pg f s → c ∈ kids pg p.id → c ∈ listF pg (f + 1) s
 | 0, s, p, c, h, _ => by simp [listF] at h
 | f + 1, s, p, c, h, hc => by
   obtain ⟨k, hk, rfl | h⟩ := mem_listF.1 h
   · exact mem_listF.2 ⟨_, hk, Or.inr (mem_listF.2 ⟨c, hc, Or.inl rfl⟩)⟩
   · exact mem_listF.2 ⟨k, hk, Or.inr (listF_kid h hc)⟩
theorem PageOk.count {pg : List Clause} (h : PageOk pg) {c : Clause} (hc : c ∈ pg) : c.after.count < c.id.count ∧ 1 ≤ c.id.count := by
 have := h.prop c hc
 unfold Clause.proper properS at this
 simp only [Bool.and_eq_true, Bool.or_eq_true, decide_eq_true_eq] at this
 obtain ⟨h1, h2⟩ := this
 rcases h2 with h2 | h2
 · rw [h2]; simp; omega
 · omega
def rank (pg : List Clause) (c : Clause) : Nat := pg.countP fun x => decide (x.id.count < c.id.count)
theorem rank_lt {pg : List Clause} {p c : Clause} (hp : p ∈ pg) (h : p.id.count < c.id.count) : rank pg p < rank pg c := by
 unfold rank
 induction pg with
 | nil => cases hp
 | cons x r ih =>
   have key : ∀ r : List Clause, r.countP (fun x => decide (x.id.count < p.id.count)) ≤ r.countP (fun x => decide (x.id.count < c.id.count)) := fun r =>
    List.countP_mono_left fun x _ hx => by simp only [decide_eq_true_eq] at *; omega
   rw [List.countP_cons, List.countP_cons]
   rcases List.mem_cons.1 hp with rfl | hp
   · have := key r
     simp [h]
     omega
   · have := ih hp
     by_cases h1 : x.id.count < p.id.count
     · have h2 : x.id.count < c.id.count := by omega
       simp [h1, h2]; omega
     · simp only [h1, decide_false, Bool.false_eq_true, if_false, Nat.add_zero]
       omega
theorem rank_len {pg : List Clause} {c : Clause} (hc : c ∈ pg) : rank pg c + 1 ≤ pg.length := by
 have h1 : pg.countP (fun x => decide (x.id.count < c.id.count)) ≤ pg.length := List.countP_le_length
 have h2 : pg.countP (fun x => decide (x.id.count < c.id.count)) ≠ pg.length := fun e => by
  have := List.countP_eq_length.1 e c hc
  simp at this
 unfold rank
 omega
theorem listF_rank {pg : List Clause} (h : PageOk pg) : ∀ (n : Nat) (c : Clause), c ∈ pg → rank pg c ≤ n → c ∈ listF pg (rank pg c + 1) noStamp
 | n, c, hc, hn => by
   rcases h.kin c hc with h0 | ⟨p, hp, hpc⟩
   · exact mem_listF.2 ⟨c, kids_mem.2 ⟨hc, h0⟩, Or.inl rfl⟩
   · have hlt : p.id.count < c.id.count := by rw [hpc]; exact (h.count hc).1
     have hr := rank_lt hp hlt
     cases n with
     | zero => omega
     | succ n =>
       have ih := listF_rank h n p hp (by omega)
       exact listF_mono (by omega) (listF_kid ih (kids_mem.2 ⟨hc, hpc.symm⟩))
theorem mem_listP {pg : List Clause} (h : PageOk pg) {c : Clause} : c ∈ listP pg ↔ c ∈ pg :=
 ⟨listF_sub, fun hc => listF_mono (rank_len hc) (listF_rank h _ c hc (Nat.le_refl _))⟩
theorem listF_count {pg : List Clause} (h : PageOk pg) : ∀ {f : Nat} {s : Stamp} {c : Clause}, c ∈ listF pg f s → s.count < c.id.count
 | 0, s, c, hc => by simp [listF] at hc
 | f + 1, s, c, hc => by
   obtain ⟨k, hk, hc⟩ := mem_listF.1 hc
   have hk' := kids_mem.1 hk
   have h1 := (h.count hk'.1).1
   rw [hk'.2] at h1
   rcases hc with rfl | hc
   · exact h1
   · have := listF_count h hc; omega
theorem listF_after {pg : List Clause} : ∀ {f : Nat} {s : Stamp} {c : Clause}, c ∈ listF pg f s → c.after = s ∨ ∃ p ∈ listF pg f s, p.id = c.after
 | 0, s, c, hc => by simp [listF] at hc
 | f + 1, s, c, hc => by
   obtain ⟨k, hk, hc⟩ := mem_listF.1 hc
   rcases hc with rfl | hc
   · exact Or.inl (kids_mem.1 hk).2
   · rcases listF_after hc with h | ⟨p, hp, h⟩
     · exact Or.inr ⟨k, mem_listF.2 ⟨k, hk, Or.inl rfl⟩, h.symm⟩
     · exact Or.inr ⟨p, mem_listF.2 ⟨k, hk, Or.inr hp⟩, h⟩
theorem listF_apart {pg : List Clause} (h : PageOk pg) {f : Nat} {s : Stamp} {k1 k2 : Clause} (hk1 : k1 ∈ kids pg s) (hk2 : k2 ∈ kids pg s) (hne : k1 ≠ k2) :
 ∀ (n : Nat) (c : Clause), c.id.count.toNat ≤ n → (c = k1 ∨ c ∈ listF pg f k1.id) → (c = k2 ∨ c ∈ listF pg f k2.id) → False
 | n, c, hn, h1, h2 => by
   have m1 := kids_mem.1 hk1
   have m2 := kids_mem.1 hk2
   have c1 := h.count m1.1
   have c2 := h.count m2.1
   rw [m1.2] at c1
   rw [m2.2] at c2
   have hself : ∀ {k k' : Clause}, k ∈ kids pg s → k' ∈ kids pg s → s.count < k'.id.count → k ∈ listF pg f k'.id → False := fun {k k'} hk hk' hlt hm => by
    rcases listF_after hm with e | ⟨p, hp, e⟩
    · rw [(kids_mem.1 hk).2] at e
      rw [e] at hlt
      omega
    · rw [(kids_mem.1 hk).2] at e
      have := listF_count h hp
      rw [e] at this
      omega
   rcases h1 with rfl | h1
   · rcases h2 with h2 | h2
     · exact hne h2
     · exact hself hk1 hk2 c2.1 h2
   · rcases h2 with rfl | h2
     · exact hself hk2 hk1 c1.1 h1
     · have hc := listF_sub h1
       have q1 : ∃ p, p.id = c.after ∧ (p = k1 ∨ p ∈ listF pg f k1.id) := by
        rcases listF_after h1 with e | ⟨p, hp, e⟩
        · exact ⟨k1, e.symm, Or.inl rfl⟩
        · exact ⟨p, e, Or.inr hp⟩
       have q2 : ∃ p, p.id = c.after ∧ (p = k2 ∨ p ∈ listF pg f k2.id) := by
        rcases listF_after h2 with e | ⟨p, hp, e⟩
        · exact ⟨k2, e.symm, Or.inl rfl⟩
        · exact ⟨p, e, Or.inr hp⟩
       obtain ⟨p1, e1, b1⟩ := q1
       obtain ⟨p2, e2, b2⟩ := q2
       have i1 : p1 ∈ pg := b1.elim (fun e => e ▸ m1.1) listF_sub
       have i2 : p2 ∈ pg := b2.elim (fun e => e ▸ m2.1) listF_sub
       have he : p1 = p2 := nodup_eq h.nodup i1 i2 (e1.trans e2.symm)
       subst he
       have hlt := h.count hc
       have hp := h.count i1
       rw [← e1] at hlt
       cases n with
       | zero => omega
       | succ n => exact listF_apart h hk1 hk2 hne n p1 (by omega) b1 b2
theorem sortB_nodup {l : List Clause} (h : l.Nodup) : (sortB later l).Nodup := (sortB_perm later l).nodup_iff.2 h
theorem nodup_of_ids {l : List Clause} (h : (l.map (·.id)).Nodup) : l.Nodup := by
 induction l with
 | nil => exact List.nodup_nil
 | cons x r ih =>
   simp only [List.map_cons, List.nodup_cons, List.mem_map, not_exists, not_and] at h
   exact List.nodup_cons.2 ⟨fun hx => h.1 x hx rfl, ih h.2⟩
theorem flat_nodups {β γ : Type} (f : β → List γ) : ∀ (l : List β), l.Nodup → (∀ k ∈ l, (f k).Nodup) → (∀ k1 ∈ l, ∀ k2 ∈ l, k1 ≠ k2 → ∀ c, c ∈ f k1 → c ∈ f k2 → False) → (l.flatMap f).Nodup
 | [], _, _, _ => by simp
 | a :: r, hn, h1, h2 => by
   obtain ⟨hn1, hn2⟩ := List.nodup_cons.1 hn
   rw [List.flatMap_cons]
   refine List.nodup_append.2 ⟨h1 a (by simp), flat_nodups f r hn2 (fun k hk => h1 k (by simp [hk])) (fun k1 e1 k2 e2 => h2 k1 (by simp [e1]) k2 (by simp [e2])), fun x hx y hy he => ?_⟩
   subst he
   obtain ⟨k, hk, hxk⟩ := List.mem_flatMap.1 hy
   exact h2 a (by simp) k (by simp [hk]) (fun e => hn1 (e ▸ hk)) x hx hxk
theorem listF_nodup {pg : List Clause} (h : PageOk pg) : ∀ (f : Nat) (s : Stamp), (listF pg f s).Nodup
 | 0, s => by simp [listF]
 | f + 1, s => by
   unfold listF
   refine flat_nodups _ _ (sortB_nodup ((nodup_of_ids h.nodup).filter _)) (fun k hk => ?_) (fun k1 e1 k2 e2 hne c h1 h2 => ?_)
   · refine List.nodup_cons.2 ⟨fun hm => ?_, listF_nodup h f k.id⟩
     have := listF_count h hm
     omega
   · exact listF_apart h (f := f) e1 e2 hne _ c (Nat.le_refl _) (List.mem_cons.1 h1) (List.mem_cons.1 h2)
theorem listP_perm {pg : List Clause} (h : PageOk pg) : (listP pg).Perm pg :=
 (List.perm_ext_iff_of_nodup (listF_nodup h _ _) (nodup_of_ids h.nodup)).2 fun c => mem_listP h
theorem listF_order {pg : List Clause} : ∀ (f : Nat) (s : Stamp) (u : List Clause) (c : Clause) (v : List Clause), listF pg f s = u ++ c :: v → c.after = s ∨ ∃ p ∈ u, p.id = c.after
 | 0, s, u, c, v, h => by simp [listF] at h
 | f + 1, s, u, c, v, h => by
   have key : ∀ (l : List Clause), (∀ k ∈ l, k.after = s) → ∀ (u v : List Clause), l.flatMap (fun c => c :: listF pg f c.id) = u ++ c :: v → c.after = s ∨ ∃ p ∈ u, p.id = c.after := by
    intro l
    induction l with
    | nil => intro _ u v h; simp at h
    | cons a r ih =>
      intro ha u v h
      rw [List.flatMap_cons] at h
      rcases List.append_eq_append_iff.1 h with ⟨x, hx1, hx2⟩ | ⟨x, hx1, hx2⟩
      · rcases ih (fun k hk => ha k (by simp [hk])) x v hx2 with e | ⟨p, hp, e⟩
        · exact Or.inl e
        · exact Or.inr ⟨p, by rw [hx1]; exact List.mem_append_right _ hp, e⟩
      · cases x with
        | nil =>
          simp only [List.append_nil, List.nil_append] at hx1 hx2
          rcases ih (fun k hk => ha k (by simp [hk])) [] v (by simpa using hx2.symm) with e | ⟨p, hp, e⟩
          · exact Or.inl e
          · cases hp
        | cons y z =>
          simp only [List.cons_append, List.cons.injEq] at hx2
          obtain ⟨rfl, hx2⟩ := hx2
          cases u with
          | nil =>
            simp only [List.nil_append, List.cons.injEq] at hx1
            obtain ⟨rfl, _⟩ := hx1
            exact Or.inl (ha a (by simp))
          | cons t u' =>
            simp only [List.cons_append, List.cons.injEq] at hx1
            obtain ⟨rfl, hx1⟩ := hx1
            rcases listF_order f a.id u' c z hx1 with e | ⟨p, hp, e⟩
            · exact Or.inr ⟨a, by simp, e.symm⟩
            · exact Or.inr ⟨p, by simp [hp], e⟩
   exact key (kids pg s) (fun k hk => (kids_mem.1 hk).2) u v h
structure PutsOk (T pg : List Clause) : Prop where
 ok : PageOk pg
 frm : ∀ c ∈ pg, ∃ x ∈ T, x.id = c.id ∧ x.after = c.after ∧ x.patch = c.patch
 to : ∀ x ∈ T, ∃ c ∈ pg, c.id = x.id ∧ c.after = x.after ∧ c.patch = x.patch
 gone : ∀ c ∈ pg, (c.gone = true ↔ ∃ x ∈ T, x.id = c.id ∧ x.gone = true)
theorem PutsOk.nil : PutsOk [] [] := ⟨⟨by simp, by simp, by simp⟩, by simp, by simp, by simp⟩
theorem proper_congr {a b : Clause} (h1 : a.id = b.id) (h2 : a.after = b.after) : a.proper = b.proper := by
 unfold Clause.proper; rw [h1, h2]
theorem putE_zero {pg : List Clause} {c : Clause} (h : putE pg c = 0) : c.proper = true ∧ ((∃ o, pget pg c.id = some o ∧ o.after = c.after ∧ o.patch = c.patch) ∨ (pget pg c.id = none ∧ (c.after = noStamp ∨ ∃ p ∈ pg, p.id = c.after))) := by
 unfold putE at h
 split at h
 · rename_i hp
   refine ⟨hp, ?_⟩
   split at h
   · rename_i o ho
     split at h
     · rename_i hc
       exact Or.inl ⟨o, ho, hc.1, patEq_iff.1 hc.2⟩
     · cases h
   · rename_i ho
     refine Or.inr ⟨ho, ?_⟩
     split at h
     · cases h
     · rename_i hc
       by_cases ha : c.after = noStamp
       · exact Or.inl ha
       · cases hg : pget pg c.after with
         | none => exact absurd ⟨ha, hg⟩ hc
         | some p => exact Or.inr ⟨p, (pget_mem hg).1, (pget_mem hg).2⟩
 · cases h
theorem put_step {T pg : List Clause} {c : Clause} (h : PutsOk T pg) (he : putE pg c = 0) : PutsOk (T ++ [c]) (putP pg c) := by
 obtain ⟨hp, hc⟩ := putE_zero he
 unfold putP
 rw [if_pos he]
 rcases hc with ⟨o, ho, ha, hpt⟩ | ⟨hno, hkin⟩
 · rw [ho]
   simp only [Option.isSome_some, if_true]
   obtain ⟨om, oid⟩ := pget_mem ho
   have hsome : ∀ x ∈ pg, ∃ y ∈ pset pg c, y.id = x.id ∧ y.after = x.after ∧ y.patch = x.patch := fun x hx => by
    refine ⟨if x.id = c.id then { x with gone := x.gone || c.gone } else x, List.mem_map.2 ⟨x, hx, rfl⟩, ?_⟩
    split <;> exact ⟨rfl, rfl, rfl⟩
   have hback : ∀ y ∈ pset pg c, ∃ x ∈ pg, x.id = y.id ∧ x.after = y.after ∧ x.patch = y.patch ∧ y.gone = (x.gone || (decide (x.id = c.id) && c.gone)) := fun y hy => by
    obtain ⟨x, hx, rfl⟩ := List.mem_map.1 hy
    refine ⟨x, hx, ?_⟩
    split
    · rename_i e; exact ⟨rfl, rfl, rfl, by simp [e]⟩
    · rename_i e; exact ⟨rfl, rfl, rfl, by simp [e]⟩
   refine ⟨⟨by rw [pset_ids]; exact h.ok.nodup, fun y hy => ?_, fun y hy => ?_⟩, fun y hy => ?_, fun x hx => ?_, fun y hy => ?_⟩
   · obtain ⟨x, hx, h1, h2, _⟩ := hback y hy
     rw [← proper_congr h1 h2]; exact h.ok.prop x hx
   · obtain ⟨x, hx, h1, h2, _⟩ := hback y hy
     rcases h.ok.kin x hx with e | ⟨p, hp, e⟩
     · exact Or.inl (h2.symm.trans e)
     · obtain ⟨q, hq, q1, _⟩ := hsome p hp
       exact Or.inr ⟨q, hq, by rw [q1, e, h2]⟩
   · obtain ⟨x, hx, h1, h2, h3, _⟩ := hback y hy
     obtain ⟨t, ht, t1, t2, t3⟩ := h.frm x hx
     exact ⟨t, List.mem_append_left _ ht, t1.trans h1, t2.trans h2, t3.trans h3⟩
   · rcases List.mem_append.1 hx with hx | hx
     · obtain ⟨c', hc', e1, e2, e3⟩ := h.to x hx
       obtain ⟨q, hq, q1, q2, q3⟩ := hsome c' hc'
       exact ⟨q, hq, q1.trans e1, q2.trans e2, q3.trans e3⟩
     · obtain rfl : x = c := by simpa using hx
       obtain ⟨q, hq, q1, q2, q3⟩ := hsome o om
       exact ⟨q, hq, q1.trans oid, q2.trans ha, q3.trans hpt⟩
   · obtain ⟨x, hx, h1, h2, h3, h4⟩ := hback y hy
     rw [h4]
     have hg := h.gone x hx
     simp only [Bool.or_eq_true, Bool.and_eq_true, decide_eq_true_eq, hg]
     constructor
     · rintro (⟨t, ht, t1, t2⟩ | ⟨e, g⟩)
       · exact ⟨t, List.mem_append_left _ ht, t1.trans h1, t2⟩
       · exact ⟨c, by simp, by rw [← h1, e], g⟩
     · rintro ⟨t, ht, t1, t2⟩
       rcases List.mem_append.1 ht with ht | ht
       · exact Or.inl ⟨t, ht, t1.trans h1.symm, t2⟩
       · obtain rfl : t = c := by simpa using ht
         exact Or.inr ⟨by rw [h1, ← t1], t2⟩
 · rw [hno]
   simp only [Option.isSome_none, Bool.false_eq_true, if_false]
   have hnot := pget_none.1 hno
   refine ⟨⟨?_, fun y hy => ?_, fun y hy => ?_⟩, fun y hy => ?_, fun x hx => ?_, fun y hy => ?_⟩
   · rw [List.map_append, List.nodup_append]
     refine ⟨h.ok.nodup, by simp, fun a ha b hb e => ?_⟩
     obtain ⟨x, hx, rfl⟩ := List.mem_map.1 ha
     have hb' : b = c.id := by simpa using hb
     exact hnot x hx (e.trans hb')
   · rcases List.mem_append.1 hy with hy | hy
     · exact h.ok.prop y hy
     · obtain rfl : y = c := by simpa using hy
       exact hp
   · rcases List.mem_append.1 hy with hy | hy
     · rcases h.ok.kin y hy with e | ⟨p, hp, e⟩
       · exact Or.inl e
       · exact Or.inr ⟨p, List.mem_append_left _ hp, e⟩
     · obtain rfl : y = c := by simpa using hy
       rcases hkin with e | ⟨p, hp, e⟩
       · exact Or.inl e
       · exact Or.inr ⟨p, List.mem_append_left _ hp, e⟩
   · rcases List.mem_append.1 hy with hy | hy
     · obtain ⟨t, ht, r⟩ := h.frm y hy
       exact ⟨t, List.mem_append_left _ ht, r⟩
     · obtain rfl : y = c := by simpa using hy
       exact ⟨y, by simp, rfl, rfl, rfl⟩
   · rcases List.mem_append.1 hx with hx | hx
     · obtain ⟨t, ht, r⟩ := h.to x hx
       exact ⟨t, List.mem_append_left _ ht, r⟩
     · obtain rfl : x = c := by simpa using hx
       exact ⟨x, by simp, rfl, rfl, rfl⟩
   · have hnt : ∀ t ∈ T, t.id ≠ c.id := fun t ht e => by
       obtain ⟨q, hq, q1, _⟩ := h.to t ht
       exact hnot q hq (q1.trans e)
     rcases List.mem_append.1 hy with hy1 | hy1
     · rw [h.gone y hy1]
       constructor
       · rintro ⟨t, ht, r⟩; exact ⟨t, List.mem_append_left _ ht, r⟩
       · rintro ⟨t, ht, t1, t2⟩
         rcases List.mem_append.1 ht with ht | ht
         · exact ⟨t, ht, t1, t2⟩
         · obtain rfl : t = c := by simpa using ht
           exact absurd t1.symm (hnot y hy1)
     · obtain rfl : y = c := by simpa using hy1
       constructor
       · intro g; exact ⟨y, by simp, rfl, g⟩
       · rintro ⟨t, ht, t1, t2⟩
         rcases List.mem_append.1 ht with ht | ht
         · exact absurd t1 (hnt t ht)
         · obtain rfl : t = y := by simpa using ht
           exact t2
theorem putAll_ok : ∀ (r pg T : List Clause), PutsOk T pg → (putAll pg r).2 = 0 → PutsOk (T ++ r) (putAll pg r).1
 | [], pg, T, h, _ => by simpa [putAll] using h
 | c :: r, pg, T, h, he => by
   unfold putAll at he ⊢
   split at he
   · rename_i hc
     rw [if_pos hc]
     have := putAll_ok r (putP pg c) (T ++ [c]) (put_step h hc) he
     simpa using this
   · rename_i hc
     exact absurd he hc

theorem pset_same {pg Q : List Clause} (hQ : (Q.map (·.id)).Nodup) (hs : ∀ c ∈ pg, c ∈ Q) {c : Clause} (hc : c ∈ Q) : pset pg c = pg := by
 unfold pset
 conv => rhs; rw [← List.map_id pg]
 refine List.map_congr_left fun x hx => ?_
 split
 · rename_i e
   have := nodup_eq hQ (hs x hx) hc e
   subst this
   simp
 · rfl
theorem openN_le (pg : List Clause) : openN pg ≤ pg.length := List.countP_le_length
theorem put_page {pg Q : List Clause} (hQ : PageOk Q) (hs : ∀ c ∈ pg, c ∈ Q) {c : Clause} (hc : c ∈ Q) (hk : c.after = noStamp ∨ ∃ p ∈ pg, p.id = c.after) (hn : pg.length < 64) :
 putE pg c = 0 ∧ ((putP pg c = pg ∧ c ∈ pg) ∨ putP pg c = pg ++ [c]) := by
 have hp := hQ.prop c hc
 cases hg : pget pg c.id with
 | some o =>
   obtain ⟨om, oid⟩ := pget_mem hg
   have := nodup_eq hQ.nodup (hs o om) hc oid
   subst this
   have he : putE pg o = 0 := by
    unfold putE
    rw [if_pos hp, hg]
    simp [patEq_iff]
   refine ⟨he, Or.inl ⟨?_, om⟩⟩
   unfold putP
   rw [if_pos he, hg]
   simp only [Option.isSome_some, if_true]
   exact pset_same hQ.nodup hs hc
 | none =>
   have he : putE pg c = 0 := by
    unfold putE
    rw [if_pos hp, hg]
    have h1 : ¬ (c.after ≠ noStamp ∧ pget pg c.after = none) := by
     rintro ⟨a1, a2⟩
     rcases hk with e | ⟨p, hp, e⟩
     · exact a1 e
     · exact pget_none.1 a2 p hp e
    have h2 : ¬ (c.gone = false ∧ 64 ≤ openN pg) := by
     rintro ⟨_, a2⟩
     have := openN_le pg
     omega
    simp only [if_neg h1, if_neg h2]
   refine ⟨he, Or.inr ?_⟩
   unfold putP
   rw [if_pos he, hg]
   simp
theorem putAll_page {Q : List Clause} (hQ : PageOk Q) : ∀ (r pg : List Clause), (∀ c ∈ pg, c ∈ Q) → (∀ c ∈ r, c ∈ Q) → pg.length + r.length ≤ 64 →
 (∀ u c v, r = u ++ c :: v → c.after = noStamp ∨ ∃ p ∈ pg ++ u, p.id = c.after) →
 (putAll pg r).2 = 0 ∧ (∀ c ∈ (putAll pg r).1, c ∈ Q) ∧ (∀ c, c ∈ pg ∨ c ∈ r → c ∈ (putAll pg r).1)
 | [], pg, hs, _, _, _ => by simpa [putAll] using hs
 | c :: r, pg, hs, hr, hn, hk => by
   simp only [List.length_cons] at hn
   obtain ⟨he, hl⟩ := put_page hQ hs (hr c (by simp)) (by simpa using hk [] c r rfl) (by omega)
   unfold putAll
   rw [if_pos he]
   have sub : ∀ x ∈ putP pg c, x ∈ Q := fun x hx => by
    rcases hl with ⟨e, _⟩ | e
    · rw [e] at hx; exact hs x hx
    · rw [e] at hx
      rcases List.mem_append.1 hx with hx | hx
      · exact hs x hx
      · obtain rfl : x = c := by simpa using hx
        exact hr x (by simp)
   have sup : ∀ x, x ∈ pg ∨ x = c → x ∈ putP pg c := fun x hx => by
    rcases hl with ⟨e, hm⟩ | e
    · rw [e]; rcases hx with hx | rfl
      · exact hx
      · exact hm
    · rw [e]; rcases hx with hx | rfl <;> simp [*]
   have len : (putP pg c).length ≤ pg.length + 1 := by
    rcases hl with ⟨e, _⟩ | e <;> rw [e] <;> simp
   obtain ⟨h1, h2, h3⟩ := putAll_page hQ r (putP pg c) sub (fun x hx => hr x (by simp [hx])) (by omega) (fun u x v e => by
    rcases hk (c :: u) x v (by rw [e]; rfl) with h | ⟨p, hp, h⟩
    · exact Or.inl h
    · refine Or.inr ⟨p, ?_, h⟩
      rcases List.mem_append.1 hp with hp | hp
      · exact List.mem_append_left _ (sup p (Or.inl hp))
      · rcases List.mem_cons.1 hp with rfl | hp
        · exact List.mem_append_left _ (sup p (Or.inr rfl))
        · exact List.mem_append_right _ hp)
   refine ⟨h1, h2, fun x hx => h3 x ?_⟩
   rcases hx with hx | hx
   · exact Or.inl (sup x (Or.inl hx))
   · rcases List.mem_cons.1 hx with rfl | hx
     · exact Or.inl (sup x (Or.inr rfl))
     · exact Or.inr hx

def seat (n : Int) : Bool := decide (0 ≤ n) && decide (n < 100)
def seatsB (l : List Clause) : Bool := l.all fun c => seat c.id.seat && (decide (c.after = noStamp) || seat c.after.seat)
def Stamp.move (s : Stamp) : Stamp := ⟨s.seat + 100, s.count⟩
def Clause.moved (c : Clause) : Clause := { c with id := c.id.move, after := if c.after = noStamp then noStamp else c.after.move }
def joinS (a b : List Clause) : List Clause := sortB sooner (a ++ b.map Clause.moved)
def joinF (a b : List Clause) : List Clause × Int :=
 if seatsB a && seatsB b then (if (putAll [] (joinS a b)).2 = 0 then (listP (putAll [] (joinS a b)).1, 0) else ([], (putAll [] (joinS a b)).2)) else ([], 1)
theorem join_page {Q S : List Clause} (hQ : PageOk Q) (hS : Asc sooner S) (h1 : ∀ c ∈ S, c ∈ Q) (h2 : ∀ c ∈ Q, c ∈ S) (hn : S.length ≤ 64) : (putAll [] S).2 = 0 ∧ listP (putAll [] S).1 = listP Q := by
 obtain ⟨a1, a2, a3⟩ := putAll_page hQ S [] (by simp) h1 (by simpa using hn) (fun u c v e => by
  rcases hQ.kin c (h1 c (by rw [e]; simp)) with h | ⟨p, hp, h⟩
  · exact Or.inl h
  · refine Or.inr ⟨p, ?_, h⟩
    have hlt := (hQ.count (h1 c (by rw [e]; simp))).1
    rw [← h] at hlt
    have hps := h2 p hp
    rw [e] at hps
    simp only [List.nil_append]
    rcases List.mem_append.1 hps with hps | hps
    · exact hps
    · rcases List.mem_cons.1 hps with rfl | hps
      · omega
      · unfold Asc at hS
        rw [e, List.pairwise_append] at hS
        have := (List.pairwise_cons.1 hS.2.1).1 p hps
        unfold sooner at this
        simp only [Bool.or_eq_false_iff, decide_eq_false_iff_not] at this
        omega)
 have ok := (putAll_ok S [] [] PutsOk.nil a1).ok
 refine ⟨a1, listP_perm_eq ?_ ok.nodup⟩
 exact (List.perm_ext_iff_of_nodup (nodup_of_ids ok.nodup) (nodup_of_ids hQ.nodup)).2 fun c => ⟨a2 c, fun hc => a3 c (Or.inr (h2 c hc))⟩
theorem join_alone {Q : List Clause} (hQ : PageOk Q) (hs : seatsB Q = true) (hn : Q.length ≤ 32) : joinF (listP Q) [] = (listP Q, 0) ∧ joinF (listP Q ++ listP Q) [] = (listP Q, 0) := by
 have hp := listP_perm hQ
 have hm : ∀ c, c ∈ listP Q ↔ c ∈ Q := fun c => hp.mem_iff
 have hs' : seatsB (listP Q) = true := by
  unfold seatsB at *
  rw [List.all_eq_true] at *
  exact fun c hc => hs c ((hm c).1 hc)
 have hl : (listP Q).length = Q.length := hp.length_eq
 constructor
 · obtain ⟨h1, h2⟩ := join_page (S := joinS (listP Q) []) hQ (sortB_asc sooner_asymm sooner_ntrans _) (fun c hc => (hm c).1 (by have := (sortB_perm _ _).mem_iff.1 hc; simpa using this)) (fun c hc => (sortB_perm _ _).mem_iff.2 (by simpa using (hm c).2 hc)) (by
     have := (sortB_perm sooner (listP Q ++ [].map Clause.moved)).length_eq
     unfold joinS
     rw [this]; simp; omega)
   unfold joinF
   rw [hs', h1, h2]
   simp [seatsB]
 · obtain ⟨h1, h2⟩ := join_page (S := joinS (listP Q ++ listP Q) []) hQ (sortB_asc sooner_asymm sooner_ntrans _) (fun c hc => (hm c).1 (by have := (sortB_perm _ _).mem_iff.1 hc; simpa using this)) (fun c hc => (sortB_perm _ _).mem_iff.2 (by simpa using (hm c).2 hc)) (by
     have := (sortB_perm sooner ((listP Q ++ listP Q) ++ [].map Clause.moved)).length_eq
     unfold joinS
     rw [this]; simp; omega)
   have hss : seatsB (listP Q ++ listP Q) = true := by
    unfold seatsB at *
    rw [List.all_append, hs']
    rfl
   unfold joinF
   rw [hss, h1, h2]
   simp [seatsB]
theorem join_order {a b a' b' : List Clause} (ha : a.Perm a') (hb : b.Perm b') (na : (a.map (·.id)).Nodup) (nb : (b.map (·.id)).Nodup) : joinF a b = joinF a' b' := by
 have sa : ∀ {l l' : List Clause}, l.Perm l' → seatsB l = seatsB l' := fun {l l'} h => by
  unfold seatsB
  rw [Bool.eq_iff_iff, List.all_eq_true, List.all_eq_true]
  exact ⟨fun H c hc => H c (h.mem_iff.2 hc), fun H c hc => H c (h.mem_iff.1 hc)⟩
 unfold joinF
 rw [sa ha, sa hb]
 cases h1 : seatsB a' with
 | false => simp
 | true =>
   cases h2 : seatsB b' with
   | false => simp
   | true =>
     have e : joinS a b = joinS a' b' := by
      have hp : (a ++ b.map Clause.moved).Perm (a' ++ b'.map Clause.moved) := ha.append (hb.map _)
      refine asc_unique _ _ ((sortB_perm _ _).trans (hp.trans (sortB_perm _ _).symm)) (sortB_asc sooner_asymm sooner_ntrans _) (sortB_asc sooner_asymm sooner_ntrans _) fun x hx y hy l1 l2 => ?_
      have hid := sooner_eq x y l1 l2
      have hx' := (sortB_perm _ _).mem_iff.1 hx
      have hy' := (sortB_perm _ _).mem_iff.1 hy
      have seat_a : ∀ c ∈ a, 0 ≤ c.id.seat ∧ c.id.seat < 100 := fun c hc => by
       have := List.all_eq_true.1 (show seatsB a = true from (sa ha).trans h1) c hc
       unfold seat at this
       simp only [Bool.and_eq_true, decide_eq_true_eq] at this
       exact this.1
      have seat_b : ∀ c ∈ b, 0 ≤ c.id.seat ∧ c.id.seat < 100 := fun c hc => by
       have := List.all_eq_true.1 (show seatsB b = true from (sa hb).trans h2) c hc
       unfold seat at this
       simp only [Bool.and_eq_true, decide_eq_true_eq] at this
       exact this.1
      rcases List.mem_append.1 hx' with hx' | hx'
      · rcases List.mem_append.1 hy' with hy' | hy'
        · exact nodup_eq na hx' hy' hid
        · obtain ⟨z, hz, rfl⟩ := List.mem_map.1 hy'
          have h3 := seat_a x hx'
          have h4 := seat_b z hz
          rw [hid] at h3
          simp only [Clause.moved, Stamp.move] at h3
          omega
      · obtain ⟨z, hz, rfl⟩ := List.mem_map.1 hx'
        rcases List.mem_append.1 hy' with hy' | hy'
        · have h3 := seat_a y hy'
          have h4 := seat_b z hz
          rw [← hid] at h3
          simp only [Clause.moved, Stamp.move] at h3
          omega
        · obtain ⟨t, ht, rfl⟩ := List.mem_map.1 hy'
          have : z.id = t.id := by
           simp only [Clause.moved, Stamp.move, Stamp.mk.injEq] at hid
           cases hzi : z.id; cases hti : t.id
           simp only [hzi, hti] at hid
           simp only [Stamp.mk.injEq]
           omega
          rw [nodup_eq nb hz ht this]
     rw [e]
theorem count_one {l : List Clause} (h : (l.map (·.id)).Nodup) {c : Clause} (hc : c ∈ l) : l.countP (fun x => decide (x.id = c.id)) = 1 := by
 induction l with
 | nil => cases hc
 | cons a r ih =>
   simp only [List.map_cons, List.nodup_cons, List.mem_map, not_exists, not_and] at h
   rw [List.countP_cons]
   rcases List.mem_cons.1 hc with rfl | hc1
   · have : r.countP (fun x => decide (x.id = c.id)) = 0 := List.countP_eq_zero.2 fun x hx => by simpa using h.1 x hx
     simp [this]
   · have : a.id ≠ c.id := fun e => h.1 c hc1 e.symm
     simp [ih h.2 hc1, this]
theorem join_holds {a b l : List Clause} (h : joinF a b = (l, 0)) :
 (∀ x ∈ a ++ b.map Clause.moved, l.countP (fun c => decide (c.id = x.id)) = 1 ∧ ∀ c ∈ l, c.id = x.id → c.after = x.after ∧ c.patch = x.patch ∧ (x.gone = true → c.gone = true)) ∧
 (∀ u c v, l = u ++ c :: v → (∃ x ∈ a ++ b.map Clause.moved, x.id = c.id) ∧ (c.after = noStamp ∨ ∃ p ∈ u, p.id = c.after) ∧ (c.gone = true ↔ ∃ x ∈ a ++ b.map Clause.moved, x.id = c.id ∧ x.gone = true)) := by
 unfold joinF at h
 split at h
 · split at h
   · rename_i hs he
     have P := putAll_ok (joinS a b) [] [] PutsOk.nil he
     rw [List.nil_append] at P
     obtain ⟨pg, hpg⟩ : ∃ pg, pg = (putAll [] (joinS a b)).1 := ⟨_, rfl⟩
     rw [← hpg] at P h
     simp only [Prod.mk.injEq] at h
     obtain ⟨rfl, _⟩ := h
     have hm : ∀ x, x ∈ joinS a b ↔ x ∈ a ++ b.map Clause.moved := fun x => (sortB_perm _ _).mem_iff
     have hp := listP_perm P.ok
     have hn : ((listP pg).map (·.id)).Nodup := ((hp.map _).nodup_iff).2 P.ok.nodup
     refine ⟨fun x hx => ?_, fun u c v e => ?_⟩
     · obtain ⟨c, hc, c1, c2, c3⟩ := P.to x ((hm x).2 hx)
       refine ⟨?_, fun c' hc' e => ?_⟩
       · rw [← c1]; exact count_one hn (hp.mem_iff.2 hc)
       · have : c' = c := nodup_eq P.ok.nodup (hp.mem_iff.1 hc') hc (e.trans c1.symm)
         subst this
         exact ⟨c2, c3, fun g => (P.gone c' hc).2 ⟨x, (hm x).2 hx, e.symm, g⟩⟩
     · have hc : c ∈ pg := hp.mem_iff.1 (by rw [e]; simp)
       obtain ⟨x, hx, x1, _⟩ := P.frm c hc
       refine ⟨⟨x, (hm x).1 hx, x1⟩, ?_, ?_⟩
       · exact listF_order _ _ u c v e
       · rw [P.gone c hc]
         exact ⟨fun ⟨t, ht, r⟩ => ⟨t, (hm t).1 ht, r⟩, fun ⟨t, ht, r⟩ => ⟨t, (hm t).2 ht, r⟩⟩
   · rename_i he
     simp only [Prod.mk.injEq] at h
     exact absurd h.2 he
 · simp at h
theorem putL_err {pg : List Clause} {c : Clause} (h : putE pg c ≠ 0) : putP pg c = pg := by unfold putP; rw [if_neg h]
theorem putSome_ok : ∀ (l pg T : List Clause), PutsOk T pg → (∃ T', PutsOk T' (putSome pg l) ∧ ∀ x ∈ T', x ∈ T ∨ x ∈ l) ∧ (putSome pg l).length ≤ pg.length + l.length
 | [], pg, T, h => ⟨⟨T, h, fun x hx => Or.inl hx⟩, by simp [putSome]⟩
 | c :: r, pg, T, h => by
   have e : putSome pg (c :: r) = putSome (putP pg c) r := rfl
   rw [e]
   by_cases hc : putE pg c = 0
   · obtain ⟨⟨T', h1, h2⟩, h3⟩ := putSome_ok r (putP pg c) (T ++ [c]) (put_step h hc)
     refine ⟨⟨T', h1, fun x hx => ?_⟩, ?_⟩
     · rcases h2 x hx with h | h
       · rcases List.mem_append.1 h with h | h
         · exact Or.inl h
         · obtain rfl : x = c := by simpa using h
           exact Or.inr (by simp)
       · exact Or.inr (by simp [h])
     · have : (putP pg c).length ≤ pg.length + 1 := by
         unfold putP
         rw [if_pos hc]
         split
         · simp [pset]
         · simp
       simp only [List.length_cons]
       omega
   · rw [putL_err hc]
     obtain ⟨⟨T', h1, h2⟩, h3⟩ := putSome_ok r pg T h
     refine ⟨⟨T', h1, fun x hx => (h2 x hx).imp id fun h => by simp [h]⟩, ?_⟩
     simp only [List.length_cons]
     omega
theorem some_page {l : List Clause} (hs : seatsB l = true) (hn : l.length ≤ 32) : PageOk (putSome [] l) ∧ seatsB (putSome [] l) = true ∧ (putSome [] l).length ≤ 32 := by
 obtain ⟨⟨T, h1, h2⟩, h3⟩ := putSome_ok l [] [] PutsOk.nil
 refine ⟨h1.ok, ?_, by simpa using Nat.le_trans h3 (by simpa using hn)⟩
 unfold seatsB at *
 rw [List.all_eq_true] at *
 intro c hc
 obtain ⟨x, hx, x1, x2, _⟩ := h1.frm c hc
 rw [← x1, ← x2]
 exact hs x ((h2 x hx).elim (fun h => by cases h) id)
theorem some_alone {l : List Clause} (hs : seatsB l = true) (hn : l.length ≤ 32) : joinF (listP (putSome [] l)) [] = (listP (putSome [] l), 0) ∧ joinF (listP (putSome [] l) ++ listP (putSome [] l)) [] = (listP (putSome [] l), 0) := by
 obtain ⟨h1, h2, h3⟩ := some_page hs hn
 exact join_alone h1 h2 h3
end Go.Proofs.YtecnlfaholmpoaaGreat
