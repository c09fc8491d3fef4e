/- What the second language's parser reads can be written. Texts put together bit by bit; their tokens counted: plain words. -/
import Derived.Test.YtbicmjmcdnkjhaaGreatDoorJP11
set_option linter.unusedVariables false
set_option linter.unusedSimpArgs false
namespace Go.Proofs.YtbicmjmcdnkjhaaGreatDoor
namespace So
def AllT (l : List Tok) : Prop := ∀ t ∈ l, TokOk t
theorem AllT.tail {l : List Tok} (h : AllT l) : AllT l.tail := fun t ht => h t (List.mem_of_mem_tail ht)
def G {α : Type} (V : α → Prop) (P : List Tok → R α) : Prop := ∀ l x r, AllT l → P l = .ok (x, r) → V x ∧ AllT r
theorem G.pure {α : Type} {V : α → Prop} {x : α} (h : V x) : G V (fun l => .ok (x, l)) := fun l y r hl hp => by cases hp; exact ⟨h, hl⟩
theorem G.fail {α : Type} {V : α → Prop} : G V (fun l => (failR l : R α)) := fun l y r hl hp => by cases hp
theorem G.bind {α β : Type} {V : α → Prop} {U : β → Prop} {P : List Tok → R α} {Q : α → List Tok → R β} (hP : G V P) (hQ : ∀ x, V x → G U (Q x)) : G U (fun l => bindR (P l) Q) := by
  intro l y r hl hp
  cases hq : P l with
  | error e => simp only [hq, bindR] at hp; cases hp
  | ok v =>
    obtain ⟨x, r1⟩ := v
    simp only [hq, bindR] at hp
    obtain ⟨h1, h2⟩ := hP l x r1 hl hq
    exact hQ x h1 r1 y r h2 hp
theorem G.is {α : Type} {V : α → Prop} {w : List UInt8} {yes : List Tok → List Tok → R α} {no : List Tok → R α} (hy : ∀ a, G V (yes a)) (hn : G V no) : G V (fun l => isF w l (yes l) no) := by
  intro l y r hl hp
  simp only [isF] at hp
  split at hp
  · exact hy l l.tail y r hl.tail hp
  · exact hn l y r hl hp
theorem G.guard {α : Type} {V : α → Prop} {e : Nat} {P : List Tok → R α} (h : e = 0 → G V P) : ∀ a, G V (fun l => guardR a e (P l)) := by
  intro a l y r hl hp
  simp only [guardR] at hp
  split at hp
  · rename_i h0; exact h h0 l y r hl hp
  · cases hp
theorem G.must {w : List UInt8} : G (fun _ => True) (mustF w) := G.is (fun _ => G.pure trivial) G.fail
theorem G.name : G (fun s => nameOk s = true) nameF := by
  intro l x r hl hp
  cases l with
  | nil => cases hp
  | cons t r0 =>
    simp only [nameF] at hp
    split at hp
    · rename_i hk
      cases hp
      refine ⟨?_, fun x hx => hl x (by simp [hx])⟩
      simp at hk
      obtain ⟨c, r', e, _, _, h3⟩ := hl t (by simp)
      unfold nameOk
      rw [hk.2]
      have : (coreW t.text).1 = 1 := by
        rw [e]
        unfold coreW
        simp only [h3, if_true]
        exact hk.1
      rw [this]
      rfl
    · cases hp
theorem G.number : G (fun _ => True) numberF := by
  intro l x r hl hp
  cases l with
  | nil => cases hp
  | cons t r0 =>
    simp only [numberF] at hp
    split at hp
    · cases hp; exact ⟨trivial, fun x hx => hl x (by simp [hx])⟩
    · cases hp
theorem G.limit (most : Nat) : G (fun n => n ≤ most) (limitF most) := by
  intro l y r hl hp
  unfold limitF at hp
  cases hq : numberF l with
  | error e => simp only [hq, bindR] at hp; cases hp
  | ok v =>
    obtain ⟨x, r1⟩ := v
    simp only [hq, bindR] at hp
    split at hp
    · cases hp
    · cases hp
      exact ⟨by omega, (G.number l _ _ hl hq).2⟩
theorem G.choose (ws : List (List UInt8)) : G (fun i => i < ws.length) (chooseF ws) := by
  intro l x r hl hp
  cases l with
  | nil => cases hp
  | cons t r0 =>
    simp only [chooseF] at hp
    split at hp
    · split at hp
      · rename_i j hj
        cases hp
        unfold List.idxOf? at hj
        rw [List.findIdx?_eq_some_iff_getElem] at hj
        exact ⟨hj.1, fun x hx => hl x (by simp [hx])⟩
      · cases hp
    · cases hp
/- the stack -/
structure St (ok : Tree → Bool) (n : Nat) (st : Stack) : Prop where
  all : ∀ x ∈ st, ok x.1 = true ∧ x.1.deep = x.2 ∧ x.2 ≤ 20
  size : sizes (st.map (·.1)) ≤ n
theorem sizes_app : ∀ (a b : List Tree), sizes (a ++ b) = sizes a + sizes b
  | [], b => by simp [sizes]
  | x :: a, b => by rw [List.cons_append, sizes, sizes, sizes_app a b]; omega
theorem foldl_deep : ∀ (st : Stack) (d : Nat), (∀ x ∈ st, x.1.deep = x.2) → st.foldl (fun d x => max d (x.2 + 1)) d = max d (if st = [] then 0 else deeps (st.map (·.1)) + 1)
  | [], d, _ => by simp
  | x :: r, d, h => by
    rw [List.foldl_cons, foldl_deep r _ (fun y hy => h y (by simp [hy])), List.map_cons]
    simp only [deeps, h x (by simp)]
    cases r with
    | nil => simp [deeps]
    | cons y r => simp <;> omega
theorem deepK_eq {st : Stack} (h : ∀ x ∈ st, x.1.deep = x.2) : deepK st = deeps (st.map (·.1)) + 1 := by
  unfold deepK
  rw [foldl_deep st 1 h]
  cases st with
  | nil => simp [deeps]
  | cons x r => simp
theorem St.snoc {ok : Tree → Bool} {n m : Nat} {st : Stack} {t : Tree} {d : Nat} (h : St ok n st) (h1 : ok t = true) (h2 : t.deep = d) (h3 : d ≤ 20) (h4 : t.size + n ≤ m) : St ok m (st ++ [(t, d)]) := by
  refine ⟨fun y hy => ?_, ?_⟩
  · simp at hy
    rcases hy with hy | rfl
    · exact h.all y hy
    · exact ⟨h1, h2, h3⟩
  · rw [List.map_append, sizes_app]
    have := h.size
    simp only [List.map_cons, List.map_nil, sizes]
    omega
theorem G.combine {ok : Tree → Bool} {n op k : Nat} {st : Stack} (hs : St ok n st) (hk : ∀ l : List Tree, (∀ t ∈ l, ok t = true) → l.length = k → ok (.mk op [] 0 0 l) = true) (a : List Tok) : G (St ok (n + 1)) (combineF op k a st) := by
  intro r y r' hr hp
  unfold combineF at hp
  split at hp
  · cases hp
  split at hp
  · cases hp
  · rename_i h1 h2
    cases hp
    refine ⟨?_, hr⟩
    have hd : ∀ x ∈ st.drop (st.length - k), ok x.1 = true ∧ x.1.deep = x.2 ∧ x.2 ≤ 20 := fun x hx => hs.all x (List.mem_of_mem_drop hx)
    have hz : sizes ((st.take (st.length - k)).map (·.1)) + sizes ((st.drop (st.length - k)).map (·.1)) ≤ n := by
      rw [← sizes_app, ← List.map_append, List.take_append_drop]
      exact hs.size
    have ht : St ok (sizes ((st.take (st.length - k)).map (·.1))) (st.take (st.length - k)) := ⟨fun x hx => hs.all x (List.mem_of_mem_take hx), Nat.le_refl _⟩
    refine ht.snoc (hk _ (fun t ht => ?_) (by simp; omega)) ?_ (by omega) ?_
    · obtain ⟨x, hx, rfl⟩ := List.mem_map.1 ht
      exact (hd x hx).1
    · rw [deepK_eq fun x hx => (hd x hx).2.1, Tree.deep]
    · rw [Tree.size]; omega
theorem G.group {ok : Tree → Bool} {n op : Nat} {st : Stack} (hs : St ok n st) (hk : ∀ l : List Tree, (∀ t ∈ l, ok t = true) → 2 ≤ l.length → ok (.mk op [] 0 0 l) = true) (a : List Tok) : G (St ok (n + 1)) (groupF op a st) := by
  unfold groupF
  refine G.bind G.number fun k _ => ?_
  intro l y r hl hp
  simp only at hp
  split at hp
  · cases hp
  · exact G.combine hs (fun l h1 h2 => hk l h1 (by omega)) a l y r hl hp
theorem G.push {ok : Tree → Bool} {n op c v : Nat} {nm : List UInt8} {st : Stack} (hs : St ok n st) (h : ok (.mk op nm c v []) = true) : G (St ok (n + 1)) (pushF st (.mk op nm c v [])) := by
  unfold pushF
  exact G.pure (hs.snoc h (by simp [Tree.deep, deeps]) (by omega) (by simp [Tree.size, sizes]; omega))
theorem okFs_of : ∀ {l : List Tree}, (∀ t ∈ l, okF t = true) → okFs l = true
  | [], _ => by rw [okFs]
  | t :: r, h => by rw [okFs, h t (by simp), okFs_of fun x hx => h x (by simp [hx])]; rfl
theorem okSs_of : ∀ {l : List Tree}, (∀ t ∈ l, okS t = true) → okSs l = true
  | [], _ => by rw [okSs]
  | t :: r, h => by rw [okSs, h t (by simp), okSs_of fun x hx => h x (by simp [hx])]; rfl
theorem manyF {op : Nat} (ho : op = 6 ∨ op = 7) (l : List Tree) (h : ∀ t ∈ l, okF t = true) (h2 : 2 ≤ l.length) : okF (.mk op [] 0 0 l) = true := by
  rw [okF, okFs_of h]
  rcases ho with rfl | rfl <;> simp [h2]
theorem manyS {op : Nat} (ho : op = 8 ∨ op = 9) (l : List Tree) (h : ∀ t ∈ l, okS t = true) (h2 : 2 ≤ l.length) : okS (.mk op [] 0 0 l) = true := by
  rw [okS, okSs_of h]
  rcases ho with rfl | rfl <;> simp [h2]
theorem G.item {n : Nat} {st : Stack} (hs : St okF n st) : G (St okF (n + 1)) (itemF st) := by
  unfold itemF
  refine G.is (fun _ => G.push hs (by rw [okF, okFs]; simp)) ?_
  refine G.is (fun _ => G.push hs (by rw [okF, okFs]; simp)) ?_
  refine G.is (fun a => G.combine hs (fun l h1 h2 => by rw [okF, okFs_of h1]; simp [h2]) a) ?_
  refine G.is (fun a => G.group hs (manyF (Or.inl rfl)) a) ?_
  refine G.is (fun a => G.group hs (manyF (Or.inr rfl)) a) ?_
  refine G.bind G.name fun s hg => ?_
  refine G.is (fun _ => G.push hs (by rw [okF, okFs]; simp [hg])) ?_
  unfold testF
  exact G.bind (G.limit _) fun v hv => G.bind (G.choose _) fun c hc => G.push hs (by simp at hc; rw [okF, okFs]; simp [hg, hv]; omega)
theorem G.sitem {n : Nat} {st : Stack} (hs : St okS n st) : G (St okS (n + 1)) (sitemF st) := by
  unfold sitemF
  refine G.is (fun _ => G.push hs (by rw [okS, okSs]; simp)) ?_
  refine G.is (fun _ => G.push hs (by rw [okS, okSs]; simp)) ?_
  refine G.is (fun a => G.group hs (manyS (Or.inl rfl)) a) ?_
  refine G.is (fun a => G.group hs (manyS (Or.inr rfl)) a) ?_
  intro l y r hl hp
  simp only at hp
  split at hp
  · exact (G.bind (G.limit _) fun v hv => G.bind G.must fun _ _ => G.push hs (by rw [okS, okSs]; simp [hv])) l y r hl hp
  · exact (G.bind G.name fun s hg => G.bind (G.choose _) fun c hc => G.push hs (by
      have hk : c < 4 := by simpa using hc
      rw [okS, okSs, if_pos (show 4 + c = 4 ∨ 4 + c = 5 ∨ 4 + c = 6 ∨ 4 + c = 7 by omega), if_neg (show ¬ 4 + c = 3 by omega), if_neg (show ¬ (4 + c = 8 ∨ 4 + c = 9) by omega), if_pos (show 1 ≤ 4 + c ∧ 4 + c ≤ 7 by omega), hg]
      simp)) l y r hl hp
theorem G.loop {ok : Tree → Bool} {begins : List Tok → Bool} {item : Stack → List Tok → R Stack} (hi : ∀ n st, St ok n st → G (St ok (n + 1)) (item st)) : ∀ (f n : Nat) (st : Stack), St ok n st → n + f ≤ 201 → G (St ok 200) (loopF begins item f st)
  | 0, n, st, _, _ => fun l x r _ hp => by cases hp
  | f + 1, n, st, hs, hn => by
    intro l y r hl hp
    unfold loopF at hp
    split at hp
    · cases hp; exact ⟨⟨hs.all, by have := hs.size; omega⟩, hl⟩
    split at hp
    · split at hp
      · cases hp
      · exact (G.bind (hi n st hs) fun s2 h2 => G.loop hi f (n + 1) s2 h2 (by omega)) l y r hl hp
    · cases hp
theorem G.braces {ok : Tree → Bool} {begins : List Tok → Bool} {item : Stack → List Tok → R Stack} (hi : ∀ n st, St ok n st → G (St ok (n + 1)) (item st)) : G (fun t => ok t = true ∧ small t = true) (bracesF begins item) := by
  unfold bracesF
  refine G.bind G.must fun _ _ => G.bind (G.loop hi 201 0 [] ⟨by simp, by simp [sizes]⟩ (by omega)) fun st hs => ?_
  intro l y r hl hp
  match st, hp, hs with
  | [], hp, _ => cases hp
  | [x], hp, hs =>
    have h1 := hs.all x (by simp)
    have h2 := hs.size
    simp only [List.map_cons, List.map_nil, sizes] at h2
    have hg : ok x.1 = true ∧ small x.1 = true := ⟨h1.1, small_mk (by omega) (by omega)⟩
    exact (G.bind (V := fun _ => True) (U := fun t => ok t = true ∧ small t = true) (Q := fun _ r => .ok (x.1, r)) (G.must (w := [125])) fun _ _ => G.pure hg) l y r hl hp
  | _ :: _ :: _, hp, _ => cases hp
theorem G.opt {α : Type} {V : α → Prop} {w : List UInt8} {d : α} {p : List Tok → R α} (hp : G V p) (hd : V d) : G V (optR w d p) := G.is (fun _ => hp) (G.pure hd)
theorem leaf_okS {op : Nat} (h : op = 1 ∨ op = 2) : okS (leafT op) = true ∧ small (leafT op) = true := by
  rcases h with rfl | rfl <;> exact ⟨by unfold leafT; rw [okS, okSs]; simp, by decide⟩
def ExcOk (l : List (List UInt8)) : Prop := (∀ s ∈ l, nameOk s = true) ∧ l.Nodup ∧ l.length ≤ 20
theorem ExcOk.snoc {l : List (List UInt8)} {s : List UInt8} (h : ExcOk l) (hs : nameOk s = true) (he : excC l s = 0) : ExcOk (l ++ [s]) := by
  unfold excC at he
  split at he
  · cases he
  · rename_i hc
    split at he
    · cases he
    · rename_i h20
      obtain ⟨h1, h2, h3⟩ := h
      refine ⟨fun x hx => ?_, ?_, by simp; omega⟩
      · simp at hx
        rcases hx with hx | rfl
        · exact h1 x hx
        · exact hs
      · rw [List.nodup_append]
        refine ⟨h2, by simp, fun a ha b hb => ?_⟩
        simp at hb
        subst hb
        rintro rfl
        exact hc (by simpa using ha)
theorem G.names : ∀ (n : Nat) (out : List (List UInt8)), ExcOk out → G ExcOk (So.namesF n out)
  | 0, out, _ => fun l x r _ hp => by cases hp
  | n + 1, out, ho => by
    intro l y r hl hp
    unfold So.namesF at hp
    exact (G.bind G.name fun s hs => G.guard (fun h0 => G.is (fun _ => G.pure (ho.snoc hs h0)) (G.names n _ (ho.snoc hs h0))) l) l y r hl hp
theorem G.exc : G ExcOk excF := G.bind G.must fun _ _ => G.names 22 [] ⟨by simp, by simp, by simp⟩
theorem G.kind : G (fun k => (k.1 = 1 ∧ k.2.2 = 0 ∨ k.1 = 2) ∧ nameOk k.2.1 = true ∧ k.2.2 ≤ 1000000) kindF :=
  G.is (fun _ => G.bind G.name fun s hs => G.pure ⟨.inl ⟨rfl, rfl⟩, hs, by show 0 ≤ _; omega⟩)
    (G.bind G.must fun _ _ => G.bind G.name fun s hs => G.bind G.must fun _ _ => G.bind (G.limit _) fun v hv => G.pure ⟨.inr rfl, hs, hv⟩)
theorem G.prov : G WriteOk provF := by
  unfold provF
  refine G.bind (G.opt (V := fun t => okF t = true ∧ small t = true) (G.braces fun n st h => G.item h) ⟨by unfold leafT; rw [okF, okFs]; simp, by decide⟩) fun cond hc => ?_
  refine G.bind G.kind fun k hk => ?_
  refine G.bind (G.opt G.exc ⟨by simp, by simp, by simp⟩) fun exc he => ?_
  refine G.bind (G.opt (V := fun t => okS t = true ∧ small t = true) (G.braces fun n st h => G.sitem h) (leaf_okS (Or.inl rfl))) fun beg hb => ?_
  refine G.bind (G.opt (V := fun t => okS t = true ∧ small t = true) (G.braces fun n st h => G.sitem h) (leaf_okS (Or.inr rfl))) fun fin hf => ?_
  refine G.bind (G.opt (V := fun t => okS t = true ∧ small t = true) (G.braces fun n st h => G.sitem h) (leaf_okS (Or.inr rfl))) fun aga ha => ?_
  refine G.bind G.must fun _ _ => G.bind (G.choose _) fun rank hr => G.bind G.name fun id hi => G.bind G.must fun _ _ => G.pure ?_
  have hr' : rank < 4 := by simpa using hr
  exact ⟨⟨by show 1 ≤ 1 + rank; omega, by show 1 + rank ≤ 4; omega⟩, hi, hk.1, hk.2.1, hk.2.2, hc.1, hc.2, he.1, he.2.1, he.2.2, hb.1, hb.2, hf.1, hf.2, ha.1, ha.2⟩
theorem parse_writeOk {l : List UInt8} {p : Prov} (h : parseF l = .ok p) : WriteOk p := by
  unfold parseF at h
  split at h
  · cases h
  · rename_i ts hts
    split at h
    · cases h
    · rename_i q r hq
      injection h with h
      subst h
      unfold pr endF at hq
      cases hp : provF ts with
      | error e => simp only [hp, bindR] at hq; cases hq
      | ok v =>
        obtain ⟨x, r1⟩ := v
        have hn : AllT ts := fun t ht => sc_ok l 0 t (by rw [(lexF_ok hts).1]; exact ht)
        have := (G.prov ts x r1 hn hp).1
        simp only [hp, bindR] at hq
        split at hq
        · cases hq; exact this
        · cases hq
/- a text of the second language, written again in both -/
theorem south_again {l : List UInt8} {p : Prov} (h : parseF l = .ok p) :
    ((southA (upP p)).2 = 0 ∨ (southA (upP p)).2 = 2) ∧ ((southA (upP p)).2 = 0 → parseF (southA (upP p)).1 = .ok p) ∧ ((northA (upP p)).2 = 0 ∨ (northA (upP p)).2 = 2 ∨ (northA (upP p)).2 = 7) ∧ ((northA (upP p)).2 = 0 → Proofs.YtbicmjmcdnkjhaaGreatDoor.parseF (northA (upP p)).1 = .ok p) := by
  obtain ⟨hw, hn⟩ := ok_wrS.1 (parse_writeOk h)
  exact ⟨ans_ok hw hn, Proofs.YtbicmjmcdnkjhaaGreatDoor.again_south hw, ans_wr hw, Proofs.YtbicmjmcdnkjhaaGreatDoor.again_north hw⟩
end So
end Go.Proofs.YtbicmjmcdnkjhaaGreatDoor
namespace Go.Proofs.YtbicmjmcdnkjhaaGreatDoor
/- a run of words that no bracket and no closing sign touches at its ends -/
def Fit (op cl : List Bytes) (W : List Bytes) : Prop := (∃ a r, W = a :: r ∧ a ∉ cl) ∧ ∃ i z, W = i ++ [z] ∧ z ∉ op
theorem Fit.app {op cl : List Bytes} {A B : List Bytes} (hA : Fit op cl A) (hB : Fit op cl B) : Fit op cl (A ++ B) := by
  obtain ⟨⟨a, r, rfl, ha⟩, -⟩ := hA
  obtain ⟨-, i, z, rfl, hz⟩ := hB
  exact ⟨⟨a, r ++ (i ++ [z]), rfl, ha⟩, (a :: r) ++ i, z, by simp, hz⟩
theorem Fit.one {op cl : List Bytes} {w : Bytes} (h1 : w ∉ cl) (h2 : w ∉ op) : Fit op cl [w] := ⟨⟨w, [], rfl, h1⟩, [], w, rfl, h2⟩
theorem glue_snoc (op cl : List Bytes) : ∀ (i : List Bytes) (z b : Bytes) (r : List Bytes), glue op cl (i ++ z :: b :: r) = glue op cl (i ++ [z]) ++ ((if tightW op cl z b then [] else [32]) ++ glue op cl (b :: r))
  | [], z, b, r => rfl
  | [x], z, b, r => by
    show x ++ ((if tightW op cl x z then [] else [32]) ++ (z ++ ((if tightW op cl z b then [] else [32]) ++ glue op cl (b :: r)))) = x ++ ((if tightW op cl x z then [] else [32]) ++ z) ++ _
    simp only [List.append_assoc]
  | x :: y :: i, z, b, r => by
    have := glue_snoc op cl (y :: i) z b r
    simp only [List.cons_append, glue] at this ⊢
    rw [this]
    simp only [List.append_assoc]
theorem tight_no {op cl : List Bytes} {z b : Bytes} (h1 : z ∉ op) (h2 : b ∉ cl) : tightW op cl z b = false := by
  unfold tightW
  rw [Bool.or_eq_false_iff]
  exact ⟨by simpa using h1, by simpa using h2⟩
theorem glue_sp {op cl : List Bytes} {A B : List Bytes} (hA : ∃ i z, A = i ++ [z] ∧ z ∉ op) (hB : ∃ b r, B = b :: r ∧ b ∉ cl) : glue op cl (A ++ B) = glue op cl A ++ 32 :: glue op cl B := by
  obtain ⟨i, z, rfl, hz⟩ := hA
  obtain ⟨b, r, rfl, hb⟩ := hB
  rw [List.append_assoc, List.singleton_append, glue_snoc, tight_no hz hb]
  rfl
theorem glue_tightL {op cl : List Bytes} {w b : Bytes} {r : List Bytes} (h : w ∈ op) : glue op cl (w :: b :: r) = w ++ glue op cl (b :: r) := by
  have : tightW op cl w b = true := by
    unfold tightW
    rw [Bool.or_eq_true]
    exact Or.inl (by simpa using h)
  show w ++ ((if tightW op cl w b then [] else [32]) ++ _) = _
  rw [this]
  rfl
theorem glue_tightR {op cl : List Bytes} {i : List Bytes} {z b : Bytes} {r : List Bytes} (h : b ∈ cl) : glue op cl (i ++ z :: b :: r) = glue op cl (i ++ [z]) ++ glue op cl (b :: r) := by
  have : tightW op cl z b = true := by
    unfold tightW
    rw [Bool.or_eq_true]
    exact Or.inr (by simpa using h)
  rw [glue_snoc, this]
  rfl
theorem glue_tightE {op cl : List Bytes} {A : List Bytes} {b : Bytes} {r : List Bytes} (hA : A ≠ []) (h : b ∈ cl) : glue op cl (A ++ b :: r) = glue op cl A ++ glue op cl (b :: r) := by
  obtain ⟨i, z, rfl⟩ : ∃ i z, A = i ++ [z] := ⟨A.dropLast, A.getLast hA, (List.dropLast_concat_getLast hA).symm⟩
  rw [List.append_assoc, List.singleton_append, glue_tightR h]
/- in brackets -/
theorem glue_wrap {op cl : List Bytes} {W : List Bytes} {o c : Bytes} (hW : W ≠ []) (ho : o ∈ op) (hc : c ∈ cl) : glue op cl (o :: (W ++ [c])) = o ++ (glue op cl W ++ c) := by
  have : ∃ b r, W = b :: r := by
    cases W with
    | nil => exact absurd rfl hW
    | cons b r => exact ⟨b, r, rfl⟩
  obtain ⟨b, r, rfl⟩ := this
  rw [show o :: ((b :: r) ++ [c]) = o :: b :: (r ++ [c]) from rfl, glue_tightL ho, show b :: (r ++ [c]) = (b :: r) ++ [c] from rfl, glue_tightE (by simp) hc]
  rfl
/- a list of texts joined by a text -/
def joinT' (by' : Bytes) : List Bytes → Bytes
  | [] => []
  | [w] => w
  | w :: w' :: r => w ++ (by' ++ joinT' by' (w' :: r))
theorem fit_sep {op cl : List Bytes} {w : Bytes} (h1 : w ∉ cl) (h2 : w ∉ op) : ∀ {l : List (List Bytes)}, l ≠ [] → (∀ a ∈ l, Fit op cl a) → Fit op cl (sepW w l)
  | [], h, _ => absurd rfl h
  | [a], _, h => h a (by simp)
  | a :: b :: r, _, h => by
    rw [show sepW w (a :: b :: r) = a ++ ([w] ++ sepW w (b :: r)) from rfl]
    exact (h a (by simp)).app ((Fit.one h1 h2).app (fit_sep h1 h2 (by simp) fun x hx => h x (by simp at hx ⊢; right; exact hx)))
theorem glue_sep {op cl : List Bytes} {w : Bytes} (h1 : w ∉ cl) (h2 : w ∉ op) : ∀ {l : List (List Bytes)}, (∀ a ∈ l, Fit op cl a) → glue op cl (sepW w l) = joinT' (32 :: (w ++ [32])) (l.map (glue op cl))
  | [], _ => rfl
  | [a], _ => rfl
  | a :: b :: r, h => by
    have hr := fit_sep (l := b :: r) h1 h2 (by simp) fun x hx => h x (by simp at hx ⊢; right; exact hx)
    rw [show sepW w (a :: b :: r) = a ++ ([w] ++ sepW w (b :: r)) from rfl]
    rw [glue_sp (h a (by simp)).2 ((Fit.one h1 h2).app hr).1, glue_sp (Fit.one h1 h2).2 hr.1, glue_sep h1 h2 fun x hx => h x (by simp at hx ⊢; right; exact hx)]
    simp only [List.map_cons, joinT', glue, List.cons_append, List.append_assoc, List.singleton_append]
    rfl
/- tokens counted -/
def wordR (c : UInt8) : Bool := (97 ≤ c && c ≤ 122) || (65 ≤ c && c ≤ 90) || (48 ≤ c && c ≤ 57) || c == 95 || c == 60 || c == 62 || c == 61 || c == 33
def tkn : Bool → Bytes → Nat
  | _, [] => 0
  | p, c :: r => (if c != 32 && (!wordR c || !p) then 1 else 0) + tkn (wordR c) r
def WordT (w : Bytes) : Prop := (w ≠ [] ∧ ∀ c ∈ w, wordR c = true) ∨ ∃ c, w = [c] ∧ wordR c = false ∧ c ≠ 32
theorem tk_words : ∀ (w s : Bytes), (∀ c ∈ w, wordR c = true) → tkn true (w ++ s) = tkn true s
  | [], s, _ => rfl
  | c :: r, s, h => by
    have hc := h c (by simp)
    rw [List.cons_append, tkn, hc, tk_words r s fun x hx => h x (by simp [hx])]
    simp
theorem tk_word {w s : Bytes} (h0 : w ≠ []) (h : ∀ c ∈ w, wordR c = true) : tkn false (w ++ s) = 1 + tkn true s := by
  cases w with
  | nil => exact absurd rfl h0
  | cons c r =>
    have hc := h c (by simp)
    have h32 : (c != 32) = true := by
      cases hb : c != 32 with
      | true => rfl
      | false =>
        have : c = 32 := by simpa using hb
        subst this
        revert hc
        decide
    rw [List.cons_append, tkn, hc, tk_words r s fun x hx => h x (by simp [hx]), h32]
    rfl
theorem tk_any {c : UInt8} {r : Bytes} (h : wordR c = false) (p : Bool) : tkn p (c :: r) = (if c != 32 then 1 else 0) + tkn false r := by
  rw [tkn, h]
  simp
theorem tk_glue {op cl : List Bytes} (ho : ∀ w ∈ op, ∃ c, w = [c] ∧ wordR c = false ∧ c ≠ 32) (hc : ∀ w ∈ cl, ∃ c, w = [c] ∧ wordR c = false ∧ c ≠ 32) : ∀ (W : List Bytes), (∀ w ∈ W, WordT w) → tkn false (glue op cl W) = W.length
  | [], _ => rfl
  | [w], h => by
    show tkn false w = 1
    rcases h w (by simp) with ⟨h0, h1⟩ | ⟨c, rfl, h1, h2⟩
    · have := tk_word (s := []) h0 h1
      rw [List.append_nil] at this
      rw [this]
      rfl
    · rw [tk_any h1, if_pos (by simpa using h2)]
      rfl
  | w :: w' :: r, h => by
    have ih := tk_glue ho hc (w' :: r) fun x hx => h x (by simp at hx ⊢; right; exact hx)
    show tkn false (w ++ ((if tightW op cl w w' then [] else [32]) ++ glue op cl (w' :: r))) = _
    have hsp : ∀ s : Bytes, tkn true (32 :: s) = tkn false s := fun s => by rw [tk_any (by decide)]; simp
    have hsp' : ∀ s : Bytes, tkn false (32 :: s) = tkn false s := fun s => by rw [tk_any (by decide)]; simp
    rcases h w (by simp) with ⟨h0, h1⟩ | ⟨c, rfl, h1, h2⟩
    · rw [tk_word h0 h1]
      cases ht : tightW op cl w w' with
      | false =>
        simp only [Bool.false_eq_true, if_false, List.singleton_append]
        rw [hsp, ih]
        simp only [List.length_cons]
        omega
      | true =>
        simp only [if_true, List.nil_append]
        unfold tightW at ht
        rw [Bool.or_eq_true] at ht
        rcases ht with ht | ht
        · obtain ⟨c, rfl, hc1, -⟩ := ho w (by simpa using ht)
          have := h1 c (by simp)
          rw [hc1] at this
          cases this
        · obtain ⟨c, rfl, hc1, hc2⟩ := hc w' (by simpa using ht)
          obtain ⟨b, hb⟩ := glue_head (op := op) (cl := cl) (c := c) (r := []) r
          rw [hb] at ih ⊢
          rw [tk_any hc1] at ih ⊢
          rw [ih]
          simp only [List.length_cons]
          omega
    · rw [List.singleton_append, tk_any h1, if_pos (by simpa using h2)]
      cases ht : tightW op cl [c] w' with
      | false =>
        simp only [Bool.false_eq_true, if_false, List.singleton_append]
        rw [hsp', ih]
        simp only [List.length_cons]
        omega
      | true =>
        simp only [if_true, List.nil_append]
        rw [ih]
        simp only [List.length_cons]
        omega
/- names and numbers are words -/
def nameB (s : Bytes) : Bool := s.head?.any letterB && s.all wordB && decide (s.length ≤ 24)
theorem core_one {w : Bytes} (h : (coreW w).1 = 1) : nameB w = true := by
  obtain ⟨c, r, k, v, rfl, hl, hc⟩ := coreW_lex (w := w) (by omega)
  rw [hc] at h
  have hk : k = 1 := h
  subst hk
  unfold lexOne at hl
  split at hl
  · rename_i hc'
    split at hl
    · cases hl
    · rename_i h24
      injection hl with hl
      injection hl with _ hl
      injection hl with hl _
      have hr : (r.takeWhile wordB).length = r.length := by omega
      have hall : ∀ x ∈ r, wordB x = true := takeWhile_all hr
      have hw : wordB c = true := by simp [wordB, hc']
      unfold nameB
      simp [hc', hw]
      exact ⟨fun x hx => hall x hx, by omega⟩
  · exfalso
    repeat' split at hl
    all_goals (first | (cases hl; done) | (simp only [Except.ok.injEq, Prod.mk.injEq] at hl; omega))
theorem core_two {w : Bytes} (h : (coreW w).1 = 2) : w ≠ [] ∧ ∀ c ∈ w, digitB c = true := by
  obtain ⟨c, r, k, v, rfl, hl, hc⟩ := coreW_lex (w := w) (by omega)
  rw [hc] at h
  have hk : k = 2 := h
  subst hk
  refine ⟨by simp, ?_⟩
  unfold lexOne at hl
  split at hl
  · split at hl
    · cases hl
    · simp only [Except.ok.injEq, Prod.mk.injEq] at hl; omega
  · split at hl
    · rename_i hc'
      split at hl
      · cases hl
      · injection hl with hl
        injection hl with _ hl
        injection hl with hl _
        have hr : (r.takeWhile digitB).length = r.length := by omega
        have hall : ∀ x ∈ r, digitB x = true := takeWhile_all hr
        intro x hx
        rcases List.mem_cons.1 hx with rfl | hx
        · exact hc'
        · exact hall x hx
    · exfalso
      repeat' split at hl
      all_goals (first | (cases hl; done) | (simp only [Except.ok.injEq, Prod.mk.injEq] at hl; omega))
theorem name_core {w : Bytes} : nameB w = true ↔ (coreW w).1 = 1 := by
  refine ⟨fun h => ?_, core_one⟩
  unfold nameB at h
  simp only [Bool.and_eq_true, decide_eq_true_eq, List.all_eq_true] at h
  obtain ⟨⟨h1, h2⟩, h3⟩ := h
  cases w with
  | nil => simp at h1
  | cons c r =>
    have hc : letterB c = true := by simpa using h1
    have ht : r.takeWhile wordB = r := takeWhile_each fun x hx => h2 x (by simp [hx])
    have hl : lexOne c r = .ok (1, r.length + 1, 0) := by
      unfold lexOne
      rw [if_pos hc, ht, if_neg (by simp at h3; omega)]
    unfold coreW
    simp only [hl, if_true]
theorem wordR_mk {c : UInt8} (h : wordB c = true) : wordR c = true := by
  unfold wordB letterB digitB at h
  unfold wordR
  simp only [Bool.or_eq_true, Bool.and_eq_true] at h ⊢
  rcases h with ((h | h) | h) | h
  · exact Or.inl (Or.inl (Or.inl (Or.inl (Or.inl (Or.inl (Or.inl h))))))
  · exact Or.inl (Or.inl (Or.inl (Or.inl (Or.inl (Or.inl (Or.inr h))))))
  · exact Or.inl (Or.inl (Or.inl (Or.inl (Or.inl (Or.inr h)))))
  · exact Or.inl (Or.inl (Or.inl (Or.inl (Or.inr h))))
theorem wordT_good {S : List Bytes} (hS : ∀ w ∈ S, WordT w) {w : Bytes} (h : GoodW S w) : WordT w := by
  rcases h with h | h | h
  · have h1 := core_one h
    unfold nameB at h1
    simp only [Bool.and_eq_true, decide_eq_true_eq, List.all_eq_true] at h1
    refine Or.inl ⟨?_, fun c hc => wordR_mk (h1.1.2 c hc)⟩
    rintro rfl
    simp at h1
  · obtain ⟨h1, h2⟩ := core_two h
    refine Or.inl ⟨h1, fun c hc => wordR_mk ?_⟩
    unfold wordB
    rw [h2 c hc]
    simp
  · exact hS w h
theorem symsN_word : ∀ w ∈ symsN, WordT w := by
  intro w hw
  unfold symsN at hw
  simp only [List.mem_cons, List.not_mem_nil, or_false] at hw
  rcases hw with rfl | rfl | rfl | rfl | rfl | rfl | rfl | rfl | rfl | rfl | rfl
  · exact Or.inl ⟨by decide, by decide⟩
  · exact Or.inl ⟨by decide, by decide⟩
  · exact Or.inl ⟨by decide, by decide⟩
  · exact Or.inl ⟨by decide, by decide⟩
  · exact Or.inl ⟨by decide, by decide⟩
  · exact Or.inl ⟨by decide, by decide⟩
  · exact Or.inr ⟨_, rfl, by decide, by decide⟩
  · exact Or.inr ⟨_, rfl, by decide, by decide⟩
  · exact Or.inr ⟨_, rfl, by decide, by decide⟩
  · exact Or.inr ⟨_, rfl, by decide, by decide⟩
  · exact Or.inr ⟨_, rfl, by decide, by decide⟩
theorem tk_north {p : Prov} (hp : WriteOk p) : tkn false (textN p) = (wP p).length := by
  refine tk_glue ?_ ?_ (wP p) fun w hw => wordT_good symsN_word (good_P hp w hw)
  · intro w hw
    simp only [List.map_cons, List.map_nil, List.mem_cons, List.not_mem_nil, or_false] at hw
    rw [hw]
    exact ⟨_, rfl, by decide, by decide⟩
  · intro w hw
    simp only [List.map_cons, List.map_nil, List.mem_cons, List.not_mem_nil, or_false] at hw
    rcases hw with rfl | rfl | rfl | rfl <;> exact ⟨_, rfl, by decide, by decide⟩
theorem symsS_word : ∀ w ∈ So.symsS, WordT w := by
  intro w hw
  unfold So.symsS at hw
  simp only [List.mem_cons, List.not_mem_nil, or_false] at hw
  rcases hw with rfl | rfl | rfl | rfl | rfl | rfl <;> exact Or.inr ⟨_, rfl, by decide, by decide⟩
theorem tk_south {p : Prov} (hp : So.WriteOk p) : tkn false (So.textS p) = (So.wP p).length := by
  refine tk_glue ?_ ?_ (So.wP p) fun w hw => wordT_good symsS_word (So.good_P hp w hw)
  · intro w hw
    simp only [List.map_cons, List.map_nil, List.mem_cons, List.not_mem_nil, or_false] at hw
    rcases hw with rfl | rfl <;> exact ⟨_, rfl, by decide, by decide⟩
  · intro w hw
    simp only [List.map_cons, List.map_nil, List.mem_cons, List.not_mem_nil, or_false] at hw
    rcases hw with rfl | rfl <;> exact ⟨_, rfl, by decide, by decide⟩
/- an answer at which the text is too long -/
def shortA (s : Bytes) : Bytes × Nat := if 20000 < s.length ∨ 5000 < tkn false s then ([], 2) else (s, 0)
theorem short_north {p : Prov} (hp : WriteOk p) : (match lexF (textN p) with | .ok _ => (textN p, 0) | .error _ => ([], 2)) = shortA (textN p) := by
  have h := (north_lex hp).2.1
  unfold shortA
  rw [tk_north hp]
  cases hl : lexF (textN p) with
  | ok ts =>
    have := h.1 ⟨ts, hl⟩
    simp only
    rw [if_neg (by omega)]
  | error e =>
    simp only
    rw [if_pos]
    have : ¬ ((textN p).length ≤ 20000 ∧ (wP p).length ≤ 5000) := fun hh => by
      obtain ⟨ts, h2⟩ := h.2 hh
      rw [hl] at h2
      cases h2
    omega
theorem short_south {p : Prov} (hp : So.WriteOk p) : (match lexF (So.textS p) with | .ok _ => (So.textS p, 0) | .error _ => ([], 2)) = shortA (So.textS p) := by
  have h := (So.south_lex hp).2.1
  unfold shortA
  rw [tk_south hp]
  cases hl : lexF (So.textS p) with
  | ok ts =>
    have := h.1 ⟨ts, hl⟩
    simp only
    rw [if_neg (by omega)]
  | error e =>
    simp only
    rw [if_pos]
    have : ¬ ((So.textS p).length ≤ 20000 ∧ (So.wP p).length ≤ 5000) := fun hh => by
      obtain ⟨ts, h2⟩ := h.2 hh
      rw [hl] at h2
      cases h2
    omega
end Go.Proofs.YtbicmjmcdnkjhaaGreatDoor
