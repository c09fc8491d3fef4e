/- Plain laws of the lexer and the parser. The printer's laws, of the plain functions. What the first language's parser reads can be written. -/
import Derived.Test.YtbicmjmcdnkjhaaGreatDoorJP10
import Derived.Test.YtbicmjmcdnkjhaaGreatDoorJP8
set_option linter.unusedVariables false
set_option linter.unusedSimpArgs false
namespace Go.Proofs.YtbicmjmcdnkjhaaGreatDoor
/- What a provision that was read is like. -/
def goodName (s : List UInt8) : Bool := s.head?.any letterB && s.all wordB && decide (s.length ≤ 24) && !keyF s
def TokN (t : Tok) : Prop := t.kind = 1 → keyF t.text = false → goodName t.text = true
theorem takeWhile_all {α : Type} {p : α → Bool} : ∀ {l : List α}, (l.takeWhile p).length = l.length → ∀ x ∈ l, p x = true
  | [], _, x, hx => by cases hx
  | a :: l, h, x, hx => by
    by_cases ha : p a = true
    · rw [List.takeWhile_cons_of_pos ha] at h
      rcases List.mem_cons.1 hx with rfl | hx
      · exact ha
      · exact takeWhile_all (by simpa using h) x hx
    · rw [List.takeWhile_cons_of_neg ha] at h; simp at h
theorem tokN_of_ok {t : Tok} (h : TokOk t) : TokN t := by
  intro hk hq
  obtain ⟨c, r, ht, h1, h2, h3⟩ := h
  rw [hk] at h3
  unfold lexOne at h3
  split at h3
  · rename_i hc
    split at h3
    · cases h3
    · rename_i hl
      injection h3 with h3
      injection h3 with _ h3
      injection h3 with h3 _
      have hr : (r.takeWhile wordB).length = r.length := by omega
      have hall := takeWhile_all hr
      unfold goodName
      rw [hq, ht]
      have hc2 : wordB c = true := by simp [wordB, hc]
      simp [hc, hc2]
      exact ⟨fun x hx => hall x hx, by omega⟩
  · exfalso
    split at h3
    · split at h3
      · cases h3
      · injection h3 with h3; injection h3 with h3 _; exact absurd h3 (by decide)
    · split at h3
      · injection h3 with h3; injection h3 with h3 _; exact absurd h3 (by decide)
      · split at h3
        · split at h3 <;> (injection h3 with h3; injection h3 with h3 _; exact absurd h3 (by decide))
        · split at h3
          · split at h3
            · injection h3 with h3; injection h3 with h3 _; exact absurd h3 (by decide)
            · cases h3
          · cases h3
mutual
def FormT : Tree → Prop
  | .mk op name cmp n ks => n ≤ 1000000 ∧ FormL ks ∧ ((op = 1 ∨ op = 2) ∧ name = [] ∧ cmp = 0 ∧ n = 0 ∧ ks = [] ∨ op = 3 ∧ goodName name = true ∧ 1 ≤ cmp ∧ cmp ≤ 6 ∧ ks = [] ∨ op = 4 ∧ goodName name = true ∧ cmp = 0 ∧ n = 0 ∧ ks = [] ∨
      op = 5 ∧ name = [] ∧ cmp = 0 ∧ n = 0 ∧ ks.length = 1 ∨ (op = 6 ∨ op = 7) ∧ name = [] ∧ cmp = 0 ∧ n = 0 ∧ 2 ≤ ks.length)
def FormL : List Tree → Prop
  | [] => True
  | t :: r => FormT t ∧ FormL r
end
mutual
def BegT : Tree → Prop
  | .mk op name _ n ks => n ≤ 1000000 ∧ BegL ks ∧ ((op = 1 ∨ op = 2) ∧ name = [] ∧ n = 0 ∧ ks = [] ∨ op = 3 ∧ name = [] ∧ ks = [] ∨ (op = 4 ∨ op = 5 ∨ op = 6 ∨ op = 7) ∧ goodName name = true ∧ n = 0 ∧ ks = [] ∨
      (op = 8 ∨ op = 9) ∧ name = [] ∧ n = 0 ∧ 2 ≤ ks.length)
def BegL : List Tree → Prop
  | [] => True
  | t :: r => BegT t ∧ BegL r
end
theorem formL_mem {l : List Tree} (h : ∀ t ∈ l, FormT t) : FormL l := by
  induction l with
  | nil => trivial
  | cons t r ih => exact ⟨h t (by simp), ih fun x hx => h x (by simp [hx])⟩
theorem begL_mem {l : List Tree} (h : ∀ t ∈ l, BegT t) : BegL l := by
  induction l with
  | nil => trivial
  | cons t r ih => exact ⟨h t (by simp), ih fun x hx => h x (by simp [hx])⟩
def AllN (l : List Tok) : Prop := ∀ t ∈ l, TokN t
/- what a parser answers, from tokens of the lexer -/
def Gives {α : Type} (V : α → Prop) (P : List Tok → R α) : Prop := ∀ l x r, AllN l → P l = .ok (x, r) → V x ∧ AllN r
theorem Gives.mono {α : Type} {V V' : α → Prop} {P : List Tok → R α} (h : Gives V P) (hv : ∀ x, V x → V' x) : Gives V' P := fun l x r hl hp => ⟨hv _ (h l x r hl hp).1, (h l x r hl hp).2⟩
theorem Gives.pure {α : Type} {V : α → Prop} {x : α} (h : V x) : Gives V (fun l => .ok (x, l)) := fun l y r hl hp => by cases hp; exact ⟨h, hl⟩
theorem Gives.fail {α : Type} {V : α → Prop} : Gives V (fun l => (failR l : R α)) := fun l y r hl hp => by cases hp
theorem Gives.bind {α β : Type} {V : α → Prop} {U : β → Prop} {P : List Tok → R α} {Q : α → List Tok → R β} (hP : Gives V P) (hQ : ∀ x, V x → Gives U (Q x)) : Gives U (fun l => bindR (P l) Q) := by
  intro l y r hl hp
  cases hq : P l with
  | error e => simp only [hq, bindR] at hp; cases hp
  | ok v =>
    obtain ⟨x, r1⟩ := v
    simp only [hq, bindR] at hp
    obtain ⟨h1, h2⟩ := hP l x r1 hl hq
    exact hQ x h1 r1 y r h2 hp
theorem Gives.opt {α : Type} {V : α → Prop} {ws : List (List UInt8)} {yes : Nat → List Tok → R α} {no : List Tok → R α} (hy : ∀ i, i < ws.length → Gives V (yes i)) (hn : Gives V no) : Gives V (fun l => optF ws l yes no) := by
  intro l y r hl hp
  rcases takeF_cases ws l with ht | ⟨t, r0, i, rfl, ht, -, hi⟩
  · simp only [optF, ht] at hp
    exact hn l y r hl hp
  · simp only [optF, ht] at hp
    have : i < ws.length := by
      unfold List.idxOf? at hi
      rw [List.findIdx?_eq_some_iff_getElem] at hi
      exact hi.1
    exact hy i this r0 y r (fun x hx => hl x (by simp [hx])) hp
theorem Gives.must {ws : List (List UInt8)} : Gives (fun i => i < ws.length) (mustF ws) := Gives.opt (fun i hi => Gives.pure hi) Gives.fail
theorem Gives.name : Gives (fun s => goodName s = true) nameF := by
  intro l x r hl hp
  cases l with
  | nil => cases hp
  | cons t r0 =>
    simp only [nameF] at hp
    split at hp
    · rename_i hk
      cases hp
      simp at hk
      exact ⟨hl t (by simp) hk.1 hk.2, fun x hx => hl x (by simp [hx])⟩
    · cases hp
theorem Gives.number (most : Nat) : Gives (fun n => n ≤ most) (numberF most) := by
  intro l x r hl hp
  cases l with
  | nil => cases hp
  | cons t r0 =>
    simp only [numberF] at hp
    split at hp
    · split at hp
      · cases hp
      · cases hp
        exact ⟨by omega, fun x hx => hl x (by simp [hx])⟩
    · cases hp
theorem Gives.severalL {α : Type} {V : α → Prop} {one : List Tok → R α} (w : List UInt8) (h : Gives V one) : ∀ n, Gives (fun l => l ≠ [] ∧ ∀ x ∈ l, V x) (severalL one w n)
  | 0 => fun l x r _ hp => by cases hp
  | n + 1 => Gives.bind h fun x hx => Gives.opt (fun i _ => Gives.bind (Gives.severalL w h n) fun xs hxs => Gives.pure ⟨by simp, fun y hy => by rcases List.mem_cons.1 hy with rfl | hy; exact hx; exact hxs.2 y hy⟩) (Gives.pure ⟨by simp, fun y hy => by simp at hy; rw [hy]; exact hx⟩)
theorem joinT_form {op : Nat} {l : List Tree} (ho : op = 6 ∨ op = 7) (h0 : l ≠ []) (h : ∀ t ∈ l, FormT t) : FormT (joinT op l) := by
  unfold joinT
  split
  · rename_i x; exact h x (by simp)
  · rename_i hn
    have : 2 ≤ l.length := by
      rcases l with - | ⟨a, - | ⟨b, l⟩⟩
      · exact absurd rfl h0
      · exact absurd rfl (hn a)
      · simp
    unfold FormT
    exact ⟨by omega, formL_mem h, .inr (.inr (.inr (.inr ⟨ho, rfl, rfl, rfl, this⟩)))⟩
theorem joinT_beg {op : Nat} {l : List Tree} (ho : op = 8 ∨ op = 9) (h0 : l ≠ []) (h : ∀ t ∈ l, BegT t) : BegT (joinT op l) := by
  unfold joinT
  split
  · rename_i x; exact h x (by simp)
  · rename_i hn
    have : 2 ≤ l.length := by
      rcases l with - | ⟨a, - | ⟨b, l⟩⟩
      · exact absurd rfl h0
      · exact absurd rfl (hn a)
      · simp
    unfold BegT
    exact ⟨by omega, begL_mem h, .inr (.inr (.inr ⟨ho, rfl, rfl, this⟩))⟩
theorem Gives.sevF {one : List Tok → R Tree} (w : List UInt8) {op n : Nat} (ho : op = 6 ∨ op = 7) (h : Gives FormT one) : Gives FormT (severalF one w op n) :=
  Gives.bind (Gives.severalL w h n) fun xs hxs => Gives.pure (joinT_form ho hxs.1 hxs.2)
theorem Gives.sevS {one : List Tok → R Tree} (w : List UInt8) {op n : Nat} (ho : op = 8 ∨ op = 9) (h : Gives BegT one) : Gives BegT (severalF one w op n) :=
  Gives.bind (Gives.severalL w h n) fun xs hxs => Gives.pure (joinT_beg ho hxs.1 hxs.2)
theorem atom_gives : ∀ n, Gives FormT (atomF n)
  | 0 => fun l x r _ hp => by cases hp
  | n + 1 => by
    have ih := atom_gives n
    refine Gives.opt (fun i hi => ?_) (Gives.bind Gives.name fun s hs => Gives.opt (fun c hc => Gives.bind (Gives.number _) fun v hv => Gives.pure ?_) (Gives.pure ?_))
    · match i with
      | 0 => exact Gives.bind ih fun f hf => Gives.pure (by unfold FormT; exact ⟨by omega, ⟨hf, trivial⟩, .inr (.inr (.inr (.inl ⟨rfl, rfl, rfl, rfl, rfl⟩)))⟩)
      | 1 => exact Gives.bind (Gives.sevF _ (.inr rfl) (Gives.sevF _ (.inl rfl) ih)) fun f hf => Gives.bind Gives.must fun _ _ => Gives.pure hf
      | 2 => exact Gives.pure (by unfold FormT; exact ⟨by omega, trivial, .inl ⟨.inl rfl, rfl, rfl, rfl, rfl⟩⟩)
      | _ + 3 => exact Gives.pure (by unfold FormT; exact ⟨by omega, trivial, .inl ⟨.inr rfl, rfl, rfl, rfl, rfl⟩⟩)
    · simp at hc; unfold FormT; exact ⟨hv, trivial, .inr (.inl ⟨rfl, hs, by omega, by omega, rfl⟩)⟩
    · unfold FormT; exact ⟨by omega, trivial, .inr (.inr (.inl ⟨rfl, hs, rfl, rfl, rfl⟩))⟩
theorem one_gives : ∀ n, Gives BegT (oneF n)
  | 0 => fun l x r _ hp => by cases hp
  | n + 1 => by
    have ih := one_gives n
    refine Gives.bind Gives.must (fun i hi => ?_)
    match i with
    | 0 => exact Gives.pure (by unfold BegT; exact ⟨by omega, trivial, .inl ⟨.inl rfl, rfl, rfl, rfl⟩⟩)
    | 1 => exact Gives.pure (by unfold BegT; exact ⟨by omega, trivial, .inl ⟨.inr rfl, rfl, rfl, rfl⟩⟩)
    | 2 => exact Gives.bind (Gives.number _) fun v hv => Gives.pure (by unfold BegT; exact ⟨hv, trivial, .inr (.inl ⟨rfl, rfl, rfl⟩)⟩)
    | 3 => exact Gives.bind (Gives.sevS _ (.inr rfl) (Gives.sevS _ (.inl rfl) ih)) fun f hf => Gives.bind Gives.must fun _ _ => Gives.pure hf
    | k + 4 => exact Gives.bind Gives.name fun s hs => Gives.pure (by simp at hi; unfold BegT; exact ⟨by omega, trivial, .inr (.inr (.inl ⟨by omega, hs, rfl, rfl⟩))⟩)
theorem bounded_gives {V : Tree → Prop} {P : List Tok → R Tree} (h : Gives V P) : Gives (fun t => V t ∧ boundC t = 0) (boundedF P) := by
  intro l y r hl hp
  cases hq : P l with
  | error e => simp only [boundedF, hq, bindR] at hp; cases hp
  | ok v =>
    obtain ⟨x, r1⟩ := v
    obtain ⟨h1, h2⟩ := h l x r1 hl hq
    simp only [boundedF, hq, bindR, guardR] at hp
    split at hp
    · rename_i h0; cases hp; exact ⟨⟨h1, h0⟩, h2⟩
    · cases hp
theorem when_gives (n : Nat) (w : List UInt8) {op : Nat} (ho : op = 1 ∨ op = 2) : Gives (fun t => BegT t ∧ boundC t = 0) (whenF n w op) :=
  Gives.opt (fun _ _ => bounded_gives (Gives.sevS _ (.inr rfl) (Gives.sevS _ (.inl rfl) (one_gives n)))) (Gives.pure (by
    refine ⟨?_, ?_⟩
    · unfold BegT; exact ⟨by omega, trivial, .inl ⟨ho, rfl, rfl, rfl⟩⟩
    · simp [boundC, Tree.deep, deeps, Tree.size, sizes]))
theorem if_gives (n : Nat) : Gives (fun t => FormT t ∧ boundC t = 0) (ifF n) :=
  Gives.opt (fun _ _ => bounded_gives (Gives.sevF _ (.inr rfl) (Gives.sevF _ (.inl rfl) (atom_gives n)))) (Gives.pure (by
    refine ⟨?_, ?_⟩
    · unfold FormT; exact ⟨by omega, trivial, .inl ⟨.inl rfl, rfl, rfl, rfl, rfl⟩⟩
    · simp [boundC, Tree.deep, deeps, Tree.size, sizes]))
/- different names -/
def ExcOk (l : List (List UInt8)) : Prop := l.length ≤ 20 ∧ (∀ s ∈ l, goodName s = true) ∧ ∀ (i : Nat) s, l[i]? = some s → s ∉ l.take i
theorem excOk_snoc {l : List (List UInt8)} {s : List UInt8} (h : ExcOk l) (hs : goodName s = true) (he : excC l s = 0) : ExcOk (l ++ [s]) := by
  unfold excC at he
  split at he
  · cases he
  · rename_i hc
    split at he
    · cases he
    · rename_i h20
      obtain ⟨h1, h2, h3⟩ := h
      refine ⟨by simp; omega, fun x hx => ?_, fun i x hx => ?_⟩
      · simp at hx
        rcases hx with hx | rfl
        · exact h2 x hx
        · exact hs
      · rcases Nat.lt_or_ge i l.length with hi | hi
        · rw [List.getElem?_append_left hi] at hx
          rw [List.take_append_of_le_length (Nat.le_of_lt hi)]
          exact h3 i x hx
        · rw [List.getElem?_append_right hi] at hx
          have : i - l.length = 0 := by
            rcases Nat.eq_zero_or_pos (i - l.length) with h0 | h0
            · exact h0
            · rw [List.getElem?_eq_none (by simp; omega)] at hx; cases hx
          rw [this] at hx
          simp at hx
          subst hx
          have : i = l.length := by omega
          subst this
          rw [List.take_left]
          intro hm
          exact hc (by simpa using hm)
theorem except_gives : ∀ n out, ExcOk out → Gives ExcOk (exceptF n out)
  | 0, out, _ => fun l x r _ hp => by cases hp
  | n + 1, out, ho => by
    intro l x r hl hp
    cases hq : nameF l with
    | error e => simp only [exceptF, hq, bindR] at hp; cases hp
    | ok v =>
      obtain ⟨s, r1⟩ := v
      obtain ⟨hs, h1⟩ := Gives.name l s r1 hl hq
      simp only [exceptF, hq, bindR, guardR] at hp
      split at hp
      · rename_i h0
        have ho' := excOk_snoc ho hs h0
        exact Gives.opt (V := ExcOk) (ws := [[44]]) (fun _ _ => except_gives n (out ++ [s]) ho') (Gives.pure ho') r1 x r h1 hp
      · cases hp
theorem exc_gives : Gives ExcOk excF := Gives.opt (fun _ _ => except_gives 22 [] ⟨by simp, by simp, by simp⟩) (Gives.pure ⟨by simp, by simp, by simp⟩)
theorem kind_gives : Gives (fun k => (k.1 = 1 ∧ k.2.2 = 0 ∨ k.1 = 2) ∧ goodName k.2.1 = true ∧ k.2.2 ≤ 1000000) kindF :=
  Gives.bind Gives.must fun i hi => by
    match i with
    | 0 => exact Gives.bind Gives.name fun s hs => Gives.pure ⟨.inl ⟨rfl, rfl⟩, hs, by show 0 ≤ _; omega⟩
    | _ + 1 => exact Gives.bind Gives.name fun s hs => Gives.bind Gives.must fun _ _ => Gives.bind (Gives.number _) fun v hv => Gives.pure ⟨.inr rfl, hs, hv⟩
structure ProvOk (p : Prov) : Prop where
  rank : 1 ≤ p.rank ∧ p.rank ≤ 4
  kind : p.kind = 1 ∧ p.value = 0 ∨ p.kind = 2
  id : goodName p.id = true
  name : goodName p.name = true
  value : p.value ≤ 1000000
  exc : ExcOk p.exc
  cond : FormT p.cond ∧ boundC p.cond = 0
  beg : BegT p.beg ∧ boundC p.beg = 0
  fin : BegT p.fin ∧ boundC p.fin = 0
  aga : BegT p.aga ∧ boundC p.aga = 0
theorem body_gives (n : Nat) : Gives ProvOk (bodyF n) :=
  Gives.bind Gives.must fun rank hr => Gives.bind Gives.name fun id hi => Gives.bind Gives.must fun _ _ => Gives.bind kind_gives fun k hk => Gives.bind (if_gives n) fun cond hc =>
  Gives.bind exc_gives fun exc he => Gives.bind (when_gives n _ (.inl rfl)) fun beg hb => Gives.bind (when_gives n _ (.inr rfl)) fun fin hf => Gives.bind (when_gives n _ (.inr rfl)) fun aga ha =>
  Gives.pure ⟨⟨by show 1 ≤ 1 + rank; omega, by show 1 + rank ≤ 4; simp at hr; omega⟩, hk.1, hi, hk.2.1, hk.2.2, he, hc, hb, hf, ha⟩
theorem prov_gives (n : Nat) : Gives ProvOk (provF n) := Gives.bind (body_gives n) fun p hp => Gives.bind Gives.must fun _ _ => Gives.pure hp
theorem parseF_good {l : List UInt8} {p : Prov} (h : parseF l = .ok p) : ProvOk p := by
  unfold parseF at h
  split at h
  · cases h
  · rename_i ts hts
    split at h
    · cases h
    · rename_i q r hq
      injection h with h
      subst h
      unfold endF at hq
      cases hp : provF fuelN ts with
      | error e => simp only [hp, bindR] at hq; cases hq
      | ok v =>
        obtain ⟨x, r1⟩ := v
        have hn : AllN ts := fun t ht => tokN_of_ok (sc_ok l 0 t (by rw [(lexF_ok hts).1]; exact ht))
        have := (prov_gives fuelN ts x r1 hn hp).1
        simp only [hp, bindR] at hq
        split at hq
        · cases hq; exact this
        · cases hq
/- where an error is -/
theorem scan_err_pos (l : List UInt8) (p : Nat) : ∀ e q, (sc l p).2 = some (e, q) → p ≤ q ∧ q ≤ p + l.length := by
  refine sc_ind (M := fun l p => ∀ e q, (sc l p).2 = some (e, q) → p ≤ q ∧ q ≤ p + l.length) ?_ ?_ ?_ ?_ ?_ l.length l p (Nat.le_refl _)
  · intro p e q h; simp [sc_nil] at h
  · intro c r p h ih e q hq; rw [sc_blank _ _ h] at hq; have := ih e q hq; simp; omega
  · intro r p ih e q hq; rw [sc_hash] at hq; have := ih e q hq; simp at this ⊢; have := takeWhile_len (· != (10 : UInt8)) r; omega
  · intro c r p e h1 h2 h3 e' q hq; rw [sc_err _ h1 h2 h3] at hq; simp at hq; simp; omega
  · intro c r p j n v h1 h2 h3 ih e q hq
    rw [sc_tok _ h1 h2 h3] at hq
    have := ih e q hq
    have h4 := lexOne_len h3
    simp at this ⊢; omega
theorem lexF_err {l : List UInt8} {e : Nat} {at' : Int} (h : lexF l = .error (e, at')) : (0 ≤ at' ∧ at' ≤ l.length ∨ at' = -1 ∧ e = 2) := by
  unfold lexF at h
  rw [show scan l.length l 0 = sc l 0 from rfl] at h
  split at h
  · cases h; exact .inr ⟨rfl, rfl⟩
  · split at h
    · rename_i t u hd
      cases h
      have hm : t ∈ (sc l 0).1 := List.mem_of_mem_drop (by rw [hd]; simp)
      have := (sc_placed l 0).mem t hm
      left; omega
    · split at h
      · rename_i e' p' he
        cases h
        have := scan_err_pos l 0 _ _ he
        left; omega
      · cases h
theorem parseF_err_at {l : List UInt8} {e : Nat} {at' : Int} (h : parseF l = .error (e, at')) : (0 ≤ at' ∧ at' ≤ l.length ∨ at' = -1 ∧ e = 2) := by
  unfold parseF at h
  split at h
  · rename_i x hx
    obtain ⟨a, b⟩ := x
    cases h
    exact lexF_err hx
  · rename_i ts hts
    split at h
    · rename_i e' s hs
      cases h
      left
      refine ⟨by omega, ?_⟩
      have hl := lexF_ok hts
      cases s with
      | nil => simp [posAt]
      | cons t r =>
        have hpr : pr ts = .error (e, t :: r) := hs
        obtain ⟨j, -, hj, -⟩ := (pr_map (ts := ts) (ts' := ts) rfl).2 _ _ hpr
        have hm : t ∈ ts := List.mem_of_mem_drop (by rw [← hj]; simp)
        have := (sc_placed l 0).mem t (by rw [hl.1]; exact hm)
        simp [posAt]; omega
    · cases h
/- Bounds of the lexer's tokens. -/
theorem valN_bound : ∀ (s : List UInt8) (acc k : Nat), (∀ c ∈ s, digitB c = true) → acc < 10 ^ k → s.foldl (fun a c => 10 * a + (c.toNat - 48)) acc < 10 ^ (k + s.length)
  | [], acc, k, _, h => by simpa using h
  | c :: s, acc, k, hd, h => by
    have hc : digitB c = true := hd c (by simp)
    simp only [digitB, Bool.and_eq_true, decide_eq_true_eq] at hc
    have h1 : c.toNat ≤ 57 := by have := UInt8.le_iff_toNat_le.1 hc.2; simpa using this
    have h2 : 10 * acc + (c.toNat - 48) < 10 ^ (k + 1) := by rw [Nat.pow_succ]; omega
    have := valN_bound s _ (k + 1) (fun x hx => hd x (by simp [hx])) h2
    simpa [Nat.add_assoc, Nat.add_comm 1] using this
theorem twd_all {r : List UInt8} : ∀ x ∈ r.takeWhile digitB, digitB x = true := by
  intro x hx
  induction r with
  | nil => simp at hx
  | cons a r ih =>
    by_cases ha : digitB a = true
    · rw [List.takeWhile_cons_of_pos ha] at hx
      rcases List.mem_cons.1 hx with rfl | hx
      · exact ha
      · exact ih hx
    · rw [List.takeWhile_cons_of_neg ha] at hx; simp at hx
theorem lexOne_fit {c : UInt8} {r : List UInt8} {k n v : Nat} (h : lexOne c r = .ok (k, n, v)) : (k = 1 ∨ k = 2 ∨ k = 3) ∧ n ≤ 30 ∧ v ≤ 10000000 := by
  unfold lexOne at h
  split at h
  · split at h
    · cases h
    · injection h with h; injection h with h1 h; injection h with h2 h3; omega
  · split at h
    · rename_i hd
      split at h
      · cases h
      · rename_i hl
        injection h with h; injection h with h1 h; injection h with h2 h3
        have hb := valN_bound (c :: r.takeWhile digitB) 0 0 (fun x hx => by rcases List.mem_cons.1 hx with rfl | hx; exact hd; exact twd_all x hx) (by decide)
        have hl2 : (c :: r.takeWhile digitB).length ≤ 7 := by simp; omega
        have h7 : 10 ^ (0 + (c :: r.takeWhile digitB).length) ≤ 10 ^ 7 := Nat.pow_le_pow_right (by decide) (by omega)
        have : valN (c :: r.takeWhile digitB) < 10 ^ 7 := Nat.lt_of_lt_of_le hb h7
        refine ⟨by omega, by omega, ?_⟩
        rw [← h3]
        exact Nat.le_of_lt (Nat.lt_of_lt_of_le this (by decide))
    · split at h
      · injection h with h; injection h with h1 h; injection h with h2 h3; omega
      · split at h
        · split at h <;> (injection h with h; injection h with h1 h; injection h with h2 h3; omega)
        · split at h
          · split at h
            · injection h with h; injection h with h1 h; injection h with h2 h3; omega
            · cases h
          · cases h
theorem name_word {t : Tok} (h : TokOk t) (hk : t.kind = 1) : ∀ c ∈ t.text, wordB c = true := by
  obtain ⟨c, r, ht, h1, h2, h3⟩ := h
  rw [hk] at h3
  unfold lexOne at h3
  split at h3
  · rename_i hc
    split at h3
    · cases h3
    · injection h3 with h3; injection h3 with _ h3; injection h3 with h3 _
      have hall := takeWhile_all (p := wordB) (l := r) (by omega)
      rw [ht]
      intro x hx
      rcases List.mem_cons.1 hx with rfl | hx
      · simp [wordB, hc]
      · exact hall x hx
  · exfalso
    split at h3
    · split at h3
      · cases h3
      · injection h3 with h3; injection h3 with h3 _; exact absurd h3 (by decide)
    · split at h3
      · injection h3 with h3; injection h3 with h3 _; exact absurd h3 (by decide)
      · split at h3
        · split at h3 <;> (injection h3 with h3; injection h3 with h3 _; exact absurd h3 (by decide))
        · split at h3
          · split at h3
            · injection h3 with h3; injection h3 with h3 _; exact absurd h3 (by decide)
            · cases h3
          · cases h3
theorem word_nospace {c : UInt8} (h : wordB c = true) : c ≠ 32 := by rintro rfl; revert h; decide
theorem tok_fit {l : List UInt8} {ts : List Tok} (h : lexF l = .ok ts) : ∀ t ∈ ts, (t.kind = 1 ∨ t.kind = 2 ∨ t.kind = 3) ∧ t.text.length ≤ 30 ∧ t.n ≤ 10000000 ∧ t.pos ≤ 1000000 ∧ (t.kind = 1 → ∀ c ∈ t.text, c ≠ 32) := by
  intro t ht
  have hl := lexF_ok h
  have hm : t ∈ (sc l 0).1 := by rw [hl.1]; exact ht
  have hk := sc_ok l 0 t hm
  have hp := (sc_placed l 0).mem t hm
  have hn := fun hk1 c hc => word_nospace (name_word hk hk1 c hc)
  obtain ⟨c, r, h0, h1, h2, h3⟩ := hk
  obtain ⟨a, b, d⟩ := lexOne_fit h3
  refine ⟨a, ?_, d, by omega, hn⟩
  rw [h0]; simp; omega
theorem lexOne_err {c : UInt8} {r : List UInt8} {e : Nat} (h : lexOne c r = .error e) : e ≠ 0 := by
  unfold lexOne at h
  split at h
  · split at h
    · cases h; decide
    · cases h
  · split at h
    · split at h
      · cases h; decide
      · cases h
    · split at h
      · cases h
      · split at h
        · split at h <;> cases h
        · split at h
          · split at h
            · cases h
            · cases h; decide
          · cases h; decide
theorem sc_err_ne (l : List UInt8) (p : Nat) : ∀ e q, (sc l p).2 = some (e, q) → e ≠ 0 := by
  refine sc_ind (M := fun l p => ∀ e q, (sc l p).2 = some (e, q) → e ≠ 0) ?_ ?_ ?_ ?_ ?_ l.length l p (Nat.le_refl _)
  · intro p e q h; simp [sc_nil] at h
  · intro c r p h ih e q hq; rw [sc_blank _ _ h] at hq; exact ih e q hq
  · intro r p ih e q hq; rw [sc_hash] at hq; exact ih e q hq
  · intro c r p e h1 h2 h3 e' q hq; rw [sc_err _ h1 h2 h3] at hq; simp at hq; rw [← hq.1]; exact lexOne_err h3
  · intro c r p j n v h1 h2 h3 ih e q hq
    rw [sc_tok _ h1 h2 h3] at hq
    exact ih e q hq
theorem lexF_err_ne {l : List UInt8} {e : Nat} {at' : Int} (h : lexF l = .error (e, at')) : e ≠ 0 := by
  unfold lexF at h
  rw [show scan l.length l 0 = sc l 0 from rfl] at h
  split at h
  · cases h; decide
  · split at h
    · cases h; decide
    · split at h
      · rename_i e' p' he
        cases h
        exact sc_err_ne l 0 _ _ he
      · cases h
end Go.Proofs.YtbicmjmcdnkjhaaGreatDoor
namespace Go.Proofs.YtbicmjmcdnkjhaaGreatDoor
theorem north_law {p : ProvI} (hp : plainP p) (h : (northA p).2 = 0) : p = upP (downP p) ∧ WriteOk (downP p) ∧ parseF (northA p).1 = .ok (downP p) ∧ ∃ ts, lexF (northA p).1 = .ok ts := by
  obtain ⟨h1, h2, ⟨ts, h3⟩, h4⟩ := ansP_ok h
  obtain ⟨e, hw⟩ := written_down hp h1
  have hok := ok_wr.2 ⟨hw, h2⟩
  refine ⟨e, hok, ?_, ts, ?_⟩
  · rw [show (northA p).1 = textN (downP p) from h4]
    exact north_round hok h3
  · rw [show (northA p).1 = textN (downP p) from h4]
    exact h3
theorem south_law {p : ProvI} (hp : plainP p) (h : (southA p).2 = 0) : p = upP (downP p) ∧ So.WriteOk (downP p) ∧ So.parseF (southA p).1 = .ok (downP p) ∧ ∃ ts, lexF (southA p).1 = .ok ts := by
  obtain ⟨h1, h2, ⟨ts, h3⟩, h4⟩ := ansP_ok h
  obtain ⟨e, hw⟩ := written_down hp h1
  have hok := ok_wrS.2 ⟨hw, h2⟩
  refine ⟨e, hok, ?_, ts, ?_⟩
  · rw [show (southA p).1 = So.textS (downP p) from h4]
    exact So.south_round hok h3
  · rw [show (southA p).1 = So.textS (downP p) from h4]
    exact h3
theorem equal_north {p q : ProvI} (hp : plainP p) (hq : plainP q) (h1 : (northA p).2 = 0) (h2 : (northA q).2 = 0) : (northA p).1 = (northA q).1 ↔ p = q := by
  obtain ⟨a1, a2, a3, -⟩ := north_law hp h1
  obtain ⟨b1, b2, b3, -⟩ := north_law hq h2
  constructor
  · intro e
    rw [e, b3] at a3
    injection a3 with a3
    rw [a1, b1, a3]
  · rintro rfl; rfl
theorem equal_south {p q : ProvI} (hp : plainP p) (hq : plainP q) (h1 : (southA p).2 = 0) (h2 : (southA q).2 = 0) : (southA p).1 = (southA q).1 ↔ p = q := by
  obtain ⟨a1, a2, a3, -⟩ := south_law hp h1
  obtain ⟨b1, b2, b3, -⟩ := south_law hq h2
  constructor
  · intro e
    rw [e, b3] at a3
    injection a3 with a3
    rw [a1, b1, a3]
  · rintro rfl; rfl
def setName (p : ProvI) (w : Bytes) : ProvI := { p with name := w }
theorem words_ans {ok : Bytes → Bool} {text : Prov → Bytes} {p : ProvI} {w : Bytes} (h : (ansP ok text p).2 = 0) : (ansP ok text (setName p w)).2 = 2 ∨ ((ansP ok text (setName p w)).2 = 7 ↔ ok w = false) := by
  obtain ⟨h1, h2, -, -⟩ := ansP_ok h
  have e1 : writtenI (setName p w) = true := h1
  have e2 : namesP (downP (setName p w)) = (downP p).id :: w :: ((downP p).exc ++ (namesF (downP p).cond ++ (namesS (downP p).beg ++ (namesS (downP p).fin ++ namesS (downP p).aga)))) := rfl
  unfold ansP
  rw [if_pos e1]
  cases hw : ok w with
  | true =>
    have : (namesP (downP (setName p w))).all ok = true := by
      rw [List.all_eq_true, e2]
      intro s hs
      rcases List.mem_cons.1 hs with rfl | hs
      · exact h2 _ (by unfold namesP; simp)
      · rcases List.mem_cons.1 hs with rfl | hs
        · exact hw
        · exact h2 _ (by unfold namesP; exact List.mem_cons_of_mem _ (List.mem_cons_of_mem _ hs))
    rw [if_pos this]
    split
    · right; simp
    · left; rfl
  | false =>
    have : ¬ (namesP (downP (setName p w))).all ok = true := by
      rw [List.all_eq_true, e2]
      intro ha
      have := ha w (by simp)
      rw [hw] at this
      cases this
    rw [if_neg this]
    right
    simp
/- the key words of both languages are words -/
theorem words_north : ∀ w ∈ keyWords, (coreW w).1 = 1 := by decide
theorem words_south : ∀ w ∈ So.keyWords, (coreW w).1 = 1 := by decide
theorem nameOk_word {w : Bytes} (h : (coreW w).1 = 1) : nameOk w = !keyWords.contains w := by
  unfold nameOk keyF
  rw [h]
  rfl
theorem nameOk_wordS {w : Bytes} (h : (coreW w).1 = 1) : So.nameOk w = !So.keyWords.contains w := by
  unfold So.nameOk So.keyF
  rw [h]
  rfl
theorem words_law {p : ProvI} {w : Bytes} (hw : w ∈ keyWords ∨ w ∈ So.keyWords) (h1 : (northA p).2 = 0) (h2 : (southA p).2 = 0) :
    ((northA (setName p w)).2 = 2 ∨ ((northA (setName p w)).2 = 7 ↔ keyWords.contains w = true)) ∧ ((southA (setName p w)).2 = 2 ∨ ((southA (setName p w)).2 = 7 ↔ So.keyWords.contains w = true)) := by
  have hc : (coreW w).1 = 1 := by
    rcases hw with hw | hw
    · exact words_north w hw
    · exact words_south w hw
  have a := words_ans (w := w) h1
  have b := words_ans (w := w) h2
  rw [nameOk_word hc] at a
  rw [nameOk_wordS hc] at b
  simp only [Bool.not_eq_false'] at a b
  exact ⟨a, b⟩
/- what is refused -/
theorem refuses_ref {p : ProvI} (h : refP p = true) : writtenI p = false := by
  unfold writtenI
  rw [h]
  rfl
theorem refuses_exc {p : ProvI} (a : Bytes) (l : List Bytes) (h : p.exc = l ++ [a, a]) : writtenI p = false := by
  unfold writtenI
  have : ¬ p.exc.Nodup := by
    rw [h, List.nodup_append]
    intro hh
    have := hh.2.1
    simp at this
  rw [decide_eq_false this]
  simp
theorem refuses_fin {p : ProvI} (t : TreeI) (h : p.fin = .mk 8 [] 0 0 [t]) : writtenI p = false := by
  unfold writtenI
  have : (startI p.fin 200 20).1 = false := by
    rw [h, startI]
    rw [if_neg (by simp [refS]), if_pos (Or.inl rfl), if_neg (by simp)]
  rw [this]
  simp
theorem refuses_cond {p : ProvI} (t u : TreeI) (h : p.cond = .mk 5 [] 0 0 [t, u]) : writtenI p = false := by
  unfold writtenI
  have : (formI p.cond 200 20).1 = false := by
    rw [h, formI]
    rw [if_neg (by simp [refF, testI]), if_neg (by simp), if_neg (by simp)]
  rw [this]
  simp
theorem arg_both (p : ProvI) : (northA p).2 = 1 ↔ (southA p).2 = 1 := (ansP_arg nameOk textN p).trans (ansP_arg So.nameOk So.textS p).symm
theorem ans_arg {p : ProvI} (h : writtenI p = false) : northA p = ([], 1) ∧ southA p = ([], 1) := by
  have hn : ¬ writtenI p = true := by rw [h]; simp
  exact ⟨by unfold northA ansP; rw [if_neg hn], by unfold southA ansP; rw [if_neg hn]⟩
end Go.Proofs.YtbicmjmcdnkjhaaGreatDoor
namespace Go.Proofs.YtbicmjmcdnkjhaaGreatDoor
theorem core_good {s : List UInt8} (h : goodName s = true) : (coreW s).1 = 1 := by
  unfold goodName at h
  simp only [Bool.and_eq_true, decide_eq_true_eq, List.all_eq_true] at h
  obtain ⟨⟨⟨h1, h2⟩, h3⟩, -⟩ := h
  cases s with
  | nil => simp at h1
  | cons c r =>
    have hc : letterB c = true := by simpa using h1
    have ht : r.takeWhile wordB = r := takeWhile_each fun x hx => h2 x (by simp [hx])
    have hl : lexOne c r = .ok (1, r.length + 1, 0) := by
      unfold lexOne
      rw [if_pos hc, ht, if_neg (by simp at h3; omega)]
    unfold coreW
    simp only [hl, if_true]
theorem good_ok {s : List UInt8} (h : goodName s = true) : nameOk s = true := by
  unfold nameOk
  rw [core_good h]
  unfold goodName at h
  simp only [Bool.and_eq_true] at h
  rw [h.2]
  rfl
theorem okFs_of : ∀ {l : List Tree}, (∀ t ∈ l, okF t = true) → okFs l = true
  | [], _ => by rw [okFs]
  | t :: r, h => by rw [okFs, h t (by simp), okFs_of fun x hx => h x (by simp [hx])]; rfl
theorem okSs_of : ∀ {l : List Tree}, (∀ t ∈ l, okS t = true) → okSs l = true
  | [], _ => by rw [okSs]
  | t :: r, h => by rw [okSs, h t (by simp), okSs_of fun x hx => h x (by simp [hx])]; rfl
theorem two_le {α : Type} {l : List α} (h0 : l ≠ []) (hn : ∀ a, l ≠ [a]) : 2 ≤ l.length := by
  rcases l with - | ⟨a, - | ⟨b, l⟩⟩
  · exact absurd rfl h0
  · exact absurd rfl (hn a)
  · simp
theorem joinT_ok {op : Nat} {l : List Tree} (ho : op = 6 ∨ op = 7) (h0 : l ≠ []) (h : ∀ t ∈ l, okF t = true) : okF (joinT op l) = true := by
  unfold joinT
  split
  · rename_i x; exact h x (by simp)
  · rename_i hn
    have := two_le h0 hn
    rw [okF, okFs_of h]
    rcases ho with rfl | rfl <;> simp [this]
theorem joinT_okS {op : Nat} {l : List Tree} (ho : op = 8 ∨ op = 9) (h0 : l ≠ []) (h : ∀ t ∈ l, okS t = true) : okS (joinT op l) = true := by
  unfold joinT
  split
  · rename_i x; exact h x (by simp)
  · rename_i hn
    have := two_le h0 hn
    rw [okS, okSs_of h]
    rcases ho with rfl | rfl <;> simp [this]
theorem sev_ok {one : List Tok → R Tree} (w : List UInt8) {op n : Nat} (ho : op = 6 ∨ op = 7) (h : Gives (fun t => okF t = true) one) : Gives (fun t => okF t = true) (severalF one w op n) :=
  Gives.bind (Gives.severalL w h n) fun xs hxs => Gives.pure (joinT_ok ho hxs.1 hxs.2)
theorem sev_okS {one : List Tok → R Tree} (w : List UInt8) {op n : Nat} (ho : op = 8 ∨ op = 9) (h : Gives (fun t => okS t = true) one) : Gives (fun t => okS t = true) (severalF one w op n) :=
  Gives.bind (Gives.severalL w h n) fun xs hxs => Gives.pure (joinT_okS ho hxs.1 hxs.2)
theorem atom_ok' : ∀ n, Gives (fun t => okF t = true) (atomF n)
  | 0 => fun l x r _ hp => by cases hp
  | n + 1 => by
    have ih := atom_ok' n
    refine Gives.opt (fun i hi => ?_) (Gives.bind Gives.name fun s hs => Gives.opt (fun c hc => Gives.bind (Gives.number _) fun v hv => Gives.pure ?_) (Gives.pure ?_))
    · match i with
      | 0 => exact Gives.bind ih fun f hf => Gives.pure (by rw [okF, okFs_of (l := [f]) (fun t ht => by rw [List.mem_singleton.1 ht]; exact hf)]; simp)
      | 1 => exact Gives.bind (sev_ok _ (.inr rfl) (sev_ok _ (.inl rfl) ih)) fun f hf => Gives.bind Gives.must fun _ _ => Gives.pure hf
      | 2 => exact Gives.pure (by rw [okF, okFs]; simp)
      | _ + 3 => exact Gives.pure (by rw [okF, okFs]; simp)
    · simp at hc
      rw [okF, okFs]
      simp [good_ok hs]
      omega
    · rw [okF, okFs]
      simp [good_ok hs]
theorem one_ok' : ∀ n, Gives (fun t => okS t = true) (oneF n)
  | 0 => fun l x r _ hp => by cases hp
  | n + 1 => by
    have ih := one_ok' n
    refine Gives.bind Gives.must (fun i hi => ?_)
    match i with
    | 0 => exact Gives.pure (by rw [okS, okSs]; simp)
    | 1 => exact Gives.pure (by rw [okS, okSs]; simp)
    | 2 => exact Gives.bind (Gives.number _) fun v hv => Gives.pure (by rw [okS, okSs]; simp [hv])
    | 3 => exact Gives.bind (sev_okS _ (.inr rfl) (sev_okS _ (.inl rfl) ih)) fun f hf => Gives.bind Gives.must fun _ _ => Gives.pure hf
    | k + 4 =>
      exact Gives.bind Gives.name fun s hs => Gives.pure (by
        have hk : k < 4 := by simp at hi; omega
        rw [okS, okSs, if_pos (show 4 + k = 4 ∨ 4 + k = 5 ∨ 4 + k = 6 ∨ 4 + k = 7 by omega), if_neg (show ¬ 4 + k = 3 by omega), if_neg (show ¬ (4 + k = 8 ∨ 4 + k = 9) by omega), if_pos (show 1 ≤ 4 + k ∧ 4 + k ≤ 7 by omega), good_ok hs]
        simp)
theorem small_bound {t : Tree} (h : boundC t = 0) : small t = true := by
  unfold boundC at h
  split at h
  · cases h
  · rename_i hn
    unfold small
    rw [Bool.and_eq_true, decide_eq_true_eq, decide_eq_true_eq]
    omega
theorem when_ok' (n : Nat) (w : List UInt8) {op : Nat} (ho : op = 1 ∨ op = 2) : Gives (fun t => okS t = true ∧ boundC t = 0) (whenF n w op) :=
  Gives.opt (fun _ _ => bounded_gives (sev_okS _ (.inr rfl) (sev_okS _ (.inl rfl) (one_ok' n)))) (Gives.pure (by
    refine ⟨?_, ?_⟩
    · rw [okS, okSs]
      rcases ho with rfl | rfl <;> simp
    · simp [boundC, Tree.deep, deeps, Tree.size, sizes]))
theorem if_ok' (n : Nat) : Gives (fun t => okF t = true ∧ boundC t = 0) (ifF n) :=
  Gives.opt (fun _ _ => bounded_gives (sev_ok _ (.inr rfl) (sev_ok _ (.inl rfl) (atom_ok' n)))) (Gives.pure (by
    refine ⟨?_, ?_⟩
    · rw [okF, okFs]; simp
    · simp [boundC, Tree.deep, deeps, Tree.size, sizes]))
theorem nodup_of_take : ∀ {l : List (List UInt8)}, (∀ (i : Nat) s, l[i]? = some s → s ∉ l.take i) → l.Nodup := by
  intro l h
  unfold List.Nodup
  rw [List.pairwise_iff_getElem]
  intro i j hi hj hij he
  refine h j _ (List.getElem?_eq_getElem hj) ?_
  rw [← he]
  exact List.mem_take_iff_getElem.2 ⟨i, by omega, rfl⟩
theorem body_ok' (n : Nat) : Gives WriteOk (bodyF n) :=
  Gives.bind Gives.must fun rank hr => Gives.bind Gives.name fun id hi => Gives.bind Gives.must fun _ _ => Gives.bind kind_gives fun k hk => Gives.bind (if_ok' n) fun cond hc =>
  Gives.bind exc_gives fun exc he => Gives.bind (when_ok' n _ (.inl rfl)) fun beg hb => Gives.bind (when_ok' n _ (.inr rfl)) fun fin hf => Gives.bind (when_ok' n _ (.inr rfl)) fun aga ha =>
  Gives.pure ⟨⟨by show 1 ≤ 1 + rank; omega, by show 1 + rank ≤ 4; simp at hr; omega⟩, good_ok hi, hk.1, good_ok hk.2.1, hk.2.2, hc.1, small_bound hc.2, fun s hs => good_ok (he.2.1 s hs), nodup_of_take he.2.2, he.1, hb.1, small_bound hb.2, hf.1, small_bound hf.2, ha.1, small_bound ha.2⟩
theorem parse_writeOk {l : List UInt8} {p : Prov} (h : parseF l = .ok p) : WriteOk p := by
  unfold parseF at h
  split at h
  · cases h
  · rename_i ts hts
    split at h
    · cases h
    · rename_i q r hq
      injection h with h
      subst h
      unfold endF at hq
      cases hp : provF fuelN ts with
      | error e => simp only [hp, bindR] at hq; cases hq
      | ok v =>
        obtain ⟨x, r1⟩ := v
        have hn : AllN ts := fun t ht => tokN_of_ok (sc_ok l 0 t (by rw [(lexF_ok hts).1]; exact ht))
        have := ((Gives.bind (body_ok' fuelN) fun p hp => Gives.bind Gives.must fun _ _ => Gives.pure hp) ts x r1 hn hp).1
        simp only [hp, bindR] at hq
        split at hq
        · cases hq; exact this
        · cases hq
/- written again -/
mutual
theorem plainS_up : ∀ {t : Tree}, shapeS t = true → plainS (up t)
  | .mk op name cmp n ks, h => by
    rw [shapeS] at h
    simp only [Bool.and_eq_true, decide_eq_true_eq] at h
    rw [up, plainS]
    exact ⟨by omega, plainSs_up h.2⟩
theorem plainSs_up : ∀ {ks : List Tree}, shapeSs ks = true → plainSs (ups ks)
  | [], _ => by rw [ups, plainSs]; trivial
  | k :: r, h => by
    rw [shapeSs, Bool.and_eq_true] at h
    rw [ups, plainSs]
    exact ⟨plainS_up h.1, plainSs_up h.2⟩
end
theorem plainP_up {p : Prov} (h : WrOk p) : plainP (upP p) := ⟨plainS_up h.beg, plainS_up h.fin, plainS_up h.aga⟩
theorem ans_wr {ok : Bytes → Bool} {text : Prov → Bytes} {p : Prov} (h : WrOk p) : (ansP ok text (upP p)).2 = 0 ∨ (ansP ok text (upP p)).2 = 2 ∨ (ansP ok text (upP p)).2 = 7 := by
  unfold ansP
  rw [if_pos (written_up h)]
  split
  · split
    · exact Or.inl rfl
    · exact Or.inr (Or.inl rfl)
  · exact Or.inr (Or.inr rfl)
theorem ans_ok {ok : Bytes → Bool} {text : Prov → Bytes} {p : Prov} (h : WrOk p) (hn : ∀ s ∈ namesP p, ok s = true) : (ansP ok text (upP p)).2 = 0 ∨ (ansP ok text (upP p)).2 = 2 := by
  unfold ansP
  rw [if_pos (written_up h), down_upP, if_pos (List.all_eq_true.2 hn)]
  split
  · exact Or.inl rfl
  · exact Or.inr rfl
theorem again_north {p : Prov} (h : WrOk p) (h0 : (northA (upP p)).2 = 0) : parseF (northA (upP p)).1 = .ok p := by
  have := (north_law (plainP_up h) h0).2.2.1
  rw [down_upP] at this
  exact this
theorem again_south {p : Prov} (h : WrOk p) (h0 : (southA (upP p)).2 = 0) : So.parseF (southA (upP p)).1 = .ok p := by
  have := (south_law (plainP_up h) h0).2.2.1
  rw [down_upP] at this
  exact this
/- a text of the first language, written again in both -/
theorem north_again {l : List UInt8} {p : Prov} (h : parseF l = .ok p) :
    ((northA (upP p)).2 = 0 ∨ (northA (upP p)).2 = 2) ∧ ((northA (upP p)).2 = 0 → parseF (northA (upP p)).1 = .ok p) ∧ ((southA (upP p)).2 = 0 ∨ (southA (upP p)).2 = 2 ∨ (southA (upP p)).2 = 7) ∧ ((southA (upP p)).2 = 0 → So.parseF (southA (upP p)).1 = .ok p) := by
  obtain ⟨hw, hn⟩ := ok_wr.1 (parse_writeOk h)
  exact ⟨ans_ok hw hn, again_north hw, ans_wr hw, again_south hw⟩
end Go.Proofs.YtbicmjmcdnkjhaaGreatDoor
