/- Plain laws of the lexer and the parser. -/
import Derived.Test.YtpagkakplmeokaaDoorNPlain2
set_option linter.unusedVariables false
set_option linter.unusedSimpArgs false
namespace Go.Proofs.YtpagkakplmeokaaDoor
/- What a provision that was read is like. -/
def goodName (s : List UInt8) : Bool := s.head?.any letterB && s.all wordB && decide (s.length ≤ 24) && !keyF s
def TokN (t : Tok) : Prop := t.kind = 1 → keyF t.text = false → goodName t.text = true
theorem takeWhile_all {α : Type} {p : α → Bool} : ∀ {l : List α}, (l.takeWhile p).length = l.length → ∀ x ∈ l, p x = true
  | [], _, x, hx => by cases hx
  | a :: l, h, x, hx => by
    by_cases ha : p a = true
    · rw [List.takeWhile_cons_of_pos ha] at h
      rcases List.mem_cons.1 hx with rfl | hx
      · exact ha
      · exact takeWhile_all (by simpa using h) x hx
    · rw [List.takeWhile_cons_of_neg ha] at h; simp at h
theorem tokN_of_ok {t : Tok} (h : TokOk t) : TokN t := by
  intro hk hq
  obtain ⟨c, r, ht, h1, h2, h3⟩ := h
  rw [hk] at h3
  unfold lexOne at h3
  split at h3
  · rename_i hc
    split at h3
    · cases h3
    · rename_i hl
      injection h3 with h3
      injection h3 with _ h3
      injection h3 with h3 _
      have hr : (r.takeWhile wordB).length = r.length := by omega
      have hall := takeWhile_all hr
      unfold goodName
      rw [hq, ht]
      have hc2 : wordB c = true := by simp [wordB, hc]
      simp [hc, hc2]
      exact ⟨fun x hx => hall x hx, by omega⟩
  · exfalso
    split at h3
    · split at h3
      · cases h3
      · injection h3 with h3; injection h3 with h3 _; exact absurd h3 (by decide)
    · split at h3
      · injection h3 with h3; injection h3 with h3 _; exact absurd h3 (by decide)
      · split at h3
        · split at h3 <;> (injection h3 with h3; injection h3 with h3 _; exact absurd h3 (by decide))
        · split at h3
          · split at h3
            · injection h3 with h3; injection h3 with h3 _; exact absurd h3 (by decide)
            · cases h3
          · cases h3
mutual
def FormT : Tree → Prop
  | .mk op name cmp n ks => n ≤ 1000000 ∧ FormL ks ∧ ((op = 1 ∨ op = 2) ∧ name = [] ∧ cmp = 0 ∧ n = 0 ∧ ks = [] ∨ op = 3 ∧ goodName name = true ∧ 1 ≤ cmp ∧ cmp ≤ 6 ∧ ks = [] ∨ op = 4 ∧ goodName name = true ∧ cmp = 0 ∧ n = 0 ∧ ks = [] ∨
      op = 5 ∧ name = [] ∧ cmp = 0 ∧ n = 0 ∧ ks.length = 1 ∨ (op = 6 ∨ op = 7) ∧ name = [] ∧ cmp = 0 ∧ n = 0 ∧ 2 ≤ ks.length)
def FormL : List Tree → Prop
  | [] => True
  | t :: r => FormT t ∧ FormL r
end
mutual
def BegT : Tree → Prop
  | .mk op name _ n ks => n ≤ 1000000 ∧ BegL ks ∧ ((op = 1 ∨ op = 2) ∧ name = [] ∧ n = 0 ∧ ks = [] ∨ op = 3 ∧ name = [] ∧ ks = [] ∨ (op = 4 ∨ op = 5 ∨ op = 6 ∨ op = 7) ∧ goodName name = true ∧ n = 0 ∧ ks = [] ∨
      (op = 8 ∨ op = 9) ∧ name = [] ∧ n = 0 ∧ 2 ≤ ks.length)
def BegL : List Tree → Prop
  | [] => True
  | t :: r => BegT t ∧ BegL r
end
theorem formL_mem {l : List Tree} (h : ∀ t ∈ l, FormT t) : FormL l := by
  induction l with
  | nil => trivial
  | cons t r ih => exact ⟨h t (by simp), ih fun x hx => h x (by simp [hx])⟩
theorem begL_mem {l : List Tree} (h : ∀ t ∈ l, BegT t) : BegL l := by
  induction l with
  | nil => trivial
  | cons t r ih => exact ⟨h t (by simp), ih fun x hx => h x (by simp [hx])⟩
def AllN (l : List Tok) : Prop := ∀ t ∈ l, TokN t
/- what a parser answers, from tokens of the lexer -/
def Gives {α : Type} (V : α → Prop) (P : List Tok → R α) : Prop := ∀ l x r, AllN l → P l = .ok (x, r) → V x ∧ AllN r
theorem Gives.mono {α : Type} {V V' : α → Prop} {P : List Tok → R α} (h : Gives V P) (hv : ∀ x, V x → V' x) : Gives V' P := fun l x r hl hp => ⟨hv _ (h l x r hl hp).1, (h l x r hl hp).2⟩
theorem Gives.pure {α : Type} {V : α → Prop} {x : α} (h : V x) : Gives V (fun l => .ok (x, l)) := fun l y r hl hp => by cases hp; exact ⟨h, hl⟩
theorem Gives.fail {α : Type} {V : α → Prop} : Gives V (fun l => (failR l : R α)) := fun l y r hl hp => by cases hp
theorem Gives.bind {α β : Type} {V : α → Prop} {U : β → Prop} {P : List Tok → R α} {Q : α → List Tok → R β} (hP : Gives V P) (hQ : ∀ x, V x → Gives U (Q x)) : Gives U (fun l => bindR (P l) Q) := by
  intro l y r hl hp
  cases hq : P l with
  | error e => simp only [hq, bindR] at hp; cases hp
  | ok v =>
    obtain ⟨x, r1⟩ := v
    simp only [hq, bindR] at hp
    obtain ⟨h1, h2⟩ := hP l x r1 hl hq
    exact hQ x h1 r1 y r h2 hp
theorem Gives.opt {α : Type} {V : α → Prop} {ws : List (List UInt8)} {yes : Nat → List Tok → R α} {no : List Tok → R α} (hy : ∀ i, i < ws.length → Gives V (yes i)) (hn : Gives V no) : Gives V (fun l => optF ws l yes no) := by
  intro l y r hl hp
  rcases takeF_cases ws l with ht | ⟨t, r0, i, rfl, ht, -, hi⟩
  · simp only [optF, ht] at hp
    exact hn l y r hl hp
  · simp only [optF, ht] at hp
    have : i < ws.length := by
      unfold List.idxOf? at hi
      rw [List.findIdx?_eq_some_iff_getElem] at hi
      exact hi.1
    exact hy i this r0 y r (fun x hx => hl x (by simp [hx])) hp
theorem Gives.must {ws : List (List UInt8)} : Gives (fun i => i < ws.length) (mustF ws) := Gives.opt (fun i hi => Gives.pure hi) Gives.fail
theorem Gives.name : Gives (fun s => goodName s = true) nameF := by
  intro l x r hl hp
  cases l with
  | nil => cases hp
  | cons t r0 =>
    simp only [nameF] at hp
    split at hp
    · rename_i hk
      cases hp
      simp at hk
      exact ⟨hl t (by simp) hk.1 hk.2, fun x hx => hl x (by simp [hx])⟩
    · cases hp
theorem Gives.number (most : Nat) : Gives (fun n => n ≤ most) (numberF most) := by
  intro l x r hl hp
  cases l with
  | nil => cases hp
  | cons t r0 =>
    simp only [numberF] at hp
    split at hp
    · split at hp
      · cases hp
      · cases hp
        exact ⟨by omega, fun x hx => hl x (by simp [hx])⟩
    · cases hp
theorem Gives.severalL {α : Type} {V : α → Prop} {one : List Tok → R α} (w : List UInt8) (h : Gives V one) : ∀ n, Gives (fun l => l ≠ [] ∧ ∀ x ∈ l, V x) (severalL one w n)
  | 0 => fun l x r _ hp => by cases hp
  | n + 1 => Gives.bind h fun x hx => Gives.opt (fun i _ => Gives.bind (Gives.severalL w h n) fun xs hxs => Gives.pure ⟨by simp, fun y hy => by rcases List.mem_cons.1 hy with rfl | hy; exact hx; exact hxs.2 y hy⟩) (Gives.pure ⟨by simp, fun y hy => by simp at hy; rw [hy]; exact hx⟩)
theorem joinT_form {op : Nat} {l : List Tree} (ho : op = 6 ∨ op = 7) (h0 : l ≠ []) (h : ∀ t ∈ l, FormT t) : FormT (joinT op l) := by
  unfold joinT
  split
  · rename_i x; exact h x (by simp)
  · rename_i hn
    have : 2 ≤ l.length := by
      rcases l with - | ⟨a, - | ⟨b, l⟩⟩
      · exact absurd rfl h0
      · exact absurd rfl (hn a)
      · simp
    unfold FormT
    exact ⟨by omega, formL_mem h, .inr (.inr (.inr (.inr ⟨ho, rfl, rfl, rfl, this⟩)))⟩
theorem joinT_beg {op : Nat} {l : List Tree} (ho : op = 8 ∨ op = 9) (h0 : l ≠ []) (h : ∀ t ∈ l, BegT t) : BegT (joinT op l) := by
  unfold joinT
  split
  · rename_i x; exact h x (by simp)
  · rename_i hn
    have : 2 ≤ l.length := by
      rcases l with - | ⟨a, - | ⟨b, l⟩⟩
      · exact absurd rfl h0
      · exact absurd rfl (hn a)
      · simp
    unfold BegT
    exact ⟨by omega, begL_mem h, .inr (.inr (.inr ⟨ho, rfl, rfl, this⟩))⟩
theorem Gives.sevF {one : List Tok → R Tree} (w : List UInt8) {op n : Nat} (ho : op = 6 ∨ op = 7) (h : Gives FormT one) : Gives FormT (severalF one w op n) :=
  Gives.bind (Gives.severalL w h n) fun xs hxs => Gives.pure (joinT_form ho hxs.1 hxs.2)
theorem Gives.sevS {one : List Tok → R Tree} (w : List UInt8) {op n : Nat} (ho : op = 8 ∨ op = 9) (h : Gives BegT one) : Gives BegT (severalF one w op n) :=
  Gives.bind (Gives.severalL w h n) fun xs hxs => Gives.pure (joinT_beg ho hxs.1 hxs.2)
theorem atom_gives : ∀ n, Gives FormT (atomF n)
  | 0 => fun l x r _ hp => by cases hp
  | n + 1 => by
    have ih := atom_gives n
    refine Gives.opt (fun i hi => ?_) (Gives.bind Gives.name fun s hs => Gives.opt (fun c hc => Gives.bind (Gives.number _) fun v hv => Gives.pure ?_) (Gives.pure ?_))
    · match i with
      | 0 => exact Gives.bind ih fun f hf => Gives.pure (by unfold FormT; exact ⟨by omega, ⟨hf, trivial⟩, .inr (.inr (.inr (.inl ⟨rfl, rfl, rfl, rfl, rfl⟩)))⟩)
      | 1 => exact Gives.bind (Gives.sevF _ (.inr rfl) (Gives.sevF _ (.inl rfl) ih)) fun f hf => Gives.bind Gives.must fun _ _ => Gives.pure hf
      | 2 => exact Gives.pure (by unfold FormT; exact ⟨by omega, trivial, .inl ⟨.inl rfl, rfl, rfl, rfl, rfl⟩⟩)
      | _ + 3 => exact Gives.pure (by unfold FormT; exact ⟨by omega, trivial, .inl ⟨.inr rfl, rfl, rfl, rfl, rfl⟩⟩)
    · simp at hc; unfold FormT; exact ⟨hv, trivial, .inr (.inl ⟨rfl, hs, by omega, by omega, rfl⟩)⟩
    · unfold FormT; exact ⟨by omega, trivial, .inr (.inr (.inl ⟨rfl, hs, rfl, rfl, rfl⟩))⟩
theorem one_gives : ∀ n, Gives BegT (oneF n)
  | 0 => fun l x r _ hp => by cases hp
  | n + 1 => by
    have ih := one_gives n
    refine Gives.bind Gives.must (fun i hi => ?_)
    match i with
    | 0 => exact Gives.pure (by unfold BegT; exact ⟨by omega, trivial, .inl ⟨.inl rfl, rfl, rfl, rfl⟩⟩)
    | 1 => exact Gives.pure (by unfold BegT; exact ⟨by omega, trivial, .inl ⟨.inr rfl, rfl, rfl, rfl⟩⟩)
    | 2 => exact Gives.bind (Gives.number _) fun v hv => Gives.pure (by unfold BegT; exact ⟨hv, trivial, .inr (.inl ⟨rfl, rfl, rfl⟩)⟩)
    | 3 => exact Gives.bind (Gives.sevS _ (.inr rfl) (Gives.sevS _ (.inl rfl) ih)) fun f hf => Gives.bind Gives.must fun _ _ => Gives.pure hf
    | k + 4 => exact Gives.bind Gives.name fun s hs => Gives.pure (by simp at hi; unfold BegT; exact ⟨by omega, trivial, .inr (.inr (.inl ⟨by omega, hs, rfl, rfl⟩))⟩)
theorem bounded_gives {V : Tree → Prop} {P : List Tok → R Tree} (h : Gives V P) : Gives (fun t => V t ∧ boundC t = 0) (boundedF P) := by
  intro l y r hl hp
  cases hq : P l with
  | error e => simp only [boundedF, hq, bindR] at hp; cases hp
  | ok v =>
    obtain ⟨x, r1⟩ := v
    obtain ⟨h1, h2⟩ := h l x r1 hl hq
    simp only [boundedF, hq, bindR, guardR] at hp
    split at hp
    · rename_i h0; cases hp; exact ⟨⟨h1, h0⟩, h2⟩
    · cases hp
theorem when_gives (n : Nat) (w : List UInt8) {op : Nat} (ho : op = 1 ∨ op = 2) : Gives (fun t => BegT t ∧ boundC t = 0) (whenF n w op) :=
  Gives.opt (fun _ _ => bounded_gives (Gives.sevS _ (.inr rfl) (Gives.sevS _ (.inl rfl) (one_gives n)))) (Gives.pure (by
    refine ⟨?_, ?_⟩
    · unfold BegT; exact ⟨by omega, trivial, .inl ⟨ho, rfl, rfl, rfl⟩⟩
    · simp [boundC, Tree.deep, deeps, Tree.size, sizes]))
theorem if_gives (n : Nat) : Gives (fun t => FormT t ∧ boundC t = 0) (ifF n) :=
  Gives.opt (fun _ _ => bounded_gives (Gives.sevF _ (.inr rfl) (Gives.sevF _ (.inl rfl) (atom_gives n)))) (Gives.pure (by
    refine ⟨?_, ?_⟩
    · unfold FormT; exact ⟨by omega, trivial, .inl ⟨.inl rfl, rfl, rfl, rfl, rfl⟩⟩
    · simp [boundC, Tree.deep, deeps, Tree.size, sizes]))
/- different names -/
def ExcOk (l : List (List UInt8)) : Prop := l.length ≤ 20 ∧ (∀ s ∈ l, goodName s = true) ∧ ∀ (i : Nat) s, l[i]? = some s → s ∉ l.take i
theorem excOk_snoc {l : List (List UInt8)} {s : List UInt8} (h : ExcOk l) (hs : goodName s = true) (he : excC l s = 0) : ExcOk (l ++ [s]) := by
  unfold excC at he
  split at he
  · cases he
  · rename_i hc
    split at he
    · cases he
    · rename_i h20
      obtain ⟨h1, h2, h3⟩ := h
      refine ⟨by simp; omega, fun x hx => ?_, fun i x hx => ?_⟩
      · simp at hx
        rcases hx with hx | rfl
        · exact h2 x hx
        · exact hs
      · rcases Nat.lt_or_ge i l.length with hi | hi
        · rw [List.getElem?_append_left hi] at hx
          rw [List.take_append_of_le_length (Nat.le_of_lt hi)]
          exact h3 i x hx
        · rw [List.getElem?_append_right hi] at hx
          have : i - l.length = 0 := by
            rcases Nat.eq_zero_or_pos (i - l.length) with h0 | h0
            · exact h0
            · rw [List.getElem?_eq_none (by simp; omega)] at hx; cases hx
          rw [this] at hx
          simp at hx
          subst hx
          have : i = l.length := by omega
          subst this
          rw [List.take_left]
          intro hm
          exact hc (by simpa using hm)
theorem except_gives : ∀ n out, ExcOk out → Gives ExcOk (exceptF n out)
  | 0, out, _ => fun l x r _ hp => by cases hp
  | n + 1, out, ho => by
    intro l x r hl hp
    cases hq : nameF l with
    | error e => simp only [exceptF, hq, bindR] at hp; cases hp
    | ok v =>
      obtain ⟨s, r1⟩ := v
      obtain ⟨hs, h1⟩ := Gives.name l s r1 hl hq
      simp only [exceptF, hq, bindR, guardR] at hp
      split at hp
      · rename_i h0
        have ho' := excOk_snoc ho hs h0
        exact Gives.opt (V := ExcOk) (ws := [[44]]) (fun _ _ => except_gives n (out ++ [s]) ho') (Gives.pure ho') r1 x r h1 hp
      · cases hp
theorem exc_gives : Gives ExcOk excF := Gives.opt (fun _ _ => except_gives 22 [] ⟨by simp, by simp, by simp⟩) (Gives.pure ⟨by simp, by simp, by simp⟩)
theorem kind_gives : Gives (fun k => (k.1 = 1 ∧ k.2.2 = 0 ∨ k.1 = 2) ∧ goodName k.2.1 = true ∧ k.2.2 ≤ 1000000) kindF :=
  Gives.bind Gives.must fun i hi => by
    match i with
    | 0 => exact Gives.bind Gives.name fun s hs => Gives.pure ⟨.inl ⟨rfl, rfl⟩, hs, by show 0 ≤ _; omega⟩
    | _ + 1 => exact Gives.bind Gives.name fun s hs => Gives.bind Gives.must fun _ _ => Gives.bind (Gives.number _) fun v hv => Gives.pure ⟨.inr rfl, hs, hv⟩
structure ProvOk (p : Prov) : Prop where
  rank : 1 ≤ p.rank ∧ p.rank ≤ 4
  kind : p.kind = 1 ∧ p.value = 0 ∨ p.kind = 2
  id : goodName p.id = true
  name : goodName p.name = true
  value : p.value ≤ 1000000
  exc : ExcOk p.exc
  cond : FormT p.cond ∧ boundC p.cond = 0
  beg : BegT p.beg ∧ boundC p.beg = 0
  fin : BegT p.fin ∧ boundC p.fin = 0
  aga : BegT p.aga ∧ boundC p.aga = 0
theorem body_gives (n : Nat) : Gives ProvOk (bodyF n) :=
  Gives.bind Gives.must fun rank hr => Gives.bind Gives.name fun id hi => Gives.bind Gives.must fun _ _ => Gives.bind kind_gives fun k hk => Gives.bind (if_gives n) fun cond hc =>
  Gives.bind exc_gives fun exc he => Gives.bind (when_gives n _ (.inl rfl)) fun beg hb => Gives.bind (when_gives n _ (.inr rfl)) fun fin hf => Gives.bind (when_gives n _ (.inr rfl)) fun aga ha =>
  Gives.pure ⟨⟨by show 1 ≤ 1 + rank; omega, by show 1 + rank ≤ 4; simp at hr; omega⟩, hk.1, hi, hk.2.1, hk.2.2, he, hc, hb, hf, ha⟩
theorem prov_gives (n : Nat) : Gives ProvOk (provF n) := Gives.bind (body_gives n) fun p hp => Gives.bind Gives.must fun _ _ => Gives.pure hp
theorem parseF_good {l : List UInt8} {p : Prov} (h : parseF l = .ok p) : ProvOk p := by
  unfold parseF at h
  split at h
  · cases h
  · rename_i ts hts
    split at h
    · cases h
    · rename_i q r hq
      injection h with h
      subst h
      unfold endF at hq
      cases hp : provF fuelN ts with
      | error e => simp only [hp, bindR] at hq; cases hq
      | ok v =>
        obtain ⟨x, r1⟩ := v
        have hn : AllN ts := fun t ht => tokN_of_ok (sc_ok l 0 t (by rw [(lexF_ok hts).1]; exact ht))
        have := (prov_gives fuelN ts x r1 hn hp).1
        simp only [hp, bindR] at hq
        split at hq
        · cases hq; exact this
        · cases hq
/- where an error is -/
theorem scan_err_pos (l : List UInt8) (p : Nat) : ∀ e q, (sc l p).2 = some (e, q) → p ≤ q ∧ q ≤ p + l.length := by
  refine sc_ind (M := fun l p => ∀ e q, (sc l p).2 = some (e, q) → p ≤ q ∧ q ≤ p + l.length) ?_ ?_ ?_ ?_ ?_ l.length l p (Nat.le_refl _)
  · intro p e q h; simp [sc_nil] at h
  · intro c r p h ih e q hq; rw [sc_blank _ _ h] at hq; have := ih e q hq; simp; omega
  · intro r p ih e q hq; rw [sc_hash] at hq; have := ih e q hq; simp at this ⊢; have := takeWhile_len (· != (10 : UInt8)) r; omega
  · intro c r p e h1 h2 h3 e' q hq; rw [sc_err _ h1 h2 h3] at hq; simp at hq; simp; omega
  · intro c r p j n v h1 h2 h3 ih e q hq
    rw [sc_tok _ h1 h2 h3] at hq
    have := ih e q hq
    have h4 := lexOne_len h3
    simp at this ⊢; omega
theorem lexF_err {l : List UInt8} {e : Nat} {at' : Int} (h : lexF l = .error (e, at')) : (0 ≤ at' ∧ at' ≤ l.length ∨ at' = -1 ∧ e = 2) := by
  unfold lexF at h
  rw [show scan l.length l 0 = sc l 0 from rfl] at h
  split at h
  · cases h; exact .inr ⟨rfl, rfl⟩
  · split at h
    · rename_i t u hd
      cases h
      have hm : t ∈ (sc l 0).1 := List.mem_of_mem_drop (by rw [hd]; simp)
      have := (sc_placed l 0).mem t hm
      left; omega
    · split at h
      · rename_i e' p' he
        cases h
        have := scan_err_pos l 0 _ _ he
        left; omega
      · cases h
theorem parseF_err_at {l : List UInt8} {e : Nat} {at' : Int} (h : parseF l = .error (e, at')) : (0 ≤ at' ∧ at' ≤ l.length ∨ at' = -1 ∧ e = 2) := by
  unfold parseF at h
  split at h
  · rename_i x hx
    obtain ⟨a, b⟩ := x
    cases h
    exact lexF_err hx
  · rename_i ts hts
    split at h
    · rename_i e' s hs
      cases h
      left
      refine ⟨by omega, ?_⟩
      have hl := lexF_ok hts
      cases s with
      | nil => simp [posAt]
      | cons t r =>
        have hpr : pr ts = .error (e, t :: r) := hs
        obtain ⟨j, -, hj, -⟩ := (pr_map (ts := ts) (ts' := ts) rfl).2 _ _ hpr
        have hm : t ∈ ts := List.mem_of_mem_drop (by rw [← hj]; simp)
        have := (sc_placed l 0).mem t (by rw [hl.1]; exact hm)
        simp [posAt]; omega
    · cases h
/- Bounds of the lexer's tokens. -/
theorem valN_bound : ∀ (s : List UInt8) (acc k : Nat), (∀ c ∈ s, digitB c = true) → acc < 10 ^ k → s.foldl (fun a c => 10 * a + (c.toNat - 48)) acc < 10 ^ (k + s.length)
  | [], acc, k, _, h => by simpa using h
  | c :: s, acc, k, hd, h => by
    have hc : digitB c = true := hd c (by simp)
    simp only [digitB, Bool.and_eq_true, decide_eq_true_eq] at hc
    have h1 : c.toNat ≤ 57 := by have := UInt8.le_iff_toNat_le.1 hc.2; simpa using this
    have h2 : 10 * acc + (c.toNat - 48) < 10 ^ (k + 1) := by rw [Nat.pow_succ]; omega
    have := valN_bound s _ (k + 1) (fun x hx => hd x (by simp [hx])) h2
    simpa [Nat.add_assoc, Nat.add_comm 1] using this
theorem twd_all {r : List UInt8} : ∀ x ∈ r.takeWhile digitB, digitB x = true := by
  intro x hx
  induction r with
  | nil => simp at hx
  | cons a r ih =>
    by_cases ha : digitB a = true
    · rw [List.takeWhile_cons_of_pos ha] at hx
      rcases List.mem_cons.1 hx with rfl | hx
      · exact ha
      · exact ih hx
    · rw [List.takeWhile_cons_of_neg ha] at hx; simp at hx
theorem lexOne_fit {c : UInt8} {r : List UInt8} {k n v : Nat} (h : lexOne c r = .ok (k, n, v)) : (k = 1 ∨ k = 2 ∨ k = 3) ∧ n ≤ 30 ∧ v ≤ 10000000 := by
  unfold lexOne at h
  split at h
  · split at h
    · cases h
    · injection h with h; injection h with h1 h; injection h with h2 h3; omega
  · split at h
    · rename_i hd
      split at h
      · cases h
      · rename_i hl
        injection h with h; injection h with h1 h; injection h with h2 h3
        have hb := valN_bound (c :: r.takeWhile digitB) 0 0 (fun x hx => by rcases List.mem_cons.1 hx with rfl | hx; exact hd; exact twd_all x hx) (by decide)
        have hl2 : (c :: r.takeWhile digitB).length ≤ 7 := by simp; omega
        have h7 : 10 ^ (0 + (c :: r.takeWhile digitB).length) ≤ 10 ^ 7 := Nat.pow_le_pow_right (by decide) (by omega)
        have : valN (c :: r.takeWhile digitB) < 10 ^ 7 := Nat.lt_of_lt_of_le hb h7
        refine ⟨by omega, by omega, ?_⟩
        rw [← h3]
        exact Nat.le_of_lt (Nat.lt_of_lt_of_le this (by decide))
    · split at h
      · injection h with h; injection h with h1 h; injection h with h2 h3; omega
      · split at h
        · split at h <;> (injection h with h; injection h with h1 h; injection h with h2 h3; omega)
        · split at h
          · split at h
            · injection h with h; injection h with h1 h; injection h with h2 h3; omega
            · cases h
          · cases h
theorem name_word {t : Tok} (h : TokOk t) (hk : t.kind = 1) : ∀ c ∈ t.text, wordB c = true := by
  obtain ⟨c, r, ht, h1, h2, h3⟩ := h
  rw [hk] at h3
  unfold lexOne at h3
  split at h3
  · rename_i hc
    split at h3
    · cases h3
    · injection h3 with h3; injection h3 with _ h3; injection h3 with h3 _
      have hall := takeWhile_all (p := wordB) (l := r) (by omega)
      rw [ht]
      intro x hx
      rcases List.mem_cons.1 hx with rfl | hx
      · simp [wordB, hc]
      · exact hall x hx
  · exfalso
    split at h3
    · split at h3
      · cases h3
      · injection h3 with h3; injection h3 with h3 _; exact absurd h3 (by decide)
    · split at h3
      · injection h3 with h3; injection h3 with h3 _; exact absurd h3 (by decide)
      · split at h3
        · split at h3 <;> (injection h3 with h3; injection h3 with h3 _; exact absurd h3 (by decide))
        · split at h3
          · split at h3
            · injection h3 with h3; injection h3 with h3 _; exact absurd h3 (by decide)
            · cases h3
          · cases h3
theorem word_nospace {c : UInt8} (h : wordB c = true) : c ≠ 32 := by rintro rfl; revert h; decide
theorem tok_fit {l : List UInt8} {ts : List Tok} (h : lexF l = .ok ts) : ∀ t ∈ ts, (t.kind = 1 ∨ t.kind = 2 ∨ t.kind = 3) ∧ t.text.length ≤ 30 ∧ t.n ≤ 10000000 ∧ t.pos ≤ 1000000 ∧ (t.kind = 1 → ∀ c ∈ t.text, c ≠ 32) := by
  intro t ht
  have hl := lexF_ok h
  have hm : t ∈ (sc l 0).1 := by rw [hl.1]; exact ht
  have hk := sc_ok l 0 t hm
  have hp := (sc_placed l 0).mem t hm
  have hn := fun hk1 c hc => word_nospace (name_word hk hk1 c hc)
  obtain ⟨c, r, h0, h1, h2, h3⟩ := hk
  obtain ⟨a, b, d⟩ := lexOne_fit h3
  refine ⟨a, ?_, d, by omega, hn⟩
  rw [h0]; simp; omega
theorem lexOne_err {c : UInt8} {r : List UInt8} {e : Nat} (h : lexOne c r = .error e) : e ≠ 0 := by
  unfold lexOne at h
  split at h
  · split at h
    · cases h; decide
    · cases h
  · split at h
    · split at h
      · cases h; decide
      · cases h
    · split at h
      · cases h
      · split at h
        · split at h <;> cases h
        · split at h
          · split at h
            · cases h
            · cases h; decide
          · cases h; decide
theorem sc_err_ne (l : List UInt8) (p : Nat) : ∀ e q, (sc l p).2 = some (e, q) → e ≠ 0 := by
  refine sc_ind (M := fun l p => ∀ e q, (sc l p).2 = some (e, q) → e ≠ 0) ?_ ?_ ?_ ?_ ?_ l.length l p (Nat.le_refl _)
  · intro p e q h; simp [sc_nil] at h
  · intro c r p h ih e q hq; rw [sc_blank _ _ h] at hq; exact ih e q hq
  · intro r p ih e q hq; rw [sc_hash] at hq; exact ih e q hq
  · intro c r p e h1 h2 h3 e' q hq; rw [sc_err _ h1 h2 h3] at hq; simp at hq; rw [← hq.1]; exact lexOne_err h3
  · intro c r p j n v h1 h2 h3 ih e q hq
    rw [sc_tok _ h1 h2 h3] at hq
    exact ih e q hq
theorem lexF_err_ne {l : List UInt8} {e : Nat} {at' : Int} (h : lexF l = .error (e, at')) : e ≠ 0 := by
  unfold lexF at h
  rw [show scan l.length l 0 = sc l 0 from rfl] at h
  split at h
  · cases h; decide
  · split at h
    · cases h; decide
    · split at h
      · rename_i e' p' he
        cases h
        exact sc_err_ne l 0 _ _ he
      · cases h
end Go.Proofs.YtpagkakplmeokaaDoor
