/- Two patches that commute, and two inserts that are exchanged: both orders lead to one code. commute: places, own: the pairs of kinds that commute for one item. -/
import Derived.Test.YtecnlfaholmpoaaGreatJC15
import Derived.Maps.Own
import Derived.Maps.OwnOps
import Derived.Maps.OwnSet
import Derived.Maps.Views
import Derived.DeepKeys4
import Derived.Carry
import Derived.Deep.CutRange
import Derived.Deep.DeepCutAuto
set_option linter.unusedVariables false
set_option linter.unusedSimpArgs false
namespace Go.Proofs.YtecnlfaholmpoaaGreat
theorem ord_chg {O : Ords} {p : Patch} (h : p.kind ≠ 1 ∧ p.kind ≠ 4) : ordN O p = O := by
 funext q; unfold ordN; rw [if_neg h.1, if_neg h.2]
theorem len_chg {n : Nat} {p : Patch} (h : p.kind ≠ 1) : lenN n p = n := by unfold lenN; rw [if_neg h]
theorem len_ins {n : Nat} {p : Patch} (h : p.kind = 1) : lenN n p = n + 1 := by unfold lenN; rw [if_pos h]
theorem gone_chg {p : Patch} {x : Item} (h : p.kind ≠ 5) (h6 : p.kind ≠ 6) (hk : p.kind = 2 ∨ p.kind = 3 ∨ p.kind = 7) : (chgF p x).gone = x.gone := by
 unfold chgF wordsPut
 rcases hk with h | h | h
 · rw [if_pos h]; split <;> rfl
 · rw [if_neg (by omega), if_pos h]
 · rw [if_neg (by omega), if_neg (by omega), if_pos h]
theorem up_ins {it : Its} {p : Patch} (hi : Inv it) (hid : p.id ≠ []) (hnew : (it p.id).kind = 0) {s : Str} (hs : (it s).kind ≠ 0) : ∀ y, (y = s ∨ Up it y s) → (itN it p y).par = (it y).par := by
 intro y hy
 rw [itN_ne]
 rintro rfl
 rcases hy with rfl | h
 · exact hs hnew
 · rcases up_here hi hs h with h | h
   · exact hid h
   · exact h hnew
/- two patches for one item -/
def Pair (a b : Patch) : Prop := a.id = b.id ∧ ((a.kind = 2 ∧ b.kind = 2 ∧ a.lang ≠ b.lang) ∨ ownF a.kind b.kind = true ∨ ownF b.kind a.kind = true)
theorem Pair.symm {a b : Patch} (h : Pair a b) : Pair b a := by
 refine ⟨h.1.symm, ?_⟩
 rcases h.2 with ⟨h1, h2, h3⟩ | h | h
 · exact .inl ⟨h2, h1, Ne.symm h3⟩
 · exact .inr (.inr h)
 · exact .inr (.inl h)
/- the kinds of a pair -/
theorem Pair.kinds {a b : Patch} (h : Pair a b) : (a.kind = 2 ∧ b.kind = 2 ∧ a.lang ≠ b.lang) ∨ (a.kind = 2 ∧ (b.kind = 3 ∨ b.kind = 4)) ∨ (b.kind = 2 ∧ (a.kind = 3 ∨ a.kind = 4)) ∨ (a.kind = 3 ∧ (b.kind = 4 ∨ b.kind = 7)) ∨ (b.kind = 3 ∧ (a.kind = 4 ∨ a.kind = 7)) ∨ (a.kind = 4 ∧ b.kind = 7) ∨ (b.kind = 4 ∧ a.kind = 7) := by
 rcases h.2 with h | h | h
 · exact .inl h
 all_goals
  unfold ownF at h
  simp only [Bool.or_eq_true, Bool.and_eq_true, beq_iff_eq] at h
  omega
theorem Pair.indep {it : Its} {n : Nat} {a b : Patch} (h : Pair a b) (ha : a.kind = 2 → a.lang = 1 ∨ a.lang = 2) (hb : b.kind = 2 → b.lang = 1 ∨ b.lang = 2) : Poss (itN it a) n b ↔ Poss it n b := by
 have hk := h.kinds
 have hid := h.1
 by_cases ha4 : a.kind = 4
 · rw [poss_chg (by omega), poss_chg (by omega), ← hid]
   unfold itN
   rw [if_pos rfl, if_neg (by omega), if_pos ha4]
   exact chgOk_congr rfl rfl (fun _ => rfl)
 have hg : ∀ x, (chgF a x).gone = x.gone := fun x => gone_chg (by omega) (by omega) (by omega)
 have hx : itN it a a.id = chgF a (it a.id) := by
  unfold itN
  rw [if_pos rfl, if_neg (by omega), if_neg ha4]
 by_cases hb4 : b.kind = 4
 · rw [poss_mov hb4, poss_mov hb4]
   have kp := fun i => itN_kp (it := it) (p := a) (by omega) i
   have he : exA (itN it a) b.par b.aft ↔ exA it b.par b.aft := exA_congr (fun _ => (kp _).1) (fun _ => ⟨(kp _).1, (kp _).2 ha4⟩)
   have hu : Up (itN it a) b.id b.par ↔ Up it b.id b.par := ⟨up_sup fun y _ => (kp y).2 ha4, up_sub fun y _ => (kp y).2 ha4⟩
   have hgo : (itN it a b.id).gone = (it b.id).gone := by rw [← hid, hx, hg]
   exact ⟨fun k => ⟨by rw [← (kp _).1]; exact k.here, by rw [← hgo]; exact k.s, he.1 k.ex, k.par, k.aft, fun hp h => k.up hp (hu.2 h)⟩, fun k => ⟨by rw [(kp _).1]; exact k.here, by rw [hgo]; exact k.s, he.2 k.ex, k.par, k.aft, fun hp h => k.up hp (hu.1 h)⟩⟩
 · rw [poss_chg (by omega), poss_chg (by omega), ← hid, hx]
   refine chgOk_congr (chgF_id a _).2.1 (hg _) fun h2 => ?_
   unfold chgF
   by_cases ha2 : a.kind = 2
   · rw [if_pos ha2]
     have h3 : a.lang ≠ b.lang := by omega
     have h4 := ha ha2
     have h5 := hb h2
     rcases h4 with h4 | h4
     · have hb1 : ¬ b.lang = 1 := by omega
       simp [wordsText, wordsPut, h4, hb1]
     · have hb1 : b.lang = 1 := by omega
       simp [wordsText, wordsPut, h4, hb1]
   · rw [if_neg ha2, if_pos (by omega)]; rfl
def updF (p : Patch) (x : Item) : Item := if p.kind = 4 then { x with par := p.par } else chgF p x
theorem itN_at {it : Its} {p : Patch} {i : Str} (hi : i = p.id) (h1 : p.kind ≠ 1) : itN it p i = updF p (it i) := by
 unfold itN updF
 rw [if_pos hi, if_neg h1]
theorem upd4 {p : Patch} (h : p.kind = 4) (x : Item) : updF p x = { x with par := p.par } := by unfold updF; rw [if_pos h]
theorem upd2 {p : Patch} (h : p.kind = 2) (x : Item) : updF p x = wordsPut p x (wordsNew p x) := by
 unfold updF chgF
 rw [if_neg (show ¬ p.kind = 4 by omega), if_pos h]
theorem upd3 {p : Patch} (h : p.kind = 3) (x : Item) : updF p x = { x with num := p.num } := by
 unfold updF chgF
 rw [if_neg (show ¬ p.kind = 4 by omega), if_neg (show ¬ p.kind = 2 by omega), if_pos h]
theorem upd7 {p : Patch} (h : p.kind = 7) (x : Item) : updF p x = { x with no := p.item.no, so := p.item.so } := by
 unfold updF chgF
 rw [if_neg (show ¬ p.kind = 4 by omega), if_neg (show ¬ p.kind = 2 by omega), if_neg (show ¬ p.kind = 3 by omega), if_pos h]
theorem upd_words {a : Patch} {f : Item → Item} (h1 : ∀ x, wordsText a (f x) = wordsText a x) (h2 : ∀ x s, wordsPut a (f x) s = f (wordsPut a x s)) (h : a.kind = 2) (x : Item) : updF a (f x) = f (updF a x) := by
 rw [upd2 h, upd2 h]
 have e : wordsNew a (f x) = wordsNew a x := by unfold wordsNew; rw [h1]
 rw [e, h2]
theorem upd_par {a : Patch} (h : a.kind = 2) (x : Item) (s : Str) : updF a { x with par := s } = { updF a x with par := s } :=
 upd_words (f := fun x => { x with par := s }) (fun _ => rfl) (fun x s' => by unfold wordsPut; split <;> rfl) h x
theorem upd_num {a : Patch} (h : a.kind = 2) (x : Item) (s : Str) : updF a { x with num := s } = { updF a x with num := s } :=
 upd_words (f := fun x => { x with num := s }) (fun _ => rfl) (fun x s' => by unfold wordsPut; split <;> rfl) h x
theorem upd_two {a b : Patch} (ha : a.kind = 2) (hb : b.kind = 2) (h1 : a.lang = 1) (h2 : ¬ b.lang = 1) (x : Item) : updF b (updF a x) = updF a (updF b x) := by
 rw [upd2 ha, upd2 hb, upd2 ha, upd2 hb]
 unfold wordsNew wordsText wordsPut
 simp [h1, h2]
theorem Pair.upd {a b : Patch} (h : Pair a b) (ha : a.kind = 2 → a.lang = 1 ∨ a.lang = 2) (hb : b.kind = 2 → b.lang = 1 ∨ b.lang = 2) (x : Item) : updF b (updF a x) = updF a (updF b x) := by
 rcases h.kinds with ⟨h1, h2, h3⟩ | ⟨h1, h2 | h2⟩ | ⟨h1, h2 | h2⟩ | ⟨h1, h2 | h2⟩ | ⟨h1, h2 | h2⟩ | ⟨h1, h2⟩ | ⟨h1, h2⟩
 · by_cases hl : a.lang = 1
   · exact upd_two h1 h2 hl (by omega) x
   · have := ha h1
     have := hb h2
     exact (upd_two h2 h1 (by omega) hl x).symm
 · rw [upd3 h2, upd3 h2, upd_num h1 x b.num]
 · rw [upd4 h2, upd4 h2, upd_par h1 x b.par]
 · rw [upd3 h2, upd3 h2, upd_num h1]
 · rw [upd4 h2, upd4 h2, upd_par h1]
 · rw [upd3 h1, upd4 h2, upd4 h2, upd3 h1]
 · rw [upd3 h1, upd7 h2, upd7 h2, upd3 h1]
 · rw [upd3 h1, upd4 h2, upd4 h2, upd3 h1]
 · rw [upd3 h1, upd7 h2, upd7 h2, upd3 h1]
 · rw [upd4 h1, upd7 h2, upd7 h2, upd4 h1]
 · rw [upd4 h1, upd7 h2, upd7 h2, upd4 h1]
theorem Pair.it_comm {it : Its} {a b : Patch} (h : Pair a b) (ha : a.kind = 2 → a.lang = 1 ∨ a.lang = 2) (hb : b.kind = 2 → b.lang = 1 ∨ b.lang = 2) : itN (itN it a) b = itN (itN it b) a := by
 have hk := h.kinds
 have hid := h.1
 funext i
 by_cases hi : i = a.id
 · have hj : i = b.id := by rw [← hid]; exact hi
   rw [itN_at hj (by omega), itN_at hi (by omega), itN_at hi (by omega), itN_at hj (by omega)]
   exact h.upd ha hb _
 · have hj : i ≠ b.id := by rw [← hid]; exact hi
   rw [itN_ne hj, itN_ne hi, itN_ne hi, itN_ne hj]
theorem Pair.ord {O : Ords} {a b : Patch} (h : Pair a b) : ordN (ordN O a) b = ordN (ordN O b) a := by
 have hk := h.kinds
 by_cases ha4 : a.kind = 4
 · rw [ord_chg (p := b) (by omega), ord_chg (O := O) (p := b) (by omega)]
 · rw [ord_chg (p := a) (by omega), ord_chg (p := a) (by omega)]
theorem heart {it : Its} {O : Ords} {n : Nat} {a b : Patch} (hi : Inv it) (hfa : formedF a = true) (hfb : formedF b = true) (hc : CommP a b) (h1 : Poss it n a) (h2 : Poss (itN it a) (lenN n a) b) :
 Poss it n b ∧ Poss (itN it b) (lenN n b) a ∧ itN (itN it a) b = itN (itN it b) a ∧ ordN (ordN O a) b = ordN (ordN O b) a := by
 have nid : ∀ p : Patch, formedF p = true → p.kind = 1 → p.id ≠ [] := by
  intro p hf hk
  obtain ⟨e1, _, e3⟩ := formed1 hk hf
  rw [← e1]; exact proper_id e3
 have lng : ∀ p : Patch, formedF p = true → p.kind = 2 → p.lang = 1 ∨ p.lang = 2 := fun p hf hk => (formed2 hk hf).2.2
 have pair : Pair a b → Poss it n b ∧ Poss (itN it b) (lenN n b) a ∧ itN (itN it a) b = itN (itN it b) a ∧ ordN (ordN O a) b = ordN (ordN O b) a := by
  intro hp
  have hk := hp.kinds
  rw [len_chg (p := a) (by omega)] at h2
  rw [len_chg (p := b) (by omega)]
  exact ⟨(hp.indep (lng _ hfa) (lng _ hfb)).1 h2, (hp.symm.indep (lng _ hfb) (lng _ hfa)).2 h1, hp.it_comm (lng _ hfa) (lng _ hfb), hp.ord⟩
 cases hc with
 | same h => subst h; exact ⟨h1, h2, rfl, rfl⟩
 | words e1 e2 e3 e4 => exact pair ⟨e1, .inl ⟨e2, e3, e4⟩⟩
 | own e1 e2 => exact pair ⟨e1, .inr (.inl e2)⟩
 | own' e1 e2 => exact pair ⟨e1, .inr (.inr e2)⟩
 | left hne hk =>
   rw [len_chg hk.1] at h2
   have kp := fun i => itN_kp (it := it) (p := a) hk.1 i
   refine ⟨(poss_congr (fun i => ⟨(kp i).1, (kp i).2 hk.2⟩) (itN_ne (Ne.symm hne))).1 h2, ?_, it_comm_ne hne, by rw [ord_chg hk, ord_chg hk]⟩
   rw [poss_chg hk] at h1 ⊢
   rw [itN_ne hne]; exact h1
 | right hne hk =>
   rw [len_chg hk.1]
   have kp := fun i => itN_kp (it := it) (p := b) hk.1 i
   refine ⟨?_, (poss_congr (fun i => ⟨(kp i).1, (kp i).2 hk.2⟩) (itN_ne hne)).2 h1, it_comm_ne hne, by rw [ord_chg hk, ord_chg hk]⟩
   rw [poss_chg hk] at h2 ⊢
   rw [itN_ne (Ne.symm hne)] at h2; exact h2
 | ins hne ka kb ht p1 p2 p3 p4 =>
   rw [len_ins ka, poss_ins kb] at h2
   rw [len_ins kb, poss_ins ka, poss_ins kb]
   rw [poss_ins ka] at h1
   refine ⟨⟨?_, ?_, h1.le⟩, ⟨?_, ?_, h2.le⟩, it_comm_ne hne, ?_⟩
   · have := h2.new
     rwa [itN_ne (Ne.symm hne)] at this
   · refine (exA_congr (fun _ => ?_) (fun _ => ?_)).1 h2.ex
     · rw [itN_ne p3]
     · rw [itN_ne p4]; exact ⟨rfl, rfl⟩
   · rw [itN_ne hne]; exact h1.new
   · refine (exA_congr (fun _ => ?_) (fun _ => ?_)).2 h1.ex
     · rw [itN_ne p1]
     · rw [itN_ne p2]; exact ⟨rfl, rfl⟩
   · funext q
     unfold ordN
     rw [if_pos ka, if_pos kb]
     simp only [if_pos ka, if_pos kb]
     by_cases q1 : q = a.par
     · by_cases q2 : q = b.par
       · rw [if_pos q1, if_pos q2, if_pos q2, if_pos q1]
         exact insA_comm (Ne.symm (ht (q1.symm.trans q2))) p4 p2
       · rw [if_pos q1, if_neg q2, if_neg q2, if_pos q1]
     · rw [if_neg q1, if_neg q1]
 | mix hne ka kb ht p1 p2 p3 =>
   rw [len_ins ka, poss_mov kb] at h2
   rw [len_chg (p := b) (by omega), poss_mov kb, poss_ins ka]
   rw [poss_ins ka] at h1
   have hex : exA it b.par b.aft := by
    refine (exA_congr (fun _ => ?_) (fun _ => ?_)).1 h2.ex
    · rw [itN_ne p1]
    · rw [itN_ne p2]; exact ⟨rfl, rfl⟩
   have hb := itN_ne (it := it) (p := a) (Ne.symm hne)
   have kp := fun i => itN_kp (it := it) (p := b) (by omega) i
   refine ⟨⟨by rw [← hb]; exact h2.here, by rw [← hb]; exact h2.s, hex, h2.par, h2.aft, ?_⟩, ⟨?_, ?_, h1.le⟩, it_comm_ne hne, ?_⟩
   · intro hp hu
     exact h2.up hp (up_sub (up_ins hi (nid _ hfa ka) h1.new (by have := hex.1.resolve_left hp; omega)) hu)
   · rw [itN_ne hne]; exact h1.new
   · refine (exA_congr (fun _ => (kp _).1) (fun _ => ?_)).2 h1.ex
     rw [itN_ne p3]; exact ⟨rfl, rfl⟩
   · funext q
     unfold ordN
     simp only [if_pos ka, if_neg (show ¬ b.kind = 1 by omega), if_pos kb]
     by_cases q1 : q = a.par
     · by_cases q2 : q = b.par
       · rw [if_pos q1, if_pos q2, if_pos q2, if_pos q1, outA_ins (Ne.symm hne) (Ne.symm p3)]
         exact insA_comm (Ne.symm (ht (q1.symm.trans q2))) p2 p3
       · rw [if_pos q1, if_neg q2, if_neg q2, if_pos q1]
         exact outA_ins (Ne.symm hne) (Ne.symm p3)
     · rw [if_neg q1, if_neg q1]
 | mix' hne ka kb ht p1 p2 p3 =>
   rw [len_chg (p := a) (by omega), poss_ins kb] at h2
   rw [len_ins kb, poss_ins kb, poss_mov ka]
   rw [poss_mov ka] at h1
   have kp := fun i => itN_kp (it := it) (p := a) (by omega) i
   have hnew : (it b.id).kind = 0 := by rw [← (kp _).1]; exact h2.new
   refine ⟨⟨hnew, ?_, h2.le⟩, ⟨by rw [itN_ne hne]; exact h1.here, by rw [itN_ne hne]; exact h1.s, ?_, h1.par, h1.aft, ?_⟩, it_comm_ne hne, ?_⟩
   · refine (exA_congr (fun _ => (kp _).1) (fun _ => ?_)).1 h2.ex
     rw [itN_ne p3]; exact ⟨rfl, rfl⟩
   · refine (exA_congr (fun _ => ?_) (fun _ => ?_)).2 h1.ex
     · rw [itN_ne p1]
     · rw [itN_ne p2]; exact ⟨rfl, rfl⟩
   · intro hp hu
     exact h1.up hp (up_sup (up_ins hi (nid _ hfb kb) hnew (by have := h1.ex.1.resolve_left hp; omega)) hu)
   · funext q
     unfold ordN
     simp only [if_pos kb, if_neg (show ¬ a.kind = 1 by omega), if_pos ka]
     by_cases q2 : q = b.par
     · by_cases q1 : q = a.par
       · rw [if_pos q2, if_pos q1, if_pos q1, if_pos q2, outA_ins hne (Ne.symm p3)]
         exact insA_comm (Ne.symm (ht (q1.symm.trans q2))) p3 p2
       · rw [if_pos q2, if_neg q1, if_neg q1, if_pos q2]
         exact (outA_ins hne (Ne.symm p3)).symm
     · rw [if_neg q2, if_neg q2]
 | mov hne ka kb hp pt p1 p2 =>
   rw [len_chg (p := a) (by omega), poss_mov kb] at h2
   rw [len_chg (p := b) (by omega), poss_mov kb, poss_mov ka]
   rw [poss_mov ka] at h1
   have kpa := fun i => itN_kp (it := it) (p := a) (by omega) i
   have kpb := fun i => itN_kp (it := it) (p := b) (by omega) i
   have hb := itN_ne (it := it) (p := a) (Ne.symm hne)
   have hmb : MovOk it b := by
    refine ⟨by rw [← hb]; exact h2.here, by rw [← hb]; exact h2.s, ?_, h2.par, h2.aft, ?_⟩
    · refine (exA_congr (fun _ => (kpa _).1) (fun _ => ?_)).1 h2.ex
      rw [itN_ne p2]; exact ⟨rfl, rfl⟩
    · intro hq hu
      refine h2.up hq (up_sub ?_ hu)
      intro y hy
      rw [itN_ne]
      rintro rfl
      rw [← hp] at hy hq
      rcases hy with e | e
      · exact h1.par e.symm
      · exact h1.up hq e
   refine ⟨hmb, ⟨by rw [itN_ne hne]; exact h1.here, by rw [itN_ne hne]; exact h1.s, ?_, h1.par, h1.aft, ?_⟩, it_comm_ne hne, ?_⟩
   · refine (exA_congr (fun _ => (kpb _).1) (fun _ => ?_)).2 h1.ex
     rw [itN_ne p1]; exact ⟨rfl, rfl⟩
   · intro hq hu
     refine h1.up hq (up_sup ?_ hu)
     intro y hy
     rw [itN_ne]
     rintro rfl
     rw [hp] at hy hq
     rcases hy with e | e
     · exact hmb.par e.symm
     · exact hmb.up hq e
   · funext q
     unfold ordN
     simp only [if_neg (show ¬ a.kind = 1 by omega), if_pos ka, if_neg (show ¬ b.kind = 1 by omega), if_pos kb]
     rw [← hp]
     by_cases q1 : q = a.par
     · rw [if_pos q1, if_pos q1, if_pos q1, if_pos q1, outA_ins (Ne.symm hne) (Ne.symm p1), outA_ins hne (Ne.symm p2), outA_out (x := b.id)]
       exact insA_comm (Ne.symm pt) p2 p1
     · rw [if_neg q1, if_neg q1, if_neg q1, if_neg q1, outA_out]
/- both orders -/
theorem all_two {l : List Item} {a b : Patch} {i : Nat} (h : (allF l [a, b] i).2.2 = 0) : (applyF l a).2 = 0 ∧ (applyF (applyF l a).1 b).2 = 0 ∧ allF l [a, b] i = ((applyF (applyF l a).1 b).1, -1, 0) := by
 unfold allF at h
 split at h
 · rename_i h1
   unfold allF at h
   split at h
   · rename_i h2
     refine ⟨h1, h2, ?_⟩
     unfold allF allF allF
     rw [if_pos h1, if_pos h2]
   · rename_i h2; exact absurd h h2
 · rename_i h1; exact absurd h h1
theorem all_two_of {l : List Item} {a b : Patch} (i : Nat) (h1 : (applyF l a).2 = 0) (h2 : (applyF (applyF l a).1 b).2 = 0) : allF l [a, b] i = ((applyF (applyF l a).1 b).1, -1, 0) := by
 unfold allF allF allF
 rw [if_pos h1, if_pos h2]
/- what one code answers, another order answers -/
theorem state_two {l : List Item} {a b c d : Patch} (hw : walkB l = true) (ha : formedF a = true) (hb : formedF b = true) (hc : formedF c = true) (hd : formedF d = true) (i : Nat) (h : (allF l [a, b] i).2.2 = 0)
 (key : Poss (itemF l) l.length a → Poss (itN (itemF l) a) (lenN l.length a) b → Poss (itemF l) l.length c ∧ Poss (itN (itemF l) c) (lenN l.length c) d ∧ itN (itN (itemF l) a) b = itN (itN (itemF l) c) d ∧ ordN (ordN (ordL l) a) b = ordN (ordN (ordL l) c) d)
 (hln : lenN (lenN l.length a) b = lenN (lenN l.length c) d) : allF l [c, d] i = allF l [a, b] i := by
 obtain ⟨h1, h2, h3⟩ := all_two h
 have hg := good_of hw
 have e1 := eff_law h1
 have w1 := (kept_law h1).good
 have g1 := good_of w1
 have e2 := eff_law h2
 have w2 := (kept_law h2).good
 have p1 := (poss_iff hg ha).1 h1
 have p2 := (poss_iff g1 hb).1 h2
 have i1 : itemF (applyF l a).1 = itN (itemF l) a := congrArg St.it e1
 have n1 : (applyF l a).1.length = lenN l.length a := congrArg St.n e1
 rw [i1, n1] at p2
 obtain ⟨q1, q2, q3, q4⟩ := key p1 p2
 have k1 := (poss_iff hg hc).2 q1
 have f1 := eff_law k1
 have v1 := (kept_law k1).good
 have j1 : itemF (applyF l c).1 = itN (itemF l) c := congrArg St.it f1
 have m1 : (applyF l c).1.length = lenN l.length c := congrArg St.n f1
 rw [← j1, ← m1] at q2
 have k2 := (poss_iff (good_of v1) hd).2 q2
 have f2 := eff_law k2
 have v2 := (kept_law k2).good
 rw [h3, all_two_of i k1 k2]
 refine congrArg (fun x => (x, (-1 : Int), (0 : Int))) ?_
 refine code_ext v2 w2 ?_
 rw [f2, f1, e2, e1]
 show St.mk _ _ _ = St.mk _ _ _
 congr 1
 · exact q3.symm
 · exact q4.symm
 · exact hln.symm
theorem swap_law {l : List Item} {a b : Patch} (hw : walkB l = true) (hc : commF a b = true) (i : Nat) (h : (allF l [a, b] i).2.2 = 0) : allF l [b, a] i = allF l [a, b] i := by
 obtain ⟨fa, fb, hp⟩ := comm_cases hc
 refine state_two hw fa fb fb fa i h (fun p1 p2 => heart (good_of hw).inv fa fb hp p1 p2) ?_
 unfold lenN
 split <;> split <;> omega
/- two inserts -/
/- two inserts at one place -/
/- an insert after another one -/
end Go.Proofs.YtecnlfaholmpoaaGreat
set_option maxRecDepth 100000
set_option maxHeartbeats 1000000
namespace Go.Proofs.YtecnlfaholmpoaaGreat
open Go.RowKit Go.Maps Go.WideMaps
theorem places_any (k : Int) (w : World) :
 Calls Tryz.prog 77 #[.int .i64 k] w fun e w' => e = .returned (.bool (placesK k)) ∧ w' = w := by
 go_enter Tryz.func77, Tryz.ntmps77
 unfold placesK
 cases h : (k == 1) with
 | true =>
   go_wp2_with fail
   go_ret
   exact ⟨rfl, rfl⟩
 | false =>
   go_wp2_with fail
   go_ret
   exact ⟨rfl, rfl⟩
theorem Tryz.laidOutC : laidOutB Tryz.prog = true := by kernel_rfl
theorem pair_row : (112 : TypeId) < Tryz.prog.types.size := of_decide_eq_true (by kernel_rfl)
theorem pair_wide : (match Tryz.prog.underlying 112 with | some (.array _ _) | some (.struct _) => true | _ => false) = true := by rw [Tryz.underlying112]
theorem pair_law : Keyed Tryz.prog 112 := Keyed.of_law (deep_law_laid Tryz.laidOutC (m := 2) (by omega) pair_row (by kernel_rfl) pair_wide)
theorem pair_key (j k : Int) (hj : 1 ≤ j ∧ j ≤ 7) (hk : 1 ≤ k ∧ k ≤ 7) : ∃ kl, keyOf Tryz.prog 112 (.agg #[.int .i64 j, .int .i64 k]) = some kl := by
 have h1 : j = 1 ∨ j = 2 ∨ j = 3 ∨ j = 4 ∨ j = 5 ∨ j = 6 ∨ j = 7 := by omega
 have h2 : k = 1 ∨ k = 2 ∨ k = 3 ∨ k = 4 ∨ k = 5 ∨ k = 6 ∨ k = 7 := by omega
 rcases h1 with rfl | rfl | rfl | rfl | rfl | rfl | rfl <;> rcases h2 with rfl | rfl | rfl | rfl | rfl | rfl | rfl <;> exact Option.isSome_iff_exists.1 (by kernel_rfl)
abbrev MD := DataW Unit
abbrev OwnP (w : World) (b n : Nat) (D : MD) : Prop := w.ownsMap Tryz.prog 112 (plainElem (H := Unit) Tryz.prog 4) b n D
abbrev pairV (j k : Int) : Value := .agg #[.int .i64 j, .int .i64 k]
/- a map that is being written out -/
structure PB (w0 w : World) (b n : Nat) (D : MD) : Prop where
 own : OwnP w b n D
 bel : Below b w0 w
 is : IsMap D
theorem PB.made (w : World) : PB w (w.alloc (.map #[] 0)) w.heap.size 0 (.map []) := ⟨World.ownsMap_made _ _ _ _, (Below.refl _ _).alloc (Nat.le_refl _) _, ⟨[], rfl⟩⟩
/- a pair that is written -/
theorem at_put {D : MD} {x y : Int} {kx : Lit} (hx : keyOf Tryz.prog 112 (pairV x y) = some kx) (hD : IsMap D) (j k : Int) (kl : Lit) (hk : keyOf Tryz.prog 112 (pairV j k) = some kl) :
 (D.put kx (.lit (.bool true))).atKey kl (.lit (.bool false)) = if j = x ∧ k = y then .lit (.bool true) else D.atKey kl (.lit (.bool false)) := by
 by_cases e : j = x ∧ k = y
 · obtain ⟨rfl, rfl⟩ := e
   rw [hk] at hx
   cases hx
   rw [atKey_put_same hD (pair_law.key hk), if_pos ⟨rfl, rfl⟩]
 · rw [if_neg e]
   refine atKey_put_other (fun h => e ?_) _ _
   subst h
   have := pair_law.inj hk hx
   simpa using this
def OwnS (b1 b2 b3 b4 b5 : Bool) (D : MD) : Prop := ∀ (j k : Int) (kl : Lit), keyOf Tryz.prog 112 (pairV j k) = some kl → D.atKey kl (.lit (.bool false)) = .lit (.bool ((b1 && (j == 2 && k == 3)) || ((b2 && (j == 2 && k == 4)) || ((b3 && (j == 3 && k == 4)) || ((b4 && (j == 3 && k == 7)) || ((b5 && (j == 4 && k == 7))))))))
/- what stands in the map -/
def OwnAt (D : MD) : Prop := ∀ (j k : Int) (kl : Lit), keyOf Tryz.prog 112 (pairV j k) = some kl → D.atKey kl (.lit (.bool false)) = .lit (.bool (ownF j k))
theorem ownS_all {D : MD} (h : OwnS true true true true true D) : OwnAt D := by
 intro j k kl hk
 rw [h j k kl hk]
 unfold ownF
 simp
theorem ownS_1 {D : MD} {b2 b3 b4 b5 : Bool} {kx : Lit} (hx : keyOf Tryz.prog 112 (pairV 2 3) = some kx) (hD : IsMap D) (h : OwnS false b2 b3 b4 b5 D) : OwnS true b2 b3 b4 b5 (D.put kx (.lit (.bool true))) := by
 intro j k kl hk
 rw [at_put hx hD j k kl hk]
 by_cases e : j = 2 ∧ k = 3
 · rw [if_pos e, e.1, e.2]
   simp
 · rw [if_neg e, h j k kl hk]
   have : (j == 2 && k == 3) = false := by simpa using e
   simp [this]
theorem ownS_2 {D : MD} {b1 b3 b4 b5 : Bool} {kx : Lit} (hx : keyOf Tryz.prog 112 (pairV 2 4) = some kx) (hD : IsMap D) (h : OwnS b1 false b3 b4 b5 D) : OwnS b1 true b3 b4 b5 (D.put kx (.lit (.bool true))) := by
 intro j k kl hk
 rw [at_put hx hD j k kl hk]
 by_cases e : j = 2 ∧ k = 4
 · rw [if_pos e, e.1, e.2]
   simp
 · rw [if_neg e, h j k kl hk]
   have : (j == 2 && k == 4) = false := by simpa using e
   simp [this]
theorem ownS_3 {D : MD} {b1 b2 b4 b5 : Bool} {kx : Lit} (hx : keyOf Tryz.prog 112 (pairV 3 4) = some kx) (hD : IsMap D) (h : OwnS b1 b2 false b4 b5 D) : OwnS b1 b2 true b4 b5 (D.put kx (.lit (.bool true))) := by
 intro j k kl hk
 rw [at_put hx hD j k kl hk]
 by_cases e : j = 3 ∧ k = 4
 · rw [if_pos e, e.1, e.2]
   simp
 · rw [if_neg e, h j k kl hk]
   have : (j == 3 && k == 4) = false := by simpa using e
   simp [this]
theorem ownS_4 {D : MD} {b1 b2 b3 b5 : Bool} {kx : Lit} (hx : keyOf Tryz.prog 112 (pairV 3 7) = some kx) (hD : IsMap D) (h : OwnS b1 b2 b3 false b5 D) : OwnS b1 b2 b3 true b5 (D.put kx (.lit (.bool true))) := by
 intro j k kl hk
 rw [at_put hx hD j k kl hk]
 by_cases e : j = 3 ∧ k = 7
 · rw [if_pos e, e.1, e.2]
   simp
 · rw [if_neg e, h j k kl hk]
   have : (j == 3 && k == 7) = false := by simpa using e
   simp [this]
theorem ownS_5 {D : MD} {b1 b2 b3 b4 : Bool} {kx : Lit} (hx : keyOf Tryz.prog 112 (pairV 4 7) = some kx) (hD : IsMap D) (h : OwnS b1 b2 b3 b4 false D) : OwnS b1 b2 b3 b4 true (D.put kx (.lit (.bool true))) := by
 intro j k kl hk
 rw [at_put hx hD j k kl hk]
 by_cases e : j = 4 ∧ k = 7
 · rw [if_pos e, e.1, e.2]
   simp
 · rw [if_neg e, h j k kl hk]
   have : (j == 4 && k == 7) = false := by simpa using e
   simp [this]
theorem step_insP {ops : Array Oper} {o : Oper} {a : Act} {w : World} {Q : Exit → Act → World → Prop} {K : Act → World → Prop} (hg : o.guard = none) (m x v : Operand) (hop : o.op = Op.insert 110 m x v) (hd : o.dst = none)
 (w0 : World) (b n : Nat) (D : MD) (j k : Int) (kl : Lit) (hkey : keyOf Tryz.prog 112 (pairV j k) = some kl) (hm : a.eval m = .map (some b)) (hx : a.eval x = pairV j k) (hv : a.eval v = .bool true) (hn : n < 1000) (M : PB w0 w b n D)
 (hK : ∀ w', PB w0 w' b (n + 1) (D.put kl (.lit (.bool true))) → K a w') : if Region.wanted o (yielded ops a.tmps) = true then Oper.wp Tryz.prog o a w K Q else K (a.put o.dst undef) w := by
 have hw : Region.wanted o (yielded ops a.tmps) = true := by simp [Region.wanted, hg]
 rw [if_pos hw]
 obtain ⟨w', hrun, r1, r2⟩ := M.own.update pair_law Tryz.underlying110 (by unfold maxLen; omega) hkey (plainElem_bool Tryz.underlying4 true)
 unfold Oper.wp
 simp [execOp, hop, hm, hx, hv, hrun, Result.andThen]
 show K (a.put o.dst undef) w'
 rw [hd]
 exact hK w' ⟨r1, M.bel.grown r2 (Nat.le_of_lt (World.ownsMap.lt M.own)) (fun j hj => by cases hj; exact Nat.le_refl _), M.is.put _ _⟩
/- the region in which the pairs are written, in whatever order -/
def lst (b1 b2 b3 b4 b5 : Bool) : Array Bool := #[true, true, b1, true, b2, true, b3, true, b4, true, b5, false, false]
def rdy (b1 b2 b3 b4 b5 : Bool) : List Nat := (if b1 then [] else [2]) ++ ((if b2 then [] else [4]) ++ ((if b3 then [] else [6]) ++ ((if b4 then [] else [8]) ++ ((if b5 then [] else [10]) ++ (if b1 && b2 && b3 && b4 && b5 then [11] else [])))))
def cnt (b1 b2 b3 b4 b5 : Bool) : Nat := (if b1 then 0 else 1) + ((if b2 then 0 else 1) + ((if b3 then 0 else 1) + ((if b4 then 0 else 1) + (if b5 then 0 else 1))))
theorem rdy_mem {b1 b2 b3 b4 b5 : Bool} {i : Nat} (h : i ∈ rdy b1 b2 b3 b4 b5) : (i = 2 ∧ b1 = false) ∨ (i = 4 ∧ b2 = false) ∨ (i = 6 ∧ b3 = false) ∨ (i = 8 ∧ b4 = false) ∨ (i = 10 ∧ b5 = false) ∨ (i = 11 ∧ cnt b1 b2 b3 b4 b5 = 0) := by
 unfold rdy at h
 simp only [List.mem_append] at h
 rcases h with h | h | h | h | h | h
 · cases b1 <;> simp at h ⊢; omega
 · cases b2 <;> simp at h ⊢; omega
 · cases b3 <;> simp at h ⊢; omega
 · cases b4 <;> simp at h ⊢; omega
 · cases b5 <;> simp at h ⊢; omega
 · unfold cnt
   cases b1 <;> cases b2 <;> cases b3 <;> cases b4 <;> cases b5 <;> simp at h ⊢
   omega
structure InsAt (ops : Array Oper) (a : Act) (b i : Nat) (j k : Int) : Prop where
 ex : ∃ o m x v, ops[i]? = some o ∧ o.guard = none ∧ o.op = Op.insert 110 m x v ∧ o.dst = none ∧ a.eval m = .map (some b) ∧ a.eval x = pairV j k ∧ a.eval v = .bool true
theorem ins_region {ops : Array Oper} {Q : Exit → Act → World → Prop} {a : Act} {b : Nat} {w0 : World} {k1 k2 k3 k4 k5 : Lit} (h1 : keyOf Tryz.prog 112 (pairV 2 3) = some k1) (h2 : keyOf Tryz.prog 112 (pairV 2 4) = some k2) (h3 : keyOf Tryz.prog 112 (pairV 3 4) = some k3) (h4 : keyOf Tryz.prog 112 (pairV 3 7) = some k4) (h5 : keyOf Tryz.prog 112 (pairV 4 7) = some k5) 
 (hr : ∀ b1 b2 b3 b4 b5, Region.ready .any ops (lst b1 b2 b3 b4 b5) = rdy b1 b2 b3 b4 b5) (q1 : InsAt ops a b 2 2 3) (q2 : InsAt ops a b 4 2 4) (q3 : InsAt ops a b 6 3 4) (q4 : InsAt ops a b 8 3 7) (q5 : InsAt ops a b 10 4 7) 
 (hdone : ∀ w' n D, PB w0 w' b n D → OwnAt D → wpAny Tryz.prog .any ops Q 2 (lst true true true true true) a w') :
 ∀ (m : Nat) (b1 b2 b3 b4 b5 : Bool) (w : World) (n : Nat) (D : MD), cnt b1 b2 b3 b4 b5 = m → n + m ≤ 5 → PB w0 w b n D → OwnS b1 b2 b3 b4 b5 D → wpAny Tryz.prog .any ops Q (m + 2) (lst b1 b2 b3 b4 b5) a w := by
 intro m
 induction m with
 | zero =>
   intro b1 b2 b3 b4 b5 w n D hc hn M hs
   have hb : b1 = true ∧ b2 = true ∧ b3 = true ∧ b4 = true ∧ b5 = true := by
    unfold cnt at hc
    cases b1 <;> cases b2 <;> cases b3 <;> cases b4 <;> cases b5 <;> simp at hc ⊢
   obtain ⟨rfl, rfl, rfl, rfl, rfl⟩ := hb
   exact hdone w n D M (ownS_all hs)
 | succ m ih =>
   intro b1 b2 b3 b4 b5 w n D hc hn M hs
   refine wpAny_ready (rs := rdy b1 b2 b3 b4 b5) (hr b1 b2 b3 b4 b5) ?_ ?_
   · unfold rdy
     unfold cnt at hc
     cases b1 <;> cases b2 <;> cases b3 <;> cases b4 <;> cases b5 <;> simp at hc ⊢
   intro i hi
   rcases rdy_mem hi with ⟨rfl, hb⟩ | ⟨rfl, hb⟩ | ⟨rfl, hb⟩ | ⟨rfl, hb⟩ | ⟨rfl, hb⟩ | ⟨_, hb⟩
   · subst hb
     obtain ⟨o, om, ox, ov, e1, e2, e3, e4, e5, e6, e7⟩ := q1.ex
     refine wpOp_step e1 (fun K hK => step_insP e2 om ox ov e3 e4 w0 b n D 2 3 k1 h1 e5 e6 e7 (by omega) M (fun w' M' => hK _ _ ?_))
     exact ih true b2 b3 b4 b5 w' (n + 1) _ (by unfold cnt at hc ⊢; simp at hc ⊢; omega) (by omega) M' (ownS_1 h1 M.is hs)
   · subst hb
     obtain ⟨o, om, ox, ov, e1, e2, e3, e4, e5, e6, e7⟩ := q2.ex
     refine wpOp_step e1 (fun K hK => step_insP e2 om ox ov e3 e4 w0 b n D 2 4 k2 h2 e5 e6 e7 (by omega) M (fun w' M' => hK _ _ ?_))
     exact ih b1 true b3 b4 b5 w' (n + 1) _ (by unfold cnt at hc ⊢; simp at hc ⊢; omega) (by omega) M' (ownS_2 h2 M.is hs)
   · subst hb
     obtain ⟨o, om, ox, ov, e1, e2, e3, e4, e5, e6, e7⟩ := q3.ex
     refine wpOp_step e1 (fun K hK => step_insP e2 om ox ov e3 e4 w0 b n D 3 4 k3 h3 e5 e6 e7 (by omega) M (fun w' M' => hK _ _ ?_))
     exact ih b1 b2 true b4 b5 w' (n + 1) _ (by unfold cnt at hc ⊢; simp at hc ⊢; omega) (by omega) M' (ownS_3 h3 M.is hs)
   · subst hb
     obtain ⟨o, om, ox, ov, e1, e2, e3, e4, e5, e6, e7⟩ := q4.ex
     refine wpOp_step e1 (fun K hK => step_insP e2 om ox ov e3 e4 w0 b n D 3 7 k4 h4 e5 e6 e7 (by omega) M (fun w' M' => hK _ _ ?_))
     exact ih b1 b2 b3 true b5 w' (n + 1) _ (by unfold cnt at hc ⊢; simp at hc ⊢; omega) (by omega) M' (ownS_4 h4 M.is hs)
   · subst hb
     obtain ⟨o, om, ox, ov, e1, e2, e3, e4, e5, e6, e7⟩ := q5.ex
     refine wpOp_step e1 (fun K hK => step_insP e2 om ox ov e3 e4 w0 b n D 4 7 k5 h5 e5 e6 e7 (by omega) M (fun w' M' => hK _ _ ?_))
     exact ih b1 b2 b3 b4 true w' (n + 1) _ (by unfold cnt at hc ⊢; simp at hc ⊢; omega) (by omega) M' (ownS_5 h5 M.is hs)
   · omega
theorem ins_start {ops : Array Oper} {Q : Exit → Act → World → Prop} {a : Act} {w0 : World} {k1 k2 k3 k4 k5 : Lit} (h1 : keyOf Tryz.prog 112 (pairV 2 3) = some k1) (h2 : keyOf Tryz.prog 112 (pairV 2 4) = some k2) (h3 : keyOf Tryz.prog 112 (pairV 3 4) = some k3) (h4 : keyOf Tryz.prog 112 (pairV 3 7) = some k4) (h5 : keyOf Tryz.prog 112 (pairV 4 7) = some k5) 
 {fuel : Nat} {listed : Array Bool} (hf : fuel = 7) (hl : listed = lst false false false false false) (hr : ∀ b1 b2 b3 b4 b5, Region.ready .any ops (lst b1 b2 b3 b4 b5) = rdy b1 b2 b3 b4 b5) (q1 : InsAt ops a w0.heap.size 2 2 3) (q2 : InsAt ops a w0.heap.size 4 2 4) (q3 : InsAt ops a w0.heap.size 6 3 4) (q4 : InsAt ops a w0.heap.size 8 3 7) (q5 : InsAt ops a w0.heap.size 10 4 7) 
 (hdone : ∀ w' n D, PB w0 w' w0.heap.size n D → OwnAt D → wpAny Tryz.prog .any ops Q 2 (lst true true true true true) a w') : wpAny Tryz.prog .any ops Q fuel listed a (w0.alloc (.map #[] 0)) := by
 subst hf hl
 exact ins_region h1 h2 h3 h4 h5 hr q1 q2 q3 q4 q5 hdone 5 false false false false false _ 0 (.map []) rfl (by omega) (PB.made w0) (fun j k kl hk => by simp [DataW.atKey])
theorem own_any (w : World) :
 Calls Tryz.prog 76 #[] w fun e w' => ∃ (b n : Nat) (D : MD), e = .returned (.map (some b)) ∧ OwnP w' b n D ∧ OwnAt D ∧ Below w.heap.size w w' := by
 obtain ⟨k1, h1⟩ := pair_key 2 3 (by decide) (by decide)
 obtain ⟨k2, h2⟩ := pair_key 2 4 (by decide) (by decide)
 obtain ⟨k3, h3⟩ := pair_key 3 4 (by decide) (by decide)
 obtain ⟨k4, h4⟩ := pair_key 3 7 (by decide) (by decide)
 obtain ⟨k5, h5⟩ := pair_key 4 7 (by decide) (by decide)
 have H1 := Lib.hid h1
 have H2 := Lib.hid h2
 have H3 := Lib.hid h3
 have H4 := Lib.hid h4
 have H5 := Lib.hid h5
 clear h1 h2 h3 h4 h5
 have hmm := @run_makeMap Tryz.prog
 go_enter Tryz.func76, Tryz.ntmps76
 go_upto_region 1 with fail
 refine wp_region_any (by kernel_rfl) ?_
 refine wpAny_take (i := 1) (v := pairV 2 3) rfl (by kernel_rfl) (by kernel_rfl) (by kernel_rfl) (fun _ _ _ h => h) (Or.inl ⟨by rfl, by intro w; go_simp⟩) ?_
 refine wpAny_take (i := 3) (v := pairV 2 4) rfl (by kernel_rfl) (by kernel_rfl) (by kernel_rfl) (fun _ _ _ h => h) (Or.inl ⟨by rfl, by intro w; go_simp⟩) ?_
 refine wpAny_take (i := 5) (v := pairV 3 4) rfl (by kernel_rfl) (by kernel_rfl) (by kernel_rfl) (fun _ _ _ h => h) (Or.inl ⟨by rfl, by intro w; go_simp⟩) ?_
 refine wpAny_take (i := 7) (v := pairV 3 7) rfl (by kernel_rfl) (by kernel_rfl) (by kernel_rfl) (fun _ _ _ h => h) (Or.inl ⟨by rfl, by intro w; go_simp⟩) ?_
 refine wpAny_take (i := 9) (v := pairV 4 7) rfl (by kernel_rfl) (by kernel_rfl) (by kernel_rfl) (fun _ _ _ h => h) (Or.inl ⟨by rfl, by intro w; go_simp⟩) ?_
 refine wpAny_ready (rs := [0]) (by kernel_rfl) (by simp) (AllReady.cons rfl (fun K hK => ?_) AllReady.nil)
 go_simp
 refine hK _ _ ?_
 clear hK K
 refine ins_start (w0 := w.drew) H1.out H2.out H3.out H4.out H5.out rfl (by kernel_rfl) ?_ ⟨_, _, _, _, rfl, rfl, rfl, rfl, rfl, rfl, rfl⟩ ⟨_, _, _, _, rfl, rfl, rfl, rfl, rfl, rfl, rfl⟩ ⟨_, _, _, _, rfl, rfl, rfl, rfl, rfl, rfl, rfl⟩ ⟨_, _, _, _, rfl, rfl, rfl, rfl, rfl, rfl, rfl⟩ ⟨_, _, _, _, rfl, rfl, rfl, rfl, rfl, rfl, rfl⟩ ?_
 · intro b1 b2 b3 b4 b5
   cases b1 <;> cases b2 <;> cases b3 <;> cases b4 <;> cases b5 <;> kernel_rfl
 intro w1 n D M hO
 refine wpAny_take (i := 11) (v := .map (some w.heap.size)) rfl (by kernel_rfl) (by kernel_rfl) (by kernel_rfl) (fun _ _ _ h => h) (Or.inl ⟨by rfl, by intro w; go_simp⟩) ?_
 refine wpAny_take (i := 12) (v := .map (some w.heap.size)) rfl (by kernel_rfl) (by kernel_rfl) (by kernel_rfl) (fun _ _ _ h => h) (Or.inl ⟨by rfl, by intro w; go_simp⟩) ?_
 refine wpAny_done (by kernel_rfl) ?_ _
 go_wp2_with fail
 go_ret
 exact ⟨_, n, D, rfl, M.own, hO, (Below.refl w.heap.size w).drew.trans M.bel⟩
/- a pair that is sought -/
theorem own_look {W : World} {b n : Nat} {D : MD} (h : OwnP W b n D) (hat : OwnAt D) {j k : Int} (hj : 1 ≤ j ∧ j ≤ 7) (hk : 1 ≤ k ∧ k ≤ 7) :
 (Instr.lookup 110 (.map (some b)) (pairV j k) false).run Tryz.prog W = .ok (.bool (ownF j k)) W := by
 obtain ⟨kl, hkl⟩ := pair_key j k hj hk
 obtain ⟨v, ps, h1, h2⟩ := h.lookup pair_law Tryz.underlying110 (z := .bool false) (by kernel_rfl) (plainElem_bool Tryz.underlying4 false) hkl
 rw [hat j k kl hkl] at h2
 unfold plainElem at h2
 rw [Tryz.underlying4] at h2
 cases v <;> simp at h2
 rw [h1, h2.1]
end Go.Proofs.YtecnlfaholmpoaaGreat
