/- patch.Apply: joined. What a light code, a patch with few bytes give. patch.All. commute.formed and commute.Commute answer formedF and commF. Whole patches stored and handed back; boxes made ahead of a call. Rows of patches that a call owns; append. -/
import Derived.Test.YtecnlfaholmpoaaGreatJC20
import Derived.Test.YtecnlfaholmpoaaGreatJC17
import Derived.Test.YtecnlfaholmpoaaGreatJC18
import Derived.Test.YtecnlfaholmpoaaGreatJC14
import Derived.Laws.ResultCell
import Derived.Laws.OwnMore
import Derived.Maps.AppendAt
set_option linter.unusedVariables false
set_option linter.unusedSimpArgs false
set_option maxRecDepth 20000
set_option maxHeartbeats 1000000
namespace Go.Proofs.YtecnlfaholmpoaaGreat
open Go.RowKit
theorem name_len {s : Str} (h : isNameB s = true) : s.length ≤ 24 := by
 unfold isNameB at h
 simp at h
 exact h.2
theorem proper_lens {x : Item} (h : properB x = true) : x.id.length ≤ 24 ∧ x.num.length ≤ 8 ∧ x.no.length ≤ 400 ∧ x.so.length ≤ 400 := by
 unfold properB numOk at h
 split at h
 · simp at h
   have := name_len h.1.1.1.2
   refine ⟨this, by omega, by simp [h.1.1.2], by simp [h.1.2]⟩
 · split at h
   · simp at h
     have := name_len h.1.1.2
     exact ⟨this, by omega, by omega, by omega⟩
   · cases h
theorem Good.par_len {l : List Item} {R : List Row} (hg : Good l R) : ∀ x ∈ l, x.par.length ≤ 24 := by
 intro x hx
 obtain ⟨a, o, c, he⟩ := hg.split hx
 have hxR : (x, o) ∈ R := by rw [he]; simp
 have hl := (hg.par_last hxR).1
 simp only at hl
 by_cases h0 : o = []
 · rw [← hl, h0]; simp [lastS]
 · have hm := lastS_mem h0
   rw [hl] at hm
   rcases open_sub hg.chain _ hxR _ hm with h | h
   · simp at h
   · simp only [idsR, List.mem_map] at h
     obtain ⟨y, hy, hyi⟩ := h
     rw [← hyi]
     exact (proper_lens (hg.proper hy)).1
theorem short_of_good {l : List Item} (h : walkB l = true) : ∀ x ∈ l, x.Short := by
 intro x hx
 have hg := good_of h
 obtain ⟨h1, h2, h3, h4⟩ := proper_lens (hg.pr x hx)
 have h5 := hg.par_len x hx
 have : 400 ≤ maxLen := by unfold maxLen; omega
 exact ⟨by omega, by omega, by omega, by omega, by omega⟩
theorem len_of_good {l : List Item} (h : walkB l = true) : l.length ≤ 2000 := (good_of h).le
theorem apply_f1 (l : List Item) (A : Option Addr) (c : Nat) (p : Patch) (w : World) (hr : RdI w A l) (hl : l.length ≤ 100000) (hsh : ∀ x ∈ l, x.Short) (hv : walkB l = false) : Applies l A c p w := by
 unfold Applies
 have hE : applyF l p = ([], 1) := by unfold applyF; rw [if_pos (.inl hv)]
 have HE := Lib.hid hE; clear hE
 have HV := fun W h => Lib.hid (valid_any l A c W h (by omega) hsh)
 have HR := Lib.hid hr; clear hr
 have Hv := Lib.hid hv; clear hv
 have hb0 := ((((Below.refl w.heap.size w).alloc (Nat.le_refl _) (.cells #[.slice A l.length c] 24)).alloc (by simp) (.cells (patCs p) 49)).alloc (by simp; omega) (.cells #[.slice none 0 0] 24))
 have HB0 := Lib.hid hb0; clear hb0
 go_enter Tryz.func28, Tryz.ntmps28
 go_wp2_with fail
 refine (HV _ (HR.out.below HB0.out)).out.mono ?_
 rintro e w1 ⟨rfl, hb1⟩
 rw [Hv.out]
 obtain ⟨hc, hf⟩ := bcell hb1
 have HB1 := Lib.hid hb1; clear hb1
 go_wp2_with fail
 refine bodyPost_ret (v := .tuple #[.agg #[.slice none 0 0], .int .i64 1]) (by simp [results, Tryz.results28, go_sem, hc, hf]) rfl ⟨_, by rw [HE.out], by rw [HE.out]; exact ResC.nil _ _ _, ?_⟩
 exact Below.setCell (p := ⟨w.heap.size + 1 + 1, 0, none⟩) (HB0.out.trans (HB1.out.mono HB0.out.size)) (show w.heap.size ≤ w.heap.size + 1 + 1 by omega) _
theorem apply_f2 (l : List Item) (A : Option Addr) (c : Nat) (p : Patch) (w : World) (hr : RdI w A l) (hl : l.length ≤ 100000) (hsh : ∀ x ∈ l, x.Short) (hps : p.item.Short) (hpn : p.num.length ≤ maxLen) (hv : walkB l = true) (hfo : formedF p = false) : Applies l A c p w := by
 unfold Applies
 have hE : applyF l p = ([], 1) := by unfold applyF; rw [if_pos (.inr hfo)]
 have HE := Lib.hid hE; clear hE
 have HV := fun W h => Lib.hid (valid_any l A c W h (by omega) hsh)
 have HF := fun W => Lib.hid (formed_any p W hps hpn)
 have HR := Lib.hid hr; clear hr
 have Hv := Lib.hid hv; clear hv
 have Hfo := Lib.hid hfo; clear hfo
 have hb0 := ((((Below.refl w.heap.size w).alloc (Nat.le_refl _) (.cells #[.slice A l.length c] 24)).alloc (by simp) (.cells (patCs p) 49)).alloc (by simp; omega) (.cells #[.slice none 0 0] 24))
 have HB0 := Lib.hid hb0; clear hb0
 go_enter Tryz.func28, Tryz.ntmps28
 go_wp2_with fail
 refine (HV _ (HR.out.below HB0.out)).out.mono ?_
 rintro e w1 ⟨rfl, hb1⟩
 rw [Hv.out]
 obtain ⟨hc, hf⟩ := bcell hb1
 have hblk := bblk hb1
 have HB1 := Lib.hid hb1; clear hb1
 go_wp2_with fail
 refine (HF _).out.mono ?_
 rintro e w2 ⟨rfl, hb2⟩
 rw [Hfo.out]
 have hb3 := HB1.out.trans (hb2.mono HB1.out.size)
 clear hc hf hblk hb2 HB1
 obtain ⟨hc, hf⟩ := bcell hb3
 have HB3 := Lib.hid hb3; clear hb3
 go_wp2_with fail
 refine bodyPost_ret (v := .tuple #[.agg #[.slice none 0 0], .int .i64 1]) (by simp [results, Tryz.results28, go_sem, hc, hf]) rfl ⟨_, by rw [HE.out], by rw [HE.out]; exact ResC.nil _ _ _, ?_⟩
 exact Below.setCell (p := ⟨w.heap.size + 1 + 1, 0, none⟩) (HB0.out.trans (HB3.out.mono HB0.out.size)) (show w.heap.size ≤ w.heap.size + 1 + 1 by omega) _
theorem Does.of_eq {f : FuncId} {l : List Item} {A : Option Addr} {c : Nat} {p : Patch} {i j : Int} {w : World} {r s : List Item × Int} (h : Does f l A c p i w r) (hi : i = j) (hr : r = s) : Does f l A c p j w s := by
 subst hi hr; exact h
theorem apply_any (l : List Item) (A : Option Addr) (c : Nat) (p : Patch) (w : World) (hr : RdI w A l) (hl : l.length ≤ 100000) (hlc : l.length ≤ c) (hsh : ∀ x ∈ l, x.Short) (hps : p.item.Short) (hpn : p.num.length ≤ maxLen)
 (m : Int) (hg : w.cell? ⟨0, 0, none⟩ = some (.int .i64 m)) (htt : p.to.length ≤ 1000000) : Applies l A c p w := by
 cases hv : walkB l with
 | false => exact apply_f1 l A c p w hr hl hsh hv
 | true =>
   cases hfo : formedF p with
   | false => exact apply_f2 l A c p w hr hl hsh hps hpn hv hfo
   | true =>
     have hG := good_of hv
     generalize walkL l = R at hG
     have hlook : ((itemF l p.id).kind == 0) = false → ∃ a x o r b, x.id = p.id ∧ Block R a x o r b ∧ findI l p.id = a.length ∧ itemF l p.id = x ∧ belowL l p.id = idsR r ∧ l[a.length]? = some x := by
      intro h
      rcases hG.look p.id with ⟨_, h2, _⟩ | ⟨a, x, o, r, b, h1, h2, h3, h4, h5⟩
      · rw [h2] at h; simp [noItem] at h
      · exact ⟨a, x, o, r, b, h1, h2, h3, h4, h5, (hG.look_row h2.eq).2.2⟩
     have hzero : 0 < w.heap.size := World.block_lt_of_cell? w _ hg
     have hap : ∀ {k : Int}, p.kind = k → k ≠ 1 → ((itemF l p.id).kind == 0) = false → (k ≠ 3 → k ≠ 4 → ((itemF l p.id).kind == 1) = false) → (k = 6 → (itemF l p.id).gone = true) → (k ≠ 6 → (itemF l p.id).gone = false) →
      applyF l p = if p.kind = 2 then wordsF l p (findI l p.id).toNat (itemF l p.id) else if p.kind = 3 then (l.set (findI l p.id).toNat { itemF l p.id with num := p.num }, 0) else if p.kind = 4 then moveF l p (findI l p.id).toNat
       else if p.kind = 7 then replaceF l p (findI l p.id).toNat (itemF l p.id) else (l.set (findI l p.id).toNat { itemF l p.id with gone := p.kind == 5 }, 0) := by
      intro k hk h1 h0 hy1 hg1 hg2
      unfold applyF
      rw [if_neg (by rw [hv, hfo]; simp), if_neg (by omega)]
      rw [if_neg (by
       rintro (h | ⟨h, h3, h4⟩)
       · simp [h] at h0
       · have := hy1 (by omega) (by omega); simp [h] at this)]
      rw [if_neg (by rintro ⟨h, h'⟩; rw [hg1 (by omega)] at h'; cases h')]
      rw [if_neg (by rintro ⟨h, h'⟩; rw [hg2 (by omega)] at h'; cases h')]
     refine apply_t l A c p w hr hl hsh hps hpn hv hfo ?_ ?_ ?_ ?_ ?_ ?_ ?_
     · intro hk W hb
       refine (insertA_any l A c p (findI l p.id) W (hr.below hb) hl hsh (fun he => ?_)).of_eq rfl ?_
       · obtain ⟨a, b, o, hP⟩ := hG.place he
         exact hP.ok
       · unfold applyF
         rw [if_neg (by rw [hv, hfo]; simp), if_pos hk]
     · intro hk h0 h1 hgo W hb
       obtain ⟨a, x, o, r, b, e1, e2, e3, e4, e5, e6⟩ := hlook h0
       have hpx := proper_lens (x := x) (hG.proper (y := (x, o)) (by rw [e2.eq]; simp))
       have hf2 := formed2 hk hfo
       refine (words_any l A c p a.length x W (hr.below hb) (by omega) e6 m (hb.cell (p := ⟨0, 0, none⟩) hzero ▸ hg) hf2.2.2 (by omega) (by omega) htt).of_eq e3.symm ?_
       rw [hap hk (by decide) h0 (fun _ _ => h1) (fun h => absurd h (by decide)) (fun _ => hgo), if_pos hk, e3, e4, Int.toNat_natCast]
     · intro hk h0 hgo W hb
       obtain ⟨a, x, o, r, b, e1, e2, e3, e4, e5, e6⟩ := hlook h0
       refine (number_any l A c p a.length x W (hr.below hb) (by omega) e6).of_eq e3.symm ?_
       rw [hap hk (by decide) h0 (fun h => absurd rfl h) (fun h => absurd h (by decide)) (fun _ => hgo), if_neg (by omega), if_pos hk, e3, e4, Int.toNat_natCast]
     · intro hk h0 hgo W hb
       obtain ⟨a, x, o, r, b, e1, e2, e3, e4, e5, e6⟩ := hlook h0
       have hkn : a.length + (1 + (belowL l p.id).length) ≤ l.length := by
        have h1 := hG.len
        have h2 := congrArg List.length e2.eq
        rw [e5]
        simp [idsR] at h2 ⊢
        omega
       refine (move_any l A c p a.length W (hr.below hb) hl hsh hlc hkn (fun hm => ?_)).of_eq e3.symm ?_
       · rw [e5, (rest_items hG e2).1]
         obtain ⟨a', b', o', hP⟩ := (hG.rest e2).place (move_exists hG e2 e1 hm)
         exact hP.ok
       · rw [hap hk (by decide) h0 (fun _ h => absurd rfl h) (fun h => absurd h (by decide)) (fun _ => hgo), if_neg (by omega), if_neg (by omega), if_pos hk, e3, Int.toNat_natCast]
     · intro hk h0 h1 hgo W hb
       obtain ⟨a, x, o, r, b, e1, e2, e3, e4, e5, e6⟩ := hlook h0
       refine (gone_any l A c p a.length x W (hr.below hb) (by omega) e6).of_eq e3.symm ?_
       rw [hap hk (by decide) h0 (fun _ _ => h1) (fun h => absurd h (by decide)) (fun _ => hgo), if_neg (by omega), if_neg (by omega), if_neg (by omega), if_neg (by omega), e3, e4, Int.toNat_natCast]
     · intro hk h0 h1 hgo W hb
       obtain ⟨a, x, o, r, b, e1, e2, e3, e4, e5, e6⟩ := hlook h0
       refine (gone_any l A c p a.length x W (hr.below hb) (by omega) e6).of_eq e3.symm ?_
       rw [hap hk (by decide) h0 (fun _ _ => h1) (fun _ => hgo) (fun h => absurd rfl h), if_neg (by omega), if_neg (by omega), if_neg (by omega), if_neg (by omega), e3, e4, Int.toNat_natCast]
     · intro hk h0 h1 hgo W hb
       obtain ⟨a, x, o, r, b, e1, e2, e3, e4, e5, e6⟩ := hlook h0
       refine (replace_any l A c p a.length x W (hr.below hb) (by omega) e6).of_eq e3.symm ?_
       rw [hap hk (by decide) h0 (fun _ _ => h1) (fun h => absurd h (by decide)) (fun _ => hgo), if_neg (by omega), if_neg (by omega), if_neg (by omega), if_pos hk, e3, e4, Int.toNat_natCast]
end Go.Proofs.YtecnlfaholmpoaaGreat
namespace Go.Proofs.YtecnlfaholmpoaaGreat
open Go.RowKit
theorem light_facts {l : List Item} {ps : List Patch} (h : lightB l ps = true) : l.length ≤ 30 ∧ ∀ x ∈ l, x.Short := by
 unfold lightB at h
 simp only [Bool.and_eq_true, List.all_eq_true, decide_eq_true_eq] at h
 obtain ⟨h1, _, h2, _⟩ := h
 refine ⟨h2, fun x hx => ?_⟩
 have := h1 x hx
 unfold heavyI light1 light2 light3 at this
 simp at this
 have h9 : (1000 : Nat) ≤ maxLen := by unfold maxLen; omega
 exact ⟨by omega, by omega, by omega, by omega, by omega⟩
theorem light_pats {l : List Item} {ps : List Patch} (h : lightB l ps = true) : ps.length ≤ 12 ∧ ∀ q ∈ ps, fewB q = true := by
 unfold lightB at h
 simp only [Bool.and_eq_true, List.all_eq_true, decide_eq_true_eq] at h
 exact ⟨h.2.2.2, h.2.1⟩
theorem few_facts {p : Patch} (h : fewB p = true) : p.item.Short ∧ p.num.length ≤ maxLen ∧ p.to.length ≤ 1000000 := by
 unfold fewB few1 few2 few3 at h
 simp only [Bool.and_eq_true, decide_eq_true_eq] at h
 obtain ⟨⟨h1, h2⟩, h3⟩ := h
 have h9 : (2000 : Nat) ≤ maxLen := by unfold maxLen; omega
 exact ⟨⟨by omega, by omega, by omega, by omega, by omega⟩, by omega, by omega⟩
end Go.Proofs.YtecnlfaholmpoaaGreat
set_option maxRecDepth 20000
set_option maxHeartbeats 2000000
namespace Go.Proofs.YtecnlfaholmpoaaGreat
open Go.RowKit
def allR (l : List Item) (ps : List Patch) : List Item × Int × Int := if walkB l then allF l ps 0 else ([], -1, 1)
structure Patch.Ready (p : Patch) : Prop where
 item : p.item.Short
 num : p.num.length ≤ maxLen
 tlen : p.to.length ≤ 1000000
def Alls (l : List Item) (ps : List Patch) (A B : Option Addr) (c d : Nat) (w : World) : Prop :=
 Calls Tryz.prog 33 #[.agg #[.slice A l.length c], .slice B ps.length d] w fun e w' => ∃ v, e = .returned (.tuple #[v, .int .i64 (allR l ps).2.1, .int .i64 (allR l ps).2.2]) ∧ ResC w.heap.size w' v (allR l ps).1 ∧ Below w.heap.size w w'
theorem all_f (l : List Item) (ps : List Patch) (A B : Option Addr) (c d : Nat) (w : World) (hr : RdI w A l) (hl : l.length ≤ 100000) (hsh : ∀ x ∈ l, x.Short) (hv : walkB l = false) : Alls l ps A B c d w := by
 unfold Alls
 have hE : allR l ps = ([], -1, 1) := by unfold allR; rw [hv]; rfl
 have HE := Lib.hid hE; clear hE
 have HV := fun W h => Lib.hid (valid_any l A c W h (by omega) hsh)
 have HR := Lib.hid hr; clear hr
 have Hv := Lib.hid hv; clear hv
 have hb0 := ((Below.refl w.heap.size w).alloc (Nat.le_refl _) (.cells #[.slice A l.length c] 24)).alloc (by simp) (.cells #[.slice none 0 0] 24)
 have HB0 := Lib.hid hb0; clear hb0
 go_enter Tryz.func33, Tryz.ntmps33
 go_wp2_with fail
 refine (HV _ (HR.out.below HB0.out)).out.mono ?_
 rintro e w1 ⟨rfl, hb1⟩
 rw [Hv.out]
 obtain ⟨hc, hf⟩ := bcell hb1
 have HB1 := Lib.hid hb1; clear hb1
 go_wp2_with fail
 refine bodyPost_ret (v := .tuple #[.agg #[.slice none 0 0], .int .i64 (-1), .int .i64 1]) (by simp [results, Tryz.results33, go_sem, hc, hf]) rfl ⟨_, by rw [HE.out], by rw [HE.out]; exact ResC.nil _ _ _, ?_⟩
 exact Below.setCell (p := ⟨w.heap.size + 1, 0, none⟩) (HB0.out.trans (HB1.out.mono HB0.out.size)) (show w.heap.size ≤ w.heap.size + 1 by omega) _
theorem all_take {l r : List Item} {ps : List Patch} {k : Nat} {p : Patch} (h : allF l (ps.take k) 0 = (r, -1, 0)) (hp : ps[k]? = some p) :
 ((applyF r p).2 = 0 → allF l (ps.take (k + 1)) 0 = ((applyF r p).1, -1, 0)) ∧ ((applyF r p).2 ≠ 0 → allF l ps 0 = ([], (k : Int), (applyF r p).2)) := by
 obtain ⟨hk, rfl⟩ := List.getElem?_eq_some_iff.1 hp
 constructor
 · intro h0
   rw [List.take_succ_eq_append_getElem hk, all_append, h]
   simp only [if_pos]
   rw [allF, if_pos h0]
   rfl
 · intro h0
   have e : ps = ps.take k ++ ps[k] :: ps.drop (k + 1) := by rw [← List.drop_eq_getElem_cons hk, List.take_append_drop]
   have hlen : (ps.take k).length = k := by simp; omega
   generalize ps[k] = q at *
   have e2 : allF l ps 0 = allF l (ps.take k ++ q :: ps.drop (k + 1)) 0 := by rw [← e]
   rw [e2, all_append, h]
   simp only [if_pos]
   rw [allF, if_neg h0, hlen, Nat.zero_add]
theorem all_t (l : List Item) (ps : List Patch) (A B : Option Addr) (c d : Nat) (w : World) (hr : RdI w A l) (hs : RdP w B ps) (hl : l.length ≤ 100000) (hlc : l.length ≤ c) (hps : ps.length ≤ 1000000) (hrd : ∀ p ∈ ps, p.Ready) (m : Int) (hg : w.cell? ⟨0, 0, none⟩ = some (.int .i64 m))
 (hv : walkB l = true) : Alls l ps A B c d w := by
 unfold Alls
 have hE : allR l ps = allF l ps 0 := by unfold allR; rw [hv]; rfl
 have HE := Lib.hid hE; clear hE
 have HV := fun W h => Lib.hid (valid_any l A c W h (by omega) (short_of_good hv))
 have HR := Lib.hid hr; clear hr
 have HS := Lib.hid hs; clear hs
 have Hv := Lib.hid hv; clear hv
 have HG := Lib.hid hg; clear hg
 have HRD := Lib.hid hrd; clear hrd
 have hb0 := ((Below.refl w.heap.size w).alloc (Nat.le_refl _) (.cells #[.slice A l.length c] 24)).alloc (by simp) (.cells #[.slice none 0 0] 24)
 have HB0 := Lib.hid hb0; clear hb0
 go_enter Tryz.func33, Tryz.ntmps33
 go_wp2_with fail
 refine (HV _ (HR.out.below HB0.out)).out.mono ?_
 rintro e w1 ⟨rfl, hb1⟩
 rw [Hv.out]
 have HB1 := Lib.hid hb1; clear hb1
 go_wp2_with fail
 go_loopw [17] (fun i wr => ∃ (k : Nat) (r : List Item) (A' : Option Addr) (c' : Nat), k ≤ ps.length ∧ i = .int .i64 k ∧ allF l (ps.take k) 0 = (r, -1, 0) ∧ walkB r = true ∧ r.length ≤ c' ∧ RdI wr A' r ∧ wr.heap[w.heap.size]? = some (.cells #[.slice A' r.length c'] 24 (0, 0)) ∧
  wr.heap[w.heap.size + 1]? = some (.cells #[.slice none 0 0] 24 (0, 0)) ∧ (r ≠ [] → ∀ b o, A' = some ⟨b, o, none⟩ → b ≠ w.heap.size ∧ b ≠ w.heap.size + 1) ∧ Below w.heap.size w wr) (fun i _ => ps.length - (intOf i).toNat)
 case atStart =>
  refine ⟨0, l, A, c, Nat.zero_le _, rfl, by simp [allF], Hv.out, hlc, (HR.out.below HB0.out).below HB1.out, ?_, ?_, ?_, HB0.out.trans (HB1.out.mono HB0.out.size)⟩
  · rw [HB1.out.block _ (by simp; omega)]; exact heap_old_at (by simp) (heap_new_at rfl)
  · rw [HB1.out.block _ (by simp)]; exact heap_new_at (by simp)
  · intro hne b o hA
    obtain ⟨b', o', hA', hlt, _⟩ := HR.out hne
    rw [hA] at hA'
    cases hA'
    omega
 case round =>
  obtain ⟨k, r, A', c', hk, rfl, hall, hvr, hrc, hrr, hh2, hh4, hne, hb⟩ := hrel
  have hr2 : r.length ≤ 2000 := len_of_good hvr
  have HVR := Lib.hid hvr; clear hvr
  have HALL := Lib.hid hall; clear hall
  have HRR := Lib.hid hrr; clear hrr
  have HNE := Lib.hid hne; clear hne
  have HB := Lib.hid hb; clear hb
  have h2 := cell_of_row wr _ 0 _ _ _ hh2
  have h2f := frozen_of_row wr _ 0 _ _ hh2
  have h4 := cell_of_row wr _ 0 _ _ _ hh4
  have h4f := frozen_of_row wr _ 0 _ _ hh4
  simp only [List.getElem?_toArray, List.getElem?_cons_zero] at h2 h4
  have z1 := lt_of_heap hh2
  have z2 := lt_of_heap hh4
  have HH2 := Lib.hid hh2; clear hh2
  have HH4 := Lib.hid hh4; clear hh4
  by_cases hlt : k < ps.length
  · obtain ⟨p, hp⟩ := get_of_lt hlt
    have hi1 : (k : Int) < ps.length := by omega
    have hi0 : (0 : Int) ≤ k := by omega
    obtain ⟨b2, o2, C, t, fr, rfl, hbs2, hblk, hC, hex⟩ := (HS.out.below HB.out).row hp
    have HP := Lib.hid hp; clear hp
    have hready := HRD.out p (List.mem_of_getElem? HP.out)
    have hap := fun W h1 h2 => apply_any r A' c' p W h1 (by omega) hrc (short_of_good HVR.out) hready.item hready.num m h2 hready.tlen
    unfold Applies at hap
    have HAP := Lib.hid hap; clear hap
    cases h0 : ((applyF r p).2 != 0)
    all_goals
     have H0 := Lib.hid h0
     obtain ⟨q, hq⟩ : ∃ q, q = applyF r p := ⟨_, rfl⟩
     rw [← hq] at h0
     have HQ := Lib.hid hq; clear hq
     go_wp2_with fail
     refine (HAP.out _ (HRR.out.below ((Below.refl _ _).alloc (Nat.le_refl _) _)) (step_cell (HB.out.alloc (Nat.le_trans (Nat.le_of_lt z1) (Nat.le_refl _)) _) HG.out)).mono ?_
     rintro e w4 ⟨v, rfl, ⟨A2, c2, rfl, hr2', hlc2, hA2⟩, hb4⟩
     rw [← HQ.out] at hr2' hlc2 ⊢
     have hx := step_below hb4
     have k2 := step_cell hx h2
     have k2f : w4.frozen? ⟨w.heap.size, 0, none⟩ = false := (hx.frozen (p := ⟨w.heap.size, 0, none⟩) z1).trans h2f
     have k4 := step_cell hx h4
     have k4f : w4.frozen? ⟨w.heap.size + 1, 0, none⟩ = false := (hx.frozen (p := ⟨w.heap.size + 1, 0, none⟩) z2).trans h4f
     have y1 := World.block_lt_of_cell? _ _ k2
     have y2 := World.block_lt_of_cell? _ _ k4
     have hsz4 := hb4.size
     simp at hsz4
     have HX := Lib.hid hx; clear hx hb4
     clear h2 h2f h4 h4f hblk
     go_wp2_with fail
    · -- the patch was possible
      have h0' : (applyF r p).2 = 0 := by simpa using H0.out
      have hgood := (kept_law h0').good
      obtain ⟨t1, _⟩ := all_take HALL.out HP.out
      have t1 := t1 h0'
      have e1 : q.1 = (applyF r p).1 := by rw [HQ.out]
      refine ⟨⟨k + 1, q.1, A2, c2, by omega, by go_num, by rw [t1, e1], by rw [e1]; exact hgood, hlc2, ?_, ?_, ?_, ?_, ?_⟩, by simp [intOf]; omega⟩
      · -- it reads so behind the store
        refine Sl.keep hr2' (by simp) (fun b o hA hlt2 => ?_)
        have hge := hA2 b o hA
        simp at hge
        rw [Below.heap_alloc _ _ _ (by simpa using hlt2)]
        exact Below.heap_setCell _ _ _ _ (by simp; omega)
      · have hh := (HX.out.block _ z1).trans HH2.out
        exact heap_old_at (by simpa using y1) (heap_setCell_same _ _ _ _ _ _ hh)
      · have hh := (HX.out.block _ z2).trans HH4.out
        exact heap_old_at (by simpa using y2) ((Below.heap_setCell _ _ _ _ (by simp)).trans hh)
      · intro _ b o hA
        have hge := hA2 b o hA
        simp at hge
        omega
      · exact ((HB.out.trans (HX.out.mono HB.out.size)).setCell (p := ⟨w.heap.size, 0, none⟩) (show w.heap.size ≤ w.heap.size by omega) _).alloc (by simp; omega) _
    · have h0' : (applyF r p).2 ≠ 0 := by simpa using H0.out
      obtain ⟨_, t2⟩ := all_take HALL.out HP.out
      have t2 := t2 h0'
      have e2 : q.2 = (applyF r p).2 := by rw [HQ.out]
      refine bodyPost_ret (v := .tuple #[.agg #[.slice none 0 0], .int .i64 k, .int .i64 q.2]) (by simp [results, Tryz.results33, go_sem, k4, k4f, y2]) rfl ⟨.agg #[.slice none 0 0], by rw [HE.out, t2, e2], by rw [HE.out, t2]; exact ResC.nil _ _ _, ?_⟩
      refine Below.setCell (p := ⟨w.heap.size + 1, 0, none⟩) ?_ (show w.heap.size ≤ w.heap.size + 1 by omega) _ |>.alloc (by simp; omega) _
      exact HB.out.trans (HX.out.mono HB.out.size)
  · have : k = ps.length := by omega
    subst this
    go_wp2_with fail
    refine (clone_any r A' c' wr HRR.out (by omega)).mono ?_
    rintro e w4 ⟨v, rfl, hown, hb4⟩
    obtain ⟨A2, c2, rfl, hr2', hlc2, hA2⟩ := hown.slice
    have k4 := step_cell hb4 h4
    have k4f : w4.frozen? ⟨w.heap.size + 1, 0, none⟩ = false := (hb4.frozen (p := ⟨w.heap.size + 1, 0, none⟩) z2).trans h4f
    have y2 := World.block_lt_of_cell? _ _ k4
    have t : allF l ps 0 = (r, -1, 0) := by have := HALL.out; rwa [List.take_of_length_le (Nat.le_refl _)] at this
    go_wp2_with fail
    refine bodyPost_ret (v := .tuple #[.agg #[.slice A2 r.length c2], .int .i64 (-1), .int .i64 0]) (by simp [results, Tryz.results33, go_sem, k4, k4f, y2]) rfl ⟨_, by rw [HE.out, t], by rw [HE.out, t]; exact ⟨A2, c2, rfl, Sl.keep hr2' (by simp) (fun b o hA _ => Below.heap_setCell _ _ _ _ (by have := hA2 b o hA; simp; omega)), hlc2, fun b o hA => by have := hA2 b o hA; have := HB.out.size; omega⟩, ?_⟩
    exact Below.setCell (p := ⟨w.heap.size + 1, 0, none⟩) (HB.out.trans (hb4.mono HB.out.size)) (show w.heap.size ≤ w.heap.size + 1 by omega) _
theorem all_any (l : List Item) (ps : List Patch) (A B : Option Addr) (c d : Nat) (w : World) (hr : RdI w A l) (hs : RdP w B ps) (hl : l.length ≤ 100000) (hlc : l.length ≤ c) (hsh : ∀ x ∈ l, x.Short) (hps : ps.length ≤ 1000000) (hrd : ∀ p ∈ ps, p.Ready) (m : Int) (hg : w.cell? ⟨0, 0, none⟩ = some (.int .i64 m)) : Alls l ps A B c d w := by
 cases hv : walkB l with
 | false => exact all_f l ps A B c d w hr hl hsh hv
 | true => exact all_t l ps A B c d w hr hs hl hlc hps hrd m hg hv
end Go.Proofs.YtecnlfaholmpoaaGreat
set_option maxRecDepth 20000
set_option maxHeartbeats 1000000
namespace Go.Proofs.YtecnlfaholmpoaaGreat
open Go.RowKit
theorem apply_nil (p : Patch) : ((applyF [] p).2 != 1) = formedF p := by
 have hw : walkB ([] : List Item) = true := rfl
 unfold applyF
 cases hf : formedF p with
 | false => simp
 | true =>
   rw [if_neg (by rw [hw]; simp)]
   have hfi : findI ([] : List Item) p.id = -1 := rfl
   have hit : itemF ([] : List Item) p.id = noItem := rfl
   by_cases h1 : p.kind = 1
   · rw [if_pos h1]
     unfold insertF
     rw [hfi, if_neg (by omega)]
     split
     · rfl
     · rfl
   · rw [if_neg h1, hit, if_pos (.inl rfl)]; rfl
theorem formC (p : Patch) (hrd : p.Ready) (w : World) (m : Int) (hg : w.cell? ⟨0, 0, none⟩ = some (.int .i64 m)) : FormC p w := by
 intro W hb
 have hgW := step_cell hb hg
 have HA := fun W' (h : Below W.heap.size W W') => Lib.hid (apply_any [] none 0 p W' Sl.nil (by simp) (by simp) (by simp) hrd.item hrd.num m (step_cell h hgW) hrd.tlen)
 clear hg hgW hb
 go_enter Tryz.func75, Tryz.ntmps75
 go_wp2_with fail
 have hb1 := (Below.refl W.heap.size W).alloc (Nat.le_refl _) (.cells #[.int .i64 p.kind, vs p.id, vs p.par, vs p.aft, vs p.num, .int .i64 p.item.kind, vs p.item.id, vs p.item.par, vs p.item.num, vs p.item.no, vs p.item.so, .bool p.item.gone, .int .i64 p.lang, vs p.fr, vs p.to] 49)
 refine (HA _ hb1).out.mono ?_
 rintro e w1 ⟨v, rfl, hres, hb2⟩
 obtain ⟨A', c', rfl, -⟩ := hres
 have HB := Lib.hid (hb1.trans (hb2.mono hb1.size))
 clear hb1 hb2
 go_wp2_with fail
 go_ret
 exact ⟨ret_bool (apply_nil p), HB.out.alloc HB.out.size _⟩
theorem comm_any (a b : Patch) (ra : a.Ready) (rb : b.Ready) (w : World) (m : Int) (hg : w.cell? ⟨0, 0, none⟩ = some (.int .i64 m)) :
 Calls Tryz.prog 35 #[a.agg, b.agg] w fun e w' => e = .returned (.bool (commF a b)) ∧ Below w.heap.size w w' :=
 comm_mid a b w (formC a ra w m hg) (formC b rb w m hg)
end Go.Proofs.YtecnlfaholmpoaaGreat
namespace Go.Proofs.YtecnlfaholmpoaaGreat
open Go.RowKit
theorem size28 : (Tryz.prog.info? 49).map (·.size) = some 15 := by kernel_rfl
theorem patCs_one (q : Patch) : ∀ v ∈ (patCs q).toList, v.oneCell' = true := by
 intro v hv
 simp at hv
 rcases hv with rfl | rfl | rfl | rfl | rfl | rfl | rfl | rfl | rfl | rfl | rfl | rfl | rfl | rfl | rfl <;> rfl
theorem step_store_pat {ops : Array Oper} {o : Oper} {a : Act} {w : World} {K : Act → World → Prop} {Q : Exit → Act → World → Prop} {E : Prop} (hgd : o.guard = none) (x y : Operand) (ho : o.op = .store 49 x y)
 (g : Nat) (q cur : Patch) (hx : a.eval x = .pointer (some ⟨g, 0, none⟩)) (hy : a.eval y = .agg (patCs q)) (hg : w.blk g = some (.cells (patCs cur) 49 (0, 0)))
 (hK : K (a.put o.dst undef) (w.setRow g (patCs q))) : if Region.wanted o (yielded ops a.tmps) = true then Oper.wp Tryz.prog o a w K Q else E := by
 have hw : Region.wanted o (yielded ops a.tmps) = true := by simp [Region.wanted, hgd]
 rw [if_pos hw]
 exact wp_store_row 49 x y ho g (patCs q) hx hy 49 (patCs cur) hg size28 rfl (Array.all_eq_true'.2 fun v hv => patCs_one q v (by simpa using hv)) hK
theorem blk_setCell_at {w : World} {b k : Nat} {v : Value} {C : Array Value} {t : TypeId} {fr : Nat × Nat} (h : w.blk b = some (.cells C t fr)) : (w.setCell ⟨b, k, none⟩ v).blk b = some (.cells (C.setIfInBounds k v) t fr) := by
 unfold World.blk at h ⊢
 simp [World.setCell, Array.getElem?_modify, h]
theorem blk_setRow_at {w : World} {b : Nat} {C D : Array Value} {t : TypeId} {fr : Nat × Nat} (h : w.blk b = some (.cells C t fr)) : (w.setRow b D).blk b = some (.cells D t fr) := setRow_heap _ _ _ _ _ _ h
theorem blk_setRow_ne {w : World} {b k : Nat} {D : Array Value} (h : k ≠ b) : (w.setRow b D).blk k = w.blk k := setRow_other _ _ _ _ h
theorem blk_frozen {W : World} {b o : Nat} {C : Array Value} {t : TypeId} (h : W.blk b = some (.cells C t (0, 0))) : W.frozen? ⟨b, o, none⟩ = false := by
 have h' : W.heap[b]? = some (.cells C t (0, 0)) := h
 simp [World.frozen?, h']
theorem bx_c {W w' : World} {b : Nat} {v : Value} {t : TypeId} (hb : Below (W.alloc (.cells #[v] t)).heap.size (W.alloc (.cells #[v] t)) w') (h : b = W.heap.size) : w'.cell? ⟨b, 0, none⟩ = some v := by
 subst h
 exact step_box hb
/- one after the other, from world to world -/
theorem chain2 {a b c : World} (h : Below a.heap.size a b) (k : Below b.heap.size b c) : Below a.heap.size a c := h.trans (k.mono (by have := h.size; omega))
abbrev twoCs (a b : Patch) : Array Value := #[.int .i64 a.kind, vs a.id, vs a.par, vs a.aft, vs a.num, .int .i64 a.item.kind, vs a.item.id, vs a.item.par, vs a.item.num, vs a.item.no, vs a.item.so, .bool a.item.gone, .int .i64 a.lang, vs a.fr, vs a.to, .int .i64 b.kind, vs b.id, vs b.par, vs b.aft, vs b.num, .int .i64 b.item.kind, vs b.item.id, vs b.item.par, vs b.item.num, vs b.item.no, vs b.item.so, .bool b.item.gone, .int .i64 b.lang, vs b.fr, vs b.to]
theorem RdP.lit2 (W : World) (a b : Patch) (g : Nat) (hgg : g = W.heap.size) : RdP (W.alloc (.cells (twoCs a b) 49)) (some ⟨g, 0, none⟩) [a, b] := by
 subst hgg
 rw [show twoCs a b = (a.cells ++ b.cells).toArray from rfl]
 intro _
 refine ⟨W.heap.size, 0, rfl, by simp, fun k x hx j v hv => ?_⟩
 have hn := heap_alloc_new W (.cells (a.cells ++ b.cells).toArray 49)
 rw [cell_of_row _ _ _ _ _ _ hn]
 have hj : j < 15 := by
  have := (List.getElem?_eq_some_iff.1 hv).1
  simpa using this
 match k, hx with
 | 0, hx =>
   simp at hx
   subst hx
   rw [List.getElem?_toArray, Nat.zero_mul, Nat.zero_add]
   rw [List.getElem?_append_left (by simpa using hj)]
   exact hv
 | 1, hx =>
   simp at hx
   subst hx
   rw [List.getElem?_toArray, Nat.one_mul, Nat.zero_add, List.getElem?_append_right (by simp)]
   simpa using hv
 | k + 2, hx => simp at hx
theorem all_lit {l : List Item} {ps : List Patch} {r : List Item} {i e : Int} (h : allR l ps = (r, i, e)) (A B : Option Addr) (n c d : Nat) (w : World) (hn : n = ps.length) (hr : RdI w A l) (hs : RdP w B ps) (hl : l.length ≤ 100000) (hlc : l.length ≤ c) (hsh : ∀ x ∈ l, x.Short) (hps : ps.length ≤ 1000000) (hrd : ∀ p ∈ ps, p.Ready) (m : Int) (hg : w.cell? ⟨0, 0, none⟩ = some (.int .i64 m)) :
 Calls Tryz.prog 33 #[.agg #[.slice A l.length c], .slice B n d] w fun en w' => ∃ A' c', en = .returned (.tuple #[.agg #[.slice A' r.length c'], .int .i64 i, .int .i64 e]) ∧ RdI w' A' r ∧ r.length ≤ c' ∧ Below w.heap.size w w' := by
 subst hn
 have := all_any l ps A B c d w hr hs hl hlc hsh hps hrd m hg
 unfold Alls at this
 rw [h] at this
 refine this.mono ?_
 rintro en w' ⟨v, rfl, ⟨A', c', rfl, hr', hlc', -⟩, hb⟩
 exact ⟨A', c', rfl, hr', hlc', hb⟩
theorem two_ready {a b : Patch} (ra : a.Ready) (rb : b.Ready) : ∀ p ∈ [a, b], p.Ready := by
 intro p hp
 simp at hp
 rcases hp with rfl | rfl <;> assumption
end Go.Proofs.YtecnlfaholmpoaaGreat
namespace Go.Proofs.YtecnlfaholmpoaaGreat
open Go.RowKit
def pflat (l : List Patch) : List Value := l.flatMap Patch.cells
theorem pfl_get : ∀ (ps : List Patch) (k : Nat) (p : Patch) (j : Nat) (v : Value), ps[k]? = some p → p.cells[j]? = some v → (pflat ps)[k * 15 + j]? = some v
 | [], k, p, j, v, h, _ => by simp at h
 | q :: r, 0, p, j, v, h, hv => by
   simp at h
   subst h
   have hj : j < q.cells.length := (List.getElem?_eq_some_iff.1 hv).1
   unfold pflat
   rw [List.flatMap_cons, Nat.zero_mul, Nat.zero_add, List.getElem?_append_left hj]
   exact hv
 | q :: r, k + 1, p, j, v, h, hv => by
   have hq : q.cells.length = 15 := rfl
   unfold pflat
   rw [List.flatMap_cons, List.getElem?_append_right (by rw [hq]; omega), hq, show (k + 1) * 15 + j - 15 = k * 15 + j by omega]
   exact pfl_get r k p j v (by simpa using h) hv
theorem pflat_len (l : List Patch) : (pflat l).length = l.length * 15 := by
 induction l with
 | nil => rfl
 | cons a r ih =>
   have : (pflat (a :: r)).length = 15 + (pflat r).length := by unfold pflat; rw [List.flatMap_cons, List.length_append]; rfl
   rw [this, ih, List.length_cons]
   omega
theorem pflat_app (l r : List Patch) : pflat (l ++ r) = pflat l ++ pflat r := by simp [pflat]
theorem pflat_at {l : List Patch} {i : Nat} {v : Value} (h : (pflat l)[i]? = some v) : ∃ k j p, i = k * 15 + j ∧ l[k]? = some p ∧ p.cells[j]? = some v := by
 induction l generalizing i with
 | nil => simp [pflat] at h
 | cons a r ih =>
   have hq : a.cells.length = 15 := rfl
   unfold pflat at h
   rw [List.flatMap_cons] at h
   by_cases hi : i < 15
   · rw [List.getElem?_append_left (by rw [hq]; exact hi)] at h
     exact ⟨0, i, a, by omega, rfl, h⟩
   · rw [List.getElem?_append_right (by rw [hq]; omega), hq] at h
     obtain ⟨k, j, p, e, h1, h2⟩ := ih h
     exact ⟨k + 1, j, p, by omega, by simpa using h1, h2⟩
theorem pflat_one {l : List Patch} : ∀ v ∈ pflat l, v.oneCell' = true := by
 intro v hv
 obtain ⟨p, _, hm⟩ := List.mem_flatMap.1 hv
 exact patCs_one p v (by simpa using hm)
def OwnPs (w : World) (base : Nat) (v : Value) (l : List Patch) : Prop := w.ownsRow base 49 15 v l.length (pflat l)
theorem OwnPs.empty {w : World} {base g : Nat} (h : w.heap[g]? = some (.cells #[] 49 (0, 0))) (hb : base ≤ g) : OwnPs w base (.slice (some ⟨g, 0, none⟩) 0 0) [] := ⟨rfl, .inr ⟨g, 0, #[], rfl, hb, h, Nat.le_refl _, by decide, rfl, rfl⟩⟩
theorem OwnPs.nil (w : World) (base : Nat) : OwnPs w base (.slice none 0 0) [] := ⟨rfl, .inl ⟨rfl, rfl⟩⟩
theorem OwnPs.ge {w : World} {base : Nat} {v : Value} {l : List Patch} (h : OwnPs w base v l) : ∀ b, v.ownBlock = some b → base ≤ b := by
 rcases h.2 with ⟨hv, h0⟩ | ⟨b, cap, cur, rfl, r2, r3, r4⟩
 · intro b hb
   rw [hv] at hb
   simp [Value.ownBlock] at hb
 · intro c hc
   simp [Value.ownBlock] at hc
   subst hc
   exact r2
theorem OwnPs.keep {w w' : World} {base : Nat} {v : Value} {l : List Patch} (h : OwnPs w base v l) (hk : ∀ b, v.ownBlock = some b → w'.heap[b]? = w.heap[b]?) : OwnPs w' base v l := by
 refine ⟨h.1, ?_⟩
 rcases h.2 with h | ⟨b, cap, cur, rfl, r2, r3, r4⟩
 · exact .inl h
 · exact .inr ⟨b, cap, cur, rfl, r2, (hk b rfl).trans r3, r4⟩
theorem OwnPs.lt {w : World} {base : Nat} {v : Value} {l : List Patch} (h : OwnPs w base v l) : ∀ b, v.ownBlock = some b → b < w.heap.size := by
 rcases h.2 with ⟨hv, h0⟩ | ⟨b, cap, cur, rfl, r2, r3, r4⟩
 · intro b hb
   rw [hv] at hb
   simp [Value.ownBlock] at hb
 · intro c hc
   simp [Value.ownBlock] at hc
   subst hc
   exact lt_of_heap r3
theorem OwnPs.below {w w' : World} {base : Nat} {v : Value} {l : List Patch} (h : OwnPs w base v l) (hb : Below w.heap.size w w') : OwnPs w' base v l := h.keep fun b hb1 => hb.block b (h.lt b hb1)
theorem OwnPs.reads {w : World} {base : Nat} {v : Value} {l : List Patch} (h : OwnPs w base v l) : ∃ A c, v = .slice A l.length c ∧ l.length ≤ c ∧ c ≤ maxLen ∧ RdP w A l := by
 rcases h.2 with ⟨hv, h0⟩ | ⟨b, cap, cur, rfl, r2, r3, r4, r5, r6, r7⟩
 · have : l = [] := List.length_eq_zero_iff.1 h0
   subst this
   exact ⟨none, 0, by simpa using hv, Nat.le_refl _, by decide, fun h => absurd rfl h⟩
 · refine ⟨some ⟨b, 0, none⟩, cap, rfl, r4, r5, fun _ => ⟨b, 0, rfl, lt_of_heap r3, fun k x hx j v hv => ?_⟩⟩
   rw [cell_of_row _ _ _ _ _ _ r3, Nat.zero_add]
   have h1 := pfl_get l k x j v hx hv
   rw [← r7, List.getElem?_take] at h1
   split at h1
   · rw [← Array.getElem?_toList]; exact h1
   · cases h1
theorem info_pat : (Tryz.prog.info? 49).map (fun i => (i.zero, i.size, i.bytes)) = some (some zeroP.agg, 15, 208) := by kernel_rfl
theorem RdP.one (w : World) (p : Patch) (g : Nat) (h : w.heap[g]? = some (.cells (patCs p) 49 (0, 0))) : RdP w (some ⟨g, 0, none⟩) [p] := by
 intro _
 refine ⟨g, 0, rfl, lt_of_heap h, fun k x hx j v hv => ?_⟩
 cases k with
 | succ k => simp at hx
 | zero =>
   simp at hx
   subst hx
   rw [show 0 + 0 * 15 + j = j by omega, cell_of_row _ _ _ _ _ _ h, List.getElem?_toArray]
   exact hv
end Go.Proofs.YtecnlfaholmpoaaGreat
