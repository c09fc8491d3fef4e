/- patch.Apply: joined. -/
import Derived.Test.YtfolcjkednmkoaaGreatApply
set_option linter.unusedVariables false
set_option linter.unusedSimpArgs false
set_option maxRecDepth 20000
set_option maxHeartbeats 1000000
namespace Go.Proofs.YtfolcjkednmkoaaGreat
open Go.RowKit
theorem name_len {s : Str} (h : isNameB s = true) : s.length ≤ 24 := by
 unfold isNameB at h
 simp at h
 exact h.2
theorem proper_lens {x : Item} (h : properB x = true) : x.id.length ≤ 24 ∧ x.num.length ≤ 8 ∧ x.no.length ≤ 400 ∧ x.so.length ≤ 400 := by
 unfold properB numOk at h
 split at h
 · simp at h
   have := name_len h.1.1.1.2
   refine ⟨this, by omega, by simp [h.1.1.2], by simp [h.1.2]⟩
 · split at h
   · simp at h
     have := name_len h.1.1.2
     exact ⟨this, by omega, by omega, by omega⟩
   · cases h
theorem Good.par_len {l : List Item} {R : List Row} (hg : Good l R) : ∀ x ∈ l, x.par.length ≤ 24 := by
 intro x hx
 obtain ⟨a, o, c, he⟩ := hg.split hx
 have hxR : (x, o) ∈ R := by rw [he]; simp
 have hl := (hg.par_last hxR).1
 simp only at hl
 by_cases h0 : o = []
 · rw [← hl, h0]; simp [lastS]
 · have hm := lastS_mem h0
   rw [hl] at hm
   rcases open_sub hg.chain _ hxR _ hm with h | h
   · simp at h
   · simp only [idsR, List.mem_map] at h
     obtain ⟨y, hy, hyi⟩ := h
     rw [← hyi]
     exact (proper_lens (hg.proper hy)).1
theorem short_of_good {l : List Item} (h : walkB l = true) : ∀ x ∈ l, x.Short := by
 intro x hx
 have hg := good_of h
 obtain ⟨h1, h2, h3, h4⟩ := proper_lens (hg.pr x hx)
 have h5 := hg.par_len x hx
 have : 400 ≤ maxLen := by unfold maxLen; omega
 exact ⟨by omega, by omega, by omega, by omega, by omega⟩
theorem len_of_good {l : List Item} (h : walkB l = true) : l.length ≤ 2000 := (good_of h).le
theorem apply_f1 (l : List Item) (A : Option Addr) (c : Nat) (p : Patch) (w : World) (hr : RdI w A l) (hl : l.length ≤ 100000) (hsh : ∀ x ∈ l, x.Short) (hv : walkB l = false) : Applies l A c p w := by
 unfold Applies
 have hE : applyF l p = ([], 1) := by unfold applyF; rw [if_pos (.inl hv)]
 have HE := Lib.hid hE; clear hE
 have HV := fun W h => Lib.hid (valid_any l A c W h (by omega) hsh)
 have HR := Lib.hid hr; clear hr
 have Hv := Lib.hid hv; clear hv
 have hb0 := ((((Below.refl w.heap.size w).alloc (Nat.le_refl _) (.cells #[.slice A l.length c] 24)).alloc (by simp) (.cells (patCs p) 29)).alloc (by simp; omega) (.cells #[.slice none 0 0] 24))
 have HB0 := Lib.hid hb0; clear hb0
 go_enter Tryz.func33, Tryz.ntmps33
 go_wp2_with fail
 refine (HV _ (HR.out.below HB0.out)).out.mono ?_
 rintro e w1 ⟨rfl, hb1⟩
 rw [Hv.out]
 obtain ⟨hc, hf⟩ := bcell hb1
 have HB1 := Lib.hid hb1; clear hb1
 go_wp2_with fail
 refine bodyPost_ret (v := .tuple #[.agg #[.slice none 0 0], .int .i64 1]) (by simp [results, Tryz.results33, go_sem, hc, hf]) rfl ⟨_, by rw [HE.out], by rw [HE.out]; exact ResC.nil _ _ _, ?_⟩
 exact Below.setCell (p := ⟨w.heap.size + 1 + 1, 0, none⟩) (HB0.out.trans (HB1.out.mono HB0.out.size)) (show w.heap.size ≤ w.heap.size + 1 + 1 by omega) _
theorem apply_f2 (l : List Item) (A : Option Addr) (c : Nat) (p : Patch) (w : World) (hr : RdI w A l) (hl : l.length ≤ 100000) (hsh : ∀ x ∈ l, x.Short) (hps : p.item.Short) (hpn : p.num.length ≤ maxLen) (hv : walkB l = true) (hfo : formedF p = false) : Applies l A c p w := by
 unfold Applies
 have hE : applyF l p = ([], 1) := by unfold applyF; rw [if_pos (.inr hfo)]
 have HE := Lib.hid hE; clear hE
 have HV := fun W h => Lib.hid (valid_any l A c W h (by omega) hsh)
 have HF := fun W => Lib.hid (formed_any p W hps hpn)
 have HR := Lib.hid hr; clear hr
 have Hv := Lib.hid hv; clear hv
 have Hfo := Lib.hid hfo; clear hfo
 have hb0 := ((((Below.refl w.heap.size w).alloc (Nat.le_refl _) (.cells #[.slice A l.length c] 24)).alloc (by simp) (.cells (patCs p) 29)).alloc (by simp; omega) (.cells #[.slice none 0 0] 24))
 have HB0 := Lib.hid hb0; clear hb0
 go_enter Tryz.func33, Tryz.ntmps33
 go_wp2_with fail
 refine (HV _ (HR.out.below HB0.out)).out.mono ?_
 rintro e w1 ⟨rfl, hb1⟩
 rw [Hv.out]
 obtain ⟨hc, hf⟩ := bcell hb1
 have hblk := bblk hb1
 have HB1 := Lib.hid hb1; clear hb1
 go_wp2_with fail
 refine (HF _).out.mono ?_
 rintro e w2 ⟨rfl, hb2⟩
 rw [Hfo.out]
 have hb3 := HB1.out.trans (hb2.mono HB1.out.size)
 clear hc hf hblk hb2 HB1
 obtain ⟨hc, hf⟩ := bcell hb3
 have HB3 := Lib.hid hb3; clear hb3
 go_wp2_with fail
 refine bodyPost_ret (v := .tuple #[.agg #[.slice none 0 0], .int .i64 1]) (by simp [results, Tryz.results33, go_sem, hc, hf]) rfl ⟨_, by rw [HE.out], by rw [HE.out]; exact ResC.nil _ _ _, ?_⟩
 exact Below.setCell (p := ⟨w.heap.size + 1 + 1, 0, none⟩) (HB0.out.trans (HB3.out.mono HB0.out.size)) (show w.heap.size ≤ w.heap.size + 1 + 1 by omega) _
theorem Does.of_eq {f : FuncId} {l : List Item} {A : Option Addr} {c : Nat} {p : Patch} {i j : Int} {w : World} {r s : List Item × Int} (h : Does f l A c p i w r) (hi : i = j) (hr : r = s) : Does f l A c p j w s := by
 subst hi hr; exact h
theorem apply_any (l : List Item) (A : Option Addr) (c : Nat) (p : Patch) (w : World) (hr : RdI w A l) (hl : l.length ≤ 100000) (hlc : l.length ≤ c) (hsh : ∀ x ∈ l, x.Short) (hps : p.item.Short) (hpn : p.num.length ≤ maxLen)
 (m : Int) (hg : w.cell? ⟨0, 0, none⟩ = some (.int .i64 m)) (htt : p.to.length ≤ 1000000) : Applies l A c p w := by
 cases hv : walkB l with
 | false => exact apply_f1 l A c p w hr hl hsh hv
 | true =>
   cases hfo : formedF p with
   | false => exact apply_f2 l A c p w hr hl hsh hps hpn hv hfo
   | true =>
     have hG := good_of hv
     generalize walkL l = R at hG
     have hlook : ((itemF l p.id).kind == 0) = false → ∃ a x o r b, x.id = p.id ∧ Block R a x o r b ∧ findI l p.id = a.length ∧ itemF l p.id = x ∧ belowL l p.id = idsR r ∧ l[a.length]? = some x := by
      intro h
      rcases hG.look p.id with ⟨_, h2, _⟩ | ⟨a, x, o, r, b, h1, h2, h3, h4, h5⟩
      · rw [h2] at h; simp [noItem] at h
      · exact ⟨a, x, o, r, b, h1, h2, h3, h4, h5, (hG.look_row h2.eq).2.2⟩
     have hzero : 0 < w.heap.size := World.block_lt_of_cell? w _ hg
     have hap : ∀ {k : Int}, p.kind = k → k ≠ 1 → ((itemF l p.id).kind == 0) = false → (k ≠ 3 → k ≠ 4 → ((itemF l p.id).kind == 1) = false) → (k = 6 → (itemF l p.id).gone = true) → (k ≠ 6 → (itemF l p.id).gone = false) →
      applyF l p = if p.kind = 2 then wordsF l p (findI l p.id).toNat (itemF l p.id) else if p.kind = 3 then (l.set (findI l p.id).toNat { itemF l p.id with num := p.num }, 0) else if p.kind = 4 then moveF l p (findI l p.id).toNat
       else if p.kind = 7 then replaceF l p (findI l p.id).toNat (itemF l p.id) else (l.set (findI l p.id).toNat { itemF l p.id with gone := p.kind == 5 }, 0) := by
      intro k hk h1 h0 hy1 hg1 hg2
      unfold applyF
      rw [if_neg (by rw [hv, hfo]; simp), if_neg (by omega)]
      rw [if_neg (by
       rintro (h | ⟨h, h3, h4⟩)
       · simp [h] at h0
       · have := hy1 (by omega) (by omega); simp [h] at this)]
      rw [if_neg (by rintro ⟨h, h'⟩; rw [hg1 (by omega)] at h'; cases h')]
      rw [if_neg (by rintro ⟨h, h'⟩; rw [hg2 (by omega)] at h'; cases h')]
     refine apply_t l A c p w hr hl hsh hps hpn hv hfo ?_ ?_ ?_ ?_ ?_ ?_ ?_
     · intro hk W hb
       refine (insertA_any l A c p (findI l p.id) W (hr.below hb) hl hsh (fun he => ?_)).of_eq rfl ?_
       · obtain ⟨a, b, o, hP⟩ := hG.place he
         exact hP.ok
       · unfold applyF
         rw [if_neg (by rw [hv, hfo]; simp), if_pos hk]
     · intro hk h0 h1 hgo W hb
       obtain ⟨a, x, o, r, b, e1, e2, e3, e4, e5, e6⟩ := hlook h0
       have hpx := proper_lens (x := x) (hG.proper (y := (x, o)) (by rw [e2.eq]; simp))
       have hf2 := formed2 hk hfo
       refine (words_any l A c p a.length x W (hr.below hb) (by omega) e6 m (hb.cell (p := ⟨0, 0, none⟩) hzero ▸ hg) hf2.2.2 (by omega) (by omega) htt).of_eq e3.symm ?_
       rw [hap hk (by decide) h0 (fun _ _ => h1) (fun h => absurd h (by decide)) (fun _ => hgo), if_pos hk, e3, e4, Int.toNat_natCast]
     · intro hk h0 hgo W hb
       obtain ⟨a, x, o, r, b, e1, e2, e3, e4, e5, e6⟩ := hlook h0
       refine (number_any l A c p a.length x W (hr.below hb) (by omega) e6).of_eq e3.symm ?_
       rw [hap hk (by decide) h0 (fun h => absurd rfl h) (fun h => absurd h (by decide)) (fun _ => hgo), if_neg (by omega), if_pos hk, e3, e4, Int.toNat_natCast]
     · intro hk h0 hgo W hb
       obtain ⟨a, x, o, r, b, e1, e2, e3, e4, e5, e6⟩ := hlook h0
       have hkn : a.length + (1 + (belowL l p.id).length) ≤ l.length := by
        have h1 := hG.len
        have h2 := congrArg List.length e2.eq
        rw [e5]
        simp [idsR] at h2 ⊢
        omega
       refine (move_any l A c p a.length W (hr.below hb) hl hsh hlc hkn (fun hm => ?_)).of_eq e3.symm ?_
       · rw [e5, (rest_items hG e2).1]
         obtain ⟨a', b', o', hP⟩ := (hG.rest e2).place (move_exists hG e2 e1 hm)
         exact hP.ok
       · rw [hap hk (by decide) h0 (fun _ h => absurd rfl h) (fun h => absurd h (by decide)) (fun _ => hgo), if_neg (by omega), if_neg (by omega), if_pos hk, e3, Int.toNat_natCast]
     · intro hk h0 h1 hgo W hb
       obtain ⟨a, x, o, r, b, e1, e2, e3, e4, e5, e6⟩ := hlook h0
       refine (gone_any l A c p a.length x W (hr.below hb) (by omega) e6).of_eq e3.symm ?_
       rw [hap hk (by decide) h0 (fun _ _ => h1) (fun h => absurd h (by decide)) (fun _ => hgo), if_neg (by omega), if_neg (by omega), if_neg (by omega), if_neg (by omega), e3, e4, Int.toNat_natCast]
     · intro hk h0 h1 hgo W hb
       obtain ⟨a, x, o, r, b, e1, e2, e3, e4, e5, e6⟩ := hlook h0
       refine (gone_any l A c p a.length x W (hr.below hb) (by omega) e6).of_eq e3.symm ?_
       rw [hap hk (by decide) h0 (fun _ _ => h1) (fun _ => hgo) (fun h => absurd rfl h), if_neg (by omega), if_neg (by omega), if_neg (by omega), if_neg (by omega), e3, e4, Int.toNat_natCast]
     · intro hk h0 h1 hgo W hb
       obtain ⟨a, x, o, r, b, e1, e2, e3, e4, e5, e6⟩ := hlook h0
       refine (replace_any l A c p a.length x W (hr.below hb) (by omega) e6).of_eq e3.symm ?_
       rw [hap hk (by decide) h0 (fun _ _ => h1) (fun h => absurd h (by decide)) (fun _ => hgo), if_neg (by omega), if_neg (by omega), if_neg (by omega), if_pos hk, e3, e4, Int.toNat_natCast]
end Go.Proofs.YtfolcjkednmkoaaGreat
