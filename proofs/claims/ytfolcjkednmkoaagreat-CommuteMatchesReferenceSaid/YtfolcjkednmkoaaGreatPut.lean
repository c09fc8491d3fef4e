/- patch.change: put. -/
import Derived.Test.YtfolcjkednmkoaaGreatJPt
import Derived.Test.YtfolcjkednmkoaaGreatExists
set_option linter.unusedVariables false
set_option linter.unusedSimpArgs false
set_option maxRecDepth 20000
set_option maxHeartbeats 1000000
namespace Go.Proofs.YtfolcjkednmkoaaGreat
open Go.RowKit
def putAt (l : List Item) (par aft : Str) : Int :=
 if aft.isEmpty then (if par.isEmpty then 0 else findI l par + 1) else findI l aft + (1 + ((belowL l aft).length : Int))
theorem insert_at (l ys : List Item) (i : Nat) (z : Int) (base base2 : Nat) (v vv : Value) (w : World) (hz : z = i) (hown : OwnI w base v l) (hys : OwnI w base2 vv ys) (hne : ys ≠ []) (hi : i ≤ l.length) (hb : base ≤ w.heap.size) (hl : l.length + ys.length ≤ 1000000)
 (hap : v.ownBlock = none ∨ v.ownBlock ≠ vv.ownBlock) :
 Calls Tryz.prog 101 #[v, .int .i64 z, vv] w fun e w' => ∃ v', e = .returned v' ∧ OwnI w' base v' (ins l ys i) ∧ VEff v.ownBlock.toList w w' := by
 subst hz
 exact insert_any l ys i base base2 v vv w hown hys hne hi hb hl hap
theorem findI_bound (l : List Item) (s : Str) : -1 ≤ findI l s ∧ findI l s < (l.length : Int) + 0 ∨ findI l s = -1 := by
 unfold findI idx
 cases h : l.findIdx? (fun x => x.id == s) with
 | none => right; rfl
 | some i =>
   left
   have := (List.findIdx?_eq_some_iff_getElem.1 h).1
   simp
   omega
theorem belowL_len (l : List Item) (id : Str) : (belowL l id).length ≤ l.length := by
 unfold belowL
 split
 · exact Nat.le_trans (belowF_len _ _) (walkL_le l)
 · simp
theorem OwnI.below {w w' : World} {base : Nat} {v : Value} {l : List Item} (h : OwnI w base v l) (hb : Below w.heap.size w w') : OwnI w' base v l := by
 refine ⟨h.1, h.2.imp id ?_⟩
 rintro ⟨g, cap, cur, r1, r2, r3, r⟩
 exact ⟨g, cap, cur, r1, r2, (hb.block g (lt_of_heap r3)).trans r3, r⟩
theorem OwnI.block {w : World} {base : Nat} {v : Value} {l : List Item} (h : OwnI w base v l) : v.ownBlock = none ∨ ∃ g, v.ownBlock = some g ∧ base ≤ g ∧ g < w.heap.size := by
 rcases h.2 with ⟨rfl, _⟩ | ⟨g, cap, cur, rfl, r2, r3, _⟩
 · left; rfl
 · right; exact ⟨g, rfl, r2, lt_of_heap r3⟩
theorem VEff.onBelow {B : Nat} {F : List Nat} {w w1 w2 : World} (hb : Below B w w1) (hv : VEff F w1 w2) (hF : ∀ x ∈ F, B ≤ x) (hB : B ≤ w1.heap.size) : Below B w w2 :=
 ⟨hv.os.trans hb.os, hv.tape.trans hb.tape, hv.output.trans hb.output, Nat.le_trans hb.size hv.size, fun k hk => (hv.block k (by omega) (fun hx => by have := hF k hx; omega)).trans (hb.block k hk)⟩
theorem OwnI.mono {w : World} {base base' : Nat} {v : Value} {l : List Item} (h : OwnI w base v l) (hb : base' ≤ base) : OwnI w base' v l :=
 ⟨h.1, h.2.imp id (fun ⟨g, cap, cur, h1, h2, h3⟩ => ⟨g, cap, cur, h1, by omega, h3⟩)⟩
theorem put_C (l ys : List Item) (A : Option Addr) (c : Nat) (p : Patch) (ix : Int) (base2 : Nat) (vv : Value) (w : World) (hr : RdI w A l) (hys : OwnI w base2 vv ys) (hne : ys ≠ []) (hl : l.length + ys.length ≤ 1000000) (hsh : ∀ x ∈ l, x.Short)
 (h1 : p.aft.isEmpty = true) (h2 : p.par.isEmpty = true) :
 Calls Tryz.prog 77 #[chg A l.length c p ix, vv] w fun e w' => ∃ v, e = .returned v ∧ ResC w.heap.size w' v (ins l ys 0) ∧ Below w.heap.size w w' := by
 have HC := fun W h => Lib.hid (clone_any l A c W h (by omega))
 have HR := Lib.hid hr; clear hr
 have HYS := Lib.hid hys; clear hys
 go_enter Tryz.func77, Tryz.ntmps77
 go_wp2_with fail
 refine (HC _ (HR.out.below (((Below.refl _ _).alloc (Nat.le_refl _) _).alloc (by simp) _))).out.mono ?_
 rintro e w1 ⟨v, rfl, hown, hb1⟩
 have hys1 := (HYS.out.below (((Below.refl _ _).alloc (Nat.le_refl _) _).alloc (by simp) _)).below hb1
 have hap : v.ownBlock = none ∨ v.ownBlock ≠ vv.ownBlock := by
  rcases hown.block with h | ⟨g, h, hg, _⟩
  · exact .inl h
  · right
    rcases HYS.out.block with k | ⟨b, k, _, hbs⟩
    · rw [h, k]; simp
    · rw [h, k]; simp at hg; simp; omega
 have hins := insert_any l ys 0 _ base2 v vv w1 hown hys1 hne (by omega) hb1.size hl hap
 have HINS := Lib.hid hins; clear hins hys1 hap
 have HB1 := Lib.hid hb1
 have HOWN := Lib.hid hown; clear hown
 obtain ⟨hc, hf⟩ := bcell hb1
 clear hb1
 go_wp2_with fail
 refine HINS.out.mono ?_
 rintro e w2 ⟨v', rfl, hown2, hv⟩
 have hb2 := VEff.onBelow HB1.out hv (by
  rcases HOWN.out.block with h | ⟨g, h, hg, _⟩
  · rw [h]; simp
  · rw [h]; simpa using hg) HB1.out.size
 clear hc hf
 obtain ⟨hc, hf⟩ := bcell hb2
 have HB2 := Lib.hid hb2; clear hb2 hv
 obtain ⟨A', c', rfl, hr', hlc', hA'⟩ := hown2.slice
 go_wp2_with fail
 refine bodyPost_ret (v := .agg #[.slice A' (ins l ys 0).length c']) (by simp [results, Tryz.results77, go_sem, hc, hf]) rfl ⟨_, rfl, ⟨A', c', rfl, ?_, hlc', fun b o hA => by have := hA' b o hA; simp at this; omega⟩, ?_⟩
 · refine Sl.keep hr' (by simp) (fun b o hA _ => Below.heap_setCell _ _ _ _ ?_)
   have := hA' b o hA
   simp at this
   simp
   omega
 · refine Below.setCell ?_ (by simp) _
   exact (((Below.refl _ _).alloc (Nat.le_refl _) _).alloc (by simp) _).trans (HB2.out.mono (by simp; omega))
theorem put_B (l ys : List Item) (A : Option Addr) (c : Nat) (p : Patch) (ix : Int) (base2 : Nat) (vv : Value) (w : World) (hr : RdI w A l) (hys : OwnI w base2 vv ys) (hne : ys ≠ []) (hl : l.length + ys.length ≤ 1000000) (hsh : ∀ x ∈ l, x.Short)
 (h1 : p.aft.isEmpty = true) (h2 : p.par.isEmpty = false) (j : Nat) (hj : findI l p.par = j) (hjl : j < l.length) :
 Calls Tryz.prog 77 #[chg A l.length c p ix, vv] w fun e w' => ∃ v, e = .returned v ∧ ResC w.heap.size w' v (ins l ys (j + 1)) ∧ Below w.heap.size w w' := by
 have HC := fun W h => Lib.hid (clone_any l A c W h (by omega))
 have HR := Lib.hid hr; clear hr
 have HYS := Lib.hid hys; clear hys
 go_enter Tryz.func77, Tryz.ntmps77
 go_wp2_with fail
 refine (find_any l A c _ _ (HR.out.below (((Below.refl _ _).alloc (Nat.le_refl _) _).alloc (by simp) _)) (le_maxLen (by omega))).mono ?_
 rintro e wf ⟨rfl, hbf⟩
 rw [hj]
 have hjb : (j : Int) < 1000000 := by omega
 obtain ⟨hc, hf⟩ := bcell hbf
 have HBF := Lib.hid hbf; clear hbf
 go_wp2_with fail
 clear hc hf
 refine (HC _ ((HR.out.below (((Below.refl _ _).alloc (Nat.le_refl _) _).alloc (by simp) _)).below HBF.out)).out.mono ?_
 rintro e w1 ⟨v, rfl, hown, hb1⟩
 have hys1 := ((HYS.out.below (((Below.refl _ _).alloc (Nat.le_refl _) _).alloc (by simp) _)).below HBF.out).below hb1
 have hb1 := HBF.out.trans (hb1.mono HBF.out.size)
 have hown1 := hown.mono HBF.out.size
 clear hown
 have hown := hown1
 clear hown1
 have hap : v.ownBlock = none ∨ v.ownBlock ≠ vv.ownBlock := by
  rcases hown.block with h | ⟨g, h, hg, _⟩
  · exact .inl h
  · right
    rcases HYS.out.block with k | ⟨b, k, _, hbs⟩
    · rw [h, k]; simp
    · rw [h, k]; simp at hg; simp; omega
 have hins := insert_at l ys (j + 1) (j + 1) _ base2 v vv w1 (by simp) hown hys1 hne (by omega) hb1.size hl hap
 have HINS := Lib.hid hins; clear hins hys1 hap
 have HB1 := Lib.hid hb1
 have HOWN := Lib.hid hown; clear hown
 obtain ⟨hc, hf⟩ := bcell hb1
 clear hb1
 go_wp2_with fail
 refine HINS.out.mono ?_
 rintro e w2 ⟨v', rfl, hown2, hv⟩
 have hb2 := VEff.onBelow HB1.out hv (by
  rcases HOWN.out.block with h | ⟨g, h, hg, _⟩
  · rw [h]; simp
  · rw [h]; simpa using hg) HB1.out.size
 clear hc hf
 obtain ⟨hc, hf⟩ := bcell hb2
 have HB2 := Lib.hid hb2; clear hb2 hv
 obtain ⟨A', c', rfl, hr', hlc', hA'⟩ := hown2.slice
 go_wp2_with fail
 refine bodyPost_ret (v := .agg #[.slice A' (ins l ys (j + 1)).length c']) (by simp [results, Tryz.results77, go_sem, hc, hf]) rfl ⟨_, rfl, ⟨A', c', rfl, ?_, hlc', fun b o hA => by have := hA' b o hA; simp at this; omega⟩, ?_⟩
 · refine Sl.keep hr' (by simp) (fun b o hA _ => Below.heap_setCell _ _ _ _ ?_)
   have := hA' b o hA
   simp at this
   simp
   omega
 · refine Below.setCell ?_ (by simp) _
   exact (((Below.refl _ _).alloc (Nat.le_refl _) _).alloc (by simp) _).trans (HB2.out.mono (by simp; omega))
theorem put_A (l ys : List Item) (A : Option Addr) (c : Nat) (p : Patch) (ix : Int) (base2 : Nat) (vv : Value) (w : World) (hr : RdI w A l) (hys : OwnI w base2 vv ys) (hne : ys ≠ []) (hl : l.length + ys.length ≤ 1000000) (hsh : ∀ x ∈ l, x.Short)
 (h1 : p.aft.isEmpty = false) (j : Nat) (hj : findI l p.aft = j) (hjl : j + (1 + (belowL l p.aft).length) ≤ l.length) :
 Calls Tryz.prog 77 #[chg A l.length c p ix, vv] w fun e w' => ∃ v, e = .returned v ∧ ResC w.heap.size w' v (ins l ys (j + (1 + (belowL l p.aft).length))) ∧ Below w.heap.size w w' := by
 have HC := fun W h => Lib.hid (clone_any l A c W h (by omega))
 have HR := Lib.hid hr; clear hr
 have HYS := Lib.hid hys; clear hys
 have hr2 := fun x => (HR.out.below (((Below.refl _ _).alloc (Nat.le_refl _) _).alloc (by simp) _)).below (grew_below (((w.alloc (.cells #[.slice A l.length c, .int .i64 p.kind, vs p.id, vs p.par, vs p.aft, vs p.num, .int .i64 p.item.kind, vs p.item.id, vs p.item.par, vs p.item.num, vs p.item.no, vs p.item.so, .bool p.item.gone, .int .i64 p.lang, vs p.fr, vs p.to, .int .i64 ix] 70)).alloc (.cells #[.slice none 0 0] 24))) x)
 have HR2 := Lib.hid hr2; clear hr2
 have HF := fun id W h => Lib.hid (find_any l A c id W h (le_maxLen (by omega)))
 have HSZ := fun id W h => Lib.hid (size_any l A c p ix id W h (by omega) hsh)
 clear hsh
 have hjb : (j : Int) < 1000000 := by omega
 have hbl : ((belowL l p.aft).length : Int) < 1000000 := by omega
 go_enter Tryz.func77, Tryz.ntmps77
 go_wp2_with fail
 refine wp_region_grew (by kernel_rfl) (by kernel_rfl) ?_
 repeat (go_big_quiet_step ((first | exact Calls_grew (HF _ _ (HR2.out _)).out | exact Calls_grew (HSZ _ _ (HR2.out _)).out)))
 refine wpQuiet_nil ?_
 rintro _ ⟨wf, rfl⟩
 have hbf := grew_below (((w.alloc (.cells #[.slice A l.length c, .int .i64 p.kind, vs p.id, vs p.par, vs p.aft, vs p.num, .int .i64 p.item.kind, vs p.item.id, vs p.item.par, vs p.item.num, vs p.item.no, vs p.item.so, .bool p.item.gone, .int .i64 p.lang, vs p.fr, vs p.to, .int .i64 ix] 70)).alloc (.cells #[.slice none 0 0] 24))) wf
 obtain ⟨hc, hf⟩ := bcell hbf
 have HBF := Lib.hid hbf; clear hbf
 go_wp2_with fail
 clear hc hf
 refine (HC _ ((HR.out.below (((Below.refl _ _).alloc (Nat.le_refl _) _).alloc (by simp) _)).below HBF.out)).out.mono ?_
 rintro e w1 ⟨v, rfl, hown, hb1⟩
 have hys1 := ((HYS.out.below (((Below.refl _ _).alloc (Nat.le_refl _) _).alloc (by simp) _)).below HBF.out).below hb1
 have hb1 := HBF.out.trans (hb1.mono HBF.out.size)
 have hown1 := hown.mono HBF.out.size
 clear hown
 have hown := hown1
 clear hown1
 have hap : v.ownBlock = none ∨ v.ownBlock ≠ vv.ownBlock := by
  rcases hown.block with h | ⟨g, h, hg, _⟩
  · exact .inl h
  · right
    rcases HYS.out.block with k | ⟨b, k, _, hbs⟩
    · rw [h, k]; simp
    · rw [h, k]; simp at hg; simp; omega
 have hins := insert_at l ys (j + (1 + (belowL l p.aft).length)) (j + (1 + (belowL l p.aft).length)) _ base2 v vv w1 (by simp) hown hys1 hne (by omega) hb1.size hl hap
 have HINS := Lib.hid hins; clear hins hys1 hap
 have HB1 := Lib.hid hb1
 have HOWN := Lib.hid hown; clear hown
 obtain ⟨hc, hf⟩ := bcell hb1
 clear hb1
 go_wp2_with fail
 refine HINS.out.mono ?_
 rintro e w2 ⟨v', rfl, hown2, hv⟩
 have hb2 := VEff.onBelow HB1.out hv (by
  rcases HOWN.out.block with h | ⟨g, h, hg, _⟩
  · rw [h]; simp
  · rw [h]; simpa using hg) HB1.out.size
 clear hc hf
 obtain ⟨hc, hf⟩ := bcell hb2
 have HB2 := Lib.hid hb2; clear hb2 hv
 obtain ⟨A', c', rfl, hr', hlc', hA'⟩ := hown2.slice
 go_wp2_with fail
 refine bodyPost_ret (v := .agg #[.slice A' (ins l ys (j + (1 + (belowL l p.aft).length))).length c']) (by simp [results, Tryz.results77, go_sem, hc, hf]) rfl ⟨_, rfl, ⟨A', c', rfl, ?_, hlc', fun b o hA => by have := hA' b o hA; simp at this; omega⟩, ?_⟩
 · refine Sl.keep hr' (by simp) (fun b o hA _ => Below.heap_setCell _ _ _ _ ?_)
   have := hA' b o hA
   simp at this
   simp
   omega
 · refine Below.setCell ?_ (by simp) _
   exact (((Below.refl _ _).alloc (Nat.le_refl _) _).alloc (by simp) _).trans (HB2.out.mono (by simp; omega))
theorem put_any (l ys : List Item) (A : Option Addr) (c : Nat) (p : Patch) (ix : Int) (base2 : Nat) (vv : Value) (w : World) (hr : RdI w A l) (hys : OwnI w base2 vv ys) (hne : ys ≠ []) (hl : l.length + ys.length ≤ 1000000) (hsh : ∀ x ∈ l, x.Short)
 (i : Nat) (hi : putAt l p.par p.aft = i) (hil : i ≤ l.length) (hex : p.aft.isEmpty = true ∨ findI l p.aft ≠ -1) (hex2 : p.par.isEmpty = true ∨ findI l p.par ≠ -1) :
 Calls Tryz.prog 77 #[chg A l.length c p ix, vv] w fun e w' => ∃ v, e = .returned v ∧ ResC w.heap.size w' v (ins l ys i) ∧ Below w.heap.size w w' := by
 unfold putAt at hi
 cases h1 : p.aft.isEmpty with
 | true =>
   rw [h1] at hi
   cases h2 : p.par.isEmpty with
   | true =>
     rw [h2] at hi
     have h0 : i = 0 := by simp at hi; omega
     subst h0
     exact put_C l ys A c p ix base2 vv w hr hys hne hl hsh h1 h2
   | false =>
     rw [h2] at hi hex2
     simp at hi hex2
     rcases findI_bound l p.par with ⟨h3, h4⟩ | h3
     · obtain ⟨j, hj⟩ : ∃ j : Nat, findI l p.par = j := ⟨(findI l p.par).toNat, by omega⟩
       have : i = j + 1 := by omega
       subst this
       exact put_B l ys A c p ix base2 vv w hr hys hne hl hsh h1 h2 j hj (by omega)
     · exact absurd h3 hex2
 | false =>
   rw [h1] at hi hex
   simp at hi hex
   rcases findI_bound l p.aft with ⟨h3, h4⟩ | h3
   · obtain ⟨j, hj⟩ : ∃ j : Nat, findI l p.aft = j := ⟨(findI l p.aft).toNat, by omega⟩
     have : i = j + (1 + (belowL l p.aft).length) := by omega
     subst this
     exact put_A l ys A c p ix base2 vv w hr hys hne hl hsh h1 j hj (by omega)
   · exact absurd h3 hex
end Go.Proofs.YtfolcjkednmkoaaGreat
