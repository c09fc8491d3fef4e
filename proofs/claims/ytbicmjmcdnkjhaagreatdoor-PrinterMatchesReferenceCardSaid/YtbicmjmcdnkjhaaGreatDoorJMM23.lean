/- The reference's south: the text of a condition. -/
import Derived.Test.YtbicmjmcdnkjhaaGreatDoorJMM1
import Derived.Test.YtbicmjmcdnkjhaaGreatDoorJMM21
import Derived.Deep.RegionHeld3
set_option linter.unusedVariables false
set_option linter.unusedSimpArgs false
set_option maxRecDepth 20000
set_option maxHeartbeats 16000000
namespace Go.Proofs.YtbicmjmcdnkjhaaGreatDoor
open Go.RowKit
attribute [local go_sem ↓] Go.wp_at_zero Go.wp_at_succ
attribute [local go_sem] bcat
theorem sorFs_app : ∀ a b : List Tree, So.rFs (a ++ b) = So.rFs a ++ So.rFs b
 | [], b => by rw [So.rFs]; rfl
 | t :: r, b => by rw [List.cons_append, So.rFs, So.rFs, sorFs_app r b]; simp
theorem sorFs_snoc {ks : List Tree} {k : Nat} {t : Tree} (h : ks[k]? = some t) : So.rFs (ks.take (k + 1)) = So.rFs (ks.take k) ++ (So.rF t ++ [32]) := by
 rw [List.take_add_one, h, sorFs_app]
 simp [So.rFs]
theorem sorFs_le (ks : List Tree) (k : Nat) : (So.rFs (ks.take k)).length ≤ (So.rFs ks).length := by
 have h := sorFs_app (ks.take k) (ks.drop k)
 rw [List.take_append_drop] at h
 rw [h, List.length_append]
 omega
theorem rsouth_any : ∀ (N : Nat) (t : Tree) (cs : List Value) (w : World), t.size ≤ N → t.size ≤ 900 → shapeF t = true → Sh6 (namesF t) → RdX true w cs (up t) →
 Calls Tryz.prog 47 #[.agg cs.toArray] w fun e w' => e = .returned (vs (So.rF t)) ∧ Below w.heap.size w w' := by
 intro N
 induction N with
 | zero =>
   intro t cs w hN
   have := tree_pos t
   omega
 | succ N ih =>
   intro t cs w hN hz hs hn hr
   have IH := Hi ih
   obtain ⟨op, name, cm, m, ks⟩ := t
   rw [up] at hr
   obtain ⟨A1, p1, rfl, -, hk1⟩ := hr
   have HK := Hi hk1
   rw [ups_len] at *
   have hkn := len_sizes ks
   simp only [Tree.size] at hN hz
   obtain ⟨hop, h3, h5, h4⟩ := shapeF_op hs
   rw [namesF] at hn
   have HNR := Hi hn.right
   have HSH := Hi h4
   have HLK := Hi (rFs_len ks (by omega) h4 hn.right)
   obtain ⟨T, hT⟩ : ∃ T, So.rF (.mk op name cm m ks) = T := ⟨_, rfl⟩
   have HT := Hi hT
   rw [hT]
   simp only [tcX]
   obtain ⟨oi, hoi⟩ : ∃ oi : Int, (op : Int) = oi := ⟨_, rfl⟩
   rw [hoi]
   obtain ⟨ci, hci⟩ : ∃ ci : Int, (cm : Int) = ci := ⟨_, rfl⟩
   rw [hci]
   have hbx := heap_alloc_new w (.cells #[.int .i64 oi, vs name, .int .i64 ci, .int .i64 (m : Int), .slice A1 ks.length p1] 24)
   have HBX := Hi hbx
   have c0 := cOb (o := 0) hbx rfl
   have c1 := cOb (o := 1) hbx rfl
   have c2 := cOb (o := 2) hbx rfl
   have c3 := cOb (o := 3) hbx rfl
   have c4 := cOb (o := 4) hbx rfl
   have l0 := lHp hbx
   have HW0 := Hi (belowA w (.cells #[.int .i64 oi, vs name, .int .i64 ci, .int .i64 (m : Int), .slice A1 ks.length p1] 24))
   clear ih hs hk1 h4 hT hbx
   have hop2 : op = 1 ∨ op = 2 ∨ op = 3 ∨ op = 4 ∨ (5 ≤ op ∧ op ≤ 7) := by omega
   rcases hop2 with rfl | rfl | rfl | rfl | hop2
   · obtain rfl : oi = 1 := by rw [← hoi]; rfl
     go_enter Tryz.func47, Tryz.ntmps47
     go_wp2_with fail
     go_ret
     exact ⟨by rw [← HT.out, So.rF]; rfl, HW0.out⟩
   · obtain rfl : oi = 2 := by rw [← hoi]; rfl
     go_enter Tryz.func47, Tryz.ntmps47
     go_wp2_with fail
     go_ret
     exact ⟨by rw [← HT.out, So.rF]; rfl, HW0.out⟩
   · obtain rfl : oi = 3 := by rw [← hoi]; rfl
     obtain ⟨hc1, hc2, hm⟩ := h3 rfl
     have hnl := own_len (by simpa using hn)
     obtain ⟨sg, hsg⟩ : ∃ sg, So.cmpW.getD (cm - 1) [] = sg := ⟨_, rfl⟩
     have hdl := dec_len (n := m) (by omega)
     have HD : Hid (∀ wx, Calls Tryz.prog 39 #[.int .i64 m] wx fun e w' => e = .returned (vs (dec m)) ∧ wx = w') := Hi (fun wx => rdec_any m wx (by omega))
     have HTX : Hid (name ++ 32 :: (dec m ++ 32 :: sg) = T) := Hi (by rw [← HT.out, So.rF, ← hsg]; rfl)
     generalize dec m = dm at *
     have hcs : cm = 1 ∨ cm = 2 ∨ cm = 3 ∨ cm = 4 ∨ cm = 5 ∨ cm = 6 := by omega
     clear hc1 hc2 h3
     rcases hcs with rfl | rfl | rfl | rfl | rfl | rfl
     · obtain rfl : ci = 1 := by rw [← hci]; rfl
       have hwk : IntKind.i64.wrap 0 = 0 := by rw [IntKind.wrap_i64]; omega
       have f1 : ¬ 9223372036854775807 < name.length + 1 := by omega
       have f2 : ¬ 9223372036854775807 < name.length + 1 + dm.length := by omega
       have f3 : ¬ 9223372036854775807 < name.length + (dm.length + 1) + 1 := by omega
       have f4 : ¬ 9223372036854775807 < name.length + (dm.length + 1 + 1) + 5 := by omega
       have f5 : ¬ 9223372036854775807 < name.length + (dm.length + 2) + 5 := by omega
       go_enter Tryz.func47, Tryz.ntmps47
       go_wp2_with fail
       refine wp_region_held_drew (S := fun w' => w'.cell? ⟨w.heap.size, 1, none⟩ = some (vs name) ∧ w'.cell? ⟨w.heap.size, 2, none⟩ = some (.int .i64 1) ∧ w'.cell? ⟨w.heap.size, 3, none⟩ = some (.int .i64 m)) (by kernel_rfl) (by go_keep) (fun hHeld => ?_)
       refine wpAnyH_take (i := 0) (v := ?_) rfl (by kernel_rfl) (by kernel_rfl) (by kernel_rfl) (fun _ _ _ h => h) (Or.inl ⟨by rfl, ?_⟩) (by assumption) ?_
       rotate_left
       · (intro w hSw; (try dsimp only at hSw); go_simp; try with_reducible rfl)
       try simp only [Act.put, sia, sc0, scs]
       refine wpAnyH_take (i := 1) (v := ?_) rfl (by kernel_rfl) (by kernel_rfl) (by kernel_rfl) (fun _ _ _ h => h) (Or.inl ⟨by rfl, ?_⟩) (by assumption) ?_
       rotate_left
       · (intro w hSw; (try dsimp only at hSw); go_simp; try with_reducible rfl)
       try simp only [Act.put, sia, sc0, scs]
       refine wpAnyH_take (i := 2) (v := ?_) rfl (by kernel_rfl) (by kernel_rfl) (by kernel_rfl) (fun _ _ _ h => h) (Or.inl ⟨by rfl, ?_⟩) (by assumption) ?_
       rotate_left
       · (intro w hSw; (try dsimp only at hSw); go_simp; try with_reducible rfl)
       try simp only [Act.put, sia, sc0, scs]
       refine wpAnyH_take (i := 3) (v := ?_) rfl (by kernel_rfl) (by kernel_rfl) (by kernel_rfl) (fun _ _ _ h => h) (Or.inl ⟨by rfl, ?_⟩) (by assumption) ?_
       rotate_left
       · (intro w hSw; (try dsimp only at hSw); go_simp; try with_reducible rfl)
       try simp only [Act.put, sia, sc0, scs]
       refine wpAnyH_take (i := 4) (v := ?_) rfl (by kernel_rfl) (by kernel_rfl) (by kernel_rfl) (fun _ _ _ h => h) (Or.inl ⟨by rfl, ?_⟩) (by assumption) ?_
       rotate_left
       · (intro w hSw; (try dsimp only at hSw); go_simp; try with_reducible rfl)
       try simp only [Act.put, sia, sc0, scs]
       refine wpAnyH_take (i := 9) (v := ?_) rfl (by kernel_rfl) (by kernel_rfl) (by kernel_rfl) (fun _ _ _ h => h) (Or.inl ⟨by rfl, ?_⟩) (by assumption) ?_
       rotate_left
       · (intro w hSw; (try dsimp only at hSw); go_simp; try with_reducible rfl)
       try simp only [Act.put, sia, sc0, scs]
       refine wpAnyH_take (i := 10) (v := ?_) rfl (by kernel_rfl) (by kernel_rfl) (by kernel_rfl) (fun _ _ _ h => h) (Or.inl ⟨by rfl, ?_⟩) (by assumption) ?_
       rotate_left
       · (intro w hSw; (try dsimp only at hSw); go_simp; try with_reducible rfl)
       try simp only [Act.put, sia, sc0, scs]
       refine wpAnyH_take (i := 11) (v := ?_) rfl (by kernel_rfl) (by kernel_rfl) (by kernel_rfl) (fun _ _ _ h => h) (Or.inl ⟨by rfl, ?_⟩) (by assumption) ?_
       rotate_left
       · (intro w hSw; (try dsimp only at hSw); go_simp; try with_reducible rfl)
       try simp only [Act.put, sia, sc0, scs]
       refine wpAnyH_ready (rs := [5, 8]) (by kernel_rfl) (by simp) ?_
       refine AllReadyH.cons rfl (fun K hK => ?_) ?_
       · go_simp
         refine (HD.out _).mono ?_
         rintro e w2 ⟨rfl, rfl⟩
         go_simp
         refine hK.out _ _ ?_ (fun hHeld => ?_)
         · (try dsimp only); go_keep
         clear hK K
         try simp only [Act.put, sia, sc0, scs]
         refine wpAnyH_take (i := 6) (v := ?_) rfl (by kernel_rfl) (by kernel_rfl) (by kernel_rfl) (fun _ _ _ h => h) (Or.inl ⟨by rfl, ?_⟩) (by assumption) ?_
         rotate_left
         · (intro w hSw; (try dsimp only at hSw); go_simp; try with_reducible rfl)
         try simp only [Act.put, sia, sc0, scs]
         refine wpAnyH_take (i := 7) (v := ?_) rfl (by kernel_rfl) (by kernel_rfl) (by kernel_rfl) (fun _ _ _ h => h) (Or.inl ⟨by rfl, ?_⟩) (by assumption) ?_
         rotate_left
         · (intro w hSw; (try dsimp only at hSw); go_simp; try with_reducible rfl)
         try simp only [Act.put, sia, sc0, scs]
         refine wpAnyH_ready (rs := [8]) (by kernel_rfl) (by simp) ?_
         refine AllReadyH.cons rfl (fun K hK => ?_) ?_
         · go_simp
           refine hK.out _ _ ?_ (fun hHeld => ?_)
           · (try dsimp only); go_keep
           clear hK K
           try simp only [Act.put, sia, sc0, scs]
           refine wpAnyH_take (i := 12) (v := ?_) rfl (by kernel_rfl) (by kernel_rfl) (by kernel_rfl) (fun _ _ _ h => h) (Or.inl ⟨by rfl, ?_⟩) (by assumption) ?_
           rotate_left
           · (intro w hSw; (try dsimp only at hSw); go_simp; try with_reducible rfl)
           try simp only [Act.put, sia, sc0, scs]
           refine wpAnyH_ready (rs := [13]) (by kernel_rfl) (by simp) ?_
           refine AllReadyH.cons rfl (fun K hK => ?_) ?_
           · go_simp
             refine hK.out _ _ ?_ (fun hHeld => ?_)
             · (try dsimp only); go_keep
             clear hK K
             try simp only [Act.put, sia, sc0, scs]
             refine wpAnyH_take (i := 14) (v := ?_) rfl (by kernel_rfl) (by kernel_rfl) (by kernel_rfl) (fun _ _ _ h => h) (Or.inl ⟨by rfl, ?_⟩) (by assumption) ?_
             rotate_left
             · (intro w hSw; (try dsimp only at hSw); go_simp; try with_reducible rfl)
             try simp only [Act.put, sia, sc0, scs]
             refine wpAnyH_take (i := 15) (v := ?_) rfl (by kernel_rfl) (by kernel_rfl) (by kernel_rfl) (fun _ _ _ h => h) (Or.inl ⟨by rfl, ?_⟩) (by assumption) ?_
             rotate_left
             · (intro w hSw; (try dsimp only at hSw); go_simp; try with_reducible rfl)
             try simp only [Act.put, sia, sc0, scs]
             refine wpAnyH_done (by kernel_rfl) ?_ _
             simp [Act.put]
             go_wp2_with fail
             go_ret
             exact ⟨by rw [← HTX.out, ← hsg]; simp [So.cmpW], (HW0.out.trans (((Below.refl _ _).alloc (lR _) _).mono HW0.out.size)).drew⟩
           exact AllReadyH.nil
         exact AllReadyH.nil
       refine AllReadyH.cons rfl (fun K hK => ?_) ?_
       · go_simp
         refine hK.out _ _ ?_ (fun hHeld => ?_)
         · (try dsimp only); go_keep
         clear hK K
         try simp only [Act.put, sia, sc0, scs]
         refine wpAnyH_take (i := 12) (v := ?_) rfl (by kernel_rfl) (by kernel_rfl) (by kernel_rfl) (fun _ _ _ h => h) (Or.inl ⟨by rfl, ?_⟩) (by assumption) ?_
         rotate_left
         · (intro w hSw; (try dsimp only at hSw); go_simp; try with_reducible rfl)
         try simp only [Act.put, sia, sc0, scs]
         refine wpAnyH_ready (rs := [5, 13]) (by kernel_rfl) (by simp) ?_
         refine AllReadyH.cons rfl (fun K hK => ?_) ?_
         · go_simp
           refine (HD.out _).mono ?_
           rintro e w2 ⟨rfl, rfl⟩
           go_simp
           refine hK.out _ _ ?_ (fun hHeld => ?_)
           · (try dsimp only); go_keep
           clear hK K
           try simp only [Act.put, sia, sc0, scs]
           refine wpAnyH_take (i := 6) (v := ?_) rfl (by kernel_rfl) (by kernel_rfl) (by kernel_rfl) (fun _ _ _ h => h) (Or.inl ⟨by rfl, ?_⟩) (by assumption) ?_
           rotate_left
           · (intro w hSw; (try dsimp only at hSw); go_simp; try with_reducible rfl)
           try simp only [Act.put, sia, sc0, scs]
           refine wpAnyH_take (i := 7) (v := ?_) rfl (by kernel_rfl) (by kernel_rfl) (by kernel_rfl) (fun _ _ _ h => h) (Or.inl ⟨by rfl, ?_⟩) (by assumption) ?_
           rotate_left
           · (intro w hSw; (try dsimp only at hSw); go_simp; try with_reducible rfl)
           try simp only [Act.put, sia, sc0, scs]
           refine wpAnyH_ready (rs := [13]) (by kernel_rfl) (by simp) ?_
           refine AllReadyH.cons rfl (fun K hK => ?_) ?_
           · go_simp
             refine hK.out _ _ ?_ (fun hHeld => ?_)
             · (try dsimp only); go_keep
             clear hK K
             try simp only [Act.put, sia, sc0, scs]
             refine wpAnyH_take (i := 14) (v := ?_) rfl (by kernel_rfl) (by kernel_rfl) (by kernel_rfl) (fun _ _ _ h => h) (Or.inl ⟨by rfl, ?_⟩) (by assumption) ?_
             rotate_left
             · (intro w hSw; (try dsimp only at hSw); go_simp; try with_reducible rfl)
             try simp only [Act.put, sia, sc0, scs]
             refine wpAnyH_take (i := 15) (v := ?_) rfl (by kernel_rfl) (by kernel_rfl) (by kernel_rfl) (fun _ _ _ h => h) (Or.inl ⟨by rfl, ?_⟩) (by assumption) ?_
             rotate_left
             · (intro w hSw; (try dsimp only at hSw); go_simp; try with_reducible rfl)
             try simp only [Act.put, sia, sc0, scs]
             refine wpAnyH_done (by kernel_rfl) ?_ _
             simp [Act.put]
             go_wp2_with fail
             go_ret
             exact ⟨by rw [← HTX.out, ← hsg]; simp [So.cmpW], (HW0.out.trans (((Below.refl _ _).alloc (lR _) _).mono HW0.out.size)).drew⟩
           exact AllReadyH.nil
         refine AllReadyH.cons rfl (fun K hK => ?_) ?_
         · go_simp
           refine hK.out _ _ ?_ (fun hHeld => ?_)
           · (try dsimp only); go_keep
           clear hK K
           try simp only [Act.put, sia, sc0, scs]
           refine wpAnyH_ready (rs := [5]) (by kernel_rfl) (by simp) ?_
           refine AllReadyH.cons rfl (fun K hK => ?_) ?_
           · go_simp
             refine (HD.out _).mono ?_
             rintro e w2 ⟨rfl, rfl⟩
             go_simp
             refine hK.out _ _ ?_ (fun hHeld => ?_)
             · (try dsimp only); go_keep
             clear hK K
             try simp only [Act.put, sia, sc0, scs]
             refine wpAnyH_take (i := 6) (v := ?_) rfl (by kernel_rfl) (by kernel_rfl) (by kernel_rfl) (fun _ _ _ h => h) (Or.inl ⟨by rfl, ?_⟩) (by assumption) ?_
             rotate_left
             · (intro w hSw; (try dsimp only at hSw); go_simp; try with_reducible rfl)
             try simp only [Act.put, sia, sc0, scs]
             refine wpAnyH_take (i := 7) (v := ?_) rfl (by kernel_rfl) (by kernel_rfl) (by kernel_rfl) (fun _ _ _ h => h) (Or.inl ⟨by rfl, ?_⟩) (by assumption) ?_
             rotate_left
             · (intro w hSw; (try dsimp only at hSw); go_simp; try with_reducible rfl)
             try simp only [Act.put, sia, sc0, scs]
             refine wpAnyH_take (i := 14) (v := ?_) rfl (by kernel_rfl) (by kernel_rfl) (by kernel_rfl) (fun _ _ _ h => h) (Or.inl ⟨by rfl, ?_⟩) (by assumption) ?_
             rotate_left
             · (intro w hSw; (try dsimp only at hSw); go_simp; try with_reducible rfl)
             try simp only [Act.put, sia, sc0, scs]
             refine wpAnyH_take (i := 15) (v := ?_) rfl (by kernel_rfl) (by kernel_rfl) (by kernel_rfl) (fun _ _ _ h => h) (Or.inl ⟨by rfl, ?_⟩) (by assumption) ?_
             rotate_left
             · (intro w hSw; (try dsimp only at hSw); go_simp; try with_reducible rfl)
             try simp only [Act.put, sia, sc0, scs]
             refine wpAnyH_done (by kernel_rfl) ?_ _
             simp [Act.put]
             go_wp2_with fail
             go_ret
             exact ⟨by rw [← HTX.out, ← hsg]; simp [So.cmpW], (HW0.out.trans (((Below.refl _ _).alloc (lR _) _).mono HW0.out.size)).drew⟩
           exact AllReadyH.nil
         exact AllReadyH.nil
       exact AllReadyH.nil
     · obtain rfl : ci = 2 := by rw [← hci]; rfl
       have hwk : IntKind.i64.wrap 1 = 1 := by rw [IntKind.wrap_i64]; omega
       have f1 : ¬ 9223372036854775807 < name.length + 1 := by omega
       have f2 : ¬ 9223372036854775807 < name.length + 1 + dm.length := by omega
       have f3 : ¬ 9223372036854775807 < name.length + (dm.length + 1) + 1 := by omega
       have f4 : ¬ 9223372036854775807 < name.length + (dm.length + 1 + 1) + 6 := by omega
       have f5 : ¬ 9223372036854775807 < name.length + (dm.length + 2) + 6 := by omega
       go_enter Tryz.func47, Tryz.ntmps47
       go_wp2_with fail
       refine wp_region_held_drew (S := fun w' => w'.cell? ⟨w.heap.size, 1, none⟩ = some (vs name) ∧ w'.cell? ⟨w.heap.size, 2, none⟩ = some (.int .i64 2) ∧ w'.cell? ⟨w.heap.size, 3, none⟩ = some (.int .i64 m)) (by kernel_rfl) (by go_keep) (fun hHeld => ?_)
       refine wpAnyH_take (i := 0) (v := ?_) rfl (by kernel_rfl) (by kernel_rfl) (by kernel_rfl) (fun _ _ _ h => h) (Or.inl ⟨by rfl, ?_⟩) (by assumption) ?_
       rotate_left
       · (intro w hSw; (try dsimp only at hSw); go_simp; try with_reducible rfl)
       try simp only [Act.put, sia, sc0, scs]
       refine wpAnyH_take (i := 1) (v := ?_) rfl (by kernel_rfl) (by kernel_rfl) (by kernel_rfl) (fun _ _ _ h => h) (Or.inl ⟨by rfl, ?_⟩) (by assumption) ?_
       rotate_left
       · (intro w hSw; (try dsimp only at hSw); go_simp; try with_reducible rfl)
       try simp only [Act.put, sia, sc0, scs]
       refine wpAnyH_take (i := 2) (v := ?_) rfl (by kernel_rfl) (by kernel_rfl) (by kernel_rfl) (fun _ _ _ h => h) (Or.inl ⟨by rfl, ?_⟩) (by assumption) ?_
       rotate_left
       · (intro w hSw; (try dsimp only at hSw); go_simp; try with_reducible rfl)
       try simp only [Act.put, sia, sc0, scs]
       refine wpAnyH_take (i := 3) (v := ?_) rfl (by kernel_rfl) (by kernel_rfl) (by kernel_rfl) (fun _ _ _ h => h) (Or.inl ⟨by rfl, ?_⟩) (by assumption) ?_
       rotate_left
       · (intro w hSw; (try dsimp only at hSw); go_simp; try with_reducible rfl)
       try simp only [Act.put, sia, sc0, scs]
       refine wpAnyH_take (i := 4) (v := ?_) rfl (by kernel_rfl) (by kernel_rfl) (by kernel_rfl) (fun _ _ _ h => h) (Or.inl ⟨by rfl, ?_⟩) (by assumption) ?_
       rotate_left
       · (intro w hSw; (try dsimp only at hSw); go_simp; try with_reducible rfl)
       try simp only [Act.put, sia, sc0, scs]
       refine wpAnyH_take (i := 9) (v := ?_) rfl (by kernel_rfl) (by kernel_rfl) (by kernel_rfl) (fun _ _ _ h => h) (Or.inl ⟨by rfl, ?_⟩) (by assumption) ?_
       rotate_left
       · (intro w hSw; (try dsimp only at hSw); go_simp; try with_reducible rfl)
       try simp only [Act.put, sia, sc0, scs]
       refine wpAnyH_take (i := 10) (v := ?_) rfl (by kernel_rfl) (by kernel_rfl) (by kernel_rfl) (fun _ _ _ h => h) (Or.inl ⟨by rfl, ?_⟩) (by assumption) ?_
       rotate_left
       · (intro w hSw; (try dsimp only at hSw); go_simp; try with_reducible rfl)
       try simp only [Act.put, sia, sc0, scs]
       refine wpAnyH_take (i := 11) (v := ?_) rfl (by kernel_rfl) (by kernel_rfl) (by kernel_rfl) (fun _ _ _ h => h) (Or.inl ⟨by rfl, ?_⟩) (by assumption) ?_
       rotate_left
       · (intro w hSw; (try dsimp only at hSw); go_simp; try with_reducible rfl)
       try simp only [Act.put, sia, sc0, scs]
       refine wpAnyH_ready (rs := [5, 8]) (by kernel_rfl) (by simp) ?_
       refine AllReadyH.cons rfl (fun K hK => ?_) ?_
       · go_simp
         refine (HD.out _).mono ?_
         rintro e w2 ⟨rfl, rfl⟩
         go_simp
         refine hK.out _ _ ?_ (fun hHeld => ?_)
         · (try dsimp only); go_keep
         clear hK K
         try simp only [Act.put, sia, sc0, scs]
         refine wpAnyH_take (i := 6) (v := ?_) rfl (by kernel_rfl) (by kernel_rfl) (by kernel_rfl) (fun _ _ _ h => h) (Or.inl ⟨by rfl, ?_⟩) (by assumption) ?_
         rotate_left
         · (intro w hSw; (try dsimp only at hSw); go_simp; try with_reducible rfl)
         try simp only [Act.put, sia, sc0, scs]
         refine wpAnyH_take (i := 7) (v := ?_) rfl (by kernel_rfl) (by kernel_rfl) (by kernel_rfl) (fun _ _ _ h => h) (Or.inl ⟨by rfl, ?_⟩) (by assumption) ?_
         rotate_left
         · (intro w hSw; (try dsimp only at hSw); go_simp; try with_reducible rfl)
         try simp only [Act.put, sia, sc0, scs]
         refine wpAnyH_ready (rs := [8]) (by kernel_rfl) (by simp) ?_
         refine AllReadyH.cons rfl (fun K hK => ?_) ?_
         · go_simp
           refine hK.out _ _ ?_ (fun hHeld => ?_)
           · (try dsimp only); go_keep
           clear hK K
           try simp only [Act.put, sia, sc0, scs]
           refine wpAnyH_take (i := 12) (v := ?_) rfl (by kernel_rfl) (by kernel_rfl) (by kernel_rfl) (fun _ _ _ h => h) (Or.inl ⟨by rfl, ?_⟩) (by assumption) ?_
           rotate_left
           · (intro w hSw; (try dsimp only at hSw); go_simp; try with_reducible rfl)
           try simp only [Act.put, sia, sc0, scs]
           refine wpAnyH_ready (rs := [13]) (by kernel_rfl) (by simp) ?_
           refine AllReadyH.cons rfl (fun K hK => ?_) ?_
           · go_simp
             refine hK.out _ _ ?_ (fun hHeld => ?_)
             · (try dsimp only); go_keep
             clear hK K
             try simp only [Act.put, sia, sc0, scs]
             refine wpAnyH_take (i := 14) (v := ?_) rfl (by kernel_rfl) (by kernel_rfl) (by kernel_rfl) (fun _ _ _ h => h) (Or.inl ⟨by rfl, ?_⟩) (by assumption) ?_
             rotate_left
             · (intro w hSw; (try dsimp only at hSw); go_simp; try with_reducible rfl)
             try simp only [Act.put, sia, sc0, scs]
             refine wpAnyH_take (i := 15) (v := ?_) rfl (by kernel_rfl) (by kernel_rfl) (by kernel_rfl) (fun _ _ _ h => h) (Or.inl ⟨by rfl, ?_⟩) (by assumption) ?_
             rotate_left
             · (intro w hSw; (try dsimp only at hSw); go_simp; try with_reducible rfl)
             try simp only [Act.put, sia, sc0, scs]
             refine wpAnyH_done (by kernel_rfl) ?_ _
             simp [Act.put]
             go_wp2_with fail
             go_ret
             exact ⟨by rw [← HTX.out, ← hsg]; simp [So.cmpW], (HW0.out.trans (((Below.refl _ _).alloc (lR _) _).mono HW0.out.size)).drew⟩
           exact AllReadyH.nil
         exact AllReadyH.nil
       refine AllReadyH.cons rfl (fun K hK => ?_) ?_
       · go_simp
         refine hK.out _ _ ?_ (fun hHeld => ?_)
         · (try dsimp only); go_keep
         clear hK K
         try simp only [Act.put, sia, sc0, scs]
         refine wpAnyH_take (i := 12) (v := ?_) rfl (by kernel_rfl) (by kernel_rfl) (by kernel_rfl) (fun _ _ _ h => h) (Or.inl ⟨by rfl, ?_⟩) (by assumption) ?_
         rotate_left
         · (intro w hSw; (try dsimp only at hSw); go_simp; try with_reducible rfl)
         try simp only [Act.put, sia, sc0, scs]
         refine wpAnyH_ready (rs := [5, 13]) (by kernel_rfl) (by simp) ?_
         refine AllReadyH.cons rfl (fun K hK => ?_) ?_
         · go_simp
           refine (HD.out _).mono ?_
           rintro e w2 ⟨rfl, rfl⟩
           go_simp
           refine hK.out _ _ ?_ (fun hHeld => ?_)
           · (try dsimp only); go_keep
           clear hK K
           try simp only [Act.put, sia, sc0, scs]
           refine wpAnyH_take (i := 6) (v := ?_) rfl (by kernel_rfl) (by kernel_rfl) (by kernel_rfl) (fun _ _ _ h => h) (Or.inl ⟨by rfl, ?_⟩) (by assumption) ?_
           rotate_left
           · (intro w hSw; (try dsimp only at hSw); go_simp; try with_reducible rfl)
           try simp only [Act.put, sia, sc0, scs]
           refine wpAnyH_take (i := 7) (v := ?_) rfl (by kernel_rfl) (by kernel_rfl) (by kernel_rfl) (fun _ _ _ h => h) (Or.inl ⟨by rfl, ?_⟩) (by assumption) ?_
           rotate_left
           · (intro w hSw; (try dsimp only at hSw); go_simp; try with_reducible rfl)
           try simp only [Act.put, sia, sc0, scs]
           refine wpAnyH_ready (rs := [13]) (by kernel_rfl) (by simp) ?_
           refine AllReadyH.cons rfl (fun K hK => ?_) ?_
           · go_simp
             refine hK.out _ _ ?_ (fun hHeld => ?_)
             · (try dsimp only); go_keep
             clear hK K
             try simp only [Act.put, sia, sc0, scs]
             refine wpAnyH_take (i := 14) (v := ?_) rfl (by kernel_rfl) (by kernel_rfl) (by kernel_rfl) (fun _ _ _ h => h) (Or.inl ⟨by rfl, ?_⟩) (by assumption) ?_
             rotate_left
             · (intro w hSw; (try dsimp only at hSw); go_simp; try with_reducible rfl)
             try simp only [Act.put, sia, sc0, scs]
             refine wpAnyH_take (i := 15) (v := ?_) rfl (by kernel_rfl) (by kernel_rfl) (by kernel_rfl) (fun _ _ _ h => h) (Or.inl ⟨by rfl, ?_⟩) (by assumption) ?_
             rotate_left
             · (intro w hSw; (try dsimp only at hSw); go_simp; try with_reducible rfl)
             try simp only [Act.put, sia, sc0, scs]
             refine wpAnyH_done (by kernel_rfl) ?_ _
             simp [Act.put]
             go_wp2_with fail
             go_ret
             exact ⟨by rw [← HTX.out, ← hsg]; simp [So.cmpW], (HW0.out.trans (((Below.refl _ _).alloc (lR _) _).mono HW0.out.size)).drew⟩
           exact AllReadyH.nil
         refine AllReadyH.cons rfl (fun K hK => ?_) ?_
         · go_simp
           refine hK.out _ _ ?_ (fun hHeld => ?_)
           · (try dsimp only); go_keep
           clear hK K
           try simp only [Act.put, sia, sc0, scs]
           refine wpAnyH_ready (rs := [5]) (by kernel_rfl) (by simp) ?_
           refine AllReadyH.cons rfl (fun K hK => ?_) ?_
           · go_simp
             refine (HD.out _).mono ?_
             rintro e w2 ⟨rfl, rfl⟩
             go_simp
             refine hK.out _ _ ?_ (fun hHeld => ?_)
             · (try dsimp only); go_keep
             clear hK K
             try simp only [Act.put, sia, sc0, scs]
             refine wpAnyH_take (i := 6) (v := ?_) rfl (by kernel_rfl) (by kernel_rfl) (by kernel_rfl) (fun _ _ _ h => h) (Or.inl ⟨by rfl, ?_⟩) (by assumption) ?_
             rotate_left
             · (intro w hSw; (try dsimp only at hSw); go_simp; try with_reducible rfl)
             try simp only [Act.put, sia, sc0, scs]
             refine wpAnyH_take (i := 7) (v := ?_) rfl (by kernel_rfl) (by kernel_rfl) (by kernel_rfl) (fun _ _ _ h => h) (Or.inl ⟨by rfl, ?_⟩) (by assumption) ?_
             rotate_left
             · (intro w hSw; (try dsimp only at hSw); go_simp; try with_reducible rfl)
             try simp only [Act.put, sia, sc0, scs]
             refine wpAnyH_take (i := 14) (v := ?_) rfl (by kernel_rfl) (by kernel_rfl) (by kernel_rfl) (fun _ _ _ h => h) (Or.inl ⟨by rfl, ?_⟩) (by assumption) ?_
             rotate_left
             · (intro w hSw; (try dsimp only at hSw); go_simp; try with_reducible rfl)
             try simp only [Act.put, sia, sc0, scs]
             refine wpAnyH_take (i := 15) (v := ?_) rfl (by kernel_rfl) (by kernel_rfl) (by kernel_rfl) (fun _ _ _ h => h) (Or.inl ⟨by rfl, ?_⟩) (by assumption) ?_
             rotate_left
             · (intro w hSw; (try dsimp only at hSw); go_simp; try with_reducible rfl)
             try simp only [Act.put, sia, sc0, scs]
             refine wpAnyH_done (by kernel_rfl) ?_ _
             simp [Act.put]
             go_wp2_with fail
             go_ret
             exact ⟨by rw [← HTX.out, ← hsg]; simp [So.cmpW], (HW0.out.trans (((Below.refl _ _).alloc (lR _) _).mono HW0.out.size)).drew⟩
           exact AllReadyH.nil
         exact AllReadyH.nil
       exact AllReadyH.nil
     · obtain rfl : ci = 3 := by rw [← hci]; rfl
       have hwk : IntKind.i64.wrap 2 = 2 := by rw [IntKind.wrap_i64]; omega
       have f1 : ¬ 9223372036854775807 < name.length + 1 := by omega
       have f2 : ¬ 9223372036854775807 < name.length + 1 + dm.length := by omega
       have f3 : ¬ 9223372036854775807 < name.length + (dm.length + 1) + 1 := by omega
       have f4 : ¬ 9223372036854775807 < name.length + (dm.length + 1 + 1) + 5 := by omega
       have f5 : ¬ 9223372036854775807 < name.length + (dm.length + 2) + 5 := by omega
       go_enter Tryz.func47, Tryz.ntmps47
       go_wp2_with fail
       refine wp_region_held_drew (S := fun w' => w'.cell? ⟨w.heap.size, 1, none⟩ = some (vs name) ∧ w'.cell? ⟨w.heap.size, 2, none⟩ = some (.int .i64 3) ∧ w'.cell? ⟨w.heap.size, 3, none⟩ = some (.int .i64 m)) (by kernel_rfl) (by go_keep) (fun hHeld => ?_)
       refine wpAnyH_take (i := 0) (v := ?_) rfl (by kernel_rfl) (by kernel_rfl) (by kernel_rfl) (fun _ _ _ h => h) (Or.inl ⟨by rfl, ?_⟩) (by assumption) ?_
       rotate_left
       · (intro w hSw; (try dsimp only at hSw); go_simp; try with_reducible rfl)
       try simp only [Act.put, sia, sc0, scs]
       refine wpAnyH_take (i := 1) (v := ?_) rfl (by kernel_rfl) (by kernel_rfl) (by kernel_rfl) (fun _ _ _ h => h) (Or.inl ⟨by rfl, ?_⟩) (by assumption) ?_
       rotate_left
       · (intro w hSw; (try dsimp only at hSw); go_simp; try with_reducible rfl)
       try simp only [Act.put, sia, sc0, scs]
       refine wpAnyH_take (i := 2) (v := ?_) rfl (by kernel_rfl) (by kernel_rfl) (by kernel_rfl) (fun _ _ _ h => h) (Or.inl ⟨by rfl, ?_⟩) (by assumption) ?_
       rotate_left
       · (intro w hSw; (try dsimp only at hSw); go_simp; try with_reducible rfl)
       try simp only [Act.put, sia, sc0, scs]
       refine wpAnyH_take (i := 3) (v := ?_) rfl (by kernel_rfl) (by kernel_rfl) (by kernel_rfl) (fun _ _ _ h => h) (Or.inl ⟨by rfl, ?_⟩) (by assumption) ?_
       rotate_left
       · (intro w hSw; (try dsimp only at hSw); go_simp; try with_reducible rfl)
       try simp only [Act.put, sia, sc0, scs]
       refine wpAnyH_take (i := 4) (v := ?_) rfl (by kernel_rfl) (by kernel_rfl) (by kernel_rfl) (fun _ _ _ h => h) (Or.inl ⟨by rfl, ?_⟩) (by assumption) ?_
       rotate_left
       · (intro w hSw; (try dsimp only at hSw); go_simp; try with_reducible rfl)
       try simp only [Act.put, sia, sc0, scs]
       refine wpAnyH_take (i := 9) (v := ?_) rfl (by kernel_rfl) (by kernel_rfl) (by kernel_rfl) (fun _ _ _ h => h) (Or.inl ⟨by rfl, ?_⟩) (by assumption) ?_
       rotate_left
       · (intro w hSw; (try dsimp only at hSw); go_simp; try with_reducible rfl)
       try simp only [Act.put, sia, sc0, scs]
       refine wpAnyH_take (i := 10) (v := ?_) rfl (by kernel_rfl) (by kernel_rfl) (by kernel_rfl) (fun _ _ _ h => h) (Or.inl ⟨by rfl, ?_⟩) (by assumption) ?_
       rotate_left
       · (intro w hSw; (try dsimp only at hSw); go_simp; try with_reducible rfl)
       try simp only [Act.put, sia, sc0, scs]
       refine wpAnyH_take (i := 11) (v := ?_) rfl (by kernel_rfl) (by kernel_rfl) (by kernel_rfl) (fun _ _ _ h => h) (Or.inl ⟨by rfl, ?_⟩) (by assumption) ?_
       rotate_left
       · (intro w hSw; (try dsimp only at hSw); go_simp; try with_reducible rfl)
       try simp only [Act.put, sia, sc0, scs]
       refine wpAnyH_ready (rs := [5, 8]) (by kernel_rfl) (by simp) ?_
       refine AllReadyH.cons rfl (fun K hK => ?_) ?_
       · go_simp
         refine (HD.out _).mono ?_
         rintro e w2 ⟨rfl, rfl⟩
         go_simp
         refine hK.out _ _ ?_ (fun hHeld => ?_)
         · (try dsimp only); go_keep
         clear hK K
         try simp only [Act.put, sia, sc0, scs]
         refine wpAnyH_take (i := 6) (v := ?_) rfl (by kernel_rfl) (by kernel_rfl) (by kernel_rfl) (fun _ _ _ h => h) (Or.inl ⟨by rfl, ?_⟩) (by assumption) ?_
         rotate_left
         · (intro w hSw; (try dsimp only at hSw); go_simp; try with_reducible rfl)
         try simp only [Act.put, sia, sc0, scs]
         refine wpAnyH_take (i := 7) (v := ?_) rfl (by kernel_rfl) (by kernel_rfl) (by kernel_rfl) (fun _ _ _ h => h) (Or.inl ⟨by rfl, ?_⟩) (by assumption) ?_
         rotate_left
         · (intro w hSw; (try dsimp only at hSw); go_simp; try with_reducible rfl)
         try simp only [Act.put, sia, sc0, scs]
         refine wpAnyH_ready (rs := [8]) (by kernel_rfl) (by simp) ?_
         refine AllReadyH.cons rfl (fun K hK => ?_) ?_
         · go_simp
           refine hK.out _ _ ?_ (fun hHeld => ?_)
           · (try dsimp only); go_keep
           clear hK K
           try simp only [Act.put, sia, sc0, scs]
           refine wpAnyH_take (i := 12) (v := ?_) rfl (by kernel_rfl) (by kernel_rfl) (by kernel_rfl) (fun _ _ _ h => h) (Or.inl ⟨by rfl, ?_⟩) (by assumption) ?_
           rotate_left
           · (intro w hSw; (try dsimp only at hSw); go_simp; try with_reducible rfl)
           try simp only [Act.put, sia, sc0, scs]
           refine wpAnyH_ready (rs := [13]) (by kernel_rfl) (by simp) ?_
           refine AllReadyH.cons rfl (fun K hK => ?_) ?_
           · go_simp
             refine hK.out _ _ ?_ (fun hHeld => ?_)
             · (try dsimp only); go_keep
             clear hK K
             try simp only [Act.put, sia, sc0, scs]
             refine wpAnyH_take (i := 14) (v := ?_) rfl (by kernel_rfl) (by kernel_rfl) (by kernel_rfl) (fun _ _ _ h => h) (Or.inl ⟨by rfl, ?_⟩) (by assumption) ?_
             rotate_left
             · (intro w hSw; (try dsimp only at hSw); go_simp; try with_reducible rfl)
             try simp only [Act.put, sia, sc0, scs]
             refine wpAnyH_take (i := 15) (v := ?_) rfl (by kernel_rfl) (by kernel_rfl) (by kernel_rfl) (fun _ _ _ h => h) (Or.inl ⟨by rfl, ?_⟩) (by assumption) ?_
             rotate_left
             · (intro w hSw; (try dsimp only at hSw); go_simp; try with_reducible rfl)
             try simp only [Act.put, sia, sc0, scs]
             refine wpAnyH_done (by kernel_rfl) ?_ _
             simp [Act.put]
             go_wp2_with fail
             go_ret
             exact ⟨by rw [← HTX.out, ← hsg]; simp [So.cmpW], (HW0.out.trans (((Below.refl _ _).alloc (lR _) _).mono HW0.out.size)).drew⟩
           exact AllReadyH.nil
         exact AllReadyH.nil
       refine AllReadyH.cons rfl (fun K hK => ?_) ?_
       · go_simp
         refine hK.out _ _ ?_ (fun hHeld => ?_)
         · (try dsimp only); go_keep
         clear hK K
         try simp only [Act.put, sia, sc0, scs]
         refine wpAnyH_take (i := 12) (v := ?_) rfl (by kernel_rfl) (by kernel_rfl) (by kernel_rfl) (fun _ _ _ h => h) (Or.inl ⟨by rfl, ?_⟩) (by assumption) ?_
         rotate_left
         · (intro w hSw; (try dsimp only at hSw); go_simp; try with_reducible rfl)
         try simp only [Act.put, sia, sc0, scs]
         refine wpAnyH_ready (rs := [5, 13]) (by kernel_rfl) (by simp) ?_
         refine AllReadyH.cons rfl (fun K hK => ?_) ?_
         · go_simp
           refine (HD.out _).mono ?_
           rintro e w2 ⟨rfl, rfl⟩
           go_simp
           refine hK.out _ _ ?_ (fun hHeld => ?_)
           · (try dsimp only); go_keep
           clear hK K
           try simp only [Act.put, sia, sc0, scs]
           refine wpAnyH_take (i := 6) (v := ?_) rfl (by kernel_rfl) (by kernel_rfl) (by kernel_rfl) (fun _ _ _ h => h) (Or.inl ⟨by rfl, ?_⟩) (by assumption) ?_
           rotate_left
           · (intro w hSw; (try dsimp only at hSw); go_simp; try with_reducible rfl)
           try simp only [Act.put, sia, sc0, scs]
           refine wpAnyH_take (i := 7) (v := ?_) rfl (by kernel_rfl) (by kernel_rfl) (by kernel_rfl) (fun _ _ _ h => h) (Or.inl ⟨by rfl, ?_⟩) (by assumption) ?_
           rotate_left
           · (intro w hSw; (try dsimp only at hSw); go_simp; try with_reducible rfl)
           try simp only [Act.put, sia, sc0, scs]
           refine wpAnyH_ready (rs := [13]) (by kernel_rfl) (by simp) ?_
           refine AllReadyH.cons rfl (fun K hK => ?_) ?_
           · go_simp
             refine hK.out _ _ ?_ (fun hHeld => ?_)
             · (try dsimp only); go_keep
             clear hK K
             try simp only [Act.put, sia, sc0, scs]
             refine wpAnyH_take (i := 14) (v := ?_) rfl (by kernel_rfl) (by kernel_rfl) (by kernel_rfl) (fun _ _ _ h => h) (Or.inl ⟨by rfl, ?_⟩) (by assumption) ?_
             rotate_left
             · (intro w hSw; (try dsimp only at hSw); go_simp; try with_reducible rfl)
             try simp only [Act.put, sia, sc0, scs]
             refine wpAnyH_take (i := 15) (v := ?_) rfl (by kernel_rfl) (by kernel_rfl) (by kernel_rfl) (fun _ _ _ h => h) (Or.inl ⟨by rfl, ?_⟩) (by assumption) ?_
             rotate_left
             · (intro w hSw; (try dsimp only at hSw); go_simp; try with_reducible rfl)
             try simp only [Act.put, sia, sc0, scs]
             refine wpAnyH_done (by kernel_rfl) ?_ _
             simp [Act.put]
             go_wp2_with fail
             go_ret
             exact ⟨by rw [← HTX.out, ← hsg]; simp [So.cmpW], (HW0.out.trans (((Below.refl _ _).alloc (lR _) _).mono HW0.out.size)).drew⟩
           exact AllReadyH.nil
         refine AllReadyH.cons rfl (fun K hK => ?_) ?_
         · go_simp
           refine hK.out _ _ ?_ (fun hHeld => ?_)
           · (try dsimp only); go_keep
           clear hK K
           try simp only [Act.put, sia, sc0, scs]
           refine wpAnyH_ready (rs := [5]) (by kernel_rfl) (by simp) ?_
           refine AllReadyH.cons rfl (fun K hK => ?_) ?_
           · go_simp
             refine (HD.out _).mono ?_
             rintro e w2 ⟨rfl, rfl⟩
             go_simp
             refine hK.out _ _ ?_ (fun hHeld => ?_)
             · (try dsimp only); go_keep
             clear hK K
             try simp only [Act.put, sia, sc0, scs]
             refine wpAnyH_take (i := 6) (v := ?_) rfl (by kernel_rfl) (by kernel_rfl) (by kernel_rfl) (fun _ _ _ h => h) (Or.inl ⟨by rfl, ?_⟩) (by assumption) ?_
             rotate_left
             · (intro w hSw; (try dsimp only at hSw); go_simp; try with_reducible rfl)
             try simp only [Act.put, sia, sc0, scs]
             refine wpAnyH_take (i := 7) (v := ?_) rfl (by kernel_rfl) (by kernel_rfl) (by kernel_rfl) (fun _ _ _ h => h) (Or.inl ⟨by rfl, ?_⟩) (by assumption) ?_
             rotate_left
             · (intro w hSw; (try dsimp only at hSw); go_simp; try with_reducible rfl)
             try simp only [Act.put, sia, sc0, scs]
             refine wpAnyH_take (i := 14) (v := ?_) rfl (by kernel_rfl) (by kernel_rfl) (by kernel_rfl) (fun _ _ _ h => h) (Or.inl ⟨by rfl, ?_⟩) (by assumption) ?_
             rotate_left
             · (intro w hSw; (try dsimp only at hSw); go_simp; try with_reducible rfl)
             try simp only [Act.put, sia, sc0, scs]
             refine wpAnyH_take (i := 15) (v := ?_) rfl (by kernel_rfl) (by kernel_rfl) (by kernel_rfl) (fun _ _ _ h => h) (Or.inl ⟨by rfl, ?_⟩) (by assumption) ?_
             rotate_left
             · (intro w hSw; (try dsimp only at hSw); go_simp; try with_reducible rfl)
             try simp only [Act.put, sia, sc0, scs]
             refine wpAnyH_done (by kernel_rfl) ?_ _
             simp [Act.put]
             go_wp2_with fail
             go_ret
             exact ⟨by rw [← HTX.out, ← hsg]; simp [So.cmpW], (HW0.out.trans (((Below.refl _ _).alloc (lR _) _).mono HW0.out.size)).drew⟩
           exact AllReadyH.nil
         exact AllReadyH.nil
       exact AllReadyH.nil
     · obtain rfl : ci = 4 := by rw [← hci]; rfl
       have hwk : IntKind.i64.wrap 3 = 3 := by rw [IntKind.wrap_i64]; omega
       have f1 : ¬ 9223372036854775807 < name.length + 1 := by omega
       have f2 : ¬ 9223372036854775807 < name.length + 1 + dm.length := by omega
       have f3 : ¬ 9223372036854775807 < name.length + (dm.length + 1) + 1 := by omega
       have f4 : ¬ 9223372036854775807 < name.length + (dm.length + 1 + 1) + 4 := by omega
       have f5 : ¬ 9223372036854775807 < name.length + (dm.length + 2) + 4 := by omega
       go_enter Tryz.func47, Tryz.ntmps47
       go_wp2_with fail
       refine wp_region_held_drew (S := fun w' => w'.cell? ⟨w.heap.size, 1, none⟩ = some (vs name) ∧ w'.cell? ⟨w.heap.size, 2, none⟩ = some (.int .i64 4) ∧ w'.cell? ⟨w.heap.size, 3, none⟩ = some (.int .i64 m)) (by kernel_rfl) (by go_keep) (fun hHeld => ?_)
       refine wpAnyH_take (i := 0) (v := ?_) rfl (by kernel_rfl) (by kernel_rfl) (by kernel_rfl) (fun _ _ _ h => h) (Or.inl ⟨by rfl, ?_⟩) (by assumption) ?_
       rotate_left
       · (intro w hSw; (try dsimp only at hSw); go_simp; try with_reducible rfl)
       try simp only [Act.put, sia, sc0, scs]
       refine wpAnyH_take (i := 1) (v := ?_) rfl (by kernel_rfl) (by kernel_rfl) (by kernel_rfl) (fun _ _ _ h => h) (Or.inl ⟨by rfl, ?_⟩) (by assumption) ?_
       rotate_left
       · (intro w hSw; (try dsimp only at hSw); go_simp; try with_reducible rfl)
       try simp only [Act.put, sia, sc0, scs]
       refine wpAnyH_take (i := 2) (v := ?_) rfl (by kernel_rfl) (by kernel_rfl) (by kernel_rfl) (fun _ _ _ h => h) (Or.inl ⟨by rfl, ?_⟩) (by assumption) ?_
       rotate_left
       · (intro w hSw; (try dsimp only at hSw); go_simp; try with_reducible rfl)
       try simp only [Act.put, sia, sc0, scs]
       refine wpAnyH_take (i := 3) (v := ?_) rfl (by kernel_rfl) (by kernel_rfl) (by kernel_rfl) (fun _ _ _ h => h) (Or.inl ⟨by rfl, ?_⟩) (by assumption) ?_
       rotate_left
       · (intro w hSw; (try dsimp only at hSw); go_simp; try with_reducible rfl)
       try simp only [Act.put, sia, sc0, scs]
       refine wpAnyH_take (i := 4) (v := ?_) rfl (by kernel_rfl) (by kernel_rfl) (by kernel_rfl) (fun _ _ _ h => h) (Or.inl ⟨by rfl, ?_⟩) (by assumption) ?_
       rotate_left
       · (intro w hSw; (try dsimp only at hSw); go_simp; try with_reducible rfl)
       try simp only [Act.put, sia, sc0, scs]
       refine wpAnyH_take (i := 9) (v := ?_) rfl (by kernel_rfl) (by kernel_rfl) (by kernel_rfl) (fun _ _ _ h => h) (Or.inl ⟨by rfl, ?_⟩) (by assumption) ?_
       rotate_left
       · (intro w hSw; (try dsimp only at hSw); go_simp; try with_reducible rfl)
       try simp only [Act.put, sia, sc0, scs]
       refine wpAnyH_take (i := 10) (v := ?_) rfl (by kernel_rfl) (by kernel_rfl) (by kernel_rfl) (fun _ _ _ h => h) (Or.inl ⟨by rfl, ?_⟩) (by assumption) ?_
       rotate_left
       · (intro w hSw; (try dsimp only at hSw); go_simp; try with_reducible rfl)
       try simp only [Act.put, sia, sc0, scs]
       refine wpAnyH_take (i := 11) (v := ?_) rfl (by kernel_rfl) (by kernel_rfl) (by kernel_rfl) (fun _ _ _ h => h) (Or.inl ⟨by rfl, ?_⟩) (by assumption) ?_
       rotate_left
       · (intro w hSw; (try dsimp only at hSw); go_simp; try with_reducible rfl)
       try simp only [Act.put, sia, sc0, scs]
       refine wpAnyH_ready (rs := [5, 8]) (by kernel_rfl) (by simp) ?_
       refine AllReadyH.cons rfl (fun K hK => ?_) ?_
       · go_simp
         refine (HD.out _).mono ?_
         rintro e w2 ⟨rfl, rfl⟩
         go_simp
         refine hK.out _ _ ?_ (fun hHeld => ?_)
         · (try dsimp only); go_keep
         clear hK K
         try simp only [Act.put, sia, sc0, scs]
         refine wpAnyH_take (i := 6) (v := ?_) rfl (by kernel_rfl) (by kernel_rfl) (by kernel_rfl) (fun _ _ _ h => h) (Or.inl ⟨by rfl, ?_⟩) (by assumption) ?_
         rotate_left
         · (intro w hSw; (try dsimp only at hSw); go_simp; try with_reducible rfl)
         try simp only [Act.put, sia, sc0, scs]
         refine wpAnyH_take (i := 7) (v := ?_) rfl (by kernel_rfl) (by kernel_rfl) (by kernel_rfl) (fun _ _ _ h => h) (Or.inl ⟨by rfl, ?_⟩) (by assumption) ?_
         rotate_left
         · (intro w hSw; (try dsimp only at hSw); go_simp; try with_reducible rfl)
         try simp only [Act.put, sia, sc0, scs]
         refine wpAnyH_ready (rs := [8]) (by kernel_rfl) (by simp) ?_
         refine AllReadyH.cons rfl (fun K hK => ?_) ?_
         · go_simp
           refine hK.out _ _ ?_ (fun hHeld => ?_)
           · (try dsimp only); go_keep
           clear hK K
           try simp only [Act.put, sia, sc0, scs]
           refine wpAnyH_take (i := 12) (v := ?_) rfl (by kernel_rfl) (by kernel_rfl) (by kernel_rfl) (fun _ _ _ h => h) (Or.inl ⟨by rfl, ?_⟩) (by assumption) ?_
           rotate_left
           · (intro w hSw; (try dsimp only at hSw); go_simp; try with_reducible rfl)
           try simp only [Act.put, sia, sc0, scs]
           refine wpAnyH_ready (rs := [13]) (by kernel_rfl) (by simp) ?_
           refine AllReadyH.cons rfl (fun K hK => ?_) ?_
           · go_simp
             refine hK.out _ _ ?_ (fun hHeld => ?_)
             · (try dsimp only); go_keep
             clear hK K
             try simp only [Act.put, sia, sc0, scs]
             refine wpAnyH_take (i := 14) (v := ?_) rfl (by kernel_rfl) (by kernel_rfl) (by kernel_rfl) (fun _ _ _ h => h) (Or.inl ⟨by rfl, ?_⟩) (by assumption) ?_
             rotate_left
             · (intro w hSw; (try dsimp only at hSw); go_simp; try with_reducible rfl)
             try simp only [Act.put, sia, sc0, scs]
             refine wpAnyH_take (i := 15) (v := ?_) rfl (by kernel_rfl) (by kernel_rfl) (by kernel_rfl) (fun _ _ _ h => h) (Or.inl ⟨by rfl, ?_⟩) (by assumption) ?_
             rotate_left
             · (intro w hSw; (try dsimp only at hSw); go_simp; try with_reducible rfl)
             try simp only [Act.put, sia, sc0, scs]
             refine wpAnyH_done (by kernel_rfl) ?_ _
             simp [Act.put]
             go_wp2_with fail
             go_ret
             exact ⟨by rw [← HTX.out, ← hsg]; simp [So.cmpW], (HW0.out.trans (((Below.refl _ _).alloc (lR _) _).mono HW0.out.size)).drew⟩
           exact AllReadyH.nil
         exact AllReadyH.nil
       refine AllReadyH.cons rfl (fun K hK => ?_) ?_
       · go_simp
         refine hK.out _ _ ?_ (fun hHeld => ?_)
         · (try dsimp only); go_keep
         clear hK K
         try simp only [Act.put, sia, sc0, scs]
         refine wpAnyH_take (i := 12) (v := ?_) rfl (by kernel_rfl) (by kernel_rfl) (by kernel_rfl) (fun _ _ _ h => h) (Or.inl ⟨by rfl, ?_⟩) (by assumption) ?_
         rotate_left
         · (intro w hSw; (try dsimp only at hSw); go_simp; try with_reducible rfl)
         try simp only [Act.put, sia, sc0, scs]
         refine wpAnyH_ready (rs := [5, 13]) (by kernel_rfl) (by simp) ?_
         refine AllReadyH.cons rfl (fun K hK => ?_) ?_
         · go_simp
           refine (HD.out _).mono ?_
           rintro e w2 ⟨rfl, rfl⟩
           go_simp
           refine hK.out _ _ ?_ (fun hHeld => ?_)
           · (try dsimp only); go_keep
           clear hK K
           try simp only [Act.put, sia, sc0, scs]
           refine wpAnyH_take (i := 6) (v := ?_) rfl (by kernel_rfl) (by kernel_rfl) (by kernel_rfl) (fun _ _ _ h => h) (Or.inl ⟨by rfl, ?_⟩) (by assumption) ?_
           rotate_left
           · (intro w hSw; (try dsimp only at hSw); go_simp; try with_reducible rfl)
           try simp only [Act.put, sia, sc0, scs]
           refine wpAnyH_take (i := 7) (v := ?_) rfl (by kernel_rfl) (by kernel_rfl) (by kernel_rfl) (fun _ _ _ h => h) (Or.inl ⟨by rfl, ?_⟩) (by assumption) ?_
           rotate_left
           · (intro w hSw; (try dsimp only at hSw); go_simp; try with_reducible rfl)
           try simp only [Act.put, sia, sc0, scs]
           refine wpAnyH_ready (rs := [13]) (by kernel_rfl) (by simp) ?_
           refine AllReadyH.cons rfl (fun K hK => ?_) ?_
           · go_simp
             refine hK.out _ _ ?_ (fun hHeld => ?_)
             · (try dsimp only); go_keep
             clear hK K
             try simp only [Act.put, sia, sc0, scs]
             refine wpAnyH_take (i := 14) (v := ?_) rfl (by kernel_rfl) (by kernel_rfl) (by kernel_rfl) (fun _ _ _ h => h) (Or.inl ⟨by rfl, ?_⟩) (by assumption) ?_
             rotate_left
             · (intro w hSw; (try dsimp only at hSw); go_simp; try with_reducible rfl)
             try simp only [Act.put, sia, sc0, scs]
             refine wpAnyH_take (i := 15) (v := ?_) rfl (by kernel_rfl) (by kernel_rfl) (by kernel_rfl) (fun _ _ _ h => h) (Or.inl ⟨by rfl, ?_⟩) (by assumption) ?_
             rotate_left
             · (intro w hSw; (try dsimp only at hSw); go_simp; try with_reducible rfl)
             try simp only [Act.put, sia, sc0, scs]
             refine wpAnyH_done (by kernel_rfl) ?_ _
             simp [Act.put]
             go_wp2_with fail
             go_ret
             exact ⟨by rw [← HTX.out, ← hsg]; simp [So.cmpW], (HW0.out.trans (((Below.refl _ _).alloc (lR _) _).mono HW0.out.size)).drew⟩
           exact AllReadyH.nil
         refine AllReadyH.cons rfl (fun K hK => ?_) ?_
         · go_simp
           refine hK.out _ _ ?_ (fun hHeld => ?_)
           · (try dsimp only); go_keep
           clear hK K
           try simp only [Act.put, sia, sc0, scs]
           refine wpAnyH_ready (rs := [5]) (by kernel_rfl) (by simp) ?_
           refine AllReadyH.cons rfl (fun K hK => ?_) ?_
           · go_simp
             refine (HD.out _).mono ?_
             rintro e w2 ⟨rfl, rfl⟩
             go_simp
             refine hK.out _ _ ?_ (fun hHeld => ?_)
             · (try dsimp only); go_keep
             clear hK K
             try simp only [Act.put, sia, sc0, scs]
             refine wpAnyH_take (i := 6) (v := ?_) rfl (by kernel_rfl) (by kernel_rfl) (by kernel_rfl) (fun _ _ _ h => h) (Or.inl ⟨by rfl, ?_⟩) (by assumption) ?_
             rotate_left
             · (intro w hSw; (try dsimp only at hSw); go_simp; try with_reducible rfl)
             try simp only [Act.put, sia, sc0, scs]
             refine wpAnyH_take (i := 7) (v := ?_) rfl (by kernel_rfl) (by kernel_rfl) (by kernel_rfl) (fun _ _ _ h => h) (Or.inl ⟨by rfl, ?_⟩) (by assumption) ?_
             rotate_left
             · (intro w hSw; (try dsimp only at hSw); go_simp; try with_reducible rfl)
             try simp only [Act.put, sia, sc0, scs]
             refine wpAnyH_take (i := 14) (v := ?_) rfl (by kernel_rfl) (by kernel_rfl) (by kernel_rfl) (fun _ _ _ h => h) (Or.inl ⟨by rfl, ?_⟩) (by assumption) ?_
             rotate_left
             · (intro w hSw; (try dsimp only at hSw); go_simp; try with_reducible rfl)
             try simp only [Act.put, sia, sc0, scs]
             refine wpAnyH_take (i := 15) (v := ?_) rfl (by kernel_rfl) (by kernel_rfl) (by kernel_rfl) (fun _ _ _ h => h) (Or.inl ⟨by rfl, ?_⟩) (by assumption) ?_
             rotate_left
             · (intro w hSw; (try dsimp only at hSw); go_simp; try with_reducible rfl)
             try simp only [Act.put, sia, sc0, scs]
             refine wpAnyH_done (by kernel_rfl) ?_ _
             simp [Act.put]
             go_wp2_with fail
             go_ret
             exact ⟨by rw [← HTX.out, ← hsg]; simp [So.cmpW], (HW0.out.trans (((Below.refl _ _).alloc (lR _) _).mono HW0.out.size)).drew⟩
           exact AllReadyH.nil
         exact AllReadyH.nil
       exact AllReadyH.nil
     · obtain rfl : ci = 5 := by rw [← hci]; rfl
       have hwk : IntKind.i64.wrap 4 = 4 := by rw [IntKind.wrap_i64]; omega
       have f1 : ¬ 9223372036854775807 < name.length + 1 := by omega
       have f2 : ¬ 9223372036854775807 < name.length + 1 + dm.length := by omega
       have f3 : ¬ 9223372036854775807 < name.length + (dm.length + 1) + 1 := by omega
       have f4 : ¬ 9223372036854775807 < name.length + (dm.length + 1 + 1) + 5 := by omega
       have f5 : ¬ 9223372036854775807 < name.length + (dm.length + 2) + 5 := by omega
       go_enter Tryz.func47, Tryz.ntmps47
       go_wp2_with fail
       refine wp_region_held_drew (S := fun w' => w'.cell? ⟨w.heap.size, 1, none⟩ = some (vs name) ∧ w'.cell? ⟨w.heap.size, 2, none⟩ = some (.int .i64 5) ∧ w'.cell? ⟨w.heap.size, 3, none⟩ = some (.int .i64 m)) (by kernel_rfl) (by go_keep) (fun hHeld => ?_)
       refine wpAnyH_take (i := 0) (v := ?_) rfl (by kernel_rfl) (by kernel_rfl) (by kernel_rfl) (fun _ _ _ h => h) (Or.inl ⟨by rfl, ?_⟩) (by assumption) ?_
       rotate_left
       · (intro w hSw; (try dsimp only at hSw); go_simp; try with_reducible rfl)
       try simp only [Act.put, sia, sc0, scs]
       refine wpAnyH_take (i := 1) (v := ?_) rfl (by kernel_rfl) (by kernel_rfl) (by kernel_rfl) (fun _ _ _ h => h) (Or.inl ⟨by rfl, ?_⟩) (by assumption) ?_
       rotate_left
       · (intro w hSw; (try dsimp only at hSw); go_simp; try with_reducible rfl)
       try simp only [Act.put, sia, sc0, scs]
       refine wpAnyH_take (i := 2) (v := ?_) rfl (by kernel_rfl) (by kernel_rfl) (by kernel_rfl) (fun _ _ _ h => h) (Or.inl ⟨by rfl, ?_⟩) (by assumption) ?_
       rotate_left
       · (intro w hSw; (try dsimp only at hSw); go_simp; try with_reducible rfl)
       try simp only [Act.put, sia, sc0, scs]
       refine wpAnyH_take (i := 3) (v := ?_) rfl (by kernel_rfl) (by kernel_rfl) (by kernel_rfl) (fun _ _ _ h => h) (Or.inl ⟨by rfl, ?_⟩) (by assumption) ?_
       rotate_left
       · (intro w hSw; (try dsimp only at hSw); go_simp; try with_reducible rfl)
       try simp only [Act.put, sia, sc0, scs]
       refine wpAnyH_take (i := 4) (v := ?_) rfl (by kernel_rfl) (by kernel_rfl) (by kernel_rfl) (fun _ _ _ h => h) (Or.inl ⟨by rfl, ?_⟩) (by assumption) ?_
       rotate_left
       · (intro w hSw; (try dsimp only at hSw); go_simp; try with_reducible rfl)
       try simp only [Act.put, sia, sc0, scs]
       refine wpAnyH_take (i := 9) (v := ?_) rfl (by kernel_rfl) (by kernel_rfl) (by kernel_rfl) (fun _ _ _ h => h) (Or.inl ⟨by rfl, ?_⟩) (by assumption) ?_
       rotate_left
       · (intro w hSw; (try dsimp only at hSw); go_simp; try with_reducible rfl)
       try simp only [Act.put, sia, sc0, scs]
       refine wpAnyH_take (i := 10) (v := ?_) rfl (by kernel_rfl) (by kernel_rfl) (by kernel_rfl) (fun _ _ _ h => h) (Or.inl ⟨by rfl, ?_⟩) (by assumption) ?_
       rotate_left
       · (intro w hSw; (try dsimp only at hSw); go_simp; try with_reducible rfl)
       try simp only [Act.put, sia, sc0, scs]
       refine wpAnyH_take (i := 11) (v := ?_) rfl (by kernel_rfl) (by kernel_rfl) (by kernel_rfl) (fun _ _ _ h => h) (Or.inl ⟨by rfl, ?_⟩) (by assumption) ?_
       rotate_left
       · (intro w hSw; (try dsimp only at hSw); go_simp; try with_reducible rfl)
       try simp only [Act.put, sia, sc0, scs]
       refine wpAnyH_ready (rs := [5, 8]) (by kernel_rfl) (by simp) ?_
       refine AllReadyH.cons rfl (fun K hK => ?_) ?_
       · go_simp
         refine (HD.out _).mono ?_
         rintro e w2 ⟨rfl, rfl⟩
         go_simp
         refine hK.out _ _ ?_ (fun hHeld => ?_)
         · (try dsimp only); go_keep
         clear hK K
         try simp only [Act.put, sia, sc0, scs]
         refine wpAnyH_take (i := 6) (v := ?_) rfl (by kernel_rfl) (by kernel_rfl) (by kernel_rfl) (fun _ _ _ h => h) (Or.inl ⟨by rfl, ?_⟩) (by assumption) ?_
         rotate_left
         · (intro w hSw; (try dsimp only at hSw); go_simp; try with_reducible rfl)
         try simp only [Act.put, sia, sc0, scs]
         refine wpAnyH_take (i := 7) (v := ?_) rfl (by kernel_rfl) (by kernel_rfl) (by kernel_rfl) (fun _ _ _ h => h) (Or.inl ⟨by rfl, ?_⟩) (by assumption) ?_
         rotate_left
         · (intro w hSw; (try dsimp only at hSw); go_simp; try with_reducible rfl)
         try simp only [Act.put, sia, sc0, scs]
         refine wpAnyH_ready (rs := [8]) (by kernel_rfl) (by simp) ?_
         refine AllReadyH.cons rfl (fun K hK => ?_) ?_
         · go_simp
           refine hK.out _ _ ?_ (fun hHeld => ?_)
           · (try dsimp only); go_keep
           clear hK K
           try simp only [Act.put, sia, sc0, scs]
           refine wpAnyH_take (i := 12) (v := ?_) rfl (by kernel_rfl) (by kernel_rfl) (by kernel_rfl) (fun _ _ _ h => h) (Or.inl ⟨by rfl, ?_⟩) (by assumption) ?_
           rotate_left
           · (intro w hSw; (try dsimp only at hSw); go_simp; try with_reducible rfl)
           try simp only [Act.put, sia, sc0, scs]
           refine wpAnyH_ready (rs := [13]) (by kernel_rfl) (by simp) ?_
           refine AllReadyH.cons rfl (fun K hK => ?_) ?_
           · go_simp
             refine hK.out _ _ ?_ (fun hHeld => ?_)
             · (try dsimp only); go_keep
             clear hK K
             try simp only [Act.put, sia, sc0, scs]
             refine wpAnyH_take (i := 14) (v := ?_) rfl (by kernel_rfl) (by kernel_rfl) (by kernel_rfl) (fun _ _ _ h => h) (Or.inl ⟨by rfl, ?_⟩) (by assumption) ?_
             rotate_left
             · (intro w hSw; (try dsimp only at hSw); go_simp; try with_reducible rfl)
             try simp only [Act.put, sia, sc0, scs]
             refine wpAnyH_take (i := 15) (v := ?_) rfl (by kernel_rfl) (by kernel_rfl) (by kernel_rfl) (fun _ _ _ h => h) (Or.inl ⟨by rfl, ?_⟩) (by assumption) ?_
             rotate_left
             · (intro w hSw; (try dsimp only at hSw); go_simp; try with_reducible rfl)
             try simp only [Act.put, sia, sc0, scs]
             refine wpAnyH_done (by kernel_rfl) ?_ _
             simp [Act.put]
             go_wp2_with fail
             go_ret
             exact ⟨by rw [← HTX.out, ← hsg]; simp [So.cmpW], (HW0.out.trans (((Below.refl _ _).alloc (lR _) _).mono HW0.out.size)).drew⟩
           exact AllReadyH.nil
         exact AllReadyH.nil
       refine AllReadyH.cons rfl (fun K hK => ?_) ?_
       · go_simp
         refine hK.out _ _ ?_ (fun hHeld => ?_)
         · (try dsimp only); go_keep
         clear hK K
         try simp only [Act.put, sia, sc0, scs]
         refine wpAnyH_take (i := 12) (v := ?_) rfl (by kernel_rfl) (by kernel_rfl) (by kernel_rfl) (fun _ _ _ h => h) (Or.inl ⟨by rfl, ?_⟩) (by assumption) ?_
         rotate_left
         · (intro w hSw; (try dsimp only at hSw); go_simp; try with_reducible rfl)
         try simp only [Act.put, sia, sc0, scs]
         refine wpAnyH_ready (rs := [5, 13]) (by kernel_rfl) (by simp) ?_
         refine AllReadyH.cons rfl (fun K hK => ?_) ?_
         · go_simp
           refine (HD.out _).mono ?_
           rintro e w2 ⟨rfl, rfl⟩
           go_simp
           refine hK.out _ _ ?_ (fun hHeld => ?_)
           · (try dsimp only); go_keep
           clear hK K
           try simp only [Act.put, sia, sc0, scs]
           refine wpAnyH_take (i := 6) (v := ?_) rfl (by kernel_rfl) (by kernel_rfl) (by kernel_rfl) (fun _ _ _ h => h) (Or.inl ⟨by rfl, ?_⟩) (by assumption) ?_
           rotate_left
           · (intro w hSw; (try dsimp only at hSw); go_simp; try with_reducible rfl)
           try simp only [Act.put, sia, sc0, scs]
           refine wpAnyH_take (i := 7) (v := ?_) rfl (by kernel_rfl) (by kernel_rfl) (by kernel_rfl) (fun _ _ _ h => h) (Or.inl ⟨by rfl, ?_⟩) (by assumption) ?_
           rotate_left
           · (intro w hSw; (try dsimp only at hSw); go_simp; try with_reducible rfl)
           try simp only [Act.put, sia, sc0, scs]
           refine wpAnyH_ready (rs := [13]) (by kernel_rfl) (by simp) ?_
           refine AllReadyH.cons rfl (fun K hK => ?_) ?_
           · go_simp
             refine hK.out _ _ ?_ (fun hHeld => ?_)
             · (try dsimp only); go_keep
             clear hK K
             try simp only [Act.put, sia, sc0, scs]
             refine wpAnyH_take (i := 14) (v := ?_) rfl (by kernel_rfl) (by kernel_rfl) (by kernel_rfl) (fun _ _ _ h => h) (Or.inl ⟨by rfl, ?_⟩) (by assumption) ?_
             rotate_left
             · (intro w hSw; (try dsimp only at hSw); go_simp; try with_reducible rfl)
             try simp only [Act.put, sia, sc0, scs]
             refine wpAnyH_take (i := 15) (v := ?_) rfl (by kernel_rfl) (by kernel_rfl) (by kernel_rfl) (fun _ _ _ h => h) (Or.inl ⟨by rfl, ?_⟩) (by assumption) ?_
             rotate_left
             · (intro w hSw; (try dsimp only at hSw); go_simp; try with_reducible rfl)
             try simp only [Act.put, sia, sc0, scs]
             refine wpAnyH_done (by kernel_rfl) ?_ _
             simp [Act.put]
             go_wp2_with fail
             go_ret
             exact ⟨by rw [← HTX.out, ← hsg]; simp [So.cmpW], (HW0.out.trans (((Below.refl _ _).alloc (lR _) _).mono HW0.out.size)).drew⟩
           exact AllReadyH.nil
         refine AllReadyH.cons rfl (fun K hK => ?_) ?_
         · go_simp
           refine hK.out _ _ ?_ (fun hHeld => ?_)
           · (try dsimp only); go_keep
           clear hK K
           try simp only [Act.put, sia, sc0, scs]
           refine wpAnyH_ready (rs := [5]) (by kernel_rfl) (by simp) ?_
           refine AllReadyH.cons rfl (fun K hK => ?_) ?_
           · go_simp
             refine (HD.out _).mono ?_
             rintro e w2 ⟨rfl, rfl⟩
             go_simp
             refine hK.out _ _ ?_ (fun hHeld => ?_)
             · (try dsimp only); go_keep
             clear hK K
             try simp only [Act.put, sia, sc0, scs]
             refine wpAnyH_take (i := 6) (v := ?_) rfl (by kernel_rfl) (by kernel_rfl) (by kernel_rfl) (fun _ _ _ h => h) (Or.inl ⟨by rfl, ?_⟩) (by assumption) ?_
             rotate_left
             · (intro w hSw; (try dsimp only at hSw); go_simp; try with_reducible rfl)
             try simp only [Act.put, sia, sc0, scs]
             refine wpAnyH_take (i := 7) (v := ?_) rfl (by kernel_rfl) (by kernel_rfl) (by kernel_rfl) (fun _ _ _ h => h) (Or.inl ⟨by rfl, ?_⟩) (by assumption) ?_
             rotate_left
             · (intro w hSw; (try dsimp only at hSw); go_simp; try with_reducible rfl)
             try simp only [Act.put, sia, sc0, scs]
             refine wpAnyH_take (i := 14) (v := ?_) rfl (by kernel_rfl) (by kernel_rfl) (by kernel_rfl) (fun _ _ _ h => h) (Or.inl ⟨by rfl, ?_⟩) (by assumption) ?_
             rotate_left
             · (intro w hSw; (try dsimp only at hSw); go_simp; try with_reducible rfl)
             try simp only [Act.put, sia, sc0, scs]
             refine wpAnyH_take (i := 15) (v := ?_) rfl (by kernel_rfl) (by kernel_rfl) (by kernel_rfl) (fun _ _ _ h => h) (Or.inl ⟨by rfl, ?_⟩) (by assumption) ?_
             rotate_left
             · (intro w hSw; (try dsimp only at hSw); go_simp; try with_reducible rfl)
             try simp only [Act.put, sia, sc0, scs]
             refine wpAnyH_done (by kernel_rfl) ?_ _
             simp [Act.put]
             go_wp2_with fail
             go_ret
             exact ⟨by rw [← HTX.out, ← hsg]; simp [So.cmpW], (HW0.out.trans (((Below.refl _ _).alloc (lR _) _).mono HW0.out.size)).drew⟩
           exact AllReadyH.nil
         exact AllReadyH.nil
       exact AllReadyH.nil
     · obtain rfl : ci = 6 := by rw [← hci]; rfl
       have hwk : IntKind.i64.wrap 5 = 5 := by rw [IntKind.wrap_i64]; omega
       have f1 : ¬ 9223372036854775807 < name.length + 1 := by omega
       have f2 : ¬ 9223372036854775807 < name.length + 1 + dm.length := by omega
       have f3 : ¬ 9223372036854775807 < name.length + (dm.length + 1) + 1 := by omega
       have f4 : ¬ 9223372036854775807 < name.length + (dm.length + 1 + 1) + 5 := by omega
       have f5 : ¬ 9223372036854775807 < name.length + (dm.length + 2) + 5 := by omega
       go_enter Tryz.func47, Tryz.ntmps47
       go_wp2_with fail
       refine wp_region_held_drew (S := fun w' => w'.cell? ⟨w.heap.size, 1, none⟩ = some (vs name) ∧ w'.cell? ⟨w.heap.size, 2, none⟩ = some (.int .i64 6) ∧ w'.cell? ⟨w.heap.size, 3, none⟩ = some (.int .i64 m)) (by kernel_rfl) (by go_keep) (fun hHeld => ?_)
       refine wpAnyH_take (i := 0) (v := ?_) rfl (by kernel_rfl) (by kernel_rfl) (by kernel_rfl) (fun _ _ _ h => h) (Or.inl ⟨by rfl, ?_⟩) (by assumption) ?_
       rotate_left
       · (intro w hSw; (try dsimp only at hSw); go_simp; try with_reducible rfl)
       try simp only [Act.put, sia, sc0, scs]
       refine wpAnyH_take (i := 1) (v := ?_) rfl (by kernel_rfl) (by kernel_rfl) (by kernel_rfl) (fun _ _ _ h => h) (Or.inl ⟨by rfl, ?_⟩) (by assumption) ?_
       rotate_left
       · (intro w hSw; (try dsimp only at hSw); go_simp; try with_reducible rfl)
       try simp only [Act.put, sia, sc0, scs]
       refine wpAnyH_take (i := 2) (v := ?_) rfl (by kernel_rfl) (by kernel_rfl) (by kernel_rfl) (fun _ _ _ h => h) (Or.inl ⟨by rfl, ?_⟩) (by assumption) ?_
       rotate_left
       · (intro w hSw; (try dsimp only at hSw); go_simp; try with_reducible rfl)
       try simp only [Act.put, sia, sc0, scs]
       refine wpAnyH_take (i := 3) (v := ?_) rfl (by kernel_rfl) (by kernel_rfl) (by kernel_rfl) (fun _ _ _ h => h) (Or.inl ⟨by rfl, ?_⟩) (by assumption) ?_
       rotate_left
       · (intro w hSw; (try dsimp only at hSw); go_simp; try with_reducible rfl)
       try simp only [Act.put, sia, sc0, scs]
       refine wpAnyH_take (i := 4) (v := ?_) rfl (by kernel_rfl) (by kernel_rfl) (by kernel_rfl) (fun _ _ _ h => h) (Or.inl ⟨by rfl, ?_⟩) (by assumption) ?_
       rotate_left
       · (intro w hSw; (try dsimp only at hSw); go_simp; try with_reducible rfl)
       try simp only [Act.put, sia, sc0, scs]
       refine wpAnyH_take (i := 9) (v := ?_) rfl (by kernel_rfl) (by kernel_rfl) (by kernel_rfl) (fun _ _ _ h => h) (Or.inl ⟨by rfl, ?_⟩) (by assumption) ?_
       rotate_left
       · (intro w hSw; (try dsimp only at hSw); go_simp; try with_reducible rfl)
       try simp only [Act.put, sia, sc0, scs]
       refine wpAnyH_take (i := 10) (v := ?_) rfl (by kernel_rfl) (by kernel_rfl) (by kernel_rfl) (fun _ _ _ h => h) (Or.inl ⟨by rfl, ?_⟩) (by assumption) ?_
       rotate_left
       · (intro w hSw; (try dsimp only at hSw); go_simp; try with_reducible rfl)
       try simp only [Act.put, sia, sc0, scs]
       refine wpAnyH_take (i := 11) (v := ?_) rfl (by kernel_rfl) (by kernel_rfl) (by kernel_rfl) (fun _ _ _ h => h) (Or.inl ⟨by rfl, ?_⟩) (by assumption) ?_
       rotate_left
       · (intro w hSw; (try dsimp only at hSw); go_simp; try with_reducible rfl)
       try simp only [Act.put, sia, sc0, scs]
       refine wpAnyH_ready (rs := [5, 8]) (by kernel_rfl) (by simp) ?_
       refine AllReadyH.cons rfl (fun K hK => ?_) ?_
       · go_simp
         refine (HD.out _).mono ?_
         rintro e w2 ⟨rfl, rfl⟩
         go_simp
         refine hK.out _ _ ?_ (fun hHeld => ?_)
         · (try dsimp only); go_keep
         clear hK K
         try simp only [Act.put, sia, sc0, scs]
         refine wpAnyH_take (i := 6) (v := ?_) rfl (by kernel_rfl) (by kernel_rfl) (by kernel_rfl) (fun _ _ _ h => h) (Or.inl ⟨by rfl, ?_⟩) (by assumption) ?_
         rotate_left
         · (intro w hSw; (try dsimp only at hSw); go_simp; try with_reducible rfl)
         try simp only [Act.put, sia, sc0, scs]
         refine wpAnyH_take (i := 7) (v := ?_) rfl (by kernel_rfl) (by kernel_rfl) (by kernel_rfl) (fun _ _ _ h => h) (Or.inl ⟨by rfl, ?_⟩) (by assumption) ?_
         rotate_left
         · (intro w hSw; (try dsimp only at hSw); go_simp; try with_reducible rfl)
         try simp only [Act.put, sia, sc0, scs]
         refine wpAnyH_ready (rs := [8]) (by kernel_rfl) (by simp) ?_
         refine AllReadyH.cons rfl (fun K hK => ?_) ?_
         · go_simp
           refine hK.out _ _ ?_ (fun hHeld => ?_)
           · (try dsimp only); go_keep
           clear hK K
           try simp only [Act.put, sia, sc0, scs]
           refine wpAnyH_take (i := 12) (v := ?_) rfl (by kernel_rfl) (by kernel_rfl) (by kernel_rfl) (fun _ _ _ h => h) (Or.inl ⟨by rfl, ?_⟩) (by assumption) ?_
           rotate_left
           · (intro w hSw; (try dsimp only at hSw); go_simp; try with_reducible rfl)
           try simp only [Act.put, sia, sc0, scs]
           refine wpAnyH_ready (rs := [13]) (by kernel_rfl) (by simp) ?_
           refine AllReadyH.cons rfl (fun K hK => ?_) ?_
           · go_simp
             refine hK.out _ _ ?_ (fun hHeld => ?_)
             · (try dsimp only); go_keep
             clear hK K
             try simp only [Act.put, sia, sc0, scs]
             refine wpAnyH_take (i := 14) (v := ?_) rfl (by kernel_rfl) (by kernel_rfl) (by kernel_rfl) (fun _ _ _ h => h) (Or.inl ⟨by rfl, ?_⟩) (by assumption) ?_
             rotate_left
             · (intro w hSw; (try dsimp only at hSw); go_simp; try with_reducible rfl)
             try simp only [Act.put, sia, sc0, scs]
             refine wpAnyH_take (i := 15) (v := ?_) rfl (by kernel_rfl) (by kernel_rfl) (by kernel_rfl) (fun _ _ _ h => h) (Or.inl ⟨by rfl, ?_⟩) (by assumption) ?_
             rotate_left
             · (intro w hSw; (try dsimp only at hSw); go_simp; try with_reducible rfl)
             try simp only [Act.put, sia, sc0, scs]
             refine wpAnyH_done (by kernel_rfl) ?_ _
             simp [Act.put]
             go_wp2_with fail
             go_ret
             exact ⟨by rw [← HTX.out, ← hsg]; simp [So.cmpW], (HW0.out.trans (((Below.refl _ _).alloc (lR _) _).mono HW0.out.size)).drew⟩
           exact AllReadyH.nil
         exact AllReadyH.nil
       refine AllReadyH.cons rfl (fun K hK => ?_) ?_
       · go_simp
         refine hK.out _ _ ?_ (fun hHeld => ?_)
         · (try dsimp only); go_keep
         clear hK K
         try simp only [Act.put, sia, sc0, scs]
         refine wpAnyH_take (i := 12) (v := ?_) rfl (by kernel_rfl) (by kernel_rfl) (by kernel_rfl) (fun _ _ _ h => h) (Or.inl ⟨by rfl, ?_⟩) (by assumption) ?_
         rotate_left
         · (intro w hSw; (try dsimp only at hSw); go_simp; try with_reducible rfl)
         try simp only [Act.put, sia, sc0, scs]
         refine wpAnyH_ready (rs := [5, 13]) (by kernel_rfl) (by simp) ?_
         refine AllReadyH.cons rfl (fun K hK => ?_) ?_
         · go_simp
           refine (HD.out _).mono ?_
           rintro e w2 ⟨rfl, rfl⟩
           go_simp
           refine hK.out _ _ ?_ (fun hHeld => ?_)
           · (try dsimp only); go_keep
           clear hK K
           try simp only [Act.put, sia, sc0, scs]
           refine wpAnyH_take (i := 6) (v := ?_) rfl (by kernel_rfl) (by kernel_rfl) (by kernel_rfl) (fun _ _ _ h => h) (Or.inl ⟨by rfl, ?_⟩) (by assumption) ?_
           rotate_left
           · (intro w hSw; (try dsimp only at hSw); go_simp; try with_reducible rfl)
           try simp only [Act.put, sia, sc0, scs]
           refine wpAnyH_take (i := 7) (v := ?_) rfl (by kernel_rfl) (by kernel_rfl) (by kernel_rfl) (fun _ _ _ h => h) (Or.inl ⟨by rfl, ?_⟩) (by assumption) ?_
           rotate_left
           · (intro w hSw; (try dsimp only at hSw); go_simp; try with_reducible rfl)
           try simp only [Act.put, sia, sc0, scs]
           refine wpAnyH_ready (rs := [13]) (by kernel_rfl) (by simp) ?_
           refine AllReadyH.cons rfl (fun K hK => ?_) ?_
           · go_simp
             refine hK.out _ _ ?_ (fun hHeld => ?_)
             · (try dsimp only); go_keep
             clear hK K
             try simp only [Act.put, sia, sc0, scs]
             refine wpAnyH_take (i := 14) (v := ?_) rfl (by kernel_rfl) (by kernel_rfl) (by kernel_rfl) (fun _ _ _ h => h) (Or.inl ⟨by rfl, ?_⟩) (by assumption) ?_
             rotate_left
             · (intro w hSw; (try dsimp only at hSw); go_simp; try with_reducible rfl)
             try simp only [Act.put, sia, sc0, scs]
             refine wpAnyH_take (i := 15) (v := ?_) rfl (by kernel_rfl) (by kernel_rfl) (by kernel_rfl) (fun _ _ _ h => h) (Or.inl ⟨by rfl, ?_⟩) (by assumption) ?_
             rotate_left
             · (intro w hSw; (try dsimp only at hSw); go_simp; try with_reducible rfl)
             try simp only [Act.put, sia, sc0, scs]
             refine wpAnyH_done (by kernel_rfl) ?_ _
             simp [Act.put]
             go_wp2_with fail
             go_ret
             exact ⟨by rw [← HTX.out, ← hsg]; simp [So.cmpW], (HW0.out.trans (((Below.refl _ _).alloc (lR _) _).mono HW0.out.size)).drew⟩
           exact AllReadyH.nil
         refine AllReadyH.cons rfl (fun K hK => ?_) ?_
         · go_simp
           refine hK.out _ _ ?_ (fun hHeld => ?_)
           · (try dsimp only); go_keep
           clear hK K
           try simp only [Act.put, sia, sc0, scs]
           refine wpAnyH_ready (rs := [5]) (by kernel_rfl) (by simp) ?_
           refine AllReadyH.cons rfl (fun K hK => ?_) ?_
           · go_simp
             refine (HD.out _).mono ?_
             rintro e w2 ⟨rfl, rfl⟩
             go_simp
             refine hK.out _ _ ?_ (fun hHeld => ?_)
             · (try dsimp only); go_keep
             clear hK K
             try simp only [Act.put, sia, sc0, scs]
             refine wpAnyH_take (i := 6) (v := ?_) rfl (by kernel_rfl) (by kernel_rfl) (by kernel_rfl) (fun _ _ _ h => h) (Or.inl ⟨by rfl, ?_⟩) (by assumption) ?_
             rotate_left
             · (intro w hSw; (try dsimp only at hSw); go_simp; try with_reducible rfl)
             try simp only [Act.put, sia, sc0, scs]
             refine wpAnyH_take (i := 7) (v := ?_) rfl (by kernel_rfl) (by kernel_rfl) (by kernel_rfl) (fun _ _ _ h => h) (Or.inl ⟨by rfl, ?_⟩) (by assumption) ?_
             rotate_left
             · (intro w hSw; (try dsimp only at hSw); go_simp; try with_reducible rfl)
             try simp only [Act.put, sia, sc0, scs]
             refine wpAnyH_take (i := 14) (v := ?_) rfl (by kernel_rfl) (by kernel_rfl) (by kernel_rfl) (fun _ _ _ h => h) (Or.inl ⟨by rfl, ?_⟩) (by assumption) ?_
             rotate_left
             · (intro w hSw; (try dsimp only at hSw); go_simp; try with_reducible rfl)
             try simp only [Act.put, sia, sc0, scs]
             refine wpAnyH_take (i := 15) (v := ?_) rfl (by kernel_rfl) (by kernel_rfl) (by kernel_rfl) (fun _ _ _ h => h) (Or.inl ⟨by rfl, ?_⟩) (by assumption) ?_
             rotate_left
             · (intro w hSw; (try dsimp only at hSw); go_simp; try with_reducible rfl)
             try simp only [Act.put, sia, sc0, scs]
             refine wpAnyH_done (by kernel_rfl) ?_ _
             simp [Act.put]
             go_wp2_with fail
             go_ret
             exact ⟨by rw [← HTX.out, ← hsg]; simp [So.cmpW], (HW0.out.trans (((Below.refl _ _).alloc (lR _) _).mono HW0.out.size)).drew⟩
           exact AllReadyH.nil
         exact AllReadyH.nil
       exact AllReadyH.nil
   · obtain rfl : oi = 4 := by rw [← hoi]; rfl
     have hnl := own_len (by simpa using hn)
     have HTX : Hid (name ++ [32, 100, 101, 102, 105, 110, 101, 100] = T) := Hi (by rw [← HT.out, So.rF]; rfl)
     have f1 : ¬ 9223372036854775807 < name.length + 8 := by omega
     go_enter Tryz.func47, Tryz.ntmps47
     go_wp2_with fail
     go_ret
     exact ⟨by rw [← HTX.out]; first | rfl | (simp; done), HW0.out⟩
   · have hns : ¬ oi = 1 ∧ ¬ oi = 2 ∧ ¬ oi = 3 ∧ ¬ oi = 4 := by omega
     obtain ⟨i1, i2, i3, i4⟩ := hns
     have q1 : (oi == 1) = false := by simpa using i1
     have q2 : (oi == 2) = false := by simpa using i2
     have q3 : (oi == 3) = false := by simpa using i3
     have q4 : (oi == 4) = false := by simpa using i4
     have HOI := Hi hoi
     have HSL : Hid (∀ k, (So.rFs (ks.take k)).length ≤ 90000) := Hi (fun k => Nat.le_trans (sorFs_le ks k) (by have := HLK.out.2.2; omega))
     clear hoi c0 c1 c2 c3 c4
     go_enter Tryz.func47, Tryz.ntmps47
     have c0 := cOb (o := 0) HBX.out rfl
     go_wp2_with fail
     generalize (w.alloc (.cells #[.int .i64 oi, vs name, .int .i64 ci, .int .i64 (m : Int), .slice A1 ks.length p1] 24)) = w0 at *
     go_loopw [3, 4] (fun v3 v4 wr => ∃ k : Nat, k ≤ ks.length ∧ v4 = .int .i64 k ∧ v3 = vs (So.rFs (ks.take k)) ∧ Below w0.heap.size w0 wr) (fun _ v4 _ => ks.length - (intOf v4).toNat)
     case atStart => exact ⟨0, Nat.zero_le _, rfl, by rw [List.take_zero, So.rFs], Below.refl _ _⟩
     case round =>
      obtain ⟨k, hk, rfl, rfl, hb⟩ := hrel
      have e1 := (hb.block _ l0).trans HBX.out
      have d0 : wr.cell? ⟨w.heap.size, 0, none⟩ = some (.int .i64 oi) := cOb (o := 0) e1 rfl
      have d4 : wr.cell? ⟨w.heap.size, 4, none⟩ = some (.slice A1 ks.length p1) := cOb (o := 4) e1 rfl
      have dl := lHp e1
      have HB := Hi (HW0.out.trans (hb.mono HW0.out.size))
      have HBW := Hi hb
      have hacl := HSL.out k
      clear e1 hb
      by_cases hlt : k < ks.length
      · obtain ⟨t, ht⟩ := gLt hlt
        have hne : ups ks ≠ [] := by
         intro e
         have := congrArg List.length e
         rw [ups_len, List.length_nil] at this
         omega
        obtain ⟨bk, ok, rfl, hbk, hkd⟩ := HK.out.resolve_left hne
        obtain ⟨cs', hcs, hrt⟩ := hkd.kids ht
        have hts := size_of_kid ht
        have hsn := sorFs_snoc ht
        have hHC : ∀ wx, Below w.heap.size w wx → Calls Tryz.prog 47 #[.agg cs'.toArray] wx fun e w' => e = .returned (vs (So.rF t)) ∧ Below wx.heap.size wx w' := fun wx hx => IH.out t cs' wx (by omega) (by omega) (shapeFs_get HSH.out ht) (namesFs_kid ht HNR.out) (hrt.keep hx)
        have hXl := (rF_len t (by omega) (shapeFs_get HSH.out ht) (namesFs_kid ht HNR.out)).2
        obtain ⟨X, hX⟩ : ∃ X, So.rF t = X := ⟨_, rfl⟩
        rw [hX] at hHC hXl hsn
        obtain ⟨ac, hac⟩ : ∃ ac, So.rFs (ks.take k) = ac := ⟨_, rfl⟩
        rw [hac] at hsn hacl ⊢
        have HC := Hi hHC
        have HSN := Hi hsn
        have hX900 : X.length ≤ 90000 := by omega
        clear hX hsn hHC hXl hac
        obtain ⟨o1, n1, c1, m1, k1⟩ := t
        rw [up] at hrt
        obtain ⟨B1, q1, rfl, -, -⟩ := hrt
        rw [ups_len] at hcs HC
        obtain ⟨kl, hkl⟩ : ∃ kl, k1.length = kl := ⟨_, rfl⟩
        obtain ⟨i1, hi1⟩ : ∃ i1 : Int, (o1 : Int) = i1 := ⟨_, rfl⟩
        obtain ⟨d1, hd1⟩ : ∃ d1 : Int, (c1 : Int) = d1 := ⟨_, rfl⟩
        obtain ⟨mi, hmi⟩ : ∃ mi : Int, (m1 : Int) = mi := ⟨_, rfl⟩
        have HUP : Hid (tcX true (o1 : Int) n1 (c1 : Int) (m1 : Int) (.slice B1 k1.length q1) = [.int .i64 i1, vs n1, .int .i64 d1, .int .i64 mi, .slice B1 kl q1]) := Hi (by rw [hkl, hi1, hd1, hmi]; rfl)
        rw [HUP.out] at hcs HC
        clear hkl hi1 hd1 hmi
        have z0 : wr.cell? ⟨bk, ok + k * 5, none⟩ = some (.int .i64 i1) := (HB.out.cell (p := ⟨bk, ok + k * 5, none⟩) hbk).trans (hcs 0 _ rfl)
        have z1 : wr.cell? ⟨bk, ok + k * 5 + 1, none⟩ = some (vs n1) := (HB.out.cell (p := ⟨bk, ok + k * 5 + 1, none⟩) hbk).trans (hcs 1 _ rfl)
        have z2 : wr.cell? ⟨bk, ok + k * 5 + 2, none⟩ = some (.int .i64 d1) := (HB.out.cell (p := ⟨bk, ok + k * 5 + 2, none⟩) hbk).trans (hcs 2 _ rfl)
        have z3 : wr.cell? ⟨bk, ok + k * 5 + 3, none⟩ = some (.int .i64 mi) := (HB.out.cell (p := ⟨bk, ok + k * 5 + 3, none⟩) hbk).trans (hcs 3 _ rfl)
        have z4 : wr.cell? ⟨bk, ok + k * 5 + 4, none⟩ = some (.slice B1 kl q1) := (HB.out.cell (p := ⟨bk, ok + k * 5 + 4, none⟩) hbk).trans (hcs 4 _ rfl)
        have hk1 : (k : Int) < ks.length := by omega
        have hk0 : (0 : Int) ≤ k := by omega
        have hbl : bk < wr.heap.size := Nat.lt_of_lt_of_le hbk HB.out.size
        clear hcs hkd hne ht
        have f1 : ¬ 9223372036854775807 < X.length + 1 := by omega
        have f2 : ¬ 9223372036854775807 < ac.length + (X.length + 1) := by omega
        go_wp2_with fail
        refine (HC.out _ HB.out).mono ?_
        rintro e w2 ⟨rfl, hb2⟩
        have HB2 := Hi (HBW.out.trans (hb2.mono HBW.out.size))
        clear hb2
        go_wp2_with fail
        exact ⟨⟨k + 1, by omega, by go_num, by rw [HSN.out], HB2.out⟩, by simp [intOf]; omega⟩
      · have hk' : k = ks.length := by omega
        subst hk'
        have hk1 : ¬ ((ks.length : Nat) : Int) < ks.length := by omega
        rw [List.take_length] at hacl ⊢
        obtain ⟨ac, hac⟩ : ∃ ac, So.rFs ks = ac := ⟨_, rfl⟩
        rw [hac] at hacl ⊢
        have HAC := Hi hac
        have hdl := dec_len (n := ks.length) (by omega)
        have HD : Hid (∀ wx, Calls Tryz.prog 39 #[.int .i64 ks.length] wx fun e w' => e = .returned (vs (dec ks.length)) ∧ wx = w') := Hi (fun wx => rdec_any ks.length wx (by omega))
        obtain ⟨dm, hdm⟩ : ∃ dm, dec ks.length = dm := ⟨_, rfl⟩
        rw [hdm] at HD hdl
        have HDM := Hi hdm
        have f1 : ¬ 9223372036854775807 < ac.length + 4 := by omega
        have f2 : ¬ 9223372036854775807 < ac.length + 4 + dm.length := by omega
        have f3 : ¬ 9223372036854775807 < ac.length + 7 := by omega
        clear hac hdm
        rcases (by omega : op = 5 ∨ op = 6 ∨ op = 7) with rfl | rfl | rfl
        · obtain rfl : oi = 5 := by rw [← HOI.out]; rfl
          have HTT : Hid (ac ++ [110, 101, 103, 97, 116, 101, 100] = T) := Hi (by rw [← HT.out, So.rF, HAC.out]; rfl)
          go_wp2_with fail
          go_ret
          exact ⟨by rw [← HTT.out]; first | rfl | (simp; done), HB.out⟩
        · obtain rfl : oi = 6 := by rw [← HOI.out]; rfl
          have HTT : Hid (ac ++ ([97, 108, 108, 32] ++ dm) = T) := Hi (by rw [← HT.out, So.rF, HAC.out, HDM.out]; rfl)
          go_wp2_with fail
          refine (HD.out _).mono ?_
          rintro e w5 ⟨rfl, rfl⟩
          go_wp2_with fail
          go_ret
          exact ⟨by rw [← HTT.out]; first | rfl | (simp; done), HB.out⟩
        · obtain rfl : oi = 7 := by rw [← HOI.out]; rfl
          have HTT : Hid (ac ++ ([97, 110, 121, 32] ++ dm) = T) := Hi (by rw [← HT.out, So.rF, HAC.out, HDM.out]; rfl)
          go_wp2_with fail
          refine (HD.out _).mono ?_
          rintro e w5 ⟨rfl, rfl⟩
          go_wp2_with fail
          go_ret
          exact ⟨by rw [← HTT.out]; first | rfl | (simp; done), HB.out⟩
end Go.Proofs.YtbicmjmcdnkjhaaGreatDoor
