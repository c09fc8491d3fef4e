/- The statement: both parsers agree. pandectlaw09.SouthMatchesReference: the walk, the row and its tied card. -/
import Derived.Test.YtcekampdldkjlaaGreatDoorJRel
import Derived.Test.YtcekampdldkjlaaGreatDoorJParse
import Derived.Test.YtcekampdldkjlaaGreatDoorRowKit
import Derived.Test.YtcekampdldkjlaaGreatDoorCards
import Derived.Test.YtcekampdldkjlaaGreatDoorTie
set_option linter.unusedVariables false
set_option linter.unusedSimpArgs false
namespace Go.Proofs.YtcekampdldkjlaaGreatDoor
open Go.RowKit
theorem ref_out (l : List UInt8) (w : World) (hl : l.length ≤ 5000) :
    Calls Tryz.prog 6 #[vs l] w fun e w' => Below w.heap.size w w' ∧ ∃ cs : List Value, e = .returned (.tuple #[.agg cs.toArray, .int .i64 (outE l), .int .i64 (outA l)]) ∧ RdProv w.heap.size w' cs (outP l) := by
  refine (rparse_any l w hl).mono ?_
  rintro e w' ⟨hb, hp⟩
  refine ⟨hb, ?_⟩
  cases hlx : lexF l with
  | error x =>
    obtain ⟨er, a⟩ := x
    rw [hlx] at hp
    simp only at hp
    have hne : lexE l ≠ 0 := by unfold lexE; rw [hlx]; exact lexF_err_ne hlx
    obtain ⟨o1, o2, o3⟩ := out_no hne
    have l1 : lexE l = er := by unfold lexE; rw [hlx]
    have l2 : lexA l = a := by unfold lexA; rw [hlx]
    rw [o1, o2, o3, l1, l2, hp]
    exact ⟨zeroL, rfl, zero_rd _ _⟩
  | ok ts =>
    rw [hlx] at hp
    simp only at hp
    have hr := parts_rel (gt_of hlx) l.length
    cases hq : pr ts with
    | error x =>
      obtain ⟨er, s⟩ := x
      rw [hq] at hr
      obtain ⟨h1, h2, h3⟩ := hr
      obtain ⟨o1, o2, o3⟩ := out_err hlx hq
      rw [if_neg (by rw [h1]; exact h2)] at hp
      rw [hp, o1, o2, o3, h1, h3]
      exact ⟨zeroL, rfl, zero_rd _ _⟩
    | ok x =>
      obtain ⟨p, s⟩ := x
      rw [hq] at hr
      obtain ⟨h1, h2⟩ := hr
      obtain ⟨o1, o2, o3⟩ := out_ok hlx hq
      rw [if_pos h2.1] at hp
      obtain ⟨cs, rfl, hrd⟩ := hp
      rw [o1, o2, o3, h1]
      exact ⟨cs, rfl, hrd⟩
set_option maxRecDepth 100000 in
set_option maxHeartbeats 4000000 in
theorem match_any (l : List UInt8) (w : World) (m : Int) (hm : w.cell? ⟨2, 0, none⟩ = some (.int .i64 m)) :
    Calls Tryz.prog 3 #[vs l] w fun e w' => e = .returned (.bool true) ∧ Below w.heap.size w w' := by
  have HM := Lib.hid hm
  clear hm
  go_enter Tryz.func3, Tryz.ntmps3
  go_wp2_with fail
  refine (head_any w m HM.out).mono ?_
  rintro e w1 ⟨rfl, hb1⟩
  have HB1 := Lib.hid hb1
  clear hb1
  by_cases hl : 3000 < l.length
  · have hl' : (3000 : Int) < l.length := by omega
    go_wp2_with fail
    go_ret
    exact ⟨rfl, HB1.out⟩
  have hl' : ¬ (3000 : Int) < l.length := by omega
  go_wp2_with fail
  have HL := Lib.hid hl
  clear hl' hl
  refine (parse_out l _ m (maxc_below HM.out HB1.out)).mono ?_
  rintro e w3 ⟨hb3, cs1, rfl, hr1⟩
  obtain ⟨st1, ld1⟩ := prov_io hr1
  have HB3 : Hid (Below w.heap.size w w3) := Lib.hid (HB1.out.trans (hb3.mono HB1.out.size))
  have HR1 := Lib.hid hr1
  clear hb3 hr1
  have K1 : Hid ((w3.alloc (.cells cs1.toArray 31 (0, 0))).blk w3.heap.size = some (.cells cs1.toArray 31 (0, 0))) := Lib.hid (heap_alloc_new w3 _)
  have hal : Below w3.heap.size w3 (w3.alloc (.cells cs1.toArray 31 (0, 0))) := (Below.refl _ _).alloc (Nat.le_refl _) _
  have HB4 := Lib.hid (HB3.out.alloc HB3.out.size (.cells cs1.toArray 31 (0, 0)))
  have HR4 := Lib.hid (HR1.out.below (n := 0) hal)
  clear hal HR1
  go_wp2_with fail
  clear st1
  generalize w3.alloc (.cells cs1.toArray 31 (0, 0)) = w4 at *
  refine (ref_out l _ (by have := HL.out; omega)).mono ?_
  rintro e w6 ⟨hb6, cs2, rfl, hr6⟩
  obtain ⟨st2, ld2⟩ := prov_io hr6
  have HB6 : Hid (Below w.heap.size w w6) := Lib.hid (HB4.out.trans (hb6.mono HB4.out.size))
  have HR6 := Lib.hid (HR4.out.below (n := 0) hb6)
  have K6 := Lib.hid ((hb6.block _ (lt_of_heap' K1.out)).trans K1.out)
  have HRB := Lib.hid hr6
  clear hb6 HR4 K1 hr6
  have hal : Below w6.heap.size w6 (w6.alloc (.cells cs2.toArray 31 (0, 0))) := (Below.refl _ _).alloc (Nat.le_refl _) _
  have HB7 := Lib.hid (HB6.out.alloc HB6.out.size (.cells cs2.toArray 31 (0, 0)))
  have HR7 := Lib.hid (HR6.out.below (n := 0) hal)
  have HRB7 := Lib.hid (HRB.out.below (n := 0) hal)
  have K7 : (w6.alloc (.cells cs2.toArray 31 (0, 0))).blk w3.heap.size = some (.cells cs1.toArray 31 (0, 0)) := (hal.block _ (lt_of_heap' K6.out)).trans K6.out
  have K8 : (w6.alloc (.cells cs2.toArray 31 (0, 0))).blk w6.heap.size = some (.cells cs2.toArray 31 (0, 0)) := heap_alloc_new w6 _
  clear hal
  obtain ⟨s1, s2, s3, s4, s5⟩ := out_small l
  have HS := Lib.hid (And.intro s1 (And.intro s2 (And.intro s3 (And.intro s4 s5))))
  clear s1 s2 s3 s4 s5
  go_wp2_with fail
  refine (same_any (outP l) _ _ _ _ _ HR7.out HRB7.out HS.out.1 HS.out.2.1 HS.out.2.2.1 HS.out.2.2.2.1 HS.out.2.2.2.2).mono ?_
  rintro e w8 ⟨rfl, hb8⟩
  have HB8 : Hid (Below w.heap.size w w8) := Lib.hid (HB7.out.trans (hb8.mono HB7.out.size))
  clear hb8
  go_wp2_with fail
  go_ret
  exact ⟨rfl, HB8.out⟩
end Go.Proofs.YtcekampdldkjlaaGreatDoor
namespace Go.Proofs.YtcekampdldkjlaaGreatDoor
open Go.ChangeShapes Go.WideShapes Go.ChangeAt Go.RowKit
set_option maxRecDepth 100000 in
theorem southMatchesReference_lifted (os : Os) (started : os.Started) (H : Type) (enc : TypeId × Value → H) :
    ReturnsInHanded {} Tryz.checked os 3 .any (fun w args => (Rows.southMatchesReferenceSpec.pre enc Tryz.prog Tryz.f3 [] false w args ∧ laidMetH Tryz.prog Rows.southMatchesReferenceRow.laid w) ∧ sizedMet enc Tryz.prog Tryz.f3 (OpenSpec.ofChange Rows.southMatchesReferenceSpec) false w args)
      (Rows.southMatchesReferenceSpec.post enc Tryz.prog Tryz.f3 false true false false) := by
  refine change_shaped_and (C := Tryz.checked) (X := fun w _ => laidMetH Tryz.prog Rows.southMatchesReferenceRow.laid w) (fun _ _ _ hh h => h.of_heap hh) Tryz.own started (by kernel_rfl) Tryz.func3
    (ChangeSpec.witness_shaped (enc := enc) (C := Tryz.checked) (os := os) (X := fun w _ => laidMetH Tryz.prog Rows.southMatchesReferenceRow.laid w) false (World.doorLaid Tryz.prog 400 os) #[.string ⟨#[]⟩] 8 rfl (World.shaped_of_RefB (by kernel_rfl) (by kernel_rfl)) (by kernel_rfl) (by kernel_rfl) (by kernel_rfl) (door_met os _)) ?_
  intro W base args ds gs before hval0 hW _ _ hL hsh _
  have hval : ∀ (j : Nat) t v, Tryz.f3.params[j]? = some t → args[j]? = some v → Value.okWide Tryz.prog W .any base t v := hval0
  have hW' := hW
  obtain ⟨p, q, hA0, hV, rfl, hfz, hnd⟩ := hW
  have hA : DataW.TrodAll enc Tryz.prog W 0 (fun _ => true) true Tryz.f3.params.toList args.toList ds p := hA0
  rw [Tryz.params3] at hA hval
  obtain ⟨v0, d0, rfl, rfl, h0⟩ := trodAll_one hA
  obtain ⟨rfl, rfl⟩ := trodVars_none hV
  obtain ⟨a0, rfl, rfl, rfl, w0⟩ := Go.ChangeMaps.open_string Tryz.underlying9 (hval 0 9 v0 rfl rfl) h0
  clear hA0 hval0
  simp only [List.append_nil] at hW'
  obtain ⟨m, hm⟩ := maxLen_cell W hsh
  refine (match_any a0.data.toList W m hm).mono fun e W' ⟨he, bel⟩ => ?_
  subst he
  exact ⟨_, rfl, _, _, _, [], [], [], hW', trodAll_mk1 (shut_bool Tryz.underlying4 _), trodAll_mk1 (Go.ChangeMaps.shut_string Tryz.underlying9 w0), rfl, bel.frame _, fun h => by cases h⟩
theorem southMatchesReference_holds : Rows.SouthMatchesReferenceSaid :=
  OpenClaim.holds_of_wide 3 Tryz.f3 rfl rfl rfl rfl rfl rfl rfl ⟨rfl, rfl, rfl, rfl, rfl⟩ rfl rfl rfl rfl rfl (by kernel_rfl) Tryz.func3 (by kernel_rfl)
    (of_decide_eq_true (by kernel_rfl)) (by unfold Func.isWrapper; rw [if_neg (of_decide_eq_false (by kernel_rfl))]; exact ⟨rfl, rfl⟩)
    (fun os started H enc _ => southMatchesReference_lifted os started H enc)
theorem southMatchesReferenceCard_holds : Rows.SouthMatchesReferenceCardSaid :=
  Claim7.holds_tied_plain_at .later [] [.data, .data, .data, .sentinel, .sentinel] true (true, "775f0b9a7a09943f85bd48b4812753d980b88aaffd65597eab7faa4831b3293f") true
    southMatchesReference_holds (fun _ h => by cases h) (by kernel_rfl) (fun _ h => by cases h) southMatchesReference_row_tie rfl ⟨rfl, rfl⟩ (by kernel_rfl) rfl
    (fun f fn hf hfn => by
      obtain rfl : f = 3 := Option.some.inj ((show Tryz.prog.funcNamed "pandect/pandectlaw09.SouthMatchesReference" = some 3 by kernel_rfl).symm.trans hf) |>.symm
      obtain rfl : fn = Tryz.f3 := (Option.some.inj (Tryz.func3.symm.trans hfn)).symm
      exact ⟨by kernel_rfl, fun j t ht => by
        rw [Tryz.params3] at ht
        have h9 : t = 9 := by
          rcases j with _ | j
          all_goals (first | (simp at ht; done) | (simp at ht; simp [← ht]))
        subst h9
        exact (show Tryz.prog.wantsStandIn 9 = false by kernel_rfl)⟩)
    (by kernel_rfl)
#print axioms southMatchesReferenceCard_holds
end Go.Proofs.YtcekampdldkjlaaGreatDoor
