/- PrinterAgain: the row and its tied card. -/
import Derived.Test.YtbicmjmcdnkjhaaGreatDoorJAA23
import Derived.Test.YtbicmjmcdnkjhaaGreatDoorCards
import Derived.Test.YtbicmjmcdnkjhaaGreatDoorTie
set_option linter.unusedVariables false
set_option linter.unusedSimpArgs false
set_option maxRecDepth 100000
namespace Go.Proofs.YtbicmjmcdnkjhaaGreatDoor
open Go.ChangeShapes Go.WideShapes Go.ChangeAt Go.RowKit
theorem printerAgain_lifted (os : Os) (started : os.Started) (H : Type) (enc : TypeId × Value -> H) :
 ReturnsInHanded {} Tryz.checked os 9 .any (fun w args => (Rows.printerAgainSpec.pre enc Tryz.prog Tryz.f9 [] false w args /\ laidMetH Tryz.prog Rows.printerAgainRow.laid w) /\ sizedMet enc Tryz.prog Tryz.f9 (OpenSpec.ofChange Rows.printerAgainSpec) false w args)
  (Rows.printerAgainSpec.post enc Tryz.prog Tryz.f9 false true false false) := by
 refine Rm (C := Tryz.checked) (X := fun w _ => laidMetH Tryz.prog Rows.printerAgainRow.laid w) (fun _ _ _ hh h => h.of_heap hh) Tryz.own started (by kernel_rfl) Tryz.func9
  (ChangeSpec.witness_shaped (enc := enc) (C := Tryz.checked) (os := os) (X := fun w _ => laidMetH Tryz.prog Rows.printerAgainRow.laid w) false (World.doorLaid Tryz.prog 400 os) #[.string ⟨#[]⟩] 8 rfl (World.shaped_of_RefB (by kernel_rfl) (by kernel_rfl)) (by kernel_rfl) (by kernel_rfl) (by kernel_rfl) (qgx os _)) ?_
 intro W base args ds gs before aA hW _ _ hL aE _; have aB : ∀ (j : Nat) t v, Tryz.f9.params[j]? = some t -> args[j]? = some v -> Value.okWide Tryz.prog W .any base t v := aA; have aC := hW; obtain ⟨p0, q, aD, hV, rfl, aJ, aI⟩ := hW; have hA : DataW.TrodAll enc Tryz.prog W 0 (fun _ => true) true Tryz.f9.params.toList args.toList ds p0 := aD; rw [Tryz.params9] at hA aB; obtain ⟨v0, d0, rfl, rfl, h0⟩ := trodAll_one hA; obtain ⟨rfl, rfl⟩ := trodVars_none hV; obtain ⟨a0, rfl, -, -, w0⟩ := Go.ChangeMaps.open_string Tryz.underlying9 (aB 0 9 v0 rfl rfl) h0; clear aD aA; simp only [List.append_nil] at aC; obtain ⟨m, aF⟩ := Ff W aE; have aG : ∀ x ∈ p0, x.block < W.heap.size := fun x hx => by simpa using aC.lt x (by simpa using hx)
 refine (qh7 W a0.data.toList w0 (qhv W hL) m aF).mono fun e W' ⟨he, bel⟩ => ?_; subst he; refine ⟨_, rfl, _, _, _, [], p0, [], aC, trodAll_mk1 (shut_bool Tryz.underlying4 _), ?_, rfl, bel.frame _, fun h => by cases h⟩; have h9 := trodAll_mk1 (Below.trod Tryz.laidOut (by kernel_rfl) (of_decide_eq_true (by kernel_rfl)) h0 bel (fun x hx => aG x (hx))); exact h9
theorem printerAgain_holds : Rows.PrinterAgainSaid :=
 OpenClaim.holds_of_wide 9 Tryz.f9 rfl rfl rfl rfl rfl rfl rfl ⟨rfl, rfl, rfl, rfl, rfl⟩ rfl rfl rfl rfl rfl (by kernel_rfl) Tryz.func9 (by kernel_rfl)
  (of_decide_eq_true (by kernel_rfl)) (by unfold Func.isWrapper; rw [if_neg (of_decide_eq_false (by kernel_rfl))]; exact ⟨rfl, rfl⟩)
  (fun os started H enc _ => printerAgain_lifted os started H enc)
theorem printerAgainCard_holds : Rows.PrinterAgainCardSaid :=
 Claim7.holds_tied_plain_at .later [] [.data, .data, .data, .sentinel, .sentinel, .listed, .data] true (true, "e8cff645778269869854ac512c61010b0688d591d9aceaf04562608c0919df74") true
  printerAgain_holds (fun _ h => by cases h) (by kernel_rfl) (fun _ h => by cases h) printerAgain_row_tie rfl ⟨rfl, rfl⟩ (by kernel_rfl) rfl
  (fun f fn hf aH => by
    obtain rfl : f = 9 := Option.some.inj ((show Tryz.prog.funcNamed "pandect/pandectlaw10.PrinterAgain" = some 9 by kernel_rfl).symm.trans hf) |>.symm; obtain rfl : fn = Tryz.f9 := (Option.some.inj (Tryz.func9.symm.trans aH)).symm
    exact ⟨by kernel_rfl, fun j t ht => by
     rw [Tryz.params9] at ht
     have h9 : t = 9 := by
      rcases j with _ | j
      all_goals (first | (simp at ht; done) | (simp at ht; simp [<- ht]))
     subst h9; exact (show Tryz.prog.wantsStandIn 9 = false by kernel_rfl)⟩)
  (by kernel_rfl)
#print axioms printerAgainCard_holds
