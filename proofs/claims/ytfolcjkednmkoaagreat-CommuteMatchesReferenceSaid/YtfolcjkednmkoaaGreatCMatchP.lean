/- pandectlaw20.CommuteMatchesReference returns true for every code, list of patches, patch, patch, and leaves them as they were. No condition. -/
import Derived.Test.YtfolcjkednmkoaaGreatCMatch
import Derived.Test.YtfolcjkednmkoaaGreatCOpen
set_option linter.unusedVariables false
set_option linter.unusedSimpArgs false
set_option maxRecDepth 100000
namespace Go.Proofs.YtfolcjkednmkoaaGreat
open Go.ChangeShapes Go.WideShapes Go.ChangeAt Go.RowKit
theorem commuteMatchesReference_lifted (os : Os) (started : os.Started) (H : Type) (enc : TypeId × Value → H) :
 ReturnsInHanded {} Tryz.checked os 3 .any (Rows.commuteMatchesReferenceSpec.pre6 enc Tryz.prog Tryz.f3 Rows.commuteMatchesReferenceRow.domain false) (Rows.commuteMatchesReferenceSpec.post enc Tryz.prog Tryz.f3 false true false false) := by
 refine returnsInHanded_of_change_shaped (C := Tryz.checked) Tryz.own started (by kernel_rfl) Tryz.func3
  (ChangeSpec.witness6 (enc := enc) (C := Tryz.checked) false ⟨#[], #[.agg #[.slice none 0 0], .slice none 0 0, .agg #[.int .i64 0, .string ⟨#[]⟩, .string ⟨#[]⟩, .string ⟨#[]⟩, .string ⟨#[]⟩, .int .i64 0, .string ⟨#[]⟩, .string ⟨#[]⟩, .string ⟨#[]⟩, .string ⟨#[]⟩, .string ⟨#[]⟩, .bool false, .int .i64 0, .string ⟨#[]⟩, .string ⟨#[]⟩], .agg #[.int .i64 0, .string ⟨#[]⟩, .string ⟨#[]⟩, .string ⟨#[]⟩, .string ⟨#[]⟩, .int .i64 0, .string ⟨#[]⟩, .string ⟨#[]⟩, .string ⟨#[]⟩, .string ⟨#[]⟩, .string ⟨#[]⟩, .bool false, .int .i64 0, .string ⟨#[]⟩, .string ⟨#[]⟩]], []⟩ 8 (by kernel_rfl) (by kernel_rfl) (by kernel_rfl) (by kernel_rfl)) ?_
 intro W base args ds gs before hval0 hW hcnd0 hsz0 hsh _
 have hval : ∀ (j : Nat) t v, Tryz.f3.params[j]? = some t → args[j]? = some v → Value.okWide Tryz.prog W .any base t v := hval0
 have hsz : (DataW.weightsEach Tryz.prog (Tryz.f3.params.toList ++ Rows.commuteMatchesReferenceSpec.plain.varTypes Tryz.prog) (ds ++ gs)).all (· ≤ reachBytes) = true := hsz0
 have hW' := hW
 obtain ⟨p, q, hA0, hV, rfl, hfz, hnd⟩ := hW
 have hA : DataW.TrodAll enc Tryz.prog W 0 (fun _ => true) true Tryz.f3.params.toList args.toList ds p := hA0
 rw [Tryz.params3] at hA hval hsz
 obtain ⟨v0, v1, v2, v3, d0, d1, d2, d3, p0, p1, p2, p3, rfl, rfl, rfl, h0, h1, h2, h3⟩ := trodAll_four hA
 obtain ⟨rfl, rfl⟩ := trodVars_none hV
 obtain ⟨l0, A0, c0, rfl, hr0, hlc0, hl0, hcd0⟩ := open_code (hval 0 24 v0 rfl rfl) h0
 obtain ⟨ps1, B1, dc1, rfl, hs1, hmc1, hdm1, hpd1⟩ := open_pats (hval 1 25 v1 rfl rfl) h1
 obtain ⟨a2, rfl, rfl⟩ := open_patch (hval 2 29 v2 rfl rfl) h2
 obtain ⟨a3, rfl, rfl⟩ := open_patch (hval 3 29 v3 rfl rfl) h3
 clear hA0 hval0
 simp only [List.append_nil] at hW'
 have hfit0 := code_fits hsz (j := 0) rfl rfl hcd0
 have hpf1 := pats_fits hsz (j := 1) rfl rfl hpd1
 have hbg1 := pats_big hsz (j := 1) rfl rfl hpd1
 have hpf2 := patch_fits hsz (j := 2) rfl rfl
 have hpf3 := patch_fits hsz (j := 3) rfl rfl
 obtain ⟨m, hm⟩ := maxLen_cell W hsh
 have hlt : ∀ x ∈ p0 ++ p1 ++ p2 ++ p3, x.block < W.heap.size := fun x hx => by simpa using hW'.lt x (by simpa using hx)
 refine (cmatch_any l0 A0 c0 ps1 B1 dc1 a2 a3 W m hr0 hl0 hlc0 hfit0 hs1 (Nat.le_trans hmc1 hdm1) hpf1 hbg1 hpf2 hpf3 hm).mono fun e W' ⟨he, bel⟩ => ?_
 subst he
 refine ⟨_, rfl, _, _, _, [], p0 ++ p1 ++ p2 ++ p3, [], hW', trodAll_mk1 (shut_bool Tryz.underlying4 _), ?_, rfl, bel.frame _, fun h => by cases h⟩
 have h9 := trodAll_mk4 (Below.trod Tryz.laidOut (by kernel_rfl) (of_decide_eq_true (by kernel_rfl)) h0 bel (fun x hx => hlt x (List.mem_append_left _ (List.mem_append_left _ (List.mem_append_left _ (hx)))))) (Below.trod Tryz.laidOut (by kernel_rfl) (of_decide_eq_true (by kernel_rfl)) h1 bel (fun x hx => hlt x (List.mem_append_left _ (List.mem_append_left _ (List.mem_append_right _ hx))))) (Below.trod Tryz.laidOut (by kernel_rfl) (of_decide_eq_true (by kernel_rfl)) h2 bel (fun x hx => hlt x (List.mem_append_left _ (List.mem_append_right _ hx)))) (Below.trod Tryz.laidOut (by kernel_rfl) (of_decide_eq_true (by kernel_rfl)) h3 bel (fun x hx => hlt x (List.mem_append_right _ hx)))
 simp only [← List.append_assoc] at h9
 exact h9
theorem commuteMatchesReference_holds : Rows.CommuteMatchesReferenceSaid :=
 OpenClaim.holds_of_wide 3 Tryz.f3 rfl rfl rfl rfl rfl rfl rfl ⟨rfl, rfl, rfl, rfl, rfl⟩ rfl rfl rfl rfl rfl (by kernel_rfl) Tryz.func3 (by kernel_rfl)
  (of_decide_eq_true (by kernel_rfl)) (by unfold Func.isWrapper; rw [if_neg (of_decide_eq_false (by kernel_rfl))]; exact ⟨rfl, rfl⟩)
  (fun os started H enc _ => commuteMatchesReference_lifted os started H enc)
#print axioms commuteMatchesReference_holds
end Go.Proofs.YtfolcjkednmkoaaGreat
