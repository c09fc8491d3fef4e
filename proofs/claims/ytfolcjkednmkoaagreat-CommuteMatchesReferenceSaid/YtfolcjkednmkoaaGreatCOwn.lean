/- commute: places, own: the pairs of kinds that commute for one item. -/
import Derived.Test.YtfolcjkednmkoaaGreatJState
import Derived.Maps.Own
import Derived.Maps.OwnOps
import Derived.Maps.OwnSet
import Derived.Maps.Views
import Derived.DeepKeys4
import Derived.Carry
import Derived.Deep.CutRange
import Derived.Deep.DeepCutAuto
set_option linter.unusedVariables false
set_option linter.unusedSimpArgs false
set_option maxRecDepth 100000
set_option maxHeartbeats 1000000
namespace Go.Proofs.YtfolcjkednmkoaaGreat
open Go.RowKit Go.Maps Go.WideMaps
theorem places_any (k : Int) (w : World) :
 Calls Tryz.prog 23 #[.int .i64 k] w fun e w' => e = .returned (.bool (placesK k)) ∧ w' = w := by
 go_enter Tryz.func23, Tryz.ntmps23
 unfold placesK
 cases h : (k == 1) with
 | true =>
   go_wp2_with fail
   go_ret
   exact ⟨rfl, rfl⟩
 | false =>
   go_wp2_with fail
   go_ret
   exact ⟨rfl, rfl⟩
theorem Tryz.laidOutC : laidOutB Tryz.prog = true := by kernel_rfl
theorem pair_row : (50 : TypeId) < Tryz.prog.types.size := of_decide_eq_true (by kernel_rfl)
theorem pair_wide : (match Tryz.prog.underlying 50 with | some (.array _ _) | some (.struct _) => true | _ => false) = true := by rw [Tryz.underlying50]
theorem pair_law : Keyed Tryz.prog 50 := Keyed.of_law (deep_law_laid Tryz.laidOutC (m := 2) (by omega) pair_row (by kernel_rfl) pair_wide)
theorem pair_key (j k : Int) (hj : 1 ≤ j ∧ j ≤ 7) (hk : 1 ≤ k ∧ k ≤ 7) : ∃ kl, keyOf Tryz.prog 50 (.agg #[.int .i64 j, .int .i64 k]) = some kl := by
 have h1 : j = 1 ∨ j = 2 ∨ j = 3 ∨ j = 4 ∨ j = 5 ∨ j = 6 ∨ j = 7 := by omega
 have h2 : k = 1 ∨ k = 2 ∨ k = 3 ∨ k = 4 ∨ k = 5 ∨ k = 6 ∨ k = 7 := by omega
 rcases h1 with rfl | rfl | rfl | rfl | rfl | rfl | rfl <;> rcases h2 with rfl | rfl | rfl | rfl | rfl | rfl | rfl <;> exact Option.isSome_iff_exists.1 (by kernel_rfl)
abbrev MD := DataW Unit
abbrev OwnP (w : World) (b n : Nat) (D : MD) : Prop := w.ownsMap Tryz.prog 50 (plainElem (H := Unit) Tryz.prog 4) b n D
abbrev pairV (j k : Int) : Value := .agg #[.int .i64 j, .int .i64 k]
/- a map that is being written out -/
structure PB (w0 w : World) (b n : Nat) (D : MD) : Prop where
 own : OwnP w b n D
 bel : Below b w0 w
 is : IsMap D
theorem PB.made (w : World) : PB w (w.alloc (.map #[] 0)) w.heap.size 0 (.map []) := ⟨World.ownsMap_made _ _ _ _, (Below.refl _ _).alloc (Nat.le_refl _) _, ⟨[], rfl⟩⟩
/- a pair that is written -/
theorem at_put {D : MD} {x y : Int} {kx : Lit} (hx : keyOf Tryz.prog 50 (pairV x y) = some kx) (hD : IsMap D) (j k : Int) (kl : Lit) (hk : keyOf Tryz.prog 50 (pairV j k) = some kl) :
 (D.put kx (.lit (.bool true))).atKey kl (.lit (.bool false)) = if j = x ∧ k = y then .lit (.bool true) else D.atKey kl (.lit (.bool false)) := by
 by_cases e : j = x ∧ k = y
 · obtain ⟨rfl, rfl⟩ := e
   rw [hk] at hx
   cases hx
   rw [atKey_put_same hD (pair_law.key hk), if_pos ⟨rfl, rfl⟩]
 · rw [if_neg e]
   refine atKey_put_other (fun h => e ?_) _ _
   subst h
   have := pair_law.inj hk hx
   simpa using this
def OwnS (b1 b2 b3 b4 b5 : Bool) (D : MD) : Prop := ∀ (j k : Int) (kl : Lit), keyOf Tryz.prog 50 (pairV j k) = some kl → D.atKey kl (.lit (.bool false)) = .lit (.bool ((b1 && (j == 2 && k == 3)) || ((b2 && (j == 2 && k == 4)) || ((b3 && (j == 3 && k == 4)) || ((b4 && (j == 3 && k == 7)) || ((b5 && (j == 4 && k == 7))))))))
/- what stands in the map -/
def OwnAt (D : MD) : Prop := ∀ (j k : Int) (kl : Lit), keyOf Tryz.prog 50 (pairV j k) = some kl → D.atKey kl (.lit (.bool false)) = .lit (.bool (ownF j k))
theorem ownS_all {D : MD} (h : OwnS true true true true true D) : OwnAt D := by
 intro j k kl hk
 rw [h j k kl hk]
 unfold ownF
 simp
theorem ownS_1 {D : MD} {b2 b3 b4 b5 : Bool} {kx : Lit} (hx : keyOf Tryz.prog 50 (pairV 2 3) = some kx) (hD : IsMap D) (h : OwnS false b2 b3 b4 b5 D) : OwnS true b2 b3 b4 b5 (D.put kx (.lit (.bool true))) := by
 intro j k kl hk
 rw [at_put hx hD j k kl hk]
 by_cases e : j = 2 ∧ k = 3
 · rw [if_pos e, e.1, e.2]
   simp
 · rw [if_neg e, h j k kl hk]
   have : (j == 2 && k == 3) = false := by simpa using e
   simp [this]
theorem ownS_2 {D : MD} {b1 b3 b4 b5 : Bool} {kx : Lit} (hx : keyOf Tryz.prog 50 (pairV 2 4) = some kx) (hD : IsMap D) (h : OwnS b1 false b3 b4 b5 D) : OwnS b1 true b3 b4 b5 (D.put kx (.lit (.bool true))) := by
 intro j k kl hk
 rw [at_put hx hD j k kl hk]
 by_cases e : j = 2 ∧ k = 4
 · rw [if_pos e, e.1, e.2]
   simp
 · rw [if_neg e, h j k kl hk]
   have : (j == 2 && k == 4) = false := by simpa using e
   simp [this]
theorem ownS_3 {D : MD} {b1 b2 b4 b5 : Bool} {kx : Lit} (hx : keyOf Tryz.prog 50 (pairV 3 4) = some kx) (hD : IsMap D) (h : OwnS b1 b2 false b4 b5 D) : OwnS b1 b2 true b4 b5 (D.put kx (.lit (.bool true))) := by
 intro j k kl hk
 rw [at_put hx hD j k kl hk]
 by_cases e : j = 3 ∧ k = 4
 · rw [if_pos e, e.1, e.2]
   simp
 · rw [if_neg e, h j k kl hk]
   have : (j == 3 && k == 4) = false := by simpa using e
   simp [this]
theorem ownS_4 {D : MD} {b1 b2 b3 b5 : Bool} {kx : Lit} (hx : keyOf Tryz.prog 50 (pairV 3 7) = some kx) (hD : IsMap D) (h : OwnS b1 b2 b3 false b5 D) : OwnS b1 b2 b3 true b5 (D.put kx (.lit (.bool true))) := by
 intro j k kl hk
 rw [at_put hx hD j k kl hk]
 by_cases e : j = 3 ∧ k = 7
 · rw [if_pos e, e.1, e.2]
   simp
 · rw [if_neg e, h j k kl hk]
   have : (j == 3 && k == 7) = false := by simpa using e
   simp [this]
theorem ownS_5 {D : MD} {b1 b2 b3 b4 : Bool} {kx : Lit} (hx : keyOf Tryz.prog 50 (pairV 4 7) = some kx) (hD : IsMap D) (h : OwnS b1 b2 b3 b4 false D) : OwnS b1 b2 b3 b4 true (D.put kx (.lit (.bool true))) := by
 intro j k kl hk
 rw [at_put hx hD j k kl hk]
 by_cases e : j = 4 ∧ k = 7
 · rw [if_pos e, e.1, e.2]
   simp
 · rw [if_neg e, h j k kl hk]
   have : (j == 4 && k == 7) = false := by simpa using e
   simp [this]
theorem step_insP {ops : Array Oper} {o : Oper} {a : Act} {w : World} {Q : Exit → Act → World → Prop} {K : Act → World → Prop} (hg : o.guard = none) (m x v : Operand) (hop : o.op = Op.insert 48 m x v) (hd : o.dst = none)
 (w0 : World) (b n : Nat) (D : MD) (j k : Int) (kl : Lit) (hkey : keyOf Tryz.prog 50 (pairV j k) = some kl) (hm : a.eval m = .map (some b)) (hx : a.eval x = pairV j k) (hv : a.eval v = .bool true) (hn : n < 1000) (M : PB w0 w b n D)
 (hK : ∀ w', PB w0 w' b (n + 1) (D.put kl (.lit (.bool true))) → K a w') : if Region.wanted o (yielded ops a.tmps) = true then Oper.wp Tryz.prog o a w K Q else K (a.put o.dst undef) w := by
 have hw : Region.wanted o (yielded ops a.tmps) = true := by simp [Region.wanted, hg]
 rw [if_pos hw]
 obtain ⟨w', hrun, r1, r2⟩ := M.own.update pair_law Tryz.underlying48 (by unfold maxLen; omega) hkey (plainElem_bool Tryz.underlying4 true)
 unfold Oper.wp
 simp [execOp, hop, hm, hx, hv, hrun, Result.andThen]
 show K (a.put o.dst undef) w'
 rw [hd]
 exact hK w' ⟨r1, M.bel.grown r2 (Nat.le_of_lt (World.ownsMap.lt M.own)) (fun j hj => by cases hj; exact Nat.le_refl _), M.is.put _ _⟩
/- the region in which the pairs are written, in whatever order -/
def lst (b1 b2 b3 b4 b5 : Bool) : Array Bool := #[true, true, b1, true, b2, true, b3, true, b4, true, b5, false, false]
def rdy (b1 b2 b3 b4 b5 : Bool) : List Nat := (if b1 then [] else [2]) ++ ((if b2 then [] else [4]) ++ ((if b3 then [] else [6]) ++ ((if b4 then [] else [8]) ++ ((if b5 then [] else [10]) ++ (if b1 && b2 && b3 && b4 && b5 then [11] else [])))))
def cnt (b1 b2 b3 b4 b5 : Bool) : Nat := (if b1 then 0 else 1) + ((if b2 then 0 else 1) + ((if b3 then 0 else 1) + ((if b4 then 0 else 1) + (if b5 then 0 else 1))))
theorem rdy_mem {b1 b2 b3 b4 b5 : Bool} {i : Nat} (h : i ∈ rdy b1 b2 b3 b4 b5) : (i = 2 ∧ b1 = false) ∨ (i = 4 ∧ b2 = false) ∨ (i = 6 ∧ b3 = false) ∨ (i = 8 ∧ b4 = false) ∨ (i = 10 ∧ b5 = false) ∨ (i = 11 ∧ cnt b1 b2 b3 b4 b5 = 0) := by
 unfold rdy at h
 simp only [List.mem_append] at h
 rcases h with h | h | h | h | h | h
 · cases b1 <;> simp at h ⊢; omega
 · cases b2 <;> simp at h ⊢; omega
 · cases b3 <;> simp at h ⊢; omega
 · cases b4 <;> simp at h ⊢; omega
 · cases b5 <;> simp at h ⊢; omega
 · unfold cnt
   cases b1 <;> cases b2 <;> cases b3 <;> cases b4 <;> cases b5 <;> simp at h ⊢
   omega
structure InsAt (ops : Array Oper) (a : Act) (b i : Nat) (j k : Int) : Prop where
 ex : ∃ o m x v, ops[i]? = some o ∧ o.guard = none ∧ o.op = Op.insert 48 m x v ∧ o.dst = none ∧ a.eval m = .map (some b) ∧ a.eval x = pairV j k ∧ a.eval v = .bool true
theorem ins_region {ops : Array Oper} {Q : Exit → Act → World → Prop} {a : Act} {b : Nat} {w0 : World} {k1 k2 k3 k4 k5 : Lit} (h1 : keyOf Tryz.prog 50 (pairV 2 3) = some k1) (h2 : keyOf Tryz.prog 50 (pairV 2 4) = some k2) (h3 : keyOf Tryz.prog 50 (pairV 3 4) = some k3) (h4 : keyOf Tryz.prog 50 (pairV 3 7) = some k4) (h5 : keyOf Tryz.prog 50 (pairV 4 7) = some k5) 
 (hr : ∀ b1 b2 b3 b4 b5, Region.ready .any ops (lst b1 b2 b3 b4 b5) = rdy b1 b2 b3 b4 b5) (q1 : InsAt ops a b 2 2 3) (q2 : InsAt ops a b 4 2 4) (q3 : InsAt ops a b 6 3 4) (q4 : InsAt ops a b 8 3 7) (q5 : InsAt ops a b 10 4 7) 
 (hdone : ∀ w' n D, PB w0 w' b n D → OwnAt D → wpAny Tryz.prog .any ops Q 2 (lst true true true true true) a w') :
 ∀ (m : Nat) (b1 b2 b3 b4 b5 : Bool) (w : World) (n : Nat) (D : MD), cnt b1 b2 b3 b4 b5 = m → n + m ≤ 5 → PB w0 w b n D → OwnS b1 b2 b3 b4 b5 D → wpAny Tryz.prog .any ops Q (m + 2) (lst b1 b2 b3 b4 b5) a w := by
 intro m
 induction m with
 | zero =>
   intro b1 b2 b3 b4 b5 w n D hc hn M hs
   have hb : b1 = true ∧ b2 = true ∧ b3 = true ∧ b4 = true ∧ b5 = true := by
    unfold cnt at hc
    cases b1 <;> cases b2 <;> cases b3 <;> cases b4 <;> cases b5 <;> simp at hc ⊢
   obtain ⟨rfl, rfl, rfl, rfl, rfl⟩ := hb
   exact hdone w n D M (ownS_all hs)
 | succ m ih =>
   intro b1 b2 b3 b4 b5 w n D hc hn M hs
   refine wpAny_ready (rs := rdy b1 b2 b3 b4 b5) (hr b1 b2 b3 b4 b5) ?_ ?_
   · unfold rdy
     unfold cnt at hc
     cases b1 <;> cases b2 <;> cases b3 <;> cases b4 <;> cases b5 <;> simp at hc ⊢
   intro i hi
   rcases rdy_mem hi with ⟨rfl, hb⟩ | ⟨rfl, hb⟩ | ⟨rfl, hb⟩ | ⟨rfl, hb⟩ | ⟨rfl, hb⟩ | ⟨_, hb⟩
   · subst hb
     obtain ⟨o, om, ox, ov, e1, e2, e3, e4, e5, e6, e7⟩ := q1.ex
     refine wpOp_step e1 (fun K hK => step_insP e2 om ox ov e3 e4 w0 b n D 2 3 k1 h1 e5 e6 e7 (by omega) M (fun w' M' => hK _ _ ?_))
     exact ih true b2 b3 b4 b5 w' (n + 1) _ (by unfold cnt at hc ⊢; simp at hc ⊢; omega) (by omega) M' (ownS_1 h1 M.is hs)
   · subst hb
     obtain ⟨o, om, ox, ov, e1, e2, e3, e4, e5, e6, e7⟩ := q2.ex
     refine wpOp_step e1 (fun K hK => step_insP e2 om ox ov e3 e4 w0 b n D 2 4 k2 h2 e5 e6 e7 (by omega) M (fun w' M' => hK _ _ ?_))
     exact ih b1 true b3 b4 b5 w' (n + 1) _ (by unfold cnt at hc ⊢; simp at hc ⊢; omega) (by omega) M' (ownS_2 h2 M.is hs)
   · subst hb
     obtain ⟨o, om, ox, ov, e1, e2, e3, e4, e5, e6, e7⟩ := q3.ex
     refine wpOp_step e1 (fun K hK => step_insP e2 om ox ov e3 e4 w0 b n D 3 4 k3 h3 e5 e6 e7 (by omega) M (fun w' M' => hK _ _ ?_))
     exact ih b1 b2 true b4 b5 w' (n + 1) _ (by unfold cnt at hc ⊢; simp at hc ⊢; omega) (by omega) M' (ownS_3 h3 M.is hs)
   · subst hb
     obtain ⟨o, om, ox, ov, e1, e2, e3, e4, e5, e6, e7⟩ := q4.ex
     refine wpOp_step e1 (fun K hK => step_insP e2 om ox ov e3 e4 w0 b n D 3 7 k4 h4 e5 e6 e7 (by omega) M (fun w' M' => hK _ _ ?_))
     exact ih b1 b2 b3 true b5 w' (n + 1) _ (by unfold cnt at hc ⊢; simp at hc ⊢; omega) (by omega) M' (ownS_4 h4 M.is hs)
   · subst hb
     obtain ⟨o, om, ox, ov, e1, e2, e3, e4, e5, e6, e7⟩ := q5.ex
     refine wpOp_step e1 (fun K hK => step_insP e2 om ox ov e3 e4 w0 b n D 4 7 k5 h5 e5 e6 e7 (by omega) M (fun w' M' => hK _ _ ?_))
     exact ih b1 b2 b3 b4 true w' (n + 1) _ (by unfold cnt at hc ⊢; simp at hc ⊢; omega) (by omega) M' (ownS_5 h5 M.is hs)
   · omega
theorem ins_start {ops : Array Oper} {Q : Exit → Act → World → Prop} {a : Act} {w0 : World} {k1 k2 k3 k4 k5 : Lit} (h1 : keyOf Tryz.prog 50 (pairV 2 3) = some k1) (h2 : keyOf Tryz.prog 50 (pairV 2 4) = some k2) (h3 : keyOf Tryz.prog 50 (pairV 3 4) = some k3) (h4 : keyOf Tryz.prog 50 (pairV 3 7) = some k4) (h5 : keyOf Tryz.prog 50 (pairV 4 7) = some k5) 
 {fuel : Nat} {listed : Array Bool} (hf : fuel = 7) (hl : listed = lst false false false false false) (hr : ∀ b1 b2 b3 b4 b5, Region.ready .any ops (lst b1 b2 b3 b4 b5) = rdy b1 b2 b3 b4 b5) (q1 : InsAt ops a w0.heap.size 2 2 3) (q2 : InsAt ops a w0.heap.size 4 2 4) (q3 : InsAt ops a w0.heap.size 6 3 4) (q4 : InsAt ops a w0.heap.size 8 3 7) (q5 : InsAt ops a w0.heap.size 10 4 7) 
 (hdone : ∀ w' n D, PB w0 w' w0.heap.size n D → OwnAt D → wpAny Tryz.prog .any ops Q 2 (lst true true true true true) a w') : wpAny Tryz.prog .any ops Q fuel listed a (w0.alloc (.map #[] 0)) := by
 subst hf hl
 exact ins_region h1 h2 h3 h4 h5 hr q1 q2 q3 q4 q5 hdone 5 false false false false false _ 0 (.map []) rfl (by omega) (PB.made w0) (fun j k kl hk => by simp [DataW.atKey])
theorem own_any (w : World) :
 Calls Tryz.prog 22 #[] w fun e w' => ∃ (b n : Nat) (D : MD), e = .returned (.map (some b)) ∧ OwnP w' b n D ∧ OwnAt D ∧ Below w.heap.size w w' := by
 obtain ⟨k1, h1⟩ := pair_key 2 3 (by decide) (by decide)
 obtain ⟨k2, h2⟩ := pair_key 2 4 (by decide) (by decide)
 obtain ⟨k3, h3⟩ := pair_key 3 4 (by decide) (by decide)
 obtain ⟨k4, h4⟩ := pair_key 3 7 (by decide) (by decide)
 obtain ⟨k5, h5⟩ := pair_key 4 7 (by decide) (by decide)
 have H1 := Lib.hid h1
 have H2 := Lib.hid h2
 have H3 := Lib.hid h3
 have H4 := Lib.hid h4
 have H5 := Lib.hid h5
 clear h1 h2 h3 h4 h5
 have hmm := @run_makeMap Tryz.prog
 go_enter Tryz.func22, Tryz.ntmps22
 go_upto_region 1 with fail
 refine wp_region_any (by kernel_rfl) ?_
 refine wpAny_take (i := 1) (v := pairV 2 3) rfl (by kernel_rfl) (by kernel_rfl) (by kernel_rfl) (fun _ _ _ h => h) (Or.inl ⟨by rfl, by intro w; go_simp⟩) ?_
 refine wpAny_take (i := 3) (v := pairV 2 4) rfl (by kernel_rfl) (by kernel_rfl) (by kernel_rfl) (fun _ _ _ h => h) (Or.inl ⟨by rfl, by intro w; go_simp⟩) ?_
 refine wpAny_take (i := 5) (v := pairV 3 4) rfl (by kernel_rfl) (by kernel_rfl) (by kernel_rfl) (fun _ _ _ h => h) (Or.inl ⟨by rfl, by intro w; go_simp⟩) ?_
 refine wpAny_take (i := 7) (v := pairV 3 7) rfl (by kernel_rfl) (by kernel_rfl) (by kernel_rfl) (fun _ _ _ h => h) (Or.inl ⟨by rfl, by intro w; go_simp⟩) ?_
 refine wpAny_take (i := 9) (v := pairV 4 7) rfl (by kernel_rfl) (by kernel_rfl) (by kernel_rfl) (fun _ _ _ h => h) (Or.inl ⟨by rfl, by intro w; go_simp⟩) ?_
 refine wpAny_ready (rs := [0]) (by kernel_rfl) (by simp) (AllReady.cons rfl (fun K hK => ?_) AllReady.nil)
 go_simp
 refine hK _ _ ?_
 clear hK K
 refine ins_start (w0 := w.drew) H1.out H2.out H3.out H4.out H5.out rfl (by kernel_rfl) ?_ ⟨_, _, _, _, rfl, rfl, rfl, rfl, rfl, rfl, rfl⟩ ⟨_, _, _, _, rfl, rfl, rfl, rfl, rfl, rfl, rfl⟩ ⟨_, _, _, _, rfl, rfl, rfl, rfl, rfl, rfl, rfl⟩ ⟨_, _, _, _, rfl, rfl, rfl, rfl, rfl, rfl, rfl⟩ ⟨_, _, _, _, rfl, rfl, rfl, rfl, rfl, rfl, rfl⟩ ?_
 · intro b1 b2 b3 b4 b5
   cases b1 <;> cases b2 <;> cases b3 <;> cases b4 <;> cases b5 <;> kernel_rfl
 intro w1 n D M hO
 refine wpAny_take (i := 11) (v := .map (some w.heap.size)) rfl (by kernel_rfl) (by kernel_rfl) (by kernel_rfl) (fun _ _ _ h => h) (Or.inl ⟨by rfl, by intro w; go_simp⟩) ?_
 refine wpAny_take (i := 12) (v := .map (some w.heap.size)) rfl (by kernel_rfl) (by kernel_rfl) (by kernel_rfl) (fun _ _ _ h => h) (Or.inl ⟨by rfl, by intro w; go_simp⟩) ?_
 refine wpAny_done (by kernel_rfl) ?_ _
 go_wp2_with fail
 go_ret
 exact ⟨_, n, D, rfl, M.own, hO, (Below.refl w.heap.size w).drew.trans M.bel⟩
/- a pair that is sought -/
theorem own_look {W : World} {b n : Nat} {D : MD} (h : OwnP W b n D) (hat : OwnAt D) {j k : Int} (hj : 1 ≤ j ∧ j ≤ 7) (hk : 1 ≤ k ∧ k ≤ 7) :
 (Instr.lookup 48 (.map (some b)) (pairV j k) false).run Tryz.prog W = .ok (.bool (ownF j k)) W := by
 obtain ⟨kl, hkl⟩ := pair_key j k hj hk
 obtain ⟨v, ps, h1, h2⟩ := h.lookup pair_law Tryz.underlying48 (z := .bool false) (by kernel_rfl) (plainElem_bool Tryz.underlying4 false) hkl
 rw [hat j k kl hkl] at h2
 unfold plainElem at h2
 rw [Tryz.underlying4] at h2
 cases v <;> simp at h2
 rw [h1, h2.1]
end Go.Proofs.YtfolcjkednmkoaaGreat
