/- The reference's Commute answers commF. The reference's Swap answers swapF. pandectlaw20.places: for each number the group that it is in. The reference's Groups answers groupsF. -/
import Derived.Test.YtfolcjkednmkoaaGreatJCm
import Derived.Test.YtfolcjkednmkoaaGreatJPut
import Derived.Test.YtfolcjkednmkoaaGreatJSw
import Derived.Test.YtfolcjkednmkoaaGreatJAll
import Derived.Test.YtfolcjkednmkoaaGreatJGr
import Derived.Test.YtfolcjkednmkoaaGreatMove
import Derived.Deep.OwnRows
import Derived.Test.YtfolcjkednmkoaaGreatJVis
import Derived.Deep.DeepCutAuto
set_option linter.unusedVariables false
set_option linter.unusedSimpArgs false
set_option maxRecDepth 20000
set_option maxHeartbeats 8000000
namespace Go.Proofs.YtfolcjkednmkoaaGreat
open Go.RowKit
theorem requal_lit {a b : Patch} {r : Bool} (hres : patEq a b = r) (w : World) : Calls Tryz.prog 26 #[a.agg, b.agg] w fun e w' => e = .returned (.bool r) ∧ Below w.heap.size w w' := by
 have H := Lib.hid hres; clear hres
 go_enter Tryz.func26, Tryz.ntmps26
 go_wp2_with fail
 go_ret
 exact ⟨ret_bool H.out, ((Below.refl _ _).alloc (Nat.le_refl _) _).alloc (by simp) _⟩
theorem rplacing_lit {a : Patch} {r : Bool} (hres : (a.kind == 1 || a.kind == 4) = r) (w : World) : Calls Tryz.prog 28 #[a.agg] w fun e w' => e = .returned (.bool r) ∧ Below w.heap.size w w' := by
 have H := Lib.hid hres; clear hres
 cases h0 : (a.kind == 1)
 all_goals
  cases h1 : (a.kind == 4)
 all_goals
  have HR := H.out
  rw [h0, h1] at HR
  clear H
  have HR := Lib.hid HR
  go_enter Tryz.func28, Tryz.ntmps28
  go_wp2_with fail
  go_ret
  exact ⟨ret_bool HR.out, (Below.refl _ _).alloc (Nat.le_refl _) _⟩
theorem rsame_lit {a b : Patch} {r : Bool} (hres : (a.par == b.par && a.aft == b.aft) = r) (w : World) : Calls Tryz.prog 20 #[a.agg, b.agg] w fun e w' => e = .returned (.bool r) ∧ Below w.heap.size w w' := by
 have H := Lib.hid hres; clear hres
 cases h0 : (a.par == b.par)
 all_goals
  cases h1 : (a.aft == b.aft)
 all_goals
  have HR := H.out
  rw [h0, h1] at HR
  clear H
  have HR := Lib.hid HR
  go_enter Tryz.func20, Tryz.ntmps20
  go_wp2_with fail
  go_ret
  exact ⟨ret_bool HR.out, ((Below.refl _ _).alloc (Nat.le_refl _) _).alloc (by simp) _⟩
theorem rnames_lit {a : Patch} {s : Str} {r : Bool} (hres : (a.par == s || a.aft == s) = r) (w : World) : Calls Tryz.prog 29 #[a.agg, vs s] w fun e w' => e = .returned (.bool r) ∧ Below w.heap.size w w' := by
 have H := Lib.hid hres; clear hres
 cases h0 : (a.par == s)
 all_goals
  cases h1 : (a.aft == s)
 all_goals
  have HR := H.out
  rw [h0, h1] at HR
  clear H
  have HR := Lib.hid HR
  go_enter Tryz.func29, Tryz.ntmps29
  go_wp2_with fail
  go_ret
  exact ⟨ret_bool HR.out, (Below.refl _ _).alloc (Nat.le_refl _) _⟩
theorem rone_lit {a b : Patch} {x y : Int} {r : Bool} (hres : ((a.kind == x && b.kind == y) || (a.kind == y && b.kind == x)) = r) (w : World) : Calls Tryz.prog 27 #[a.agg, b.agg, .int .i64 x, .int .i64 y] w fun e w' => e = .returned (.bool r) ∧ Below w.heap.size w w' := by
 have H := Lib.hid hres; clear hres
 cases h0 : (a.kind == x)
 all_goals
  cases h1 : (b.kind == y)
 all_goals
  cases h2 : (a.kind == y)
 all_goals
  cases h3 : (b.kind == x)
 all_goals
  have HR := H.out
  rw [h0, h1, h2, h3] at HR
  clear H
  have HR := Lib.hid HR
  go_enter Tryz.func27, Tryz.ntmps27
  go_wp2_with fail
  go_ret
  exact ⟨ret_bool HR.out, ((Below.refl _ _).alloc (Nat.le_refl _) _).alloc (by simp) _⟩
def rmixF (a b : Patch) : Bool := !thereF a b && (!namesF b a.id && a.aft != b.id)
def roneF (a b : Patch) (x y : Int) : Bool := (a.kind == x && b.kind == y) || (a.kind == y && b.kind == x)
def rcommF (a b : Patch) : Bool :=
 if !formedF a || !formedF b then false
 else if patEq a b then true
 else if a.id == b.id then
  (if a.kind == 2 && b.kind == 2 then a.lang != b.lang
   else if roneF a b 2 3 || (roneF a b 2 4 || roneF a b 3 4) then true
   else roneF a b 7 3 || roneF a b 7 4)
 else if !placesK a.kind || !placesK b.kind then true
 else if a.kind == 1 && b.kind == 1 then !thereF a b && (!namesF a b.id && !namesF b a.id)
 else if a.kind == 1 then rmixF a b
 else if b.kind == 1 then rmixF b a
 else a.par == b.par && (a.aft != b.aft && (a.aft != b.id && b.aft != a.id))
theorem rcomm_eq (a b : Patch) : rcommF a b = commF a b := by
 have e1 : patEq b a = patEq a b := patEq_symm b a
 have e2 : (b.id == a.id) = (a.id == b.id) := bool_ne
 have e3 : (b.par == a.par) = (a.par == b.par) := bool_ne
 have e4 : (b.aft == a.aft) = (a.aft == b.aft) := bool_ne
 cases hfa : formedF a with
 | false => unfold rcommF commF commO; simp [hfa]
 | true =>
   cases hfb : formedF b with
   | false => unfold rcommF commF commO; simp [hfa, hfb]
   | true =>
     have ka := formed_kind hfa
     have kb := formed_kind hfb
     have ha : a.kind = 1 ∨ a.kind = 2 ∨ a.kind = 3 ∨ a.kind = 4 ∨ a.kind = 5 ∨ a.kind = 6 ∨ a.kind = 7 := by omega
     have hb : b.kind = 1 ∨ b.kind = 2 ∨ b.kind = 3 ∨ b.kind = 4 ∨ b.kind = 5 ∨ b.kind = 6 ∨ b.kind = 7 := by omega
     unfold rcommF commF commO
     rw [e1, e2, hfa, hfb]
     cases patEq a b
     all_goals
      cases a.id == b.id
     all_goals
      rcases ha with h | h | h | h | h | h | h
     all_goals
      rcases hb with g | g | g | g | g | g | g
     all_goals (simp only [h, g, roneF, ownF, placesK, rmixF, thereF, namesF, e3, e4, bne]; simp)
     all_goals
      cases a.par == b.par
     all_goals
      cases a.aft == b.aft
     all_goals simp
/- both boxes, whatever has been made since -/
def TwoB (w : World) (a b : Patch) (W : World) : Prop := Below w.heap.size w W ∧ W.blk w.heap.size = some (.cells (patCs a) 29 (0, 0)) ∧ W.blk (w.heap.size + 1) = some (.cells (patCs b) 29 (0, 0))
theorem TwoB.start (w : World) (a b : Patch) : TwoB w a b ((w.alloc (.cells (patCs a) 29)).alloc (.cells (patCs b) 29)) := ⟨((Below.refl w.heap.size w).alloc (Nat.le_refl _) _).alloc (by simp) _, by simp [go_sem], by simp [go_sem]⟩
theorem TwoB.step {w W W' : World} {a b : Patch} (h : TwoB w a b W) (hb : Below W.heap.size W W') : TwoB w a b W' := ⟨chain2 h.1 hb, rkeepk hb h.2.1, rkeepk hb h.2.2⟩
theorem TwoB.all {w W : World} {a b : Patch} (h : TwoB w a b W) : W.blk w.heap.size = some (.cells (patCs a) 29 (0, 0)) ∧ W.blk (w.heap.size + 1) = some (.cells (patCs b) 29 (0, 0)) ∧ W.cell? ⟨w.heap.size, 0, none⟩ = some (.int .i64 a.kind) ∧ W.cell? ⟨w.heap.size, 1, none⟩ = some (vs a.id) ∧ W.cell? ⟨w.heap.size, 2, none⟩ = some (vs a.par) ∧ W.cell? ⟨w.heap.size, 3, none⟩ = some (vs a.aft) ∧ W.cell? ⟨w.heap.size, 12, none⟩ = some (.int .i64 a.lang) ∧ W.cell? ⟨w.heap.size + 1, 0, none⟩ = some (.int .i64 b.kind) ∧ W.cell? ⟨w.heap.size + 1, 1, none⟩ = some (vs b.id) ∧ W.cell? ⟨w.heap.size + 1, 2, none⟩ = some (vs b.par) ∧ W.cell? ⟨w.heap.size + 1, 3, none⟩ = some (vs b.aft) ∧ W.cell? ⟨w.heap.size + 1, 12, none⟩ = some (.int .i64 b.lang) ∧ w.heap.size < W.heap.size ∧ w.heap.size + 1 < W.heap.size :=
 ⟨h.2.1, h.2.2, blk_cell h.2.1 rfl, blk_cell h.2.1 rfl, blk_cell h.2.1 rfl, blk_cell h.2.1 rfl, blk_cell h.2.1 rfl, blk_cell h.2.2 rfl, blk_cell h.2.2 rfl, blk_cell h.2.2 rfl, blk_cell h.2.2 rfl, blk_cell h.2.2 rfl, lt_of_heap h.2.1, lt_of_heap h.2.2⟩
theorem rform_lit {p : Patch} {r : Bool} (h : formedF p = r) (rp : p.Ready) (w : World) : Calls Tryz.prog 25 #[p.agg] w fun e w' => e = .returned (.bool r) ∧ Below w.heap.size w w' := by
 subst h
 rw [rform_eq]
 exact rformed_any p w rp.item rp.num
theorem rmixed_lit {a b : Patch} {r : Bool} (hres : rmixF a b = r) (w : World) : Calls Tryz.prog 30 #[a.agg, b.agg] w fun e w' => e = .returned (.bool r) ∧ Below w.heap.size w w' := by
 cases ht : thereF a b
 all_goals
  cases hn : namesF b a.id
 all_goals
  cases hx : (a.aft == b.id)
 all_goals
  have HT := Lib.hid ht
  have HN := Lib.hid hn
  have HR : Hid (r = rmixF a b) := Lib.hid hres.symm
  unfold rmixF at HR
  rw [ht, hn, show (a.aft != b.id) = !(a.aft == b.id) from rfl, hx] at HR
  clear ht hn hres
  have HB := Lib.hid (TwoB.start w a b)
  obtain ⟨PA, PB, a0, a1, a2, a3, a12, b0, b1, b2, b3, b12, z1, z2⟩ := HB.out.all
  go_enter Tryz.func30, Tryz.ntmps30
  go_wp2_with fail
  refine (rsame_lit HT.out _).mono ?_
  rintro e wn ⟨rfl, hb⟩
  replace HB := Lib.hid (HB.out.step hb)
  clear hb PA PB a0 a1 a2 a3 a12 b0 b1 b2 b3 b12 z1 z2
  obtain ⟨PA, PB, a0, a1, a2, a3, a12, b0, b1, b2, b3, b12, z1, z2⟩ := HB.out.all
  go_wp2_with fail
  first
   | (go_ret; exact ⟨ret_bool HR.out.symm, HB.out.1⟩)
   | (refine (rnames_lit HN.out _).mono ?_
      rintro e wn ⟨rfl, hb⟩
      replace HB := Lib.hid (HB.out.step hb)
      clear hb PA PB a0 a1 a2 a3 a12 b0 b1 b2 b3 b12 z1 z2
      obtain ⟨PA, PB, a0, a1, a2, a3, a12, b0, b1, b2, b3, b12, z1, z2⟩ := HB.out.all
      go_wp2_with fail
      go_ret
      exact ⟨ret_bool HR.out.symm, HB.out.1⟩)
theorem rcomm_any (a b : Patch) (ra : a.Ready) (rb : b.Ready) (w : World) : Calls Tryz.prog 9 #[a.agg, b.agg] w fun e w' => e = .returned (.bool (commF a b)) ∧ Below w.heap.size w w' := by
 rw [← rcomm_eq]
 obtain ⟨r, hr⟩ : ∃ r, rcommF a b = r := ⟨_, rfl⟩
 rw [hr]
 have HR := Lib.hid hr; clear hr
 have HB := Lib.hid (TwoB.start w a b)
 obtain ⟨PA, PB, a0, a1, a2, a3, a12, b0, b1, b2, b3, b12, z1, z2⟩ := HB.out.all
 go_enter Tryz.func9, Tryz.ntmps9
 go_wp2_with fail
 refine (rform_lit (Eq.refl (formedF a)) ra _).mono ?_
 rintro e wn ⟨rfl, hb⟩
 replace HB := Lib.hid (HB.out.step hb)
 clear hb PA PB a0 a1 a2 a3 a12 b0 b1 b2 b3 b12 z1 z2
 obtain ⟨PA, PB, a0, a1, a2, a3, a12, b0, b1, b2, b3, b12, z1, z2⟩ := HB.out.all
 cases hfa : formedF a with
 | true =>
   have HFA := Lib.hid hfa; clear hfa
   go_wp2_with fail
   refine (rform_lit (Eq.refl (formedF b)) rb _).mono ?_
   rintro e wn ⟨rfl, hb⟩
   replace HB := Lib.hid (HB.out.step hb)
   clear hb PA PB a0 a1 a2 a3 a12 b0 b1 b2 b3 b12 z1 z2
   obtain ⟨PA, PB, a0, a1, a2, a3, a12, b0, b1, b2, b3, b12, z1, z2⟩ := HB.out.all
   cases hfb : formedF b with
   | true =>
     have HFB := Lib.hid hfb; clear hfb
     go_wp2_with fail
     refine (requal_lit (Eq.refl (patEq a b)) _).mono ?_
     rintro e wn ⟨rfl, hb⟩
     replace HB := Lib.hid (HB.out.step hb)
     clear hb PA PB a0 a1 a2 a3 a12 b0 b1 b2 b3 b12 z1 z2
     obtain ⟨PA, PB, a0, a1, a2, a3, a12, b0, b1, b2, b3, b12, z1, z2⟩ := HB.out.all
     cases heq : patEq a b with
     | true =>
       have HEQ := Lib.hid heq; clear heq
       go_wp2_with fail
       go_ret
       exact ⟨ret_bool (by rw [← HR.out]; unfold rcommF; simp [HFA.out, HFB.out, HEQ.out]), HB.out.1⟩
     | false =>
       have HEQ := Lib.hid heq; clear heq
       cases kid : a.id == b.id with
       | true =>
         cases ka : a.kind == 2 with
         | true =>
           cases kb : b.kind == 2 with
           | true =>
             cases kl : a.lang != b.lang with
             | true =>
               go_wp2_with fail
               go_ret
               exact ⟨ret_bool (by rw [← HR.out]; unfold rcommF; simp [HFA.out, HFB.out, HEQ.out, kid, ka, kb, kl]), HB.out.1⟩
             | false =>
               go_wp2_with fail
               go_ret
               exact ⟨ret_bool (by rw [← HR.out]; unfold rcommF; simp [HFA.out, HFB.out, HEQ.out, kid, ka, kb, kl]), HB.out.1⟩
           | false =>
             go_wp2_with fail
             refine (rone_lit (Eq.refl (roneF a b 2 3)) _).mono ?_
             rintro e wn ⟨rfl, hb⟩
             replace HB := Lib.hid (HB.out.step hb)
             clear hb PA PB a0 a1 a2 a3 a12 b0 b1 b2 b3 b12 z1 z2
             obtain ⟨PA, PB, a0, a1, a2, a3, a12, b0, b1, b2, b3, b12, z1, z2⟩ := HB.out.all
             cases h1 : roneF a b 2 3 with
             | true =>
               have H1 := Lib.hid h1; clear h1
               go_wp2_with fail
               go_ret
               exact ⟨ret_bool (by rw [← HR.out]; unfold rcommF; simp [HFA.out, HFB.out, HEQ.out, kid, ka, kb, H1.out]), HB.out.1⟩
             | false =>
               have H1 := Lib.hid h1; clear h1
               go_wp2_with fail
               refine (rone_lit (Eq.refl (roneF a b 2 4)) _).mono ?_
               rintro e wn ⟨rfl, hb⟩
               replace HB := Lib.hid (HB.out.step hb)
               clear hb PA PB a0 a1 a2 a3 a12 b0 b1 b2 b3 b12 z1 z2
               obtain ⟨PA, PB, a0, a1, a2, a3, a12, b0, b1, b2, b3, b12, z1, z2⟩ := HB.out.all
               cases h2 : roneF a b 2 4 with
               | true =>
                 have H2 := Lib.hid h2; clear h2
                 go_wp2_with fail
                 go_ret
                 exact ⟨ret_bool (by rw [← HR.out]; unfold rcommF; simp [HFA.out, HFB.out, HEQ.out, kid, ka, kb, H1.out, H2.out]), HB.out.1⟩
               | false =>
                 have H2 := Lib.hid h2; clear h2
                 go_wp2_with fail
                 refine (rone_lit (Eq.refl (roneF a b 3 4)) _).mono ?_
                 rintro e wn ⟨rfl, hb⟩
                 replace HB := Lib.hid (HB.out.step hb)
                 clear hb PA PB a0 a1 a2 a3 a12 b0 b1 b2 b3 b12 z1 z2
                 obtain ⟨PA, PB, a0, a1, a2, a3, a12, b0, b1, b2, b3, b12, z1, z2⟩ := HB.out.all
                 cases h3 : roneF a b 3 4 with
                 | true =>
                   have H3 := Lib.hid h3; clear h3
                   go_wp2_with fail
                   go_ret
                   exact ⟨ret_bool (by rw [← HR.out]; unfold rcommF; simp [HFA.out, HFB.out, HEQ.out, kid, ka, kb, H1.out, H2.out, H3.out]), HB.out.1⟩
                 | false =>
                   have H3 := Lib.hid h3; clear h3
                   go_wp2_with fail
                   refine (rone_lit (Eq.refl (roneF a b 7 3)) _).mono ?_
                   rintro e wn ⟨rfl, hb⟩
                   replace HB := Lib.hid (HB.out.step hb)
                   clear hb PA PB a0 a1 a2 a3 a12 b0 b1 b2 b3 b12 z1 z2
                   obtain ⟨PA, PB, a0, a1, a2, a3, a12, b0, b1, b2, b3, b12, z1, z2⟩ := HB.out.all
                   cases h4 : roneF a b 7 3 with
                   | true =>
                     have H4 := Lib.hid h4; clear h4
                     go_wp2_with fail
                     go_ret
                     exact ⟨ret_bool (by rw [← HR.out]; unfold rcommF; simp [HFA.out, HFB.out, HEQ.out, kid, ka, kb, H1.out, H2.out, H3.out, H4.out]), HB.out.1⟩
                   | false =>
                     have H4 := Lib.hid h4; clear h4
                     go_wp2_with fail
                     refine (rone_lit (Eq.refl (roneF a b 7 4)) _).mono ?_
                     rintro e wn ⟨rfl, hb⟩
                     replace HB := Lib.hid (HB.out.step hb)
                     clear hb PA PB a0 a1 a2 a3 a12 b0 b1 b2 b3 b12 z1 z2
                     obtain ⟨PA, PB, a0, a1, a2, a3, a12, b0, b1, b2, b3, b12, z1, z2⟩ := HB.out.all
                     cases h5 : roneF a b 7 4 with
                     | true =>
                       have H5 := Lib.hid h5; clear h5
                       go_wp2_with fail
                       go_ret
                       exact ⟨ret_bool (by rw [← HR.out]; unfold rcommF; simp [HFA.out, HFB.out, HEQ.out, kid, ka, kb, H1.out, H2.out, H3.out, H4.out, H5.out]), HB.out.1⟩
                     | false =>
                       have H5 := Lib.hid h5; clear h5
                       go_wp2_with fail
                       go_ret
                       exact ⟨ret_bool (by rw [← HR.out]; unfold rcommF; simp [HFA.out, HFB.out, HEQ.out, kid, ka, kb, H1.out, H2.out, H3.out, H4.out, H5.out]), HB.out.1⟩
         | false =>
           go_wp2_with fail
           refine (rone_lit (Eq.refl (roneF a b 2 3)) _).mono ?_
           rintro e wn ⟨rfl, hb⟩
           replace HB := Lib.hid (HB.out.step hb)
           clear hb PA PB a0 a1 a2 a3 a12 b0 b1 b2 b3 b12 z1 z2
           obtain ⟨PA, PB, a0, a1, a2, a3, a12, b0, b1, b2, b3, b12, z1, z2⟩ := HB.out.all
           cases h1 : roneF a b 2 3 with
           | true =>
             have H1 := Lib.hid h1; clear h1
             go_wp2_with fail
             go_ret
             exact ⟨ret_bool (by rw [← HR.out]; unfold rcommF; simp [HFA.out, HFB.out, HEQ.out, kid, ka, H1.out]), HB.out.1⟩
           | false =>
             have H1 := Lib.hid h1; clear h1
             go_wp2_with fail
             refine (rone_lit (Eq.refl (roneF a b 2 4)) _).mono ?_
             rintro e wn ⟨rfl, hb⟩
             replace HB := Lib.hid (HB.out.step hb)
             clear hb PA PB a0 a1 a2 a3 a12 b0 b1 b2 b3 b12 z1 z2
             obtain ⟨PA, PB, a0, a1, a2, a3, a12, b0, b1, b2, b3, b12, z1, z2⟩ := HB.out.all
             cases h2 : roneF a b 2 4 with
             | true =>
               have H2 := Lib.hid h2; clear h2
               go_wp2_with fail
               go_ret
               exact ⟨ret_bool (by rw [← HR.out]; unfold rcommF; simp [HFA.out, HFB.out, HEQ.out, kid, ka, H1.out, H2.out]), HB.out.1⟩
             | false =>
               have H2 := Lib.hid h2; clear h2
               go_wp2_with fail
               refine (rone_lit (Eq.refl (roneF a b 3 4)) _).mono ?_
               rintro e wn ⟨rfl, hb⟩
               replace HB := Lib.hid (HB.out.step hb)
               clear hb PA PB a0 a1 a2 a3 a12 b0 b1 b2 b3 b12 z1 z2
               obtain ⟨PA, PB, a0, a1, a2, a3, a12, b0, b1, b2, b3, b12, z1, z2⟩ := HB.out.all
               cases h3 : roneF a b 3 4 with
               | true =>
                 have H3 := Lib.hid h3; clear h3
                 go_wp2_with fail
                 go_ret
                 exact ⟨ret_bool (by rw [← HR.out]; unfold rcommF; simp [HFA.out, HFB.out, HEQ.out, kid, ka, H1.out, H2.out, H3.out]), HB.out.1⟩
               | false =>
                 have H3 := Lib.hid h3; clear h3
                 go_wp2_with fail
                 refine (rone_lit (Eq.refl (roneF a b 7 3)) _).mono ?_
                 rintro e wn ⟨rfl, hb⟩
                 replace HB := Lib.hid (HB.out.step hb)
                 clear hb PA PB a0 a1 a2 a3 a12 b0 b1 b2 b3 b12 z1 z2
                 obtain ⟨PA, PB, a0, a1, a2, a3, a12, b0, b1, b2, b3, b12, z1, z2⟩ := HB.out.all
                 cases h4 : roneF a b 7 3 with
                 | true =>
                   have H4 := Lib.hid h4; clear h4
                   go_wp2_with fail
                   go_ret
                   exact ⟨ret_bool (by rw [← HR.out]; unfold rcommF; simp [HFA.out, HFB.out, HEQ.out, kid, ka, H1.out, H2.out, H3.out, H4.out]), HB.out.1⟩
                 | false =>
                   have H4 := Lib.hid h4; clear h4
                   go_wp2_with fail
                   refine (rone_lit (Eq.refl (roneF a b 7 4)) _).mono ?_
                   rintro e wn ⟨rfl, hb⟩
                   replace HB := Lib.hid (HB.out.step hb)
                   clear hb PA PB a0 a1 a2 a3 a12 b0 b1 b2 b3 b12 z1 z2
                   obtain ⟨PA, PB, a0, a1, a2, a3, a12, b0, b1, b2, b3, b12, z1, z2⟩ := HB.out.all
                   cases h5 : roneF a b 7 4 with
                   | true =>
                     have H5 := Lib.hid h5; clear h5
                     go_wp2_with fail
                     go_ret
                     exact ⟨ret_bool (by rw [← HR.out]; unfold rcommF; simp [HFA.out, HFB.out, HEQ.out, kid, ka, H1.out, H2.out, H3.out, H4.out, H5.out]), HB.out.1⟩
                   | false =>
                     have H5 := Lib.hid h5; clear h5
                     go_wp2_with fail
                     go_ret
                     exact ⟨ret_bool (by rw [← HR.out]; unfold rcommF; simp [HFA.out, HFB.out, HEQ.out, kid, ka, H1.out, H2.out, H3.out, H4.out, H5.out]), HB.out.1⟩
       | false =>
         go_wp2_with fail
         refine (rplacing_lit (Eq.refl (placesK a.kind)) _).mono ?_
         rintro e wn ⟨rfl, hb⟩
         replace HB := Lib.hid (HB.out.step hb)
         clear hb PA PB a0 a1 a2 a3 a12 b0 b1 b2 b3 b12 z1 z2
         obtain ⟨PA, PB, a0, a1, a2, a3, a12, b0, b1, b2, b3, b12, z1, z2⟩ := HB.out.all
         cases hpa : placesK a.kind with
         | true =>
           have HPA := Lib.hid hpa; clear hpa
           go_wp2_with fail
           refine (rplacing_lit (Eq.refl (placesK b.kind)) _).mono ?_
           rintro e wn ⟨rfl, hb⟩
           replace HB := Lib.hid (HB.out.step hb)
           clear hb PA PB a0 a1 a2 a3 a12 b0 b1 b2 b3 b12 z1 z2
           obtain ⟨PA, PB, a0, a1, a2, a3, a12, b0, b1, b2, b3, b12, z1, z2⟩ := HB.out.all
           cases hpb : placesK b.kind with
           | true =>
             have HPB := Lib.hid hpb; clear hpb
             cases ka : a.kind == 1 with
             | true =>
               cases kb : b.kind == 1 with
               | true =>
                 go_wp2_with fail
                 refine (rsame_lit (Eq.refl (thereF a b)) _).mono ?_
                 rintro e wn ⟨rfl, hb⟩
                 replace HB := Lib.hid (HB.out.step hb)
                 clear hb PA PB a0 a1 a2 a3 a12 b0 b1 b2 b3 b12 z1 z2
                 obtain ⟨PA, PB, a0, a1, a2, a3, a12, b0, b1, b2, b3, b12, z1, z2⟩ := HB.out.all
                 cases ht : thereF a b with
                 | true =>
                   have HT := Lib.hid ht; clear ht
                   go_wp2_with fail
                   go_ret
                   exact ⟨ret_bool (by rw [← HR.out]; unfold rcommF; simp [HFA.out, HFB.out, HEQ.out, kid, HPA.out, HPB.out, ka, kb, HT.out]), HB.out.1⟩
                 | false =>
                   have HT := Lib.hid ht; clear ht
                   go_wp2_with fail
                   refine (rnames_lit (Eq.refl (namesF a b.id)) _).mono ?_
                   rintro e wn ⟨rfl, hb⟩
                   replace HB := Lib.hid (HB.out.step hb)
                   clear hb PA PB a0 a1 a2 a3 a12 b0 b1 b2 b3 b12 z1 z2
                   obtain ⟨PA, PB, a0, a1, a2, a3, a12, b0, b1, b2, b3, b12, z1, z2⟩ := HB.out.all
                   cases h7 : namesF a b.id with
                   | true =>
                     have H7 := Lib.hid h7; clear h7
                     go_wp2_with fail
                     go_ret
                     exact ⟨ret_bool (by rw [← HR.out]; unfold rcommF; simp [HFA.out, HFB.out, HEQ.out, kid, HPA.out, HPB.out, ka, kb, HT.out, H7.out]), HB.out.1⟩
                   | false =>
                     have H7 := Lib.hid h7; clear h7
                     go_wp2_with fail
                     refine (rnames_lit (Eq.refl (namesF b a.id)) _).mono ?_
                     rintro e wn ⟨rfl, hb⟩
                     replace HB := Lib.hid (HB.out.step hb)
                     clear hb PA PB a0 a1 a2 a3 a12 b0 b1 b2 b3 b12 z1 z2
                     obtain ⟨PA, PB, a0, a1, a2, a3, a12, b0, b1, b2, b3, b12, z1, z2⟩ := HB.out.all
                     cases h8 : namesF b a.id with
                     | true =>
                       have H8 := Lib.hid h8; clear h8
                       go_wp2_with fail
                       go_ret
                       exact ⟨ret_bool (by rw [← HR.out]; unfold rcommF; simp [HFA.out, HFB.out, HEQ.out, kid, HPA.out, HPB.out, ka, kb, HT.out, H7.out, H8.out]), HB.out.1⟩
                     | false =>
                       have H8 := Lib.hid h8; clear h8
                       go_wp2_with fail
                       go_ret
                       exact ⟨ret_bool (by rw [← HR.out]; unfold rcommF; simp [HFA.out, HFB.out, HEQ.out, kid, HPA.out, HPB.out, ka, kb, HT.out, H7.out, H8.out]), HB.out.1⟩
               | false =>
                 go_wp2_with fail
                 refine (rmixed_lit (Eq.refl (rmixF a b)) _).mono ?_
                 rintro e wn ⟨rfl, hb⟩
                 replace HB := Lib.hid (HB.out.step hb)
                 clear hb PA PB a0 a1 a2 a3 a12 b0 b1 b2 b3 b12 z1 z2
                 obtain ⟨PA, PB, a0, a1, a2, a3, a12, b0, b1, b2, b3, b12, z1, z2⟩ := HB.out.all
                 cases h6 : rmixF a b with
                 | true =>
                   have H6 := Lib.hid h6; clear h6
                   go_wp2_with fail
                   go_ret
                   exact ⟨ret_bool (by rw [← HR.out]; unfold rcommF; simp [HFA.out, HFB.out, HEQ.out, kid, HPA.out, HPB.out, ka, kb, H6.out]), HB.out.1⟩
                 | false =>
                   have H6 := Lib.hid h6; clear h6
                   go_wp2_with fail
                   go_ret
                   exact ⟨ret_bool (by rw [← HR.out]; unfold rcommF; simp [HFA.out, HFB.out, HEQ.out, kid, HPA.out, HPB.out, ka, kb, H6.out]), HB.out.1⟩
             | false =>
               cases kb : b.kind == 1 with
               | true =>
                 go_wp2_with fail
                 refine (rmixed_lit (Eq.refl (rmixF b a)) _).mono ?_
                 rintro e wn ⟨rfl, hb⟩
                 replace HB := Lib.hid (HB.out.step hb)
                 clear hb PA PB a0 a1 a2 a3 a12 b0 b1 b2 b3 b12 z1 z2
                 obtain ⟨PA, PB, a0, a1, a2, a3, a12, b0, b1, b2, b3, b12, z1, z2⟩ := HB.out.all
                 cases h6 : rmixF b a with
                 | true =>
                   have H6 := Lib.hid h6; clear h6
                   go_wp2_with fail
                   go_ret
                   exact ⟨ret_bool (by rw [← HR.out]; unfold rcommF; simp [HFA.out, HFB.out, HEQ.out, kid, HPA.out, HPB.out, ka, kb, H6.out]), HB.out.1⟩
                 | false =>
                   have H6 := Lib.hid h6; clear h6
                   go_wp2_with fail
                   go_ret
                   exact ⟨ret_bool (by rw [← HR.out]; unfold rcommF; simp [HFA.out, HFB.out, HEQ.out, kid, HPA.out, HPB.out, ka, kb, H6.out]), HB.out.1⟩
               | false =>
                 cases kp : a.par == b.par with
                 | true =>
                   cases kf : a.aft == b.aft with
                   | true =>
                     go_wp2_with fail
                     go_ret
                     exact ⟨ret_bool (by rw [← HR.out]; unfold rcommF; simp [bne, HFA.out, HFB.out, HEQ.out, kid, HPA.out, HPB.out, ka, kb, kp, kf]), HB.out.1⟩
                   | false =>
                     cases kg : a.aft == b.id with
                     | true =>
                       go_wp2_with fail
                       go_ret
                       exact ⟨ret_bool (by rw [← HR.out]; unfold rcommF; simp [bne, HFA.out, HFB.out, HEQ.out, kid, HPA.out, HPB.out, ka, kb, kp, kf, kg]), HB.out.1⟩
                     | false =>
                       cases kh : b.aft == a.id with
                       | true =>
                         go_wp2_with fail
                         go_ret
                         exact ⟨ret_bool (by rw [← HR.out]; unfold rcommF; simp [bne, HFA.out, HFB.out, HEQ.out, kid, HPA.out, HPB.out, ka, kb, kp, kf, kg, kh]), HB.out.1⟩
                       | false =>
                         go_wp2_with fail
                         go_ret
                         exact ⟨ret_bool (by rw [← HR.out]; unfold rcommF; simp [bne, HFA.out, HFB.out, HEQ.out, kid, HPA.out, HPB.out, ka, kb, kp, kf, kg, kh]), HB.out.1⟩
                 | false =>
                   go_wp2_with fail
                   go_ret
                   exact ⟨ret_bool (by rw [← HR.out]; unfold rcommF; simp [HFA.out, HFB.out, HEQ.out, kid, HPA.out, HPB.out, ka, kb, kp]), HB.out.1⟩
           | false =>
             have HPB := Lib.hid hpb; clear hpb
             go_wp2_with fail
             go_ret
             exact ⟨ret_bool (by rw [← HR.out]; unfold rcommF; simp [HFA.out, HFB.out, HEQ.out, kid, HPA.out, HPB.out]), HB.out.1⟩
         | false =>
           have HPA := Lib.hid hpa; clear hpa
           go_wp2_with fail
           go_ret
           exact ⟨ret_bool (by rw [← HR.out]; unfold rcommF; simp [HFA.out, HFB.out, HEQ.out, kid, HPA.out]), HB.out.1⟩
   | false =>
     have HFB := Lib.hid hfb; clear hfb
     go_wp2_with fail
     go_ret
     exact ⟨ret_bool (by rw [← HR.out]; unfold rcommF; simp [HFA.out, HFB.out]), HB.out.1⟩
 | false =>
   have HFA := Lib.hid hfa; clear hfa
   go_wp2_with fail
   go_ret
   exact ⟨ret_bool (by rw [← HR.out]; unfold rcommF; simp [HFA.out]), HB.out.1⟩
end Go.Proofs.YtfolcjkednmkoaaGreat
set_option maxRecDepth 20000
set_option maxHeartbeats 4000000
namespace Go.Proofs.YtfolcjkednmkoaaGreat
open Go.RowKit
theorem rcomm_lit {a b : Patch} {r : Bool} (h : commF a b = r) (ra : a.Ready) (rb : b.Ready) (w : World) :
 Calls Tryz.prog 9 #[a.agg, b.agg] w fun e w' => e = .returned (.bool r) ∧ Below w.heap.size w w' := by
 subst h
 exact rcomm_any a b ra rb w
theorem two_rready {a b : Patch} (ra : a.RReady) (rb : b.RReady) : ∀ p ∈ [a, b], p.RReady := by
 intro p hp
 simp at hp
 rcases hp with rfl | rfl <;> assumption
theorem rall_lit {l : List Item} {ps : List Patch} {r : List Item} {i e : Int} (h : allR l ps = (r, i, e)) (A B : Option Addr) (c d n : Nat) (w : World) (hn : n = ps.length) (hr : RdI w A l) (hs : RdP w B ps) (hl : l.length ≤ 100000) (hlc : l.length ≤ c) (hsh : ∀ x ∈ l, x.Short) (hps : ps.length ≤ 1000000) (hrd : ∀ p ∈ ps, p.RReady) :
 Calls Tryz.prog 19 #[.agg #[.slice A l.length c], .slice B n d] w fun en w' => ∃ A' c', en = .returned (.tuple #[.agg #[.slice A' r.length c'], .int .i64 i, .int .i64 e]) ∧ RdI w' A' r ∧ r.length ≤ c' ∧ Below w.heap.size w w' := by
 subst hn
 have := rall_any l ps A B c d w hr hs hl hlc hsh hps hrd
 unfold RAlls at this
 rw [h] at this
 exact this
theorem rresults_swap {X : World} {tmps : Array Value} {x y : Patch} {o : Bool} {b1 b2 : Nat} (h1 : tmps.getD 6 undef = .pointer (some ⟨b1, 0, none⟩)) (h2 : tmps.getD 7 undef = .pointer (some ⟨b2, 0, none⟩)) (h3 : tmps.getD 8 undef = .bool o)
 (k1 : X.blk b1 = some (.cells (patCs x) 29 (0, 0))) (k2 : X.blk b2 = some (.cells (patCs y) 29 (0, 0))) :
 (results Tryz.f7 tmps).run Tryz.prog X = .ok (.tuple #[x.agg, y.agg, .bool o]) X := by
 rw [results_cct Tryz.results7, h1, h2, h3]
 simp only [asAddr, Sem.run_pure, Result.andThen_ok, load_pat k1, load_pat k2]
theorem rswap_1 (l : List Item) (A : Option Addr) (c : Nat) (a b : Patch) (w : World) (hr : RdI w A l) (hl : l.length ≤ 100000) (hlc : l.length ≤ c) (hsh : ∀ x ∈ l, x.Short) (ra : a.Ready) (rb : b.Ready) (qa : a.RReady) (qb : b.RReady) (d : List Item) (i0 er : Int) (hal : allR l [a, b] = (d, i0, er)) (h0 : (er != 0) = true) : Calls Tryz.prog 7 #[.agg #[.slice A l.length c], a.agg, b.agg] w fun e w' => e = .returned (.tuple #[zeroP.agg, zeroP.agg, .bool false]) ∧ Below w.heap.size w w' := by
 obtain ⟨hb0, C0, PA0, PB0, R10, R20⟩ := sw_start w A l c a b
 have HB0 := Lib.hid hb0; clear hb0
 have HR := Lib.hid hr; clear hr
 have HAL := Lib.hid hal; clear hal
 have HSH := Lib.hid hsh; clear hsh
 go_enter Tryz.func7, Tryz.ntmps7
 go_wp2_with fail
 have hbl := HB0.out.alloc HB0.out.size (.cells (twoCs a b) 29)
 refine (rall_lit HAL.out A _ c 2 2 _ rfl (HR.out.below hbl) (RdP.lit2 _ a b _ (by simp)) hl hlc HSH.out (by simp) (two_rready qa qb)).mono ?_
 rintro e w1 ⟨Ad, cd, rfl, hrd, hcd, hb1⟩
 have hx1 := step_below hb1
 have C1 := keepw hx1 C0
 have qC1 := World.block_lt_of_cell? _ _ C1
 have PA1 := rkeepk hx1 PA0
 have qPA1 := lt_of_heap PA1
 have PB1 := rkeepk hx1 PB0
 have qPB1 := lt_of_heap PB1
 have R11 := rkeepk hx1 R10
 have qR11 := lt_of_heap R11
 have R21 := rkeepk hx1 R20
 have qR21 := lt_of_heap R21
 have HB1 := Lib.hid (chain2 HB0.out hx1)
 have HX1 := Lib.hid hx1
 clear hx1 hb1 C0 PA0 PB0 R10 R20
 clear hrd
 have G1 := (blk_alloc_lt (o := (.cells #[.slice Ad d.length cd] 24)) qR11).trans R11
 have G20 := (blk_alloc_lt (o := (.cells #[.slice Ad d.length cd] 24)) qR21).trans R21
 have HBX := Lib.hid (HB1.out.alloc HB1.out.size (.cells #[.slice Ad d.length cd] 24))
 have G2 := (blk_setRow_ne (b := w.heap.size + 1 + 1 + 1) (D := patCs zeroP) (by omega)).trans G20
 go_wp2_with (first | refine wpList_store_pat rfl (.tmp 6) (.tmp 23) rfl (w.heap.size + 1 + 1 + 1) zeroP zeroP rfl rfl G1 ?_ | refine wpList_store_pat rfl (.tmp 7) (.tmp 24) rfl (w.heap.size + 1 + 1 + 1 + 1) zeroP zeroP rfl rfl G2 ?_)
 refine bodyPost_ret (v := .tuple #[zeroP.agg, zeroP.agg, .bool false]) (rresults_swap rfl rfl rfl ((blk_setRow_ne (by omega)).trans (blk_setRow_at G1)) (blk_setRow_at G2)) rfl ⟨rfl, ?_⟩
 exact below_setRow (below_setRow (HBX.out) (by omega) _) (by omega) _
theorem rswap_2 (l : List Item) (A : Option Addr) (c : Nat) (a b : Patch) (w : World) (hr : RdI w A l) (hl : l.length ≤ 100000) (hlc : l.length ≤ c) (hsh : ∀ x ∈ l, x.Short) (ra : a.Ready) (rb : b.Ready) (qa : a.RReady) (qb : b.RReady) (d : List Item) (i0 er : Int) (hal : allR l [a, b] = (d, i0, er)) (h0 : (er != 0) = false) (hcc : commF a b = true) : Calls Tryz.prog 7 #[.agg #[.slice A l.length c], a.agg, b.agg] w fun e w' => e = .returned (.tuple #[b.agg, a.agg, .bool true]) ∧ Below w.heap.size w w' := by
 have HC := Lib.hid hcc; clear hcc
 obtain ⟨hb0, C0, PA0, PB0, R10, R20⟩ := sw_start w A l c a b
 have HB0 := Lib.hid hb0; clear hb0
 have HR := Lib.hid hr; clear hr
 have HAL := Lib.hid hal; clear hal
 have HSH := Lib.hid hsh; clear hsh
 go_enter Tryz.func7, Tryz.ntmps7
 go_wp2_with fail
 have hbl := HB0.out.alloc HB0.out.size (.cells (twoCs a b) 29)
 refine (rall_lit HAL.out A _ c 2 2 _ rfl (HR.out.below hbl) (RdP.lit2 _ a b _ (by simp)) hl hlc HSH.out (by simp) (two_rready qa qb)).mono ?_
 rintro e w1 ⟨Ad, cd, rfl, hrd, hcd, hb1⟩
 have hx1 := step_below hb1
 have C1 := keepw hx1 C0
 have qC1 := World.block_lt_of_cell? _ _ C1
 have PA1 := rkeepk hx1 PA0
 have qPA1 := lt_of_heap PA1
 have PB1 := rkeepk hx1 PB0
 have qPB1 := lt_of_heap PB1
 have R11 := rkeepk hx1 R10
 have qR11 := lt_of_heap R11
 have R21 := rkeepk hx1 R20
 have qR21 := lt_of_heap R21
 have HB1 := Lib.hid (chain2 HB0.out hx1)
 have HX1 := Lib.hid hx1
 clear hx1 hb1 C0 PA0 PB0 R10 R20
 clear hrd
 go_wp2_with fail
 refine (rcomm_lit HC.out ra rb _).mono ?_
 rintro e w2 ⟨rfl, hb2⟩
 have hx2 := step_below hb2
 have C2 := keepw hx2 C1
 have qC2 := World.block_lt_of_cell? _ _ C2
 have PA2 := rkeepk hx2 PA1
 have qPA2 := lt_of_heap PA2
 have PB2 := rkeepk hx2 PB1
 have qPB2 := lt_of_heap PB2
 have R12 := rkeepk hx2 R11
 have qR12 := lt_of_heap R12
 have R22 := rkeepk hx2 R21
 have qR22 := lt_of_heap R22
 have HB2 := Lib.hid (chain2 HB1.out hx2)
 have HX2 := Lib.hid hx2
 clear hx2 hb2 C1 qC1 PA1 qPA1 PB1 qPB1 R11 qR11 R21 qR21
 go_wp2_with fail
 refine wp_region_held_drew (S := (fun X => X.blk (w.heap.size + 1) = some (.cells (patCs a) 29 (0, 0)) ∧ X.blk (w.heap.size + 1 + 1) = some (.cells (patCs b) 29 (0, 0)))) (by kernel_rfl) ⟨PA2, PB2⟩ (fun hHeld => ?_)
 refine takeD (i := 0) (v := (b).agg) (k := 28) rfl rfl (by kernel_rfl) (by kernel_rfl) (by kernel_rfl) (fun _ _ _ h => h) (Or.inl ⟨by rfl, fun z hz => by (obtain ⟨z0, z1⟩ := hz; go_simp)⟩) hHeld ?_
 simp only [Act.put, sia, sc0, scs]
 refine takeD (i := 1) (v := (a).agg) (k := 29) rfl rfl (by kernel_rfl) (by kernel_rfl) (by kernel_rfl) (fun _ _ _ h => h) (Or.inl ⟨by rfl, fun z hz => by (obtain ⟨z0, z1⟩ := hz; go_simp)⟩) hHeld ?_
 simp only [Act.put, sia, sc0, scs]
 refine wpAnyH_ready (rs := [2]) (by kernel_rfl) (by simp) (AllReadyH.cons rfl (fun K hK => ?_) AllReadyH.nil)
 refine step_store_pat rfl (.tmp 6) (.tmp 28) rfl (w.heap.size + 1 + 1 + 1) (b) zeroP rfl rfl R12 ?_
 refine hK.out _ _ ⟨(blk_setRow_ne (by omega)).trans hHeld.1, (blk_setRow_ne (by omega)).trans hHeld.2⟩ (fun hHeld => ?_)
 clear hK K
 simp only [Act.put, sia, sc0, scs]
 refine wpAnyH_ready (rs := [3]) (by kernel_rfl) (by simp) (AllReadyH.cons rfl (fun K hK => ?_) AllReadyH.nil)
 refine step_store_pat rfl (.tmp 7) (.tmp 29) rfl (w.heap.size + 1 + 1 + 1 + 1) (a) zeroP rfl rfl ((blk_setRow_ne (by omega)).trans R22) ?_
 refine hK.out _ _ ⟨(blk_setRow_ne (by omega)).trans hHeld.1, (blk_setRow_ne (by omega)).trans hHeld.2⟩ (fun hHeld => ?_)
 clear hK K
 simp only [Act.put, sia, sc0, scs]
 refine takeD (i := 4) (v := .bool true) (k := 8) rfl rfl (by kernel_rfl) (by kernel_rfl) (by kernel_rfl) (fun _ _ _ h => h) (Or.inl ⟨by rfl, fun z hz => by (obtain ⟨z0, z1⟩ := hz; go_simp)⟩) hHeld ?_
 simp only [Act.put, sia, sc0, scs]
 refine wpAnyH_done (by kernel_rfl) ?_ _
 go_wp2_with fail
 have D1 : (w2).drew.blk (w.heap.size + 1 + 1 + 1) = some (.cells (patCs zeroP) 29 (0, 0)) := R12
 have D2 : (w2).drew.blk (w.heap.size + 1 + 1 + 1 + 1) = some (.cells (patCs zeroP) 29 (0, 0)) := R22
 refine bodyPost_ret (v := .tuple #[(b).agg, (a).agg, .bool true]) (rresults_swap rfl rfl rfl ((blk_setRow_ne (by omega)).trans (blk_setRow_at D1)) (blk_setRow_at ((blk_setRow_ne (by omega)).trans D2))) rfl ⟨rfl, ?_⟩
 exact below_setRow (below_setRow (HB2.out.drew) (by omega) _) (by omega) _
theorem rswap_3 (l : List Item) (A : Option Addr) (c : Nat) (a b : Patch) (w : World) (hr : RdI w A l) (hl : l.length ≤ 100000) (hlc : l.length ≤ c) (hsh : ∀ x ∈ l, x.Short) (ra : a.Ready) (rb : b.Ready) (qa : a.RReady) (qb : b.RReady) (d : List Item) (i0 er : Int) (hal : allR l [a, b] = (d, i0, er)) (h0 : (er != 0) = false) (hcc : commF a b = false) (ka : (a.kind != 1) = true) : Calls Tryz.prog 7 #[.agg #[.slice A l.length c], a.agg, b.agg] w fun e w' => e = .returned (.tuple #[zeroP.agg, zeroP.agg, .bool false]) ∧ Below w.heap.size w w' := by
 have HC := Lib.hid hcc; clear hcc
 obtain ⟨hb0, C0, PA0, PB0, R10, R20⟩ := sw_start w A l c a b
 have HB0 := Lib.hid hb0; clear hb0
 have HR := Lib.hid hr; clear hr
 have HAL := Lib.hid hal; clear hal
 have HSH := Lib.hid hsh; clear hsh
 go_enter Tryz.func7, Tryz.ntmps7
 go_wp2_with fail
 have hbl := HB0.out.alloc HB0.out.size (.cells (twoCs a b) 29)
 refine (rall_lit HAL.out A _ c 2 2 _ rfl (HR.out.below hbl) (RdP.lit2 _ a b _ (by simp)) hl hlc HSH.out (by simp) (two_rready qa qb)).mono ?_
 rintro e w1 ⟨Ad, cd, rfl, hrd, hcd, hb1⟩
 have hx1 := step_below hb1
 have C1 := keepw hx1 C0
 have qC1 := World.block_lt_of_cell? _ _ C1
 have PA1 := rkeepk hx1 PA0
 have qPA1 := lt_of_heap PA1
 have PB1 := rkeepk hx1 PB0
 have qPB1 := lt_of_heap PB1
 have R11 := rkeepk hx1 R10
 have qR11 := lt_of_heap R11
 have R21 := rkeepk hx1 R20
 have qR21 := lt_of_heap R21
 have HB1 := Lib.hid (chain2 HB0.out hx1)
 have HX1 := Lib.hid hx1
 clear hx1 hb1 C0 PA0 PB0 R10 R20
 clear hrd
 go_wp2_with fail
 refine (rcomm_lit HC.out ra rb _).mono ?_
 rintro e w2 ⟨rfl, hb2⟩
 have hx2 := step_below hb2
 have C2 := keepw hx2 C1
 have qC2 := World.block_lt_of_cell? _ _ C2
 have PA2 := rkeepk hx2 PA1
 have qPA2 := lt_of_heap PA2
 have PB2 := rkeepk hx2 PB1
 have qPB2 := lt_of_heap PB2
 have R12 := rkeepk hx2 R11
 have qR12 := lt_of_heap R12
 have R22 := rkeepk hx2 R21
 have qR22 := lt_of_heap R22
 have HB2 := Lib.hid (chain2 HB1.out hx2)
 have HX2 := Lib.hid hx2
 clear hx2 hb2 C1 qC1 PA1 qPA1 PB1 qPB1 R11 qR11 R21 qR21
 have a0 : w2.cell? ⟨w.heap.size + 1, 0, none⟩ = some (.int .i64 a.kind) := blk_cell PA2 rfl
 have a1 : w2.cell? ⟨w.heap.size + 1, 1, none⟩ = some (vs a.id) := blk_cell PA2 rfl
 have a2 : w2.cell? ⟨w.heap.size + 1, 2, none⟩ = some (vs a.par) := blk_cell PA2 rfl
 have a3 : w2.cell? ⟨w.heap.size + 1, 3, none⟩ = some (vs a.aft) := blk_cell PA2 rfl
 have b0 : w2.cell? ⟨w.heap.size + 1 + 1, 0, none⟩ = some (.int .i64 b.kind) := blk_cell PB2 rfl
 have b1 : w2.cell? ⟨w.heap.size + 1 + 1, 1, none⟩ = some (vs b.id) := blk_cell PB2 rfl
 have b2 : w2.cell? ⟨w.heap.size + 1 + 1, 2, none⟩ = some (vs b.par) := blk_cell PB2 rfl
 have b3 : w2.cell? ⟨w.heap.size + 1 + 1, 3, none⟩ = some (vs b.aft) := blk_cell PB2 rfl
 have G1 := R12
 have G20 := R22
 have HBX := HB2
 have G2 := (blk_setRow_ne (b := w.heap.size + 1 + 1 + 1) (D := patCs zeroP) (by omega)).trans G20
 go_wp2_with (first | refine wpList_store_pat rfl (.tmp 6) (.tmp 38) rfl (w.heap.size + 1 + 1 + 1) zeroP zeroP rfl rfl G1 ?_ | refine wpList_store_pat rfl (.tmp 7) (.tmp 39) rfl (w.heap.size + 1 + 1 + 1 + 1) zeroP zeroP rfl rfl G2 ?_)
 refine bodyPost_ret (v := .tuple #[zeroP.agg, zeroP.agg, .bool false]) (rresults_swap rfl rfl rfl ((blk_setRow_ne (by omega)).trans (blk_setRow_at G1)) (blk_setRow_at G2)) rfl ⟨rfl, ?_⟩
 exact below_setRow (below_setRow (HBX.out) (by omega) _) (by omega) _
theorem rswap_4 (l : List Item) (A : Option Addr) (c : Nat) (a b : Patch) (w : World) (hr : RdI w A l) (hl : l.length ≤ 100000) (hlc : l.length ≤ c) (hsh : ∀ x ∈ l, x.Short) (ra : a.Ready) (rb : b.Ready) (qa : a.RReady) (qb : b.RReady) (d : List Item) (i0 er : Int) (hal : allR l [a, b] = (d, i0, er)) (h0 : (er != 0) = false) (hcc : commF a b = false) (ka : (a.kind != 1) = false) (kb : (b.kind != 1) = true) : Calls Tryz.prog 7 #[.agg #[.slice A l.length c], a.agg, b.agg] w fun e w' => e = .returned (.tuple #[zeroP.agg, zeroP.agg, .bool false]) ∧ Below w.heap.size w w' := by
 have HC := Lib.hid hcc; clear hcc
 obtain ⟨hb0, C0, PA0, PB0, R10, R20⟩ := sw_start w A l c a b
 have HB0 := Lib.hid hb0; clear hb0
 have HR := Lib.hid hr; clear hr
 have HAL := Lib.hid hal; clear hal
 have HSH := Lib.hid hsh; clear hsh
 go_enter Tryz.func7, Tryz.ntmps7
 go_wp2_with fail
 have hbl := HB0.out.alloc HB0.out.size (.cells (twoCs a b) 29)
 refine (rall_lit HAL.out A _ c 2 2 _ rfl (HR.out.below hbl) (RdP.lit2 _ a b _ (by simp)) hl hlc HSH.out (by simp) (two_rready qa qb)).mono ?_
 rintro e w1 ⟨Ad, cd, rfl, hrd, hcd, hb1⟩
 have hx1 := step_below hb1
 have C1 := keepw hx1 C0
 have qC1 := World.block_lt_of_cell? _ _ C1
 have PA1 := rkeepk hx1 PA0
 have qPA1 := lt_of_heap PA1
 have PB1 := rkeepk hx1 PB0
 have qPB1 := lt_of_heap PB1
 have R11 := rkeepk hx1 R10
 have qR11 := lt_of_heap R11
 have R21 := rkeepk hx1 R20
 have qR21 := lt_of_heap R21
 have HB1 := Lib.hid (chain2 HB0.out hx1)
 have HX1 := Lib.hid hx1
 clear hx1 hb1 C0 PA0 PB0 R10 R20
 clear hrd
 go_wp2_with fail
 refine (rcomm_lit HC.out ra rb _).mono ?_
 rintro e w2 ⟨rfl, hb2⟩
 have hx2 := step_below hb2
 have C2 := keepw hx2 C1
 have qC2 := World.block_lt_of_cell? _ _ C2
 have PA2 := rkeepk hx2 PA1
 have qPA2 := lt_of_heap PA2
 have PB2 := rkeepk hx2 PB1
 have qPB2 := lt_of_heap PB2
 have R12 := rkeepk hx2 R11
 have qR12 := lt_of_heap R12
 have R22 := rkeepk hx2 R21
 have qR22 := lt_of_heap R22
 have HB2 := Lib.hid (chain2 HB1.out hx2)
 have HX2 := Lib.hid hx2
 clear hx2 hb2 C1 qC1 PA1 qPA1 PB1 qPB1 R11 qR11 R21 qR21
 have a0 : w2.cell? ⟨w.heap.size + 1, 0, none⟩ = some (.int .i64 a.kind) := blk_cell PA2 rfl
 have a1 : w2.cell? ⟨w.heap.size + 1, 1, none⟩ = some (vs a.id) := blk_cell PA2 rfl
 have a2 : w2.cell? ⟨w.heap.size + 1, 2, none⟩ = some (vs a.par) := blk_cell PA2 rfl
 have a3 : w2.cell? ⟨w.heap.size + 1, 3, none⟩ = some (vs a.aft) := blk_cell PA2 rfl
 have b0 : w2.cell? ⟨w.heap.size + 1 + 1, 0, none⟩ = some (.int .i64 b.kind) := blk_cell PB2 rfl
 have b1 : w2.cell? ⟨w.heap.size + 1 + 1, 1, none⟩ = some (vs b.id) := blk_cell PB2 rfl
 have b2 : w2.cell? ⟨w.heap.size + 1 + 1, 2, none⟩ = some (vs b.par) := blk_cell PB2 rfl
 have b3 : w2.cell? ⟨w.heap.size + 1 + 1, 3, none⟩ = some (vs b.aft) := blk_cell PB2 rfl
 have G1 := R12
 have G20 := R22
 have HBX := HB2
 have G2 := (blk_setRow_ne (b := w.heap.size + 1 + 1 + 1) (D := patCs zeroP) (by omega)).trans G20
 go_wp2_with (first | refine wpList_store_pat rfl (.tmp 6) (.tmp 38) rfl (w.heap.size + 1 + 1 + 1) zeroP zeroP rfl rfl G1 ?_ | refine wpList_store_pat rfl (.tmp 7) (.tmp 39) rfl (w.heap.size + 1 + 1 + 1 + 1) zeroP zeroP rfl rfl G2 ?_)
 refine bodyPost_ret (v := .tuple #[zeroP.agg, zeroP.agg, .bool false]) (rresults_swap rfl rfl rfl ((blk_setRow_ne (by omega)).trans (blk_setRow_at G1)) (blk_setRow_at G2)) rfl ⟨rfl, ?_⟩
 exact below_setRow (below_setRow (HBX.out) (by omega) _) (by omega) _
theorem rswap_5 (l : List Item) (A : Option Addr) (c : Nat) (a b : Patch) (w : World) (hr : RdI w A l) (hl : l.length ≤ 100000) (hlc : l.length ≤ c) (hsh : ∀ x ∈ l, x.Short) (ra : a.Ready) (rb : b.Ready) (qa : a.RReady) (qb : b.RReady) (d : List Item) (i0 er : Int) (hal : allR l [a, b] = (d, i0, er)) (h0 : (er != 0) = false) (hcc : commF a b = false) (ka : (a.kind != 1) = false) (kb : (b.kind != 1) = false) (ht : thereF a b = true) : Calls Tryz.prog 7 #[.agg #[.slice A l.length c], a.agg, b.agg] w fun e w' => e = .returned (.tuple #[b.agg, { a with aft := b.id }.agg, .bool true]) ∧ Below w.heap.size w w' := by
 have HC := Lib.hid hcc; clear hcc
 have HT := Lib.hid ht; clear ht
 obtain ⟨hb0, C0, PA0, PB0, R10, R20⟩ := sw_start w A l c a b
 have HB0 := Lib.hid hb0; clear hb0
 have HR := Lib.hid hr; clear hr
 have HAL := Lib.hid hal; clear hal
 have HSH := Lib.hid hsh; clear hsh
 go_enter Tryz.func7, Tryz.ntmps7
 go_wp2_with fail
 have hbl := HB0.out.alloc HB0.out.size (.cells (twoCs a b) 29)
 refine (rall_lit HAL.out A _ c 2 2 _ rfl (HR.out.below hbl) (RdP.lit2 _ a b _ (by simp)) hl hlc HSH.out (by simp) (two_rready qa qb)).mono ?_
 rintro e w1 ⟨Ad, cd, rfl, hrd, hcd, hb1⟩
 have hx1 := step_below hb1
 have C1 := keepw hx1 C0
 have qC1 := World.block_lt_of_cell? _ _ C1
 have PA1 := rkeepk hx1 PA0
 have qPA1 := lt_of_heap PA1
 have PB1 := rkeepk hx1 PB0
 have qPB1 := lt_of_heap PB1
 have R11 := rkeepk hx1 R10
 have qR11 := lt_of_heap R11
 have R21 := rkeepk hx1 R20
 have qR21 := lt_of_heap R21
 have HB1 := Lib.hid (chain2 HB0.out hx1)
 have HX1 := Lib.hid hx1
 clear hx1 hb1 C0 PA0 PB0 R10 R20
 clear hrd
 go_wp2_with fail
 refine (rcomm_lit HC.out ra rb _).mono ?_
 rintro e w2 ⟨rfl, hb2⟩
 have hx2 := step_below hb2
 have C2 := keepw hx2 C1
 have qC2 := World.block_lt_of_cell? _ _ C2
 have PA2 := rkeepk hx2 PA1
 have qPA2 := lt_of_heap PA2
 have PB2 := rkeepk hx2 PB1
 have qPB2 := lt_of_heap PB2
 have R12 := rkeepk hx2 R11
 have qR12 := lt_of_heap R12
 have R22 := rkeepk hx2 R21
 have qR22 := lt_of_heap R22
 have HB2 := Lib.hid (chain2 HB1.out hx2)
 have HX2 := Lib.hid hx2
 clear hx2 hb2 C1 qC1 PA1 qPA1 PB1 qPB1 R11 qR11 R21 qR21
 have a0 : w2.cell? ⟨w.heap.size + 1, 0, none⟩ = some (.int .i64 a.kind) := blk_cell PA2 rfl
 have a1 : w2.cell? ⟨w.heap.size + 1, 1, none⟩ = some (vs a.id) := blk_cell PA2 rfl
 have a2 : w2.cell? ⟨w.heap.size + 1, 2, none⟩ = some (vs a.par) := blk_cell PA2 rfl
 have a3 : w2.cell? ⟨w.heap.size + 1, 3, none⟩ = some (vs a.aft) := blk_cell PA2 rfl
 have b0 : w2.cell? ⟨w.heap.size + 1 + 1, 0, none⟩ = some (.int .i64 b.kind) := blk_cell PB2 rfl
 have b1 : w2.cell? ⟨w.heap.size + 1 + 1, 1, none⟩ = some (vs b.id) := blk_cell PB2 rfl
 have b2 : w2.cell? ⟨w.heap.size + 1 + 1, 2, none⟩ = some (vs b.par) := blk_cell PB2 rfl
 have b3 : w2.cell? ⟨w.heap.size + 1 + 1, 3, none⟩ = some (vs b.aft) := blk_cell PB2 rfl
 go_wp2_with fail
 refine (rsame_lit HT.out _).mono ?_
 rintro e w3 ⟨rfl, hb3⟩
 clear a0 a1 a2 a3 b0 b1 b2 b3
 have hx3 := hb3
 have C3 := keepw hx3 C2
 have qC3 := World.block_lt_of_cell? _ _ C3
 have PA3 := rkeepk hx3 PA2
 have qPA3 := lt_of_heap PA3
 have PB3 := rkeepk hx3 PB2
 have qPB3 := lt_of_heap PB3
 have R13 := rkeepk hx3 R12
 have qR13 := lt_of_heap R13
 have R23 := rkeepk hx3 R22
 have qR23 := lt_of_heap R23
 have HB3 := Lib.hid (chain2 HB2.out hx3)
 have HX3 := Lib.hid hx3
 clear hx3 hb3 C2 qC2 PA2 qPA2 PB2 qPB2 R12 qR12 R22 qR22
 have a0 : w3.cell? ⟨w.heap.size + 1, 0, none⟩ = some (.int .i64 a.kind) := blk_cell PA3 rfl
 have a1 : w3.cell? ⟨w.heap.size + 1, 1, none⟩ = some (vs a.id) := blk_cell PA3 rfl
 have a2 : w3.cell? ⟨w.heap.size + 1, 2, none⟩ = some (vs a.par) := blk_cell PA3 rfl
 have a3 : w3.cell? ⟨w.heap.size + 1, 3, none⟩ = some (vs a.aft) := blk_cell PA3 rfl
 have b0 : w3.cell? ⟨w.heap.size + 1 + 1, 0, none⟩ = some (.int .i64 b.kind) := blk_cell PB3 rfl
 have b1 : w3.cell? ⟨w.heap.size + 1 + 1, 1, none⟩ = some (vs b.id) := blk_cell PB3 rfl
 have b2 : w3.cell? ⟨w.heap.size + 1 + 1, 2, none⟩ = some (vs b.par) := blk_cell PB3 rfl
 have b3 : w3.cell? ⟨w.heap.size + 1 + 1, 3, none⟩ = some (vs b.aft) := blk_cell PB3 rfl
 have hfz : w3.frozen? ⟨w.heap.size + 1, 3, none⟩ = false := blk_frozen PA3
 go_wp2_with fail
 have PA4 : (w3.setCell ⟨w.heap.size + 1, 3, none⟩ (vs (b.id))).blk (w.heap.size + 1) = some (.cells (patCs { a with aft := b.id }) 29 (0, 0)) := blk_setCell_at PA3
 have PB4 : (w3.setCell ⟨w.heap.size + 1, 3, none⟩ (vs (b.id))).blk (w.heap.size + 1 + 1) = some (.cells (patCs b) 29 (0, 0)) := (blk_setCell (show (w.heap.size + 1 + 1 : Nat) ≠ w.heap.size + 1 by omega)).trans PB3
 have R14 : (w3.setCell ⟨w.heap.size + 1, 3, none⟩ (vs (b.id))).blk (w.heap.size + 1 + 1 + 1) = some (.cells (patCs zeroP) 29 (0, 0)) := (blk_setCell (show (w.heap.size + 1 + 1 + 1 : Nat) ≠ w.heap.size + 1 by omega)).trans R13
 have R24 : (w3.setCell ⟨w.heap.size + 1, 3, none⟩ (vs (b.id))).blk (w.heap.size + 1 + 1 + 1 + 1) = some (.cells (patCs zeroP) 29 (0, 0)) := (blk_setCell (show (w.heap.size + 1 + 1 + 1 + 1 : Nat) ≠ w.heap.size + 1 by omega)).trans R23
 have HB4 : Hid (Below w.heap.size w (w3.setCell ⟨w.heap.size + 1, 3, none⟩ (vs (b.id)))) := Lib.hid (HB3.out.setCell (show w.heap.size ≤ w.heap.size + 1 by omega) _)
 refine wp_region_held_drew (S := (fun X => X.blk (w.heap.size + 1) = some (.cells (patCs { a with aft := b.id }) 29 (0, 0)) ∧ X.blk (w.heap.size + 1 + 1) = some (.cells (patCs b) 29 (0, 0)))) (by kernel_rfl) ⟨PA4, PB4⟩ (fun hHeld => ?_)
 refine takeD (i := 0) (v := (b).agg) (k := 46) rfl rfl (by kernel_rfl) (by kernel_rfl) (by kernel_rfl) (fun _ _ _ h => h) (Or.inl ⟨by rfl, fun z hz => by (obtain ⟨z0, z1⟩ := hz; go_simp)⟩) hHeld ?_
 simp only [Act.put, sia, sc0, scs]
 refine takeD (i := 1) (v := ({ a with aft := b.id }).agg) (k := 47) rfl rfl (by kernel_rfl) (by kernel_rfl) (by kernel_rfl) (fun _ _ _ h => h) (Or.inl ⟨by rfl, fun z hz => by (obtain ⟨z0, z1⟩ := hz; go_simp)⟩) hHeld ?_
 simp only [Act.put, sia, sc0, scs]
 refine wpAnyH_ready (rs := [2]) (by kernel_rfl) (by simp) (AllReadyH.cons rfl (fun K hK => ?_) AllReadyH.nil)
 refine step_store_pat rfl (.tmp 6) (.tmp 46) rfl (w.heap.size + 1 + 1 + 1) (b) zeroP rfl rfl R14 ?_
 refine hK.out _ _ ⟨(blk_setRow_ne (by omega)).trans hHeld.1, (blk_setRow_ne (by omega)).trans hHeld.2⟩ (fun hHeld => ?_)
 clear hK K
 simp only [Act.put, sia, sc0, scs]
 refine wpAnyH_ready (rs := [3]) (by kernel_rfl) (by simp) (AllReadyH.cons rfl (fun K hK => ?_) AllReadyH.nil)
 refine step_store_pat rfl (.tmp 7) (.tmp 47) rfl (w.heap.size + 1 + 1 + 1 + 1) ({ a with aft := b.id }) zeroP rfl rfl ((blk_setRow_ne (by omega)).trans R24) ?_
 refine hK.out _ _ ⟨(blk_setRow_ne (by omega)).trans hHeld.1, (blk_setRow_ne (by omega)).trans hHeld.2⟩ (fun hHeld => ?_)
 clear hK K
 simp only [Act.put, sia, sc0, scs]
 refine takeD (i := 4) (v := .bool true) (k := 8) rfl rfl (by kernel_rfl) (by kernel_rfl) (by kernel_rfl) (fun _ _ _ h => h) (Or.inl ⟨by rfl, fun z hz => by (obtain ⟨z0, z1⟩ := hz; go_simp)⟩) hHeld ?_
 simp only [Act.put, sia, sc0, scs]
 refine wpAnyH_done (by kernel_rfl) ?_ _
 go_wp2_with fail
 have D1 : (w3.setCell ⟨w.heap.size + 1, 3, none⟩ (vs b.id)).drew.blk (w.heap.size + 1 + 1 + 1) = some (.cells (patCs zeroP) 29 (0, 0)) := R14
 have D2 : (w3.setCell ⟨w.heap.size + 1, 3, none⟩ (vs b.id)).drew.blk (w.heap.size + 1 + 1 + 1 + 1) = some (.cells (patCs zeroP) 29 (0, 0)) := R24
 refine bodyPost_ret (v := .tuple #[(b).agg, ({ a with aft := b.id }).agg, .bool true]) (rresults_swap rfl rfl rfl ((blk_setRow_ne (by omega)).trans (blk_setRow_at D1)) (blk_setRow_at ((blk_setRow_ne (by omega)).trans D2))) rfl ⟨rfl, ?_⟩
 exact below_setRow (below_setRow (HB4.out.drew) (by omega) _) (by omega) _
theorem rswap_6 (l : List Item) (A : Option Addr) (c : Nat) (a b : Patch) (w : World) (hr : RdI w A l) (hl : l.length ≤ 100000) (hlc : l.length ≤ c) (hsh : ∀ x ∈ l, x.Short) (ra : a.Ready) (rb : b.Ready) (qa : a.RReady) (qb : b.RReady) (d : List Item) (i0 er : Int) (hal : allR l [a, b] = (d, i0, er)) (h0 : (er != 0) = false) (hcc : commF a b = false) (ka : (a.kind != 1) = false) (kb : (b.kind != 1) = false) (ht : thereF a b = false) (hbi : (b.aft == a.id) = true) : Calls Tryz.prog 7 #[.agg #[.slice A l.length c], a.agg, b.agg] w fun e w' => e = .returned (.tuple #[{ b with aft := a.aft }.agg, a.agg, .bool true]) ∧ Below w.heap.size w w' := by
 have HC := Lib.hid hcc; clear hcc
 have HT := Lib.hid ht; clear ht
 obtain ⟨hb0, C0, PA0, PB0, R10, R20⟩ := sw_start w A l c a b
 have HB0 := Lib.hid hb0; clear hb0
 have HR := Lib.hid hr; clear hr
 have HAL := Lib.hid hal; clear hal
 have HSH := Lib.hid hsh; clear hsh
 go_enter Tryz.func7, Tryz.ntmps7
 go_wp2_with fail
 have hbl := HB0.out.alloc HB0.out.size (.cells (twoCs a b) 29)
 refine (rall_lit HAL.out A _ c 2 2 _ rfl (HR.out.below hbl) (RdP.lit2 _ a b _ (by simp)) hl hlc HSH.out (by simp) (two_rready qa qb)).mono ?_
 rintro e w1 ⟨Ad, cd, rfl, hrd, hcd, hb1⟩
 have hx1 := step_below hb1
 have C1 := keepw hx1 C0
 have qC1 := World.block_lt_of_cell? _ _ C1
 have PA1 := rkeepk hx1 PA0
 have qPA1 := lt_of_heap PA1
 have PB1 := rkeepk hx1 PB0
 have qPB1 := lt_of_heap PB1
 have R11 := rkeepk hx1 R10
 have qR11 := lt_of_heap R11
 have R21 := rkeepk hx1 R20
 have qR21 := lt_of_heap R21
 have HB1 := Lib.hid (chain2 HB0.out hx1)
 have HX1 := Lib.hid hx1
 clear hx1 hb1 C0 PA0 PB0 R10 R20
 clear hrd
 go_wp2_with fail
 refine (rcomm_lit HC.out ra rb _).mono ?_
 rintro e w2 ⟨rfl, hb2⟩
 have hx2 := step_below hb2
 have C2 := keepw hx2 C1
 have qC2 := World.block_lt_of_cell? _ _ C2
 have PA2 := rkeepk hx2 PA1
 have qPA2 := lt_of_heap PA2
 have PB2 := rkeepk hx2 PB1
 have qPB2 := lt_of_heap PB2
 have R12 := rkeepk hx2 R11
 have qR12 := lt_of_heap R12
 have R22 := rkeepk hx2 R21
 have qR22 := lt_of_heap R22
 have HB2 := Lib.hid (chain2 HB1.out hx2)
 have HX2 := Lib.hid hx2
 clear hx2 hb2 C1 qC1 PA1 qPA1 PB1 qPB1 R11 qR11 R21 qR21
 have a0 : w2.cell? ⟨w.heap.size + 1, 0, none⟩ = some (.int .i64 a.kind) := blk_cell PA2 rfl
 have a1 : w2.cell? ⟨w.heap.size + 1, 1, none⟩ = some (vs a.id) := blk_cell PA2 rfl
 have a2 : w2.cell? ⟨w.heap.size + 1, 2, none⟩ = some (vs a.par) := blk_cell PA2 rfl
 have a3 : w2.cell? ⟨w.heap.size + 1, 3, none⟩ = some (vs a.aft) := blk_cell PA2 rfl
 have b0 : w2.cell? ⟨w.heap.size + 1 + 1, 0, none⟩ = some (.int .i64 b.kind) := blk_cell PB2 rfl
 have b1 : w2.cell? ⟨w.heap.size + 1 + 1, 1, none⟩ = some (vs b.id) := blk_cell PB2 rfl
 have b2 : w2.cell? ⟨w.heap.size + 1 + 1, 2, none⟩ = some (vs b.par) := blk_cell PB2 rfl
 have b3 : w2.cell? ⟨w.heap.size + 1 + 1, 3, none⟩ = some (vs b.aft) := blk_cell PB2 rfl
 go_wp2_with fail
 refine (rsame_lit HT.out _).mono ?_
 rintro e w3 ⟨rfl, hb3⟩
 clear a0 a1 a2 a3 b0 b1 b2 b3
 have hx3 := hb3
 have C3 := keepw hx3 C2
 have qC3 := World.block_lt_of_cell? _ _ C3
 have PA3 := rkeepk hx3 PA2
 have qPA3 := lt_of_heap PA3
 have PB3 := rkeepk hx3 PB2
 have qPB3 := lt_of_heap PB3
 have R13 := rkeepk hx3 R12
 have qR13 := lt_of_heap R13
 have R23 := rkeepk hx3 R22
 have qR23 := lt_of_heap R23
 have HB3 := Lib.hid (chain2 HB2.out hx3)
 have HX3 := Lib.hid hx3
 clear hx3 hb3 C2 qC2 PA2 qPA2 PB2 qPB2 R12 qR12 R22 qR22
 have a0 : w3.cell? ⟨w.heap.size + 1, 0, none⟩ = some (.int .i64 a.kind) := blk_cell PA3 rfl
 have a1 : w3.cell? ⟨w.heap.size + 1, 1, none⟩ = some (vs a.id) := blk_cell PA3 rfl
 have a2 : w3.cell? ⟨w.heap.size + 1, 2, none⟩ = some (vs a.par) := blk_cell PA3 rfl
 have a3 : w3.cell? ⟨w.heap.size + 1, 3, none⟩ = some (vs a.aft) := blk_cell PA3 rfl
 have b0 : w3.cell? ⟨w.heap.size + 1 + 1, 0, none⟩ = some (.int .i64 b.kind) := blk_cell PB3 rfl
 have b1 : w3.cell? ⟨w.heap.size + 1 + 1, 1, none⟩ = some (vs b.id) := blk_cell PB3 rfl
 have b2 : w3.cell? ⟨w.heap.size + 1 + 1, 2, none⟩ = some (vs b.par) := blk_cell PB3 rfl
 have b3 : w3.cell? ⟨w.heap.size + 1 + 1, 3, none⟩ = some (vs b.aft) := blk_cell PB3 rfl
 have hfz : w3.frozen? ⟨w.heap.size + 1 + 1, 3, none⟩ = false := blk_frozen PB3
 go_wp2_with fail
 have PB4 : (w3.setCell ⟨w.heap.size + 1 + 1, 3, none⟩ (vs (a.aft))).blk (w.heap.size + 1 + 1) = some (.cells (patCs { b with aft := a.aft }) 29 (0, 0)) := blk_setCell_at PB3
 have PA4 : (w3.setCell ⟨w.heap.size + 1 + 1, 3, none⟩ (vs (a.aft))).blk (w.heap.size + 1) = some (.cells (patCs a) 29 (0, 0)) := (blk_setCell (show (w.heap.size + 1 : Nat) ≠ w.heap.size + 1 + 1 by omega)).trans PA3
 have R14 : (w3.setCell ⟨w.heap.size + 1 + 1, 3, none⟩ (vs (a.aft))).blk (w.heap.size + 1 + 1 + 1) = some (.cells (patCs zeroP) 29 (0, 0)) := (blk_setCell (show (w.heap.size + 1 + 1 + 1 : Nat) ≠ w.heap.size + 1 + 1 by omega)).trans R13
 have R24 : (w3.setCell ⟨w.heap.size + 1 + 1, 3, none⟩ (vs (a.aft))).blk (w.heap.size + 1 + 1 + 1 + 1) = some (.cells (patCs zeroP) 29 (0, 0)) := (blk_setCell (show (w.heap.size + 1 + 1 + 1 + 1 : Nat) ≠ w.heap.size + 1 + 1 by omega)).trans R23
 have HB4 : Hid (Below w.heap.size w (w3.setCell ⟨w.heap.size + 1 + 1, 3, none⟩ (vs (a.aft)))) := Lib.hid (HB3.out.setCell (show w.heap.size ≤ w.heap.size + 1 + 1 by omega) _)
 refine wp_region_held_drew (S := (fun X => X.blk (w.heap.size + 1) = some (.cells (patCs a) 29 (0, 0)) ∧ X.blk (w.heap.size + 1 + 1) = some (.cells (patCs { b with aft := a.aft }) 29 (0, 0)))) (by kernel_rfl) ⟨PA4, PB4⟩ (fun hHeld => ?_)
 refine takeD (i := 0) (v := ({ b with aft := a.aft }).agg) (k := 56) rfl rfl (by kernel_rfl) (by kernel_rfl) (by kernel_rfl) (fun _ _ _ h => h) (Or.inl ⟨by rfl, fun z hz => by (obtain ⟨z0, z1⟩ := hz; go_simp)⟩) hHeld ?_
 simp only [Act.put, sia, sc0, scs]
 refine takeD (i := 1) (v := (a).agg) (k := 57) rfl rfl (by kernel_rfl) (by kernel_rfl) (by kernel_rfl) (fun _ _ _ h => h) (Or.inl ⟨by rfl, fun z hz => by (obtain ⟨z0, z1⟩ := hz; go_simp)⟩) hHeld ?_
 simp only [Act.put, sia, sc0, scs]
 refine wpAnyH_ready (rs := [2]) (by kernel_rfl) (by simp) (AllReadyH.cons rfl (fun K hK => ?_) AllReadyH.nil)
 refine step_store_pat rfl (.tmp 6) (.tmp 56) rfl (w.heap.size + 1 + 1 + 1) ({ b with aft := a.aft }) zeroP rfl rfl R14 ?_
 refine hK.out _ _ ⟨(blk_setRow_ne (by omega)).trans hHeld.1, (blk_setRow_ne (by omega)).trans hHeld.2⟩ (fun hHeld => ?_)
 clear hK K
 simp only [Act.put, sia, sc0, scs]
 refine wpAnyH_ready (rs := [3]) (by kernel_rfl) (by simp) (AllReadyH.cons rfl (fun K hK => ?_) AllReadyH.nil)
 refine step_store_pat rfl (.tmp 7) (.tmp 57) rfl (w.heap.size + 1 + 1 + 1 + 1) (a) zeroP rfl rfl ((blk_setRow_ne (by omega)).trans R24) ?_
 refine hK.out _ _ ⟨(blk_setRow_ne (by omega)).trans hHeld.1, (blk_setRow_ne (by omega)).trans hHeld.2⟩ (fun hHeld => ?_)
 clear hK K
 simp only [Act.put, sia, sc0, scs]
 refine takeD (i := 4) (v := .bool true) (k := 8) rfl rfl (by kernel_rfl) (by kernel_rfl) (by kernel_rfl) (fun _ _ _ h => h) (Or.inl ⟨by rfl, fun z hz => by (obtain ⟨z0, z1⟩ := hz; go_simp)⟩) hHeld ?_
 simp only [Act.put, sia, sc0, scs]
 refine wpAnyH_done (by kernel_rfl) ?_ _
 go_wp2_with fail
 have D1 : (w3.setCell ⟨w.heap.size + 1 + 1, 3, none⟩ (vs a.aft)).drew.blk (w.heap.size + 1 + 1 + 1) = some (.cells (patCs zeroP) 29 (0, 0)) := R14
 have D2 : (w3.setCell ⟨w.heap.size + 1 + 1, 3, none⟩ (vs a.aft)).drew.blk (w.heap.size + 1 + 1 + 1 + 1) = some (.cells (patCs zeroP) 29 (0, 0)) := R24
 refine bodyPost_ret (v := .tuple #[({ b with aft := a.aft }).agg, (a).agg, .bool true]) (rresults_swap rfl rfl rfl ((blk_setRow_ne (by omega)).trans (blk_setRow_at D1)) (blk_setRow_at ((blk_setRow_ne (by omega)).trans D2))) rfl ⟨rfl, ?_⟩
 exact below_setRow (below_setRow (HB4.out.drew) (by omega) _) (by omega) _
theorem rswap_7 (l : List Item) (A : Option Addr) (c : Nat) (a b : Patch) (w : World) (hr : RdI w A l) (hl : l.length ≤ 100000) (hlc : l.length ≤ c) (hsh : ∀ x ∈ l, x.Short) (ra : a.Ready) (rb : b.Ready) (qa : a.RReady) (qb : b.RReady) (d : List Item) (i0 er : Int) (hal : allR l [a, b] = (d, i0, er)) (h0 : (er != 0) = false) (hcc : commF a b = false) (ka : (a.kind != 1) = false) (kb : (b.kind != 1) = false) (ht : thereF a b = false) (hbi : (b.aft == a.id) = false) : Calls Tryz.prog 7 #[.agg #[.slice A l.length c], a.agg, b.agg] w fun e w' => e = .returned (.tuple #[zeroP.agg, zeroP.agg, .bool false]) ∧ Below w.heap.size w w' := by
 have HC := Lib.hid hcc; clear hcc
 have HT := Lib.hid ht; clear ht
 obtain ⟨hb0, C0, PA0, PB0, R10, R20⟩ := sw_start w A l c a b
 have HB0 := Lib.hid hb0; clear hb0
 have HR := Lib.hid hr; clear hr
 have HAL := Lib.hid hal; clear hal
 have HSH := Lib.hid hsh; clear hsh
 go_enter Tryz.func7, Tryz.ntmps7
 go_wp2_with fail
 have hbl := HB0.out.alloc HB0.out.size (.cells (twoCs a b) 29)
 refine (rall_lit HAL.out A _ c 2 2 _ rfl (HR.out.below hbl) (RdP.lit2 _ a b _ (by simp)) hl hlc HSH.out (by simp) (two_rready qa qb)).mono ?_
 rintro e w1 ⟨Ad, cd, rfl, hrd, hcd, hb1⟩
 have hx1 := step_below hb1
 have C1 := keepw hx1 C0
 have qC1 := World.block_lt_of_cell? _ _ C1
 have PA1 := rkeepk hx1 PA0
 have qPA1 := lt_of_heap PA1
 have PB1 := rkeepk hx1 PB0
 have qPB1 := lt_of_heap PB1
 have R11 := rkeepk hx1 R10
 have qR11 := lt_of_heap R11
 have R21 := rkeepk hx1 R20
 have qR21 := lt_of_heap R21
 have HB1 := Lib.hid (chain2 HB0.out hx1)
 have HX1 := Lib.hid hx1
 clear hx1 hb1 C0 PA0 PB0 R10 R20
 clear hrd
 go_wp2_with fail
 refine (rcomm_lit HC.out ra rb _).mono ?_
 rintro e w2 ⟨rfl, hb2⟩
 have hx2 := step_below hb2
 have C2 := keepw hx2 C1
 have qC2 := World.block_lt_of_cell? _ _ C2
 have PA2 := rkeepk hx2 PA1
 have qPA2 := lt_of_heap PA2
 have PB2 := rkeepk hx2 PB1
 have qPB2 := lt_of_heap PB2
 have R12 := rkeepk hx2 R11
 have qR12 := lt_of_heap R12
 have R22 := rkeepk hx2 R21
 have qR22 := lt_of_heap R22
 have HB2 := Lib.hid (chain2 HB1.out hx2)
 have HX2 := Lib.hid hx2
 clear hx2 hb2 C1 qC1 PA1 qPA1 PB1 qPB1 R11 qR11 R21 qR21
 have a0 : w2.cell? ⟨w.heap.size + 1, 0, none⟩ = some (.int .i64 a.kind) := blk_cell PA2 rfl
 have a1 : w2.cell? ⟨w.heap.size + 1, 1, none⟩ = some (vs a.id) := blk_cell PA2 rfl
 have a2 : w2.cell? ⟨w.heap.size + 1, 2, none⟩ = some (vs a.par) := blk_cell PA2 rfl
 have a3 : w2.cell? ⟨w.heap.size + 1, 3, none⟩ = some (vs a.aft) := blk_cell PA2 rfl
 have b0 : w2.cell? ⟨w.heap.size + 1 + 1, 0, none⟩ = some (.int .i64 b.kind) := blk_cell PB2 rfl
 have b1 : w2.cell? ⟨w.heap.size + 1 + 1, 1, none⟩ = some (vs b.id) := blk_cell PB2 rfl
 have b2 : w2.cell? ⟨w.heap.size + 1 + 1, 2, none⟩ = some (vs b.par) := blk_cell PB2 rfl
 have b3 : w2.cell? ⟨w.heap.size + 1 + 1, 3, none⟩ = some (vs b.aft) := blk_cell PB2 rfl
 go_wp2_with fail
 refine (rsame_lit HT.out _).mono ?_
 rintro e w3 ⟨rfl, hb3⟩
 clear a0 a1 a2 a3 b0 b1 b2 b3
 have hx3 := hb3
 have C3 := keepw hx3 C2
 have qC3 := World.block_lt_of_cell? _ _ C3
 have PA3 := rkeepk hx3 PA2
 have qPA3 := lt_of_heap PA3
 have PB3 := rkeepk hx3 PB2
 have qPB3 := lt_of_heap PB3
 have R13 := rkeepk hx3 R12
 have qR13 := lt_of_heap R13
 have R23 := rkeepk hx3 R22
 have qR23 := lt_of_heap R23
 have HB3 := Lib.hid (chain2 HB2.out hx3)
 have HX3 := Lib.hid hx3
 clear hx3 hb3 C2 qC2 PA2 qPA2 PB2 qPB2 R12 qR12 R22 qR22
 have a0 : w3.cell? ⟨w.heap.size + 1, 0, none⟩ = some (.int .i64 a.kind) := blk_cell PA3 rfl
 have a1 : w3.cell? ⟨w.heap.size + 1, 1, none⟩ = some (vs a.id) := blk_cell PA3 rfl
 have a2 : w3.cell? ⟨w.heap.size + 1, 2, none⟩ = some (vs a.par) := blk_cell PA3 rfl
 have a3 : w3.cell? ⟨w.heap.size + 1, 3, none⟩ = some (vs a.aft) := blk_cell PA3 rfl
 have b0 : w3.cell? ⟨w.heap.size + 1 + 1, 0, none⟩ = some (.int .i64 b.kind) := blk_cell PB3 rfl
 have b1 : w3.cell? ⟨w.heap.size + 1 + 1, 1, none⟩ = some (vs b.id) := blk_cell PB3 rfl
 have b2 : w3.cell? ⟨w.heap.size + 1 + 1, 2, none⟩ = some (vs b.par) := blk_cell PB3 rfl
 have b3 : w3.cell? ⟨w.heap.size + 1 + 1, 3, none⟩ = some (vs b.aft) := blk_cell PB3 rfl
 have G1 := R13
 have G20 := R23
 have HBX := HB3
 have G2 := (blk_setRow_ne (b := w.heap.size + 1 + 1 + 1) (D := patCs zeroP) (by omega)).trans G20
 go_wp2_with (first | refine wpList_store_pat rfl (.tmp 6) (.tmp 58) rfl (w.heap.size + 1 + 1 + 1) zeroP zeroP rfl rfl G1 ?_ | refine wpList_store_pat rfl (.tmp 7) (.tmp 59) rfl (w.heap.size + 1 + 1 + 1 + 1) zeroP zeroP rfl rfl G2 ?_)
 refine bodyPost_ret (v := .tuple #[zeroP.agg, zeroP.agg, .bool false]) (rresults_swap rfl rfl rfl ((blk_setRow_ne (by omega)).trans (blk_setRow_at G1)) (blk_setRow_at G2)) rfl ⟨rfl, ?_⟩
 exact below_setRow (below_setRow (HBX.out) (by omega) _) (by omega) _
theorem rswap_any (l : List Item) (A : Option Addr) (c : Nat) (a b : Patch) (w : World) (hr : RdI w A l) (hl : l.length ≤ 100000) (hlc : l.length ≤ c) (hsh : ∀ x ∈ l, x.Short) (ra : a.Ready) (rb : b.Ready) (qa : a.RReady) (qb : b.RReady) :
 Calls Tryz.prog 7 #[.agg #[.slice A l.length c], a.agg, b.agg] w (SwapP l a b w) := by
 obtain ⟨d, i0, er, hal⟩ : ∃ d i0 er, allR l [a, b] = (d, i0, er) := ⟨_, _, _, rfl⟩
 unfold SwapP swapF
 rw [hal]
 by_cases h0 : er = 0
 · have h0' : (er != 0) = false := by simp [h0]
   rw [if_neg (by simpa using h0)]
   by_cases hc : commF a b = true
   · rw [if_pos hc]
     exact rswap_2 l A c a b w hr hl hlc hsh ra rb qa qb d i0 er hal h0' hc
   · have hc' : commF a b = false := by simpa using hc
     rw [if_neg hc]
     by_cases ka : a.kind = 1
     · by_cases kb : b.kind = 1
       · have ka' : (a.kind != 1) = false := by simp [ka]
         have kb' : (b.kind != 1) = false := by simp [kb]
         cases ht : thereF a b with
         | true =>
           have h3 : a.kind = 1 ∧ b.kind = 1 ∧ a.par = b.par ∧ a.aft = b.aft := by
            unfold thereF at ht
            simp only [Bool.and_eq_true, beq_iff_eq] at ht
            exact ⟨ka, kb, ht.1, ht.2⟩
           rw [if_pos h3]
           exact rswap_5 l A c a b w hr hl hlc hsh ra rb qa qb d i0 er hal h0' hc' ka' kb' ht
         | false =>
           have h3 : ¬ (a.kind = 1 ∧ b.kind = 1 ∧ a.par = b.par ∧ a.aft = b.aft) := by
            rintro ⟨_, _, h1, h2⟩
            unfold thereF at ht
            simp [h1, h2] at ht
           rw [if_neg h3]
           by_cases hbi : b.aft = a.id
           · rw [if_pos ⟨ka, kb, hbi⟩]
             exact rswap_6 l A c a b w hr hl hlc hsh ra rb qa qb d i0 er hal h0' hc' ka' kb' ht (by simpa using hbi)
           · rw [if_neg (fun h => hbi h.2.2)]
             exact rswap_7 l A c a b w hr hl hlc hsh ra rb qa qb d i0 er hal h0' hc' ka' kb' ht (by simpa using hbi)
       · rw [if_neg (fun h => kb h.2.1), if_neg (fun h => kb h.2.1)]
         exact rswap_4 l A c a b w hr hl hlc hsh ra rb qa qb d i0 er hal h0' hc' (by simp [ka]) (by simpa using kb)
     · rw [if_neg (fun h => ka h.1), if_neg (fun h => ka h.1)]
       exact rswap_3 l A c a b w hr hl hlc hsh ra rb qa qb d i0 er hal h0' hc' (by simpa using ka)
 · rw [if_pos (by simpa using h0)]
   exact rswap_1 l A c a b w hr hl hlc hsh ra rb qa qb d i0 er hal (by simpa using h0)
end Go.Proofs.YtfolcjkednmkoaaGreat
namespace Go.Proofs.YtfolcjkednmkoaaGreat
open Go.RowKit
def nv (n : Nat) : Value := .int .i64 (n : Int)
/- a row of numbers -/
def NumRow (w : World) (b : Nat) (l : List Nat) : Prop := w.heap[b]? = some (.cells (l.map nv).toArray 3 (0, 0))
theorem NumRow.lt {w : World} {b : Nat} {l : List Nat} (h : NumRow w b l) : b < w.heap.size := lt_of_heap h
theorem NumRow.cell {w : World} {b : Nat} {l : List Nat} (h : NumRow w b l) {k x : Nat} (hk : l[k]? = some x) : w.cell? ⟨b, k, none⟩ = some (.int .i64 (x : Int)) := by
 rw [cell_of_row _ _ _ _ _ _ h]
 simp [hk, nv]
theorem NumRow.fr {w : World} {b : Nat} {l : List Nat} (h : NumRow w b l) (k : Nat) : w.frozen? ⟨b, k, none⟩ = false := by
 unfold NumRow at h
 simp [World.frozen?, h]
theorem NumRow.set {w : World} {b : Nat} {l : List Nat} (h : NumRow w b l) (k x : Nat) : NumRow (w.setCell ⟨b, k, none⟩ (.int .i64 (x : Int))) b (l.set k x) := by
 unfold NumRow
 refine (row_setCell h).trans ?_
 congr 2
 apply Array.ext'
 simp [List.map_set, nv]
theorem NumRow.below {w w' : World} {b : Nat} {l : List Nat} (h : NumRow w b l) (hb : Below w.heap.size w w') : NumRow w' b l := (hb.block b h.lt).trans h
theorem NumRow.old {w w' : World} {b : Nat} {l : List Nat} (h : NumRow w b l) (hb : w'.heap[b]? = w.heap[b]?) : NumRow w' b l := hb.trans h
theorem NumRow.made (w : World) (n : Nat) : NumRow (w.alloc (.cells (madeCells #[.int .i64 0] n) 3)) w.heap.size (List.replicate n 0) := by
 refine (heap_alloc_new w _).trans ?_
 congr 2
 apply Array.ext'
 simp [madeCells, nv]
 refine List.ext_getElem (by simp) ?_
 intro i h1 h2
 simp [Nat.mod_one]
theorem info_intR : (Tryz.prog.info? 3).map (fun i => (i.zero, i.size, i.bytes)) = some (some (.int .i64 0), 1, 8) := by kernel_rfl
end Go.Proofs.YtfolcjkednmkoaaGreat
set_option maxRecDepth 20000
set_option maxHeartbeats 8000000
namespace Go.Proofs.YtfolcjkednmkoaaGreat
open Go.RowKit
theorem RdP.row2z {w : World} {A : Option Addr} {l : List Patch} (h : RdP w A l) {i k : Nat} {p q : Patch} (hp : l[i]? = some p) (hq : l[k]? = some q) :
 ∃ b o C t fr, A = some ⟨b, o, none⟩ ∧ b < w.heap.size ∧ w.blk b = some (.cells C t fr) ∧ (o + i * 15 + 15 ≤ C.size ∧ C.extract (o + i * 15) (o + i * 15 + 15) = p.cells.toArray) ∧ o + k * 15 + 15 ≤ C.size ∧ C.extract (o + k * 15) (o + k * 15 + 15) = q.cells.toArray := by
 obtain ⟨b, o, C, t, fr, e, h1, h2, h3, h4⟩ := h.row hp
 obtain ⟨b', o', C', t', fr', e', k1, k2, k3, k4⟩ := h.row hq
 rw [e] at e'
 cases e'
 rw [h2] at k2
 cases k2
 exact ⟨b, o, C, t, fr, e, h1, h2, ⟨h3, h4⟩, k3, k4⟩
theorem adjF_commz {ps : List Patch} {i k : Nat} {p q : Patch} (hp : ps[i]? = some p) (hq : ps[k]? = some q) : adjF ps i k = !commF p q := by
 unfold adjF
 rw [hp, hq]
def relabP (m was now : Nat) (of : List Nat) : List Nat := of.mapIdx fun j x => if j < m ∧ x = was then now else x
theorem relabP_zero (was now : Nat) (of : List Nat) : relabP 0 was now of = of := by
 refine List.ext_getElem (by simp [relabP]) ?_
 intro j h1 h2
 simp [relabP]
theorem relabP_get {m was now : Nat} {of : List Nat} (h : m < of.length) : (relabP m was now of)[m]? = some (lab of m) := by
 unfold relabP lab
 rw [List.getElem?_mapIdx, List.getElem?_eq_getElem h, List.getD_eq_getElem?_getD, List.getElem?_eq_getElem h]
 simp
theorem relabP_yes {m was now : Nat} {of : List Nat} (h : m < of.length) (e : lab of m = was) : (relabP m was now of).set m now = relabP (m + 1) was now of := by
 refine List.ext_getElem (by simp [relabP]) ?_
 intro j h1 h2
 have hj : j < of.length := by simpa [relabP] using h2
 rw [List.getElem_set]
 unfold lab at e
 rw [List.getD_eq_getElem?_getD, List.getElem?_eq_getElem h, Option.getD_some] at e
 by_cases hm : m = j
 · subst hm
   rw [if_pos rfl]
   simp [relabP, e]
 · rw [if_neg hm]
   simp only [relabP, List.getElem_mapIdx]
   have : (j < m + 1 ∧ of[j] = was) ↔ (j < m ∧ of[j] = was) := by constructor <;> (rintro ⟨a, b⟩; exact ⟨by omega, b⟩)
   simp only [this]
theorem relabP_no {m was now : Nat} {of : List Nat} (h : m < of.length) (e : lab of m ≠ was) : relabP m was now of = relabP (m + 1) was now of := by
 refine List.ext_getElem (by simp [relabP]) ?_
 intro j h1 h2
 have hj : j < of.length := by simpa [relabP] using h2
 unfold lab at e
 rw [List.getD_eq_getElem?_getD, List.getElem?_eq_getElem h, Option.getD_some] at e
 simp only [relabP, List.getElem_mapIdx]
 by_cases hm : m = j
 · subst hm
   rw [if_neg (by rintro ⟨a, b⟩; omega), if_neg (by rintro ⟨a, b⟩; exact e b)]
 · have : (j < m + 1 ∧ of[j] = was) ↔ (j < m ∧ of[j] = was) := by constructor <;> (rintro ⟨a, b⟩; exact ⟨by omega, b⟩)
   simp only [this]
theorem relabP_end (i was now : Nat) (of : List Nat) : relabP (i + 1) was now of = relab i was now of := by
 unfold relabP relab
 refine List.ext_getElem (by simp) ?_
 intro j h1 h2
 simp only [List.getElem_mapIdx]
 have : (j < i + 1 ∧ of[j]'(by simpa using h1) = was) ↔ (j ≤ i ∧ of[j]'(by simpa using h1) = was) := by constructor <;> (rintro ⟨a, b⟩; exact ⟨by omega, b⟩)
 simp only [this]
theorem rstep_zero (adj : Adj) (i : Nat) (of : List Nat) : rstep adj i 0 of = of.set i i := rfl
theorem rstep_succ (adj : Adj) (i k : Nat) (of : List Nat) : rstep adj i (k + 1) of = rmerge adj i k (rstep adj i k of) := by
 unfold rstep
 rw [List.range_succ, List.foldl_append]
 rfl
theorem rofs_succ (adj : Adj) (n i : Nat) : rofs adj n (i + 1) = rstep adj i i (rofs adj n i) := by
 unfold rofs
 rw [List.range_succ, List.foldl_append]
 rfl
theorem rmerge_len (adj : Adj) (i k : Nat) (of : List Nat) : (rmerge adj i k of).length = of.length := by
 unfold rmerge
 split
 · rfl
 · exact relab_len _ _ _ _
theorem rstep_len (adj : Adj) (i : Nat) (of : List Nat) : ∀ k, (rstep adj i k of).length = of.length
 | 0 => by rw [rstep_zero]; simp
 | k + 1 => by rw [rstep_succ, rmerge_len, rstep_len adj i of k]
theorem rofs_len (adj : Adj) (n : Nat) : ∀ i, (rofs adj n i).length = n
 | 0 => by simp [rofs]
 | i + 1 => by rw [rofs_succ, rstep_len, rofs_len adj n i]
theorem lab_get {of : List Nat} {k : Nat} (h : k < of.length) : of[k]? = some (lab of k) := by
 unfold lab
 rw [List.getD_eq_getElem?_getD, List.getElem?_eq_getElem h]
 rfl
def rgTo (of : List Nat) (i k : Nat) : List Nat := (List.range k).filter fun k => decide (i ≤ k) && lab of k == i
theorem rgTo_start (of : List Nat) (i : Nat) : rgTo of i i = [] := by
 unfold rgTo
 rw [List.filter_eq_nil_iff]
 intro a ha
 have := List.mem_range.1 ha
 simp
 omega
theorem rgTo_yes {of : List Nat} {i k : Nat} (h : i ≤ k) (e : lab of k = i) : rgTo of i (k + 1) = rgTo of i k ++ [k] := by
 unfold rgTo
 rw [List.range_succ, List.filter_append]
 simp [h, e]
theorem rgTo_no {of : List Nat} {i k : Nat} (e : lab of k ≠ i) : rgTo of i (k + 1) = rgTo of i k := by
 unfold rgTo
 rw [List.range_succ, List.filter_append]
 simp [e]
theorem rgroups_yes {of : List Nat} {n m : Nat} (e : lab of m = m) : rgroups of n (m + 1) = rgroups of n m ++ [rgroup of m n] := by
 unfold rgroups
 rw [List.range_succ, List.filter_append, List.map_append]
 simp [e]
theorem rgroups_no {of : List Nat} {n m : Nat} (e : lab of m ≠ m) : rgroups of n (m + 1) = rgroups of n m := by
 unfold rgroups
 rw [List.range_succ, List.filter_append, List.map_append]
 simp [e]
theorem rgroups_le (of : List Nat) (n m : Nat) : (rgroups of n m).length ≤ m := by
 unfold rgroups
 rw [List.length_map]
 refine Nat.le_trans (List.length_filter_le _ _) ?_
 simp
theorem rgTo_le (of : List Nat) (i k : Nat) : (rgTo of i k).length ≤ k := by
 unfold rgTo
 refine Nat.le_trans (List.length_filter_le _ _) ?_
 simp
theorem rgroup_ne {of : List Nat} {i n : Nat} (h : i < n) (e : lab of i = i) : rgroup of i n ≠ [] := by
 refine List.ne_nil_of_mem (a := i) ?_
 unfold rgroup
 simp [h, e]
theorem GsR.push {w w7 : World} {base mark : Nat} {ov ov7 gv : Value} {vals : List Value} {G : List (List Nat)} {g : List Nat} {o : Obj} (h : GsR w base ov vals G) (hlow : ∀ b, ov.ownBlock = some b → b < mark)
 (hg : OwnG w base gv g) (hne : g ≠ []) (hhigh : ∀ b, gv.ownBlock = some b → mark ≤ b) (ho7 : OwnO w7 base ov7 (vals ++ [gv])) (hgb7 : (w.alloc o).grownBy w7 ov.ownBlock) (hob7 : ov7.ownBlock = ov.ownBlock ∨ ov7.ownBlock = some (w.alloc o).heap.size) :
 GsR w7 base ov7 (vals ++ [gv]) (G ++ [g]) := by
 have hz : (w.alloc o).heap.size = w.heap.size + 1 := by simp
 refine ⟨ho7, by simp [h.len], ?_⟩
 intro j v g' hv hg'
 by_cases hj : j < vals.length
 · rw [List.getElem?_append_left hj] at hv
   rw [List.getElem?_append_left (by rw [← h.len]; exact hj)] at hg'
   obtain ⟨e1, e2, e3⟩ := h.each j v g' hv hg'
   have hvo := e1.own
   refine ⟨e1.keep fun b hb => (hgb7.block b (by have := (hvo b hb).2; omega) (fun e => e3 b hb e.symm)).trans (Below.heap_alloc _ _ b (hvo b hb).2), e2, ?_⟩
   intro b hb e
   rcases hob7 with h | h
   · rw [h] at e; exact e3 b hb e
   · rw [h, hz] at e
     cases e
     have := (hvo _ hb).2
     omega
 · have hvj : j = vals.length := by
     have := (List.getElem?_eq_some_iff.1 hv).1
     simp at this
     omega
   subst hvj
   rw [List.getElem?_append_right (Nat.le_refl _)] at hv
   rw [h.len, List.getElem?_append_right (Nat.le_refl _)] at hg'
   simp at hv hg'
   subst hv hg'
   have hgo := hg.own
   refine ⟨hg.keep fun b hb => (hgb7.block b (by have := (hgo b hb).2; omega) (fun e => ?_)).trans (Below.heap_alloc _ _ b (hgo b hb).2), hne, ?_⟩
   · have h1 := hlow b e.symm
     have h2 := hhigh b hb
     omega
   · intro b hb e
     rcases hob7 with h | h
     · rw [h] at e
       have h1 := hlow b e
       have h2 := hhigh b hb
       omega
     · rw [h, hz] at e
       cases e
       have := (hgo _ hb).2
       omega
theorem bl1z {W X : World} (h : Below W.heap.size W X) (o : Obj) : Below W.heap.size W (X.alloc o) := h.alloc h.size _
theorem rcomm_litz {a b : Patch} {r : Bool} (h : commF a b = r) (ra : a.Ready) (rb : b.Ready) (w : World) :
 Calls Tryz.prog 9 #[a.agg, b.agg] w fun e w' => e = .returned (.bool r) ∧ Below w.heap.size w w' := by
 subst h
 exact rcomm_any a b ra rb w
theorem rgroups_any (ps : List Patch) (hrd : ∀ p ∈ ps, p.Ready) (hps : ps.length ≤ 1000) (B : Option Addr) (dc : Nat) (w : World) (hr : RdP w B ps) :
 Calls Tryz.prog 12 #[.slice B ps.length dc] w fun e w' => ∃ A c, e = .returned (.slice A (groupsF (adjF ps) ps.length).length c) ∧ RdG w' A (groupsF (adjF ps) ps.length) ∧ Below w.heap.size w w' := by
 have hgf := rgroups_are (adjF ps) ps.length (fun i k h => (adjF_lt h).2) (adjF_symm ps)
 rw [← hgf]
 clear hgf
 have HR := Lib.hid hr; clear hr
 have HRD := Lib.hid hrd; clear hrd
 have hmk := fun W => run_make_row' (P := Tryz.prog) 42 3 (.int .i64 0) 8 Tryz.underlying42 info_intR rfl .i64 .i64 ps.length (by omega) (by omega) W
 go_enter Tryz.func12, Tryz.ntmps12
 go_wp2_with fail
 have hN0 := NumRow.made w ps.length
 have hb0 : Below w.heap.size w (w.alloc (.cells (madeCells #[.int .i64 0] ps.length) 3)) := (Below.refl _ _).alloc (Nat.le_refl _) _
 generalize w.alloc (.cells (madeCells #[.int .i64 0] ps.length) 3) = W0 at hN0 hb0 ⊢
 have HN0 := Lib.hid hN0; clear hN0
 have HB0 := Lib.hid hb0; clear hb0
 clear hmk
 go_loopw [4] (fun v wr => ∃ i : Nat, i ≤ ps.length ∧ v = .int .i64 i ∧ NumRow wr w.heap.size (rofs (adjF ps) ps.length i) ∧ Below w.heap.size w wr) (fun v _ => ps.length - (intOf v).toNat)
 case atStart => exact ⟨0, Nat.zero_le _, rfl, HN0.out, HB0.out⟩
 case round =>
  obtain ⟨i, hi, rfl, hnr, hb⟩ := hrel
  have HN := Lib.hid hnr
  have HB := Lib.hid hb; clear hb
  by_cases hlt : i < ps.length
  · obtain ⟨p, hp⟩ := get_of_lt hlt
    have HP := Lib.hid hp; clear hp
    have hi1 : (i : Int) < ps.length := by omega
    have hi0 : (0 : Int) ≤ i := by omega
    have hcx := hnr.cell (lab_get (k := i) (by rw [rofs_len]; exact hlt))
    have hfr := hnr.fr i
    have hws := hnr.lt
    clear hnr
    go_wp2_with fail
    have hN1 := HN.out.set i i
    rw [← rstep_zero (adjF ps) i] at hN1
    have hB1 : Below w.heap.size w (wr.setCell ⟨w.heap.size, i, none⟩ (.int .i64 (i : Int))) := HB.out.setCell (Nat.le_refl _) _
    generalize wr.setCell ⟨w.heap.size, i, none⟩ (.int .i64 (i : Int)) = wA at hN1 hB1 ⊢
    have HN1 := Lib.hid hN1; clear hN1
    have HB1 := Lib.hid hB1; clear hB1
    clear hcx hfr hws HN HB
    obtain ⟨of0, hof0⟩ : ∃ x, x = rofs (adjF ps) ps.length i := ⟨_, rfl⟩
    have hof0l : of0.length = ps.length := by rw [hof0, rofs_len]
    rw [← hof0] at HN1
    have HOF := Lib.hid hof0; clear hof0
    have HOL := Lib.hid hof0l; clear hof0l
    go_loopw [5] (fun v wr => ∃ k : Nat, k ≤ i ∧ v = .int .i64 k ∧ NumRow wr w.heap.size (rstep (adjF ps) i k of0) ∧ Below w.heap.size w wr) (fun v _ => i - (intOf v).toNat)
    case atStart => exact ⟨0, Nat.zero_le _, rfl, HN1.out, HB1.out⟩
    case round =>
     obtain ⟨k, hk, rfl, hnr, hb⟩ := hrel
     have HBk := Lib.hid hb
     have HNk := Lib.hid hnr
     by_cases hl2 : k < i
     · obtain ⟨q, hq⟩ : ∃ q, ps[k]? = some q := get_of_lt (by omega)
       have hk1 : (k : Int) < i := by omega
       have hk0 : (0 : Int) ≤ k := by omega
       have hk2 : (k : Int) < ps.length := by omega
       obtain ⟨b3, o3, C3, t3, fr3, hB3, hbs3, hblk3, ⟨hC1, hex1⟩, hC2, hex2⟩ := RdP.row2z (HR.out.below hb) HP.out hq
       subst hB3
       obtain ⟨of1, hof1⟩ : ∃ x, x = rstep (adjF ps) i k of0 := ⟨_, rfl⟩
       rw [← hof1] at hnr HNk
       have hl1 : of1.length = ps.length := by rw [hof1, rstep_len, HOL.out]
       have u1 := hnr.cell (lab_get (k := i) (by omega))
       have u2 := hnr.cell (lab_get (k := k) (by omega))
       have hws := hnr.lt
       have hadj := adjF_commz HP.out hq
       have hco := fun (r : Bool) (h : commF p q = r) W => Lib.hid (rcomm_litz h (HRD.out p (List.mem_of_getElem? HP.out)) (HRD.out q (List.mem_of_getElem? hq)) W)
       have hnext : rstep (adjF ps) i (k + 1) of0 = rmerge (adjF ps) i k of1 := by rw [rstep_succ, hof1]
       have HNX := Lib.hid hnext; clear hnext
       have HL1 := Lib.hid hl1
       clear hb hnr hq hof1
       cases hcc : commF p q with
       | true =>
         have hsame : rmerge (adjF ps) i k of1 = of1 := by unfold rmerge; rw [if_pos (.inl (by rw [hadj, hcc]; rfl))]
         have HSM := Lib.hid hsame
         have HCO := hco true hcc
         clear hsame hadj hco hcc
         go_wp2_with fail
         refine wp_region_grew (by kernel_rfl) (by as_aux_lemma => kernel_rfl) ?_
         repeat (go_big_quiet_step (exact Calls_grew (HCO _).out))
         refine wpQuiet_nil ?_
         rintro _ ⟨W, rfl⟩
         go_wp2_with fail
         exact ⟨⟨k + 1, by omega, by go_num, by rw [HNX.out, HSM.out]; exact HNk.out.below (grew_below _ _), HBk.out.trans ((grew_below _ _).mono HBk.out.size)⟩, by simp [intOf]; omega⟩
       | false =>
         have HCO := hco false hcc
         rw [hcc] at hadj
         have HADJ := Lib.hid hadj
         clear hco hcc hadj
         by_cases hlab : lab of1 k = lab of1 i
         · have hsame : rmerge (adjF ps) i k of1 = of1 := by unfold rmerge; rw [if_pos (.inr hlab)]
           have HSM := Lib.hid hsame
           rw [hlab] at u2
           clear hsame hlab
           generalize lab of1 i = la at u1 u2
           go_wp2_with fail
           refine wp_region_grew (by kernel_rfl) (by as_aux_lemma => kernel_rfl) ?_
           repeat (go_big_quiet_step (exact Calls_grew (HCO _).out))
           refine wpQuiet_nil ?_
           rintro _ ⟨W, rfl⟩
           go_wp2_with fail
           exact ⟨⟨k + 1, by omega, by go_num, by rw [HNX.out, HSM.out]; exact HNk.out.below (grew_below _ _), HBk.out.trans ((grew_below _ _).mono HBk.out.size)⟩, by simp [intOf]; omega⟩
         · have hmg : rmerge (adjF ps) i k of1 = relab i (max (lab of1 i) (lab of1 k)) (min (lab of1 i) (lab of1 k)) of1 := by
             unfold rmerge
             rw [if_neg (by rintro (h | h); · rw [HADJ.out] at h; cases h
                            · exact hlab h), Nat.max_comm, Nat.min_comm]
           have HMG := Lib.hid hmg; clear hmg
           obtain ⟨la, hla⟩ : ∃ x, x = lab of1 i := ⟨_, rfl⟩
           obtain ⟨lk, hlk⟩ : ∃ x, x = lab of1 k := ⟨_, rfl⟩
           rw [← hla, ← hlk] at HMG hlab
           rw [← hla] at u1
           rw [← hlk] at u2
           have q1 : ((lk : Int) == (la : Int)) = false := beq_eq_false_iff_ne.2 (by omega)
           have q2 : decide (lk = la) = false := by simpa using hlab
           have HLA := Lib.hid hla.symm
           have HLK := Lib.hid hlk.symm
           clear hla hlk hlab
           go_wp2_with fail
           refine wp_region_grew (by kernel_rfl) (by as_aux_lemma => kernel_rfl) ?_
           repeat (go_big_quiet_step (exact Calls_grew (HCO _).out))
           refine wpQuiet_nil ?_
           rintro _ ⟨W, rfl⟩
           have hN2 := HNk.out.below (grew_below wr W)
           have hB2 := HBk.out.trans ((grew_below wr W).mono HBk.out.size)
           generalize World.grew wr W = wC at hN2 hB2 ⊢
           have u1 := hN2.cell (lab_get (k := i) (by omega))
           have u2 := hN2.cell (lab_get (k := k) (by omega))
           rw [HLA.out] at u1
           rw [HLK.out] at u2
           have hws := hN2.lt
           have HN2 := Lib.hid hN2; clear hN2
           have HB2 := Lib.hid hB2; clear hB2
           go_upto_region 10 with fail
           go_cut [6] (fun v6 wd => v6 = .int .i64 ((max la lk : Nat) : Int) ∧ Below wC.heap.size wC wd)
           case first =>
            go_wp2_with fail
            go_quiet (fail)
            go_wp2_with fail
            go_meet
            case rel => exact ⟨by congr 1; omega, Below.drewN' _ (Below.refl _ _)⟩
           case rest =>
           obtain ⟨rfl, hbc⟩ := hcut
           obtain ⟨wD, hwD⟩ : ∃ x, x = wc := ⟨_, rfl⟩
           subst hwD
           replace u1 := keepw hbc u1
           replace u2 := keepw hbc u2
           have HN3 := Lib.hid (HN2.out.below hbc)
           have HB3 := Lib.hid (HB2.out.trans (hbc.mono HB2.out.size))
           have hws := HN3.out.lt
           clear hbc HN2 HB2
           go_upto_region 11 with fail
           go_cut [7] (fun v7 wd => v7 = .int .i64 ((min la lk : Nat) : Int) ∧ Below wD.heap.size wD wd)
           case first =>
            go_wp2_with fail
            go_quiet (fail)
            go_wp2_with fail
            go_meet
            case rel => exact ⟨by congr 1; omega, Below.drewN' _ (Below.refl _ _)⟩
           case rest =>
           obtain ⟨rfl, hbc⟩ := hcut
           have HN4 := Lib.hid (HN3.out.below hbc)
           have HB4 := Lib.hid (HB3.out.trans (hbc.mono HB3.out.size))
           clear hbc HN3 HB3 u1 u2
           generalize max la lk = was at HMG ⊢
           generalize min la lk = now at HMG ⊢
           go_wp2_with fail
           go_loopw [8] (fun v wr => ∃ j : Nat, j ≤ i + 1 ∧ v = .int .i64 j ∧ NumRow wr w.heap.size (relabP j was now of1) ∧ Below w.heap.size w wr) (fun v _ => i + 1 - (intOf v).toNat)
           case atStart => exact ⟨0, Nat.zero_le _, rfl, by rw [relabP_zero]; exact HN4.out, HB4.out⟩
           case round =>
            obtain ⟨j, hj, rfl, hnr, hb⟩ := hrel
            have HNj := Lib.hid hnr
            have HBj := Lib.hid hb; clear hb
            by_cases hji : j ≤ i
            · have hj0 : (0 : Int) ≤ j := by omega
              have hj1 : (j : Int) ≤ i := by omega
              have hj2 : (j : Int) < ps.length := by omega
              have v1 := hnr.cell (relabP_get (was := was) (now := now) (show j < of1.length by omega))
              have v2 := hnr.fr j
              have v3 := hnr.lt
              clear hnr
              by_cases he : lab of1 j = was
              · have HE := Lib.hid he
                rw [he] at v1
                clear he
                go_wp2_with fail
                exact ⟨⟨j + 1, by omega, by go_num, by rw [← relabP_yes (by rw [HL1.out]; omega) HE.out]; exact HNj.out.set j now, HBj.out.setCell (Nat.le_refl _) _⟩, by simp [intOf]; omega⟩
              · have HE := Lib.hid he
                generalize lab of1 j = lj at v1 he
                have q5 : ((lj : Int) == (was : Int)) = false := beq_eq_false_iff_ne.2 (by omega)
                have q6 : decide (lj = was) = false := by simpa using he
                clear he
                go_wp2_with fail
                exact ⟨⟨j + 1, by omega, by go_num, by rw [← relabP_no (by rw [HL1.out]; omega) HE.out]; exact HNj.out, HBj.out⟩, by simp [intOf]; omega⟩
            · obtain rfl : j = i + 1 := by omega
              have hj3 : decide ((i : Int) + 1 ≤ (i : Int)) = false := by simp; omega
              clear hnr
              go_wp2_with fail
              exact ⟨⟨k + 1, by omega, by go_num, by rw [HNX.out, HMG.out, ← relabP_end]; exact HNj.out, HBj.out⟩, by simp [intOf]; omega⟩
     · obtain rfl : k = i := by omega
       clear hb hnr
       go_wp2_with fail
       exact ⟨⟨k + 1, by omega, by go_num, by rw [rofs_succ, ← HOF.out]; exact HNk.out, HBk.out⟩, by simp [intOf]; omega⟩
  · obtain rfl : i = ps.length := by omega
    obtain ⟨of, hof⟩ : ∃ x, x = rofs (adjF ps) ps.length ps.length := ⟨_, rfl⟩
    have hofl : of.length = ps.length := by rw [hof, rofs_len]
    rw [← hof] at HN
    have HOL := Lib.hid hofl; clear hofl
    have HOF2 := Lib.hid hof; clear hof
    clear hnr hlt hi
    obtain ⟨wA, hwA⟩ : ∃ x, x = wr := ⟨_, rfl⟩
    subst hwA
    go_wp2_with fail
    go_loopw [9, 10] (fun v9 v10 wr => ∃ j : Nat, j ≤ ps.length ∧ v10 = .int .i64 j ∧ ∃ vals, GsR wr wA.heap.size v9 vals (rgroups of ps.length j) ∧ Below wA.heap.size wA wr) (fun _ v10 _ => ps.length - (intOf v10).toNat)
    case atStart => exact ⟨0, Nat.zero_le _, rfl, [], ⟨OwnO.nil _ _, rfl, by simp⟩, Below.refl _ _⟩
    case round =>
     obtain ⟨j, hj, rfl, vals, hgs, hb⟩ := hrel
     have HGS := Lib.hid hgs; clear hgs
     have HBj := Lib.hid hb
     have hnj := HN.out.below hb
     by_cases hlt : j < ps.length
     · have hj0 : (0 : Int) ≤ j := by omega
       have hj1 : (j : Int) < ps.length := by omega
       have v1 := hnj.cell (lab_get (k := j) (by rw [HOL.out]; exact hlt))
       have v3 := hnj.lt
       clear hb
       by_cases he : lab of j = j
       · have HE := Lib.hid he
         rw [he] at v1
         have q1 : ((j : Int) != (j : Int)) = false := by simp
         have HNj := Lib.hid hnj
         clear he hnj
         go_wp2_with fail
         obtain ⟨wB, hwB⟩ : ∃ x, x = wr := ⟨_, rfl⟩
         subst hwB
         go_loopw [11, 12] (fun v11 v12 wr => ∃ k : Nat, j ≤ k ∧ k ≤ ps.length ∧ v12 = .int .i64 k ∧ OwnG wr wB.heap.size v11 (rgTo of j k) ∧ Below wB.heap.size wB wr) (fun _ v12 _ => ps.length - (intOf v12).toNat)
         case atStart => exact ⟨j, Nat.le_refl _, by omega, rfl, by rw [rgTo_start]; exact OwnG.nil _ _, Below.refl _ _⟩
         case round =>
          obtain ⟨k, hjk, hk, rfl, hog, hb⟩ := hrel
          have HOG := Lib.hid hog; clear hog
          have HBk := Lib.hid hb
          by_cases hl2 : k < ps.length
          · have hk0 : (0 : Int) ≤ k := by omega
            have hk1 : (k : Int) < ps.length := by omega
            have x1 := (HNj.out.below hb).cell (lab_get (k := k) (by rw [HOL.out]; exact hl2))
            have x3 := (HNj.out.below hb).lt
            have hle := rgTo_le of j k
            have HLE := Lib.hid hle; clear hle
            clear hb
            by_cases hek : lab of k = j
            · have HEK := Lib.hid hek
              rw [hek] at x1
              clear hek
              go_wp2_with (at_builtin; refine wpList_append_int rfl (.tmp 109) (.tmp 111) rfl wB.heap.size _ (rgTo of j k) wr.heap.size k rfl rfl (HOG.out.keep fun b hb => Below.heap_alloc _ _ b (HOG.out.own b hb).2) (cellH (o := 0) (heap_alloc_new wr (.cells #[.int .i64 (k : Int)] 3)) rfl) (by have := HLE.out; omega) (by have := HBk.out.size; simp; omega) ?_; intro gv1 w2 ho hgb hob)
              refine ⟨⟨k + 1, by omega, by omega, by go_num, ?_, ?_⟩, by simp [intOf]; omega⟩
              · rw [rgTo_yes hjk HEK.out]
                exact ho
              · exact (bl1z HBk.out _).grown hgb (by have := HBk.out.size; simp; omega) (fun b hb => (HOG.out.own b hb).1)
            · have HEK := Lib.hid hek
              generalize lab of k = lk at x1 hek
              have q5 : ((lk : Int) == (j : Int)) = false := beq_eq_false_iff_ne.2 (by omega)
              have q6 : decide (lk = j) = false := by simpa using hek
              clear hek
              go_wp2_with fail
              exact ⟨⟨k + 1, by omega, by omega, by go_num, by rw [rgTo_no HEK.out]; exact HOG.out, HBk.out⟩, by simp [intOf]; omega⟩
          · obtain rfl : k = ps.length := by omega
            have hgs2 : GsR wr wA.heap.size u9 vals (rgroups of ps.length j) := HGS.out.keep fun b h1 h2 => hb.block b h2
            have HGS2 := Lib.hid hgs2; clear hgs2
            have hog := HOG.out.mono (b' := wA.heap.size) HBj.out.size
            obtain ⟨Ag, cg, hsh⟩ := hog.shape
            have HG := Lib.hid hog; clear hog
            generalize (rgTo of j ps.length).length = lg at hsh
            subst hsh
            have hone : (Value.slice Ag lg cg).oneCell' = true := rfl
            have HONE := Lib.hid hone; clear hone
            have hvl : vals.length + 1 ≤ 1000000 := by
             have h1 := HGS.out.len
             have h2 := rgroups_le of ps.length j
             omega
            have HVL := Lib.hid hvl; clear hvl
            have hszz := hb.size
            have HSZ := Lib.hid hszz; clear hszz
            clear hb
            go_wp2_with (at_builtin; refine wpList_append_row rfl (.tmp 113) (.tmp 115) rfl wA.heap.size u9 vals wr.heap.size (.slice Ag lg cg) HONE.out rfl rfl (HGS2.out.own.keep fun b hb => Below.heap_alloc _ _ b (HGS2.out.own.own b hb).2) (cellH (o := 0) (heap_alloc_new wr (.cells #[(.slice Ag lg cg)] 42)) rfl) HVL.out (by have := HSZ.out; have := HBj.out.size; simp; omega) ?_; intro ov7 w7 ho hgb7 hob)
            refine ⟨⟨j + 1, by omega, by go_num, vals ++ [(.slice Ag lg cg)], ?_, ?_⟩, by simp [intOf]; omega⟩
            · rw [rgroups_yes HE.out]
              exact HGS2.out.push (mark := wB.heap.size) (fun b hb => (HGS.out.own.own b hb).2) HG.out (rgroup_ne hlt HE.out) (fun b hb => (HOG.out.own b hb).1) ho hgb7 hob
            · exact (bl1z (HBj.out.trans (HBk.out.mono HBj.out.size)) _).grown hgb7 (by have := HSZ.out; have := HBj.out.size; simp; omega) (fun b hb => (HGS.out.own.own b hb).1)
       · have HE := Lib.hid he
         generalize lab of j = lj at v1 he
         have q1 : ((lj : Int) != (j : Int)) = true := by simp; omega
         have q2 : decide (lj = j) = false := by simpa using he
         clear he hnj
         go_wp2_with fail
         exact ⟨⟨j + 1, by omega, by go_num, vals, by rw [rgroups_no HE.out]; exact HGS.out, HBj.out⟩, by simp [intOf]; omega⟩
     · obtain rfl : j = ps.length := by omega
       clear hnj hb
       go_wp2_with fail
       go_ret
       have e9 := HOF2.out
       obtain ⟨Ar, cr, hov, h1, h2, h3⟩ := HGS.out.reads
       rw [← e9]
       exact ⟨Ar, cr, by rw [hov]; rfl, h2, HB.out.trans (HBj.out.mono HB.out.size)⟩
end Go.Proofs.YtfolcjkednmkoaaGreat
