/- formula and condition. -/
import Derived.Test.YtbicmjmcdnkjhaaGreatDoorJSS1
import Derived.Test.YtbicmjmcdnkjhaaGreatDoorJSS41
import Derived.Carry
set_option linter.unusedVariables false
set_option linter.unusedSimpArgs false
set_option maxRecDepth 20000
set_option maxHeartbeats 8000000
namespace Go.Proofs.YtbicmjmcdnkjhaaGreatDoor
namespace So
open Go.RowKit Go.Maps
theorem mapD_snoc : ∀ (ws : List (List UInt8)) (D : MD) (i : Nat) (s : List UInt8), mapD D i (ws ++ [s]) = (mapD D i ws).put (.string s) (.lit (.int .i64 ((i + ws.length : Nat) : Int)))
 | [], D, i, s => rfl
 | x :: r, D, i, s => by
   show mapD (D.put (.string x) _) (i + 1) (r ++ [s]) = _
   rw [mapD_snoc r]
   show _ = (mapD (D.put (.string x) _) (i + 1) r).put (.string s) _
   rw [List.length_cons, show i + 1 + r.length = i + (r.length + 1) by omega]
/- a map that is being written out -/
structure MapB (w0 w : World) (b n base : Nat) (ws : List (List UInt8)) : Prop where
 own : MapW w b n base ws
 bel : Below b w0 w
theorem MapB.made (w : World) (base : Nat) : MapB w (w.alloc (.map #[] 0)) w.heap.size 0 base [] := ⟨World.ownsMap_made _ _ _ _, (Below.refl _ _).alloc (lR _) _⟩
theorem wpList_ins {ops : Array Oper} {rest : List Oper} {o : Oper} {a : Act} {w : World} {Q : Exit → Act → World → Prop} (hg : o.guard = none) (m x v : Operand) (hop : o.op = Op.insert 154 m x v)
 (w0 : World) (b n base : Nat) (ws : List (List UInt8)) (s : List UInt8) (i : Int) (hm : a.eval m = .map (some b)) (hx : a.eval x = vs s) (hv : a.eval v = .int .i64 i) (hi : i = ((base + ws.length : Nat) : Int)) (hw : (Lit.int .i64 i).wf = true) (hs : s.length ≤ 1000) (hn : n < 1000) (M : MapB w0 w b n base ws)
 (hK : ∀ w', MapB w0 w' b (n + 1) base (ws ++ [s]) → wpList Tryz.prog ops Q rest (a.put o.dst undef) w') : wpList Tryz.prog ops Q (o :: rest) a w := by
 refine wpList_plain hg fun K' hK' => ?_
 have hkey : keyOf Tryz.prog 9 (vs s) = some (.string s) := by
  have := Go.WideMaps.keyOf_string_mk Tryz.underlying9 (s := ⟨s.toArray⟩) (by show s.toArray.size ≤ _; unfold maxLen; simp; omega)
  simpa using this
 obtain ⟨w', hrun, r1, r2⟩ := M.own.update str_law Tryz.underlying154 (by unfold maxLen; omega) hkey (plainElem_int Tryz.underlying3 hw)
 unfold Oper.wp
 simp [execOp, hop, hm, hx, hv, hrun, Result.andThen]
 refine hK' _ _ (hK w' ⟨?_, ?_⟩)
 · show w'.ownsMap _ _ _ _ _ (mapD _ _ (ws ++ [s]))
   rw [mapD_snoc, ← hi]; exact r1
 · exact M.bel.grown r2 (Nat.le_of_lt M.own.lt) (fun j hj => by cases hj; exact lR _)
/- what formula and condition answer -/
abbrev TreeV (fm : Bool) (w : World) (t : Tree) (v : Value) (w' : World) : Prop := ∃ cs : List Value, v = .agg cs.toArray ∧ RdTree fm (fun b => w.heap.size ≤ b) w' cs t
theorem formula_any (p fin : Nat) (ts l : List Tok) (w : World) (hp : PS w p fin ts l) :
 Calls Tryz.prog 89 #[.pointer (some ⟨p, 0, none⟩)] w (OutR p fin ts w (formulaF l) (TreeV true w)) := by
 have HP := Hi hp
 have hpl := hp.lt
 clear hp
 have hmm := @run_makeMap Tryz.prog
 go_enter Tryz.func89, Tryz.ntmps89
 go_upto_region 2 with fail
 have hbl : Below w.heap.size w ((((w.alloc (.cells #[.pointer (some ⟨p, 0, none⟩)] 90 (0, 0))).alloc (.cells #[.int .i64 0, .string ⟨#[]⟩, .int .i64 0, .int .i64 0, .slice none 0 0] 24 (0, 0))).alloc (.cells #[.pointer (some ⟨p, 0, none⟩), .slice none 0 0, .func (.func 130) #[] #[]] 181 (0, 0))).alloc (.cells #[.pointer (some ⟨w.heap.size + 1 + 1, 0, none⟩)] 177 (0, 0))) := ((((Below.refl _ _).alloc (lR _) _).alloc (by simp <;> omega) _).alloc (by simp <;> omega) _).alloc (by simp <;> omega) _
 have hx0 : ((((w.alloc (.cells #[.pointer (some ⟨p, 0, none⟩)] 90 (0, 0))).alloc (.cells #[.int .i64 0, .string ⟨#[]⟩, .int .i64 0, .int .i64 0, .slice none 0 0] 24 (0, 0))).alloc (.cells #[.pointer (some ⟨p, 0, none⟩), .slice none 0 0, .func (.func 130) #[] #[]] 181 (0, 0))).alloc (.cells #[.pointer (some ⟨w.heap.size + 1 + 1, 0, none⟩)] 177 (0, 0))).heap[w.heap.size]? = some (.cells #[.pointer (some ⟨p, 0, none⟩)] 90 (0, 0)) := old_at (old_at (old_at (alloc_at rfl)))
 have hx1 : ((((w.alloc (.cells #[.pointer (some ⟨p, 0, none⟩)] 90 (0, 0))).alloc (.cells #[.int .i64 0, .string ⟨#[]⟩, .int .i64 0, .int .i64 0, .slice none 0 0] 24 (0, 0))).alloc (.cells #[.pointer (some ⟨p, 0, none⟩), .slice none 0 0, .func (.func 130) #[] #[]] 181 (0, 0))).alloc (.cells #[.pointer (some ⟨w.heap.size + 1 + 1, 0, none⟩)] 177 (0, 0))).heap[w.heap.size + 1]? = some (.cells #[.int .i64 0, .string ⟨#[]⟩, .int .i64 0, .int .i64 0, .slice none 0 0] 24 (0, 0)) := old_at (old_at (alloc_at (by simp)))
 have hx2 : ((((w.alloc (.cells #[.pointer (some ⟨p, 0, none⟩)] 90 (0, 0))).alloc (.cells #[.int .i64 0, .string ⟨#[]⟩, .int .i64 0, .int .i64 0, .slice none 0 0] 24 (0, 0))).alloc (.cells #[.pointer (some ⟨p, 0, none⟩), .slice none 0 0, .func (.func 130) #[] #[]] 181 (0, 0))).alloc (.cells #[.pointer (some ⟨w.heap.size + 1 + 1, 0, none⟩)] 177 (0, 0))).heap[w.heap.size + 1 + 1]? = some (.cells #[.pointer (some ⟨p, 0, none⟩), .slice none 0 0, .func (.func 130) #[] #[]] (sE true) (0, 0)) := old_at (alloc_at (by simp))
 have hx3 : ((((w.alloc (.cells #[.pointer (some ⟨p, 0, none⟩)] 90 (0, 0))).alloc (.cells #[.int .i64 0, .string ⟨#[]⟩, .int .i64 0, .int .i64 0, .slice none 0 0] 24 (0, 0))).alloc (.cells #[.pointer (some ⟨p, 0, none⟩), .slice none 0 0, .func (.func 130) #[] #[]] 181 (0, 0))).alloc (.cells #[.pointer (some ⟨w.heap.size + 1 + 1, 0, none⟩)] 177 (0, 0))).heap[w.heap.size + 1 + 1 + 1]? = some (.cells #[.pointer (some ⟨w.heap.size + 1 + 1, 0, none⟩)] 177 (0, 0)) := alloc_at (by simp)
 have hz1 : ((((w.alloc (.cells #[.pointer (some ⟨p, 0, none⟩)] 90 (0, 0))).alloc (.cells #[.int .i64 0, .string ⟨#[]⟩, .int .i64 0, .int .i64 0, .slice none 0 0] 24 (0, 0))).alloc (.cells #[.pointer (some ⟨p, 0, none⟩), .slice none 0 0, .func (.func 130) #[] #[]] 181 (0, 0))).alloc (.cells #[.pointer (some ⟨w.heap.size + 1 + 1, 0, none⟩)] 177 (0, 0))).heap.size = w.heap.size + 4 := by simp
 generalize (((w.alloc (.cells #[.pointer (some ⟨p, 0, none⟩)] 90 (0, 0))).alloc (.cells #[.int .i64 0, .string ⟨#[]⟩, .int .i64 0, .int .i64 0, .slice none 0 0] 24 (0, 0))).alloc (.cells #[.pointer (some ⟨p, 0, none⟩), .slice none 0 0, .func (.func 130) #[] #[]] 181 (0, 0))).alloc (.cells #[.pointer (some ⟨w.heap.size + 1 + 1, 0, none⟩)] 177 (0, 0)) = w1 at hbl hx0 hx1 hx2 hx3 hz1 ⊢
 have HB1 := Hi hbl
 have HX0 := Hi hx0
 have HX1 := Hi hx1
 have HX2 := Hi hx2
 have HX3 := Hi hx3
 have HZ1 := Hi hz1
 have M0 := MapB.made w1 1
 clear hbl hx0 hx1 hx2 hx3 hz1
 go_upto_region 3 with (first | (refine wpList_ins rfl (.tmp 9) _ _ rfl w1 _ 0 1 [] [101, 113, 117, 97, 108] 1 rfl rfl rfl rfl (by decide) (by decide) (by decide) (by assumption) ?_; intro ww1 M1; simp only [List.cons_append, List.nil_append] at M1) | (refine wpList_ins rfl (.tmp 9) _ _ rfl w1 _ 1 1 [[101, 113, 117, 97, 108]] [117, 110, 108, 105, 107, 101] 2 rfl rfl rfl rfl (by decide) (by decide) (by decide) (by assumption) ?_; intro ww2 M2; simp only [List.cons_append, List.nil_append] at M2) | (refine wpList_ins rfl (.tmp 9) _ _ rfl w1 _ 2 1 [[101, 113, 117, 97, 108], [117, 110, 108, 105, 107, 101]] [98, 101, 108, 111, 119] 3 rfl rfl rfl rfl (by decide) (by decide) (by decide) (by assumption) ?_; intro ww3 M3; simp only [List.cons_append, List.nil_append] at M3) | (refine wpList_ins rfl (.tmp 9) _ _ rfl w1 _ 3 1 [[101, 113, 117, 97, 108], [117, 110, 108, 105, 107, 101], [98, 101, 108, 111, 119]] [109, 111, 115, 116] 4 rfl rfl rfl rfl (by decide) (by decide) (by decide) (by assumption) ?_; intro ww4 M4; simp only [List.cons_append, List.nil_append] at M4) | (refine wpList_ins rfl (.tmp 9) _ _ rfl w1 _ 4 1 [[101, 113, 117, 97, 108], [117, 110, 108, 105, 107, 101], [98, 101, 108, 111, 119], [109, 111, 115, 116]] [97, 98, 111, 118, 101] 5 rfl rfl rfl rfl (by decide) (by decide) (by decide) (by assumption) ?_; intro ww5 M5; simp only [List.cons_append, List.nil_append] at M5) | (refine wpList_ins rfl (.tmp 9) _ _ rfl w1 _ 5 1 [[101, 113, 117, 97, 108], [117, 110, 108, 105, 107, 101], [98, 101, 108, 111, 119], [109, 111, 115, 116], [97, 98, 111, 118, 101]] [108, 101, 97, 115, 116] 6 rfl rfl rfl rfl (by decide) (by decide) (by decide) (by assumption) ?_; intro ww6 M6; simp only [List.cons_append, List.nil_append] at M6))
 have HM := Hi M6
 have hb2 : Below w1.heap.size w1 ww6 := M6.bel
 clear M0 M1 M2 M3 M4 M5 M6
 have hlt2 := HM.out.own.lt
 have HB2 : Hid (Below w1.heap.size w1 (ww6.alloc (.cells #[.map (some w1.heap.size)] 154 (0, 0)))) := Hi (hb2.alloc hb2.size _)
 have HX4 : Hid ((ww6.alloc (.cells #[.map (some w1.heap.size)] 154 (0, 0))).heap[ww6.heap.size]? = some (.cells #[.map (some w1.heap.size)] 154 (0, 0))) := Hi (heap_alloc_new ww6 _)
 have HM3 : Hid (MapW (ww6.alloc (.cells #[.map (some w1.heap.size)] 154 (0, 0))) w1.heap.size 6 1 [[101, 113, 117, 97, 108], [117, 110, 108, 105, 107, 101], [98, 101, 108, 111, 119], [109, 111, 115, 116], [97, 98, 111, 118, 101], [108, 101, 97, 115, 116]]) := Hi (HM.out.own.of_heap (Below.heap_alloc _ _ _ hlt2))
 have hz3 : (ww6.alloc (.cells #[.map (some w1.heap.size)] 154 (0, 0))).heap.size = ww6.heap.size + 1 := by simp
 have hz := HZ1.out
 clear hb2
 generalize ww6.alloc (.cells #[.map (some w1.heap.size)] 154 (0, 0)) = w3 at HB2 HX4 HM3 hz3 ⊢
 have hx0 := (HB2.out.block (w.heap.size) (by omega)).trans HX0.out
 have hx1 := (HB2.out.block (w.heap.size + 1) (by omega)).trans HX1.out
 have hx2 := (HB2.out.block (w.heap.size + 1 + 1) (by omega)).trans HX2.out
 have hx3 := (HB2.out.block (w.heap.size + 1 + 1 + 1) (by omega)).trans HX3.out
 have c0 := cOb (o := 0) hx0 rfl
 have c3 := cOb (o := 0) hx3 rfl
 have c4 := cOb (o := 0) HX4.out rfl
 have l0 := lHp hx0
 have l3 := lHp hx3
 have HE3 : Hid (Eff p w w3) := Hi ((Eff.of_below HB1.out).trans (Eff.of_below HB2.out))
 have HP3 := Hi ((HP.out.below HB1.out).below HB2.out)
 have HX13 := Hi hx1
 have HX23 := Hi hx2
 have HCAP : Hid (Cap w3 w.heap.size (w.heap.size + 1 + 1 + 1) ww6.heap.size w1.heap.size 6 1 p (w.heap.size + 1 + 1) (w3.heap.size + 1) [[101, 113, 117, 97, 108], [117, 110, 108, 105, 107, 101], [98, 101, 108, 111, 119], [109, 111, 115, 116], [97, 98, 111, 118, 101], [108, 101, 97, 115, 116]]) := Hi ⟨c0, c3, c4, HM3.out, by omega, by omega, by omega⟩
 have HZ3 := Hi hz3
 have HLT2 := Hi hlt2
 clear hx0 hx1 hx2 hx3 hz3 hlt2
 go_wp2_with fail
 refine (braces_f w.heap.size (w.heap.size + 1 + 1 + 1) ww6.heap.size w1.heap.size 6 p (w.heap.size + 1 + 1) fin ts l w3 HP3.out HX23.out (by omega) HCAP.out).mono ?_
 intro e w4 ho
 cases hq : formulaF l with
 | error x =>
   obtain ⟨c, s⟩ := x
   rw [hq] at ho
   obtain ⟨rfl, h2⟩ := ho
   have HER : Hid (Eff p w w4) := Hi ⟨h2.os.trans HE3.out.os, h2.tape.trans HE3.out.tape, h2.output.trans HE3.out.output, Nat.le_trans HE3.out.size h2.size, fun k k1 k2 => by
    have hs3 := HE3.out.size
    exact (h2.block k (by omega) k2 (by omega) (by omega)).trans (HE3.out.block k k1 k2)⟩
   clear h2 hq
   go_wp2_with fail
   exact ⟨rfl, rfl, HER.out⟩
 | ok x =>
   obtain ⟨t, r⟩ := x
   rw [hq] at ho
   obtain ⟨cs, rfl, hrt, hp4, h2⟩ := ho
   have hs3 := HE3.out.size
   have hx1 := (h2.block (w.heap.size + 1) (by omega) (by omega) (by omega) (by omega)).trans HX13.out
   have HX14 := Hi hx1
   have HER : Hid (Eff p w w4) := Hi ⟨h2.os.trans HE3.out.os, h2.tape.trans HE3.out.tape, h2.output.trans HE3.out.output, Nat.le_trans hs3 h2.size, fun k k1 k2 => (h2.block k (by omega) k2 (by omega) (by omega)).trans (HE3.out.block k k1 k2)⟩
   have HP4 := Hi hp4
   have HQ := Hi hq
   have HRT := Hi hrt
   obtain ⟨o', nm', cm', m', ks'⟩ := t
   obtain ⟨A', cap', rfl, hk1, hk2⟩ := hrt
   simp only [tcs]
   have r0 := cOb (o := 0) hx1 rfl
   have f0 := fOb (o := 0) hx1
   have r1 := cOb (o := 1) hx1 rfl
   have f1 := fOb (o := 1) hx1
   have r2 := cOb (o := 2) hx1 rfl
   have f2 := fOb (o := 2) hx1
   have r3 := cOb (o := 3) hx1 rfl
   have f3 := fOb (o := 3) hx1
   have r4 := cOb (o := 4) hx1 rfl
   have f4 := fOb (o := 4) hx1
   have rl := lHp hx1
   clear hq hp4 h2 hk1 hk2 hx1
   go_wp2_with fail
   have ho : Off (w.heap.size + 1) w4 ((((((w4).setCell ⟨w.heap.size + 1, 0, none⟩ (.int .i64 (o' : Int))).setCell ⟨w.heap.size + 1, 1, none⟩ (vs nm')).setCell ⟨w.heap.size + 1, 2, none⟩ (.int .i64 (cm' : Int))).setCell ⟨w.heap.size + 1, 3, none⟩ (.int .i64 (m' : Int))).setCell ⟨w.heap.size + 1, 4, none⟩ (.slice A' ks'.length cap')) := (((((Off.refl _ _).set (o := 0) _).set (o := 1) _).set (o := 2) _).set (o := 3) _).set (o := 4) _
   have hrow : ((((((w4).setCell ⟨w.heap.size + 1, 0, none⟩ (.int .i64 (o' : Int))).setCell ⟨w.heap.size + 1, 1, none⟩ (vs nm')).setCell ⟨w.heap.size + 1, 2, none⟩ (.int .i64 (cm' : Int))).setCell ⟨w.heap.size + 1, 3, none⟩ (.int .i64 (m' : Int))).setCell ⟨w.heap.size + 1, 4, none⟩ (.slice A' ks'.length cap')).heap[w.heap.size + 1]? = some (.cells #[.int .i64 (o' : Int), vs nm', .int .i64 (cm' : Int), .int .i64 (m' : Int), .slice A' ks'.length cap'] 24 (0, 0)) := by
    have q := HX14.out
    have q := rSc (o := 0) (u := .int .i64 (o' : Int)) q
    have q := rSc (o := 1) (u := vs nm') q
    have q := rSc (o := 2) (u := .int .i64 (cm' : Int)) q
    have q := rSc (o := 3) (u := .int .i64 (m' : Int)) q
    have q := rSc (o := 4) (u := .slice A' ks'.length cap') q
    simpa using q
   generalize ((((((w4).setCell ⟨w.heap.size + 1, 0, none⟩ (.int .i64 (o' : Int))).setCell ⟨w.heap.size + 1, 1, none⟩ (vs nm')).setCell ⟨w.heap.size + 1, 2, none⟩ (.int .i64 (cm' : Int))).setCell ⟨w.heap.size + 1, 3, none⟩ (.int .i64 (m' : Int))).setCell ⟨w.heap.size + 1, 4, none⟩ (.slice A' ks'.length cap')) = w5 at ho hrow ⊢
   have g0 := cOb (o := 0) hrow rfl
   have g1 := cOb (o := 1) hrow rfl
   have g2 := cOb (o := 2) hrow rfl
   have g3 := cOb (o := 3) hrow rfl
   have g4 := cOb (o := 4) hrow rfl
   refine bodyPost_ret (v := .agg (tcs true o' nm' cm' m' (.slice A' ks'.length cap')).toArray) (by simp [results, Tryz.results89, go_sem, tcs, g0, g1, g2, g3, g4]) rfl ?_
   rw [HQ.out]
   exact ⟨_, rfl, ⟨_, rfl, HRT.out.keep (by rw [ho.size]; exact lR _) (fun b hb _ => ⟨by omega, ho.block b (by omega)⟩)⟩, HP4.out.off ho (by omega), HER.out.off ho (by omega)⟩
theorem condition_any (p fin : Nat) (ts l : List Tok) (w : World) (hp : PS w p fin ts l) :
 Calls Tryz.prog 94 #[.pointer (some ⟨p, 0, none⟩)] w (OutR p fin ts w (startF l) (TreeV false w)) := by
 have HP := Hi hp
 have hpl := hp.lt
 clear hp
 have hmm := @run_makeMap Tryz.prog
 go_enter Tryz.func94, Tryz.ntmps94
 go_upto_region 2 with fail
 have hbl : Below w.heap.size w ((((w.alloc (.cells #[.pointer (some ⟨p, 0, none⟩)] 90 (0, 0))).alloc (.cells #[.int .i64 0, .string ⟨#[]⟩, .int .i64 0, .slice none 0 0] 28 (0, 0))).alloc (.cells #[.pointer (some ⟨p, 0, none⟩), .slice none 0 0, .func (.func 140) #[] #[]] 189 (0, 0))).alloc (.cells #[.pointer (some ⟨w.heap.size + 1 + 1, 0, none⟩)] 185 (0, 0))) := ((((Below.refl _ _).alloc (lR _) _).alloc (by simp <;> omega) _).alloc (by simp <;> omega) _).alloc (by simp <;> omega) _
 have hx0 : ((((w.alloc (.cells #[.pointer (some ⟨p, 0, none⟩)] 90 (0, 0))).alloc (.cells #[.int .i64 0, .string ⟨#[]⟩, .int .i64 0, .slice none 0 0] 28 (0, 0))).alloc (.cells #[.pointer (some ⟨p, 0, none⟩), .slice none 0 0, .func (.func 140) #[] #[]] 189 (0, 0))).alloc (.cells #[.pointer (some ⟨w.heap.size + 1 + 1, 0, none⟩)] 185 (0, 0))).heap[w.heap.size]? = some (.cells #[.pointer (some ⟨p, 0, none⟩)] 90 (0, 0)) := old_at (old_at (old_at (alloc_at rfl)))
 have hx1 : ((((w.alloc (.cells #[.pointer (some ⟨p, 0, none⟩)] 90 (0, 0))).alloc (.cells #[.int .i64 0, .string ⟨#[]⟩, .int .i64 0, .slice none 0 0] 28 (0, 0))).alloc (.cells #[.pointer (some ⟨p, 0, none⟩), .slice none 0 0, .func (.func 140) #[] #[]] 189 (0, 0))).alloc (.cells #[.pointer (some ⟨w.heap.size + 1 + 1, 0, none⟩)] 185 (0, 0))).heap[w.heap.size + 1]? = some (.cells #[.int .i64 0, .string ⟨#[]⟩, .int .i64 0, .slice none 0 0] 28 (0, 0)) := old_at (old_at (alloc_at (by simp)))
 have hx2 : ((((w.alloc (.cells #[.pointer (some ⟨p, 0, none⟩)] 90 (0, 0))).alloc (.cells #[.int .i64 0, .string ⟨#[]⟩, .int .i64 0, .slice none 0 0] 28 (0, 0))).alloc (.cells #[.pointer (some ⟨p, 0, none⟩), .slice none 0 0, .func (.func 140) #[] #[]] 189 (0, 0))).alloc (.cells #[.pointer (some ⟨w.heap.size + 1 + 1, 0, none⟩)] 185 (0, 0))).heap[w.heap.size + 1 + 1]? = some (.cells #[.pointer (some ⟨p, 0, none⟩), .slice none 0 0, .func (.func 140) #[] #[]] (sE false) (0, 0)) := old_at (alloc_at (by simp))
 have hx3 : ((((w.alloc (.cells #[.pointer (some ⟨p, 0, none⟩)] 90 (0, 0))).alloc (.cells #[.int .i64 0, .string ⟨#[]⟩, .int .i64 0, .slice none 0 0] 28 (0, 0))).alloc (.cells #[.pointer (some ⟨p, 0, none⟩), .slice none 0 0, .func (.func 140) #[] #[]] 189 (0, 0))).alloc (.cells #[.pointer (some ⟨w.heap.size + 1 + 1, 0, none⟩)] 185 (0, 0))).heap[w.heap.size + 1 + 1 + 1]? = some (.cells #[.pointer (some ⟨w.heap.size + 1 + 1, 0, none⟩)] 185 (0, 0)) := alloc_at (by simp)
 have hz1 : ((((w.alloc (.cells #[.pointer (some ⟨p, 0, none⟩)] 90 (0, 0))).alloc (.cells #[.int .i64 0, .string ⟨#[]⟩, .int .i64 0, .slice none 0 0] 28 (0, 0))).alloc (.cells #[.pointer (some ⟨p, 0, none⟩), .slice none 0 0, .func (.func 140) #[] #[]] 189 (0, 0))).alloc (.cells #[.pointer (some ⟨w.heap.size + 1 + 1, 0, none⟩)] 185 (0, 0))).heap.size = w.heap.size + 4 := by simp
 generalize (((w.alloc (.cells #[.pointer (some ⟨p, 0, none⟩)] 90 (0, 0))).alloc (.cells #[.int .i64 0, .string ⟨#[]⟩, .int .i64 0, .slice none 0 0] 28 (0, 0))).alloc (.cells #[.pointer (some ⟨p, 0, none⟩), .slice none 0 0, .func (.func 140) #[] #[]] 189 (0, 0))).alloc (.cells #[.pointer (some ⟨w.heap.size + 1 + 1, 0, none⟩)] 185 (0, 0)) = w1 at hbl hx0 hx1 hx2 hx3 hz1 ⊢
 have HB1 := Hi hbl
 have HX0 := Hi hx0
 have HX1 := Hi hx1
 have HX2 := Hi hx2
 have HX3 := Hi hx3
 have HZ1 := Hi hz1
 have M0 := MapB.made w1 4
 clear hbl hx0 hx1 hx2 hx3 hz1
 go_upto_region 3 with (first | (refine wpList_ins rfl (.tmp 9) _ _ rfl w1 _ 0 4 [] [100, 101, 99, 114, 101, 101] 4 rfl rfl rfl rfl (by decide) (by decide) (by decide) (by assumption) ?_; intro ww1 M1; simp only [List.cons_append, List.nil_append] at M1) | (refine wpList_ins rfl (.tmp 9) _ _ rfl w1 _ 1 4 [[100, 101, 99, 114, 101, 101]] [101, 118, 101, 110, 116] 5 rfl rfl rfl rfl (by decide) (by decide) (by decide) (by assumption) ?_; intro ww2 M2; simp only [List.cons_append, List.nil_append] at M2) | (refine wpList_ins rfl (.tmp 9) _ _ rfl w1 _ 2 4 [[100, 101, 99, 114, 101, 101], [101, 118, 101, 110, 116]] [98, 101, 103, 117, 110] 6 rfl rfl rfl rfl (by decide) (by decide) (by decide) (by assumption) ?_; intro ww3 M3; simp only [List.cons_append, List.nil_append] at M3) | (refine wpList_ins rfl (.tmp 9) _ _ rfl w1 _ 3 4 [[100, 101, 99, 114, 101, 101], [101, 118, 101, 110, 116], [98, 101, 103, 117, 110]] [111, 118, 101, 114] 7 rfl rfl rfl rfl (by decide) (by decide) (by decide) (by assumption) ?_; intro ww4 M4; simp only [List.cons_append, List.nil_append] at M4))
 have HM := Hi M4
 have hb2 : Below w1.heap.size w1 ww4 := M4.bel
 clear M0 M1 M2 M3 M4
 have hlt2 := HM.out.own.lt
 have HB2 : Hid (Below w1.heap.size w1 (ww4.alloc (.cells #[.map (some w1.heap.size)] 154 (0, 0)))) := Hi (hb2.alloc hb2.size _)
 have HX4 : Hid ((ww4.alloc (.cells #[.map (some w1.heap.size)] 154 (0, 0))).heap[ww4.heap.size]? = some (.cells #[.map (some w1.heap.size)] 154 (0, 0))) := Hi (heap_alloc_new ww4 _)
 have HM3 : Hid (MapW (ww4.alloc (.cells #[.map (some w1.heap.size)] 154 (0, 0))) w1.heap.size 4 4 [[100, 101, 99, 114, 101, 101], [101, 118, 101, 110, 116], [98, 101, 103, 117, 110], [111, 118, 101, 114]]) := Hi (HM.out.own.of_heap (Below.heap_alloc _ _ _ hlt2))
 have hz3 : (ww4.alloc (.cells #[.map (some w1.heap.size)] 154 (0, 0))).heap.size = ww4.heap.size + 1 := by simp
 have hz := HZ1.out
 clear hb2
 generalize ww4.alloc (.cells #[.map (some w1.heap.size)] 154 (0, 0)) = w3 at HB2 HX4 HM3 hz3 ⊢
 have hx0 := (HB2.out.block (w.heap.size) (by omega)).trans HX0.out
 have hx1 := (HB2.out.block (w.heap.size + 1) (by omega)).trans HX1.out
 have hx2 := (HB2.out.block (w.heap.size + 1 + 1) (by omega)).trans HX2.out
 have hx3 := (HB2.out.block (w.heap.size + 1 + 1 + 1) (by omega)).trans HX3.out
 have c0 := cOb (o := 0) hx0 rfl
 have c3 := cOb (o := 0) hx3 rfl
 have c4 := cOb (o := 0) HX4.out rfl
 have l0 := lHp hx0
 have l3 := lHp hx3
 have HE3 : Hid (Eff p w w3) := Hi ((Eff.of_below HB1.out).trans (Eff.of_below HB2.out))
 have HP3 := Hi ((HP.out.below HB1.out).below HB2.out)
 have HX13 := Hi hx1
 have HX23 := Hi hx2
 have HCAP : Hid (Cap w3 w.heap.size (w.heap.size + 1 + 1 + 1) ww4.heap.size w1.heap.size 4 4 p (w.heap.size + 1 + 1) (w3.heap.size + 1) [[100, 101, 99, 114, 101, 101], [101, 118, 101, 110, 116], [98, 101, 103, 117, 110], [111, 118, 101, 114]]) := Hi ⟨c0, c3, c4, HM3.out, by omega, by omega, by omega⟩
 have HZ3 := Hi hz3
 have HLT2 := Hi hlt2
 clear hx0 hx1 hx2 hx3 hz3 hlt2
 go_wp2_with fail
 refine (braces_s w.heap.size (w.heap.size + 1 + 1 + 1) ww4.heap.size w1.heap.size 4 p (w.heap.size + 1 + 1) fin ts l w3 HP3.out HX23.out (by omega) HCAP.out).mono ?_
 intro e w4 ho
 cases hq : startF l with
 | error x =>
   obtain ⟨c, s⟩ := x
   rw [hq] at ho
   obtain ⟨rfl, h2⟩ := ho
   have HER : Hid (Eff p w w4) := Hi ⟨h2.os.trans HE3.out.os, h2.tape.trans HE3.out.tape, h2.output.trans HE3.out.output, Nat.le_trans HE3.out.size h2.size, fun k k1 k2 => by
    have hs3 := HE3.out.size
    exact (h2.block k (by omega) k2 (by omega) (by omega)).trans (HE3.out.block k k1 k2)⟩
   clear h2 hq
   go_wp2_with fail
   exact ⟨rfl, rfl, HER.out⟩
 | ok x =>
   obtain ⟨t, r⟩ := x
   rw [hq] at ho
   obtain ⟨cs, rfl, hrt, hp4, h2⟩ := ho
   have hs3 := HE3.out.size
   have hx1 := (h2.block (w.heap.size + 1) (by omega) (by omega) (by omega) (by omega)).trans HX13.out
   have HX14 := Hi hx1
   have HER : Hid (Eff p w w4) := Hi ⟨h2.os.trans HE3.out.os, h2.tape.trans HE3.out.tape, h2.output.trans HE3.out.output, Nat.le_trans hs3 h2.size, fun k k1 k2 => (h2.block k (by omega) k2 (by omega) (by omega)).trans (HE3.out.block k k1 k2)⟩
   have HP4 := Hi hp4
   have HQ := Hi hq
   have HRT := Hi hrt
   obtain ⟨o', nm', cm', m', ks'⟩ := t
   obtain ⟨A', cap', rfl, hk1, hk2⟩ := hrt
   simp only [tcs]
   have r0 := cOb (o := 0) hx1 rfl
   have f0 := fOb (o := 0) hx1
   have r1 := cOb (o := 1) hx1 rfl
   have f1 := fOb (o := 1) hx1
   have r2 := cOb (o := 2) hx1 rfl
   have f2 := fOb (o := 2) hx1
   have r3 := cOb (o := 3) hx1 rfl
   have f3 := fOb (o := 3) hx1
   have rl := lHp hx1
   clear hq hp4 h2 hk1 hk2 hx1
   go_wp2_with fail
   have ho : Off (w.heap.size + 1) w4 (((((w4).setCell ⟨w.heap.size + 1, 0, none⟩ (.int .i64 (o' : Int))).setCell ⟨w.heap.size + 1, 1, none⟩ (vs nm')).setCell ⟨w.heap.size + 1, 2, none⟩ (.int .i64 (m' : Int))).setCell ⟨w.heap.size + 1, 3, none⟩ (.slice A' ks'.length cap')) := ((((Off.refl _ _).set (o := 0) _).set (o := 1) _).set (o := 2) _).set (o := 3) _
   have hrow : (((((w4).setCell ⟨w.heap.size + 1, 0, none⟩ (.int .i64 (o' : Int))).setCell ⟨w.heap.size + 1, 1, none⟩ (vs nm')).setCell ⟨w.heap.size + 1, 2, none⟩ (.int .i64 (m' : Int))).setCell ⟨w.heap.size + 1, 3, none⟩ (.slice A' ks'.length cap')).heap[w.heap.size + 1]? = some (.cells #[.int .i64 (o' : Int), vs nm', .int .i64 (m' : Int), .slice A' ks'.length cap'] 28 (0, 0)) := by
    have q := HX14.out
    have q := rSc (o := 0) (u := .int .i64 (o' : Int)) q
    have q := rSc (o := 1) (u := vs nm') q
    have q := rSc (o := 2) (u := .int .i64 (m' : Int)) q
    have q := rSc (o := 3) (u := .slice A' ks'.length cap') q
    simpa using q
   generalize (((((w4).setCell ⟨w.heap.size + 1, 0, none⟩ (.int .i64 (o' : Int))).setCell ⟨w.heap.size + 1, 1, none⟩ (vs nm')).setCell ⟨w.heap.size + 1, 2, none⟩ (.int .i64 (m' : Int))).setCell ⟨w.heap.size + 1, 3, none⟩ (.slice A' ks'.length cap')) = w5 at ho hrow ⊢
   have g0 := cOb (o := 0) hrow rfl
   have g1 := cOb (o := 1) hrow rfl
   have g2 := cOb (o := 2) hrow rfl
   have g3 := cOb (o := 3) hrow rfl
   refine bodyPost_ret (v := .agg (tcs false o' nm' cm' m' (.slice A' ks'.length cap')).toArray) (by simp [results, Tryz.results94, go_sem, tcs, g0, g1, g2, g3]) rfl ?_
   rw [HQ.out]
   exact ⟨_, rfl, ⟨_, rfl, HRT.out.keep (by rw [ho.size]; exact lR _) (fun b hb _ => ⟨by omega, ho.block b (by omega)⟩)⟩, HP4.out.off ho (by omega), HER.out.off ho (by omega)⟩
end So
end Go.Proofs.YtbicmjmcdnkjhaaGreatDoor
