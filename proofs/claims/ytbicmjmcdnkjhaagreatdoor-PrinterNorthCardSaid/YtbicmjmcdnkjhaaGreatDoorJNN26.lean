/- several several, at conditions of commencement -/
import Derived.Test.YtbicmjmcdnkjhaaGreatDoorJNN25
set_option linter.unusedVariables false
set_option linter.unusedSimpArgs false
set_option maxRecDepth 20000
set_option maxHeartbeats 400000
namespace Go.Proofs.YtbicmjmcdnkjhaaGreatDoor
open Go.RowKit
/- a function of the parser that reads a condition -/
abbrev TreeV (fm : Bool) (w : World) (t : Tree) (v : Value) (w' : World) : Prop := ∃ cs : List Value, v = .agg cs.toArray ∧ RdTree fm (fun b => w.heap.size ≤ b) w' cs t
structure ReadsT (fm : Bool) (f : FuncId) (p fin N : Nat) (one : List Tok → R Tree) : Prop where
 go : ∀ l w, PS w p fin l → l.length < N → Calls Tryz.prog f #[.pointer (some ⟨p, 0, none⟩)] w (OutR p fin w (one l) (TreeV fm w))
 sane : Sane 1 N one
structure JoinsT (fm : Bool) (f : FuncId) (op : Nat) : Prop where
 go : ∀ A n c w, Calls Tryz.prog f #[.slice A n c] w fun e w' => e = .returned (.agg (tcs fm op [] 0 0 (.slice A n c)).toArray) ∧ Below w.heap.size w w'
def Enters (f : FuncId) : Prop := ∀ args w, (callFunc f args).run Tryz.prog w = .ok (.enter f args) w
/- behind one of several -/
def tailL {α : Type} (one : List Tok → R α) (w : List UInt8) (n : Nat) (r : List Tok) : R (List α) := optF [w] r (fun _ r' => severalL one w n r') (fun r' => .ok ([], r'))
def consR {α : Type} (acc : List α) (x : R (List α)) : R (List α) := match x with | .ok (xs, r) => .ok (acc ++ xs, r) | .error e => .error e
theorem severalL_tail {α : Type} (one : List Tok → R α) (w : List UInt8) (n : Nat) (l : List Tok) : severalL one w (n + 1) l = bindR (one l) fun x r => consR [x] (tailL one w n r) := by
 show bindR (one l) _ = _
 congr 1
 funext x r
 unfold tailL optF
 rcases takeF_cases [w] r with h | ⟨t, r', i, rfl, h, -, -⟩
 · rw [h]; rfl
 · rw [h]
   show bindR (severalL one w n r') _ = consR [x] (severalL one w n r')
   cases severalL one w n r' with
   | error e => rfl
   | ok v => rfl
theorem consR_consR {α : Type} (a b : List α) (x : R (List α)) : consR a (consR b x) = consR (a ++ b) x := by
 cases x with
 | error e => rfl
 | ok v => obtain ⟨xs, r⟩ := v; simp [consR]
theorem several_stop {one : List Tok → R Tree} {W : List UInt8} {op n k : Nat} {l r : List Tok} {acc : List Tree} (h : severalL one W n l = consR acc (tailL one W k r)) (ht : takeF [W] r = (none, r)) : severalF one W op n l = .ok (joinT op acc, r) := by
 unfold severalF
 rw [h]
 unfold tailL optF
 rw [ht]
 show Except.ok _ = _
 simp
theorem tailL_go {one : List Tok → R Tree} {W : List UInt8} {i k : Nat} {t : Tok} {r : List Tok} (ht : takeF [W] (t :: r) = (some i, r)) : tailL one W (k + 1) (t :: r) = bindR (one r) fun x r' => consR [x] (tailL one W k r') := by
 rw [← severalL_tail]
 unfold tailL optF
 rw [ht]
theorem several_err {one : List Tok → R Tree} {W : List UInt8} {op n e : Nat} {l s : List Tok} (h : severalL one W n l = .error (e, s)) : severalF one W op n l = .error (e, s) := by
 unfold severalF
 rw [h]
 rfl
theorem joinT_many {op : Nat} {l : List Tree} (h : ¬ l.length = 1) : joinT op l = .mk op [] 0 0 l := by
 unfold joinT
 split
 · simp at h
 · rfl
def plen (p : Nat) (w : World) : Nat :=
 match w.heap[p]? with
 | some (.cells C _ _) => (match C[0]? with | some (Value.slice _ m _) => m | _ => 0)
 | _ => 0
theorem PS.plen {w : World} {p fin : Nat} {l : List Tok} (h : PS w p fin l) : plen p w = l.length := by
 obtain ⟨A, c, hh, -⟩ := h.is
 unfold Proofs.YtbicmjmcdnkjhaaGreatDoor.plen
 rw [hh]
 rfl
theorem RdS.new {w : World} {b : Nat} {ss : List (List UInt8)} {t : TypeId} (h : w.heap[b]? = some (.cells (ss.map vs).toArray t (0, 0))) : RdS w (some ⟨b, 0, none⟩) ss := by
 intro hne
 refine ⟨b, 0, rfl, lt_of_heap' h, fun k x hx j v hv => ?_⟩
 cases j with
 | succ j => simp at hv
 | zero =>
   simp at hv
   subst hv
   refine cell_of_blk h ?_
   simp [hx]
theorem ReadsT.call {fm : Bool} {f : FuncId} {p fin N : Nat} {one : List Tok → R Tree} (h : ReadsT fm f p fin N one) {l : List Tok} {w : World} (hp : PS w p fin l) (hl : l.length < N) {K : Ending → World → Prop}
 (hk : ∀ t r v w', one l = .ok (t, r) → TreeV fm w t v w' → PS w' p fin r → Eff p w w' → r.length < l.length → K (.returned v) w')
 (he : ∀ e s w', one l = .error (e, s) → Eff p w w' → K (stopE e (posAt fin s)) w') : Calls Tryz.prog f #[.pointer (some ⟨p, 0, none⟩)] w K := by
 refine (h.go l w hp hl).mono ?_
 intro e w' ho
 cases hq : one l with
 | error x =>
   obtain ⟨c, s⟩ := x
   rw [hq] at ho
   obtain ⟨rfl, h2⟩ := ho
   exact he c s w' hq h2
 | ok x =>
   obtain ⟨t, r⟩ := x
   rw [hq] at ho
   obtain ⟨v, rfl, h1, h2, h3⟩ := ho
   exact hk t r v w' hq h1 h2 h3 (h.sane.ok l t r hl hq)
/- w' is w but for the block b, a box of the call's own -/
structure Off (b : Nat) (w w' : World) : Prop where
 os : w'.os = w.os
 tape : w'.tape = w.tape
 output : w'.output = w.output
 size : w'.heap.size = w.heap.size
 block : ∀ k, k ≠ b → w'.heap[k]? = w.heap[k]?
theorem Off.refl (b : Nat) (w : World) : Off b w w := ⟨rfl, rfl, rfl, rfl, fun _ _ => rfl⟩
theorem Off.set {b o : Nat} {w w' : World} (h : Off b w w') (v : Value) : Off b w (w'.setCell ⟨b, o, none⟩ v) :=
 ⟨h.os, h.tape, h.output, by have := h.size; simpa using this, fun k hk => (Below.heap_setCell _ _ _ _ (by simpa using hk)).trans (h.block k hk)⟩
theorem Eff.off {p b : Nat} {w w1 w2 : World} (h : Eff p w w1) (ho : Off b w1 w2) (hb : w.heap.size ≤ b) : Eff p w w2 :=
 ⟨ho.os.trans h.os, ho.tape.trans h.tape, ho.output.trans h.output, by rw [ho.size]; exact h.size, fun k hk hn => (ho.block k (by omega)).trans (h.block k hk hn)⟩
theorem PS.off {p b fin : Nat} {l : List Tok} {w w' : World} (h : PS w p fin l) (ho : Off b w w') (hb : p < b) : PS w' p fin l :=
 h.keep (Nat.le_of_eq ho.size.symm) (fun k hk => ho.block k (by omega))
theorem RdTree.off {fm : Bool} {base base' b : Nat} {w w' : World} {cs : List Value} {t : Tree} (h : RdTree fm (fun k => base ≤ k) w cs t) (ho : Off b w w') (hb : b < base) (hb' : base' ≤ base) : RdTree fm (fun k => base' ≤ k) w' cs t :=
 h.keep (Nat.le_of_eq ho.size.symm) (fun k hk _ => ⟨by omega, ho.block k (by omega)⟩)
theorem OwnT.own {fm : Bool} {w : World} {base : Nat} {v : Value} {l : List Tree} (h : OwnT fm w base v l) (hne : l ≠ []) : ∀ b, v.ownBlock = some b → base ≤ b ∧ b < w.heap.size := by
 obtain ⟨g, cap, rfl, h1, h2, -⟩ := h.form hne
 intro b hb
 simp [Value.ownBlock] at hb
 subst hb
 exact ⟨h1, h2⟩
/- what the append finds -/
theorem sev_snoc {p fin base : Nat} {fm : Bool} {w wr w1 w2 w3 : World} {v : Value} {l : List Tree} {r : List Tok} {cs : List Value} {t : Tree} {ty : TypeId} (hp : p < base) (hw : w.heap.size + 1 = base) (hz : base ≤ wr.heap.size) (hne : l ≠ []) (hown : OwnT fm wr base v l) (heff : Eff p w wr) (hb : Below wr.heap.size wr w1) (he2 : Eff p w1 w2) (he3 : Eff p w2 w3) (hp3 : PS w3 p fin r)
 (hrt : RdTree fm (fun b => w2.heap.size ≤ b) w3 cs t) (hty : ty = tE fm) :
 OwnT fm (w3.alloc (.cells cs.toArray ty (0, 0))) base v l ∧ RdTree fm (fun b => base ≤ b ∧ v.ownBlock ≠ some b) (w3.alloc (.cells cs.toArray ty (0, 0))) cs t ∧ (∀ (j : Nat) u, cs[j]? = some u → (w3.alloc (.cells cs.toArray ty (0, 0))).cell? ⟨w3.heap.size, 0 + j, none⟩ = some u) ∧ base ≤ (w3.alloc (.cells cs.toArray ty (0, 0))).heap.size ∧
 PS (w3.alloc (.cells cs.toArray ty (0, 0))) p fin r ∧ Eff p w (w3.alloc (.cells cs.toArray ty (0, 0))) ∧ Eff p wr (w3.alloc (.cells cs.toArray ty (0, 0))) := by
 have e1 : Eff p wr w3 := (Eff.of_below hb).trans (he2.trans he3)
 have e2 := e1.alloc (.cells cs.toArray ty (0, 0))
 have hs : wr.heap.size ≤ w2.heap.size := ((Eff.of_below hb).trans he2).size
 have hs3 := he3.size
 refine ⟨hown.eff e2 hp, hrt.keep (by simp) (fun b hb hlt => ⟨⟨by omega, fun e => absurd (hown.own hne b e).2 (by omega)⟩, Below.heap_alloc _ _ _ hlt⟩), fun j u hu => ?_, by simp; omega, hp3.below ((Below.refl _ _).alloc (Nat.le_refl _) _), heff.trans e2, e2⟩
 rw [Nat.zero_add]
 exact cell_of_blk (heap_alloc_new w3 _) (by simpa using hu)
theorem several_f (f1 fj : FuncId) (op : Nat) (W : List UInt8) (one : List Tok → R Tree) (n p fin : Nat) (hone : ReadsT true f1 p fin n one) (hj : JoinsT true fj op) (hf1 : Enters f1) (hfj : Enters fj) (l : List Tok) (w : World) (hp : PS w p fin l) (hl : l.length < n) (hl2 : l.length ≤ 6000) :
 Calls Tryz.prog 122 #[.pointer (some ⟨p, 0, none⟩), vs W, .func (.func f1) #[.pointer (some ⟨p, 0, none⟩)] #[], .func (.func fj) #[] #[]] w (OutR p fin w (severalF one W op n l) (TreeV true w)) := by
 have HONE := Lib.hid hone
 have HJ := Lib.hid hj
 have HF1 := Lib.hid hf1
 have HFJ := Lib.hid hfj
 have HP := Lib.hid hp
 have hpl := hp.lt
 obtain ⟨n', rfl⟩ : ∃ n', n = n' + 1 := ⟨n - 1, by omega⟩
 clear hone hj hp hf1 hfj
 go_enter Tryz.func122, Tryz.ntmps122
 go_wp2_with fail
 rw [HF1.out, Oper.upon_enter]
 refine HONE.out.call (HP.out.below ((Below.refl _ _).alloc (Nat.le_refl _) _)) hl ?_ ?_
 case refine_2 =>
  intro e s w1 hq he1
  go_wp2_with fail
  refine ⟨rfl, ?_⟩
  have hs : severalF one W op (n' + 1) l = .error (e, s) := by unfold severalF; rw [severalL_tail, hq]; rfl
  rw [hs]
  exact ⟨rfl, (Eff.of_below ((Below.refl _ _).alloc (Nat.le_refl _) _)).trans he1⟩
 case refine_1 =>
  intro t r v w1 hq hv hp1 he1 hr
  obtain ⟨cs, rfl, hrt⟩ := hv
  have HRT := Lib.hid hrt
  obtain ⟨o1, name, cm, m, ks⟩ := t
  obtain ⟨A, cap, rfl, hcap, hks⟩ := hrt
  simp only [tcs]
  clear hcap hks
  have z1 : w.heap.size + 1 ≤ w1.heap.size := by have := he1.size; simpa using this
  have hres : w1.heap[w.heap.size]? = some (.cells #[.int .i64 0, .string ⟨#[]⟩, .int .i64 0, .int .i64 0, .slice none 0 0] 24 (0, 0)) := by
   rw [he1.block _ (by simp) (by omega)]; exact heap_alloc_new w _
  have HRES := Lib.hid hres
  have HP1 := Lib.hid hp1
  have HE1 := Lib.hid he1
  clear hres hp1 he1
  go_wp2_with fail
  go_loopw [9] (fun v wr => ∃ (k : Nat) (acc : List Tree) (r : List Tok), acc ≠ [] ∧ acc.length + r.length ≤ 6001 ∧ severalL one W (n' + 1) l = consR acc (tailL one W k r) ∧ r.length < k ∧ k ≤ n' ∧ PS wr p fin r ∧ Eff p w wr ∧ OwnT true wr (w.heap.size + 1) v acc ∧ w.heap.size + 1 ≤ wr.heap.size ∧
   wr.heap[w.heap.size]? = some (.cells #[.int .i64 0, .string ⟨#[]⟩, .int .i64 0, .int .i64 0, .slice none 0 0] 24 (0, 0))) (fun _ wr => plen p wr)
  case atStart =>
   refine ⟨n', [.mk o1 name cm m ks], r, by simp, by simp; omega, by rw [severalL_tail, hq]; rfl, by omega, Nat.le_refl _, ?_, ?_, OwnT.one (cs := tcs true o1 name cm m (.slice A ks.length cap)) (by omega) (HRT.out.keep (Nat.le_refl _) (fun b hb _ => ⟨by simpa using hb, rfl⟩)), by simp; omega, ?_⟩
   · exact HP1.out.below ((Below.refl _ _).alloc (Nat.le_refl _) _)
   · exact ((Eff.of_below ((Below.refl _ _).alloc (Nat.le_refl _) _)).trans HE1.out).alloc _
   · rw [Below.heap_alloc _ _ _ (by omega)]; exact HRES.out
  case round =>
   obtain ⟨k, acc, r2, hne, hlen, hsev, hk, hkn, hps, heff, hown, hz, hbox⟩ := hrel
   have HSEV := Lib.hid hsev
   have HPS := Lib.hid hps
   have HEFF := Lib.hid heff
   have HOWN := Lib.hid hown
   have HBOX := Lib.hid hbox
   have HNE := Lib.hid hne
   have HKK := Lib.hid hk
   clear hsev hps heff hown hbox hne hk HP1 HE1 HRES HRT hq
   go_wp2_with fail
   have hrw : RdS (wr.alloc (.cells #[vs W] 9)) (some ⟨wr.heap.size, 0, none⟩) [W] := RdS.new (heap_alloc_new wr _)
   have hpw := HPS.out.below (w' := wr.alloc (.cells #[vs W] 9)) ((Below.refl _ _).alloc (Nat.le_refl _) _)
   rcases takeF_cases [W] r2 with ht | ⟨t2, r3, i, rfl, ht, -, -⟩
   · have HT := Lib.hid ht
     clear ht
     refine (take_no [W] _ 1 p fin r2 _ hpw hrw (by simp) HT.out).mono ?_
     rintro e w2 ⟨rfl, hb2⟩
     have hb : Below wr.heap.size wr w2 := ((Below.refl _ _).alloc (Nat.le_refl _) _).trans (hb2.mono (by simp))
     have hown2 := HOWN.out.keep hb.size (fun b _ hlt => hb.block b hlt)
     have hbox2 := (hb.block _ hz).trans HBOX.out
     have hp2 := HPS.out.below hb
     have he2 : Eff p w w2 := HEFF.out.trans (Eff.of_below hb)
     have c0 := cell_of_blk (o := 0) hbox2 rfl
     have c1 := cell_of_blk (o := 1) hbox2 rfl
     have c2 := cell_of_blk (o := 2) hbox2 rfl
     have c3 := cell_of_blk (o := 3) hbox2 rfl
     have c4 := cell_of_blk (o := 4) hbox2 rfl
     have f0 := frozen_of_blk (o := 0) hbox2
     have f1' := frozen_of_blk (o := 1) hbox2
     have f2 := frozen_of_blk (o := 2) hbox2
     have f3 := frozen_of_blk (o := 3) hbox2
     have f4 := frozen_of_blk (o := 4) hbox2
     have hblt := lt_of_heap' hbox2
     have HBOX2 := Lib.hid hbox2
     have HP2 := Lib.hid hp2
     have HE2 := Lib.hid he2
     have HB := Lib.hid hb
     clear hb hb2 hbox2 hp2 he2 hrw hpw
     by_cases h1 : acc.length = 1
     · obtain ⟨t0, rfl⟩ := List.length_eq_one_iff.1 h1
       obtain ⟨g, cp, rfl, hg1, hg2, hg3, ⟨cs, hcs, hrt⟩, -⟩ := hown2.form HNE.out
       have HRT := Lib.hid hrt
       obtain ⟨o0, nm0, cm0, m0, ks0⟩ := t0
       obtain ⟨A0, cap0, rfl, -, -⟩ := hrt
       have e0 := hcs 0 _ rfl
       have e1 := hcs 1 _ rfl
       have e2 := hcs 2 _ rfl
       have e3 := hcs 3 _ rfl
       have e4 := hcs 4 _ rfl
       have HOWN2 := Lib.hid hown2
       clear hown2 hcs h1
       simp only [Nat.zero_add] at e0 e1 e2 e3 e4
       go_wp2_with fail
       have hs : severalF one W op (n' + 1) l = .ok (.mk o0 nm0 cm0 m0 ks0, r2) := several_stop HSEV.out HT.out
       rw [hs]
       refine bodyPost_ret (v := .agg (tcs true o0 nm0 cm0 m0 (.slice A0 ks0.length cap0)).toArray) (by simp [results, Tryz.results122, go_sem, tcs, *]) rfl ?_
       have ho := ((((Off.refl w.heap.size w2).set (o := 0) (.int .i64 o0)).set (o := 1) (vs nm0)).set (o := 2) (.int .i64 cm0)).set (o := 3) (.int .i64 m0) |>.set (o := 4) (.slice A0 ks0.length cap0)
       exact ⟨_, rfl, ⟨_, rfl, HRT.out.off ho (Nat.lt_succ_self _) (Nat.le_succ _)⟩, HP2.out.off ho hpl, HE2.out.off ho (Nat.le_refl _)⟩
     · have h1' : ((acc.length : Int) == 1) = false := by simp; omega
       obtain ⟨g, cp, rfl, hg1, hg2, hg3, hkids⟩ := hown2.form HNE.out
       have HOWN2 := Lib.hid hown2
       have HKD := Lib.hid hkids
       have H1 := Lib.hid h1
       clear hown2 h1 hkids
       go_wp2_with fail
       rw [HFJ.out, Oper.upon_enter]
       refine (HJ.out.go _ _ _ _).mono ?_
       rintro e w3 ⟨rfl, hb3⟩
       simp only [tcs]
       have d0 := (hb3.cell (p := ⟨w.heap.size, 0, none⟩) hblt).trans c0
       have d1 := (hb3.cell (p := ⟨w.heap.size, 1, none⟩) hblt).trans c1
       have d2 := (hb3.cell (p := ⟨w.heap.size, 2, none⟩) hblt).trans c2
       have d3 := (hb3.cell (p := ⟨w.heap.size, 3, none⟩) hblt).trans c3
       have d4 := (hb3.cell (p := ⟨w.heap.size, 4, none⟩) hblt).trans c4
       have df0 := (hb3.frozen (p := ⟨w.heap.size, 0, none⟩) hblt).trans f0
       have df1 := (hb3.frozen (p := ⟨w.heap.size, 1, none⟩) hblt).trans f1'
       have df2 := (hb3.frozen (p := ⟨w.heap.size, 2, none⟩) hblt).trans f2
       have df3 := (hb3.frozen (p := ⟨w.heap.size, 3, none⟩) hblt).trans f3
       have df4 := (hb3.frozen (p := ⟨w.heap.size, 4, none⟩) hblt).trans f4
       have dl := World.block_lt_of_cell? _ _ d0
       clear c0 c1 c2 c3 c4 f0 f1' f2 f3 f4 hblt
       have HB3 := Lib.hid hb3
       clear hb3
       go_wp2_with fail
       have hs : severalF one W op (n' + 1) l = .ok (.mk op [] 0 0 acc, r2) := by rw [several_stop HSEV.out HT.out, joinT_many H1.out]
       rw [hs]
       refine bodyPost_ret (v := .agg (tcs true op [] 0 0 (.slice (some ⟨g, 0, none⟩) acc.length cp)).toArray) (by simp [results, Tryz.results122, go_sem, tcs, *]) rfl ?_
       have ho := ((((Off.refl w.heap.size w3).set (o := 0) (.int .i64 op)).set (o := 1) (vs [])).set (o := 2) (.int .i64 0)).set (o := 3) (.int .i64 0) |>.set (o := 4) (.slice (some ⟨g, 0, none⟩) acc.length cp)
       have ht : RdTree true (fun k => w.heap.size + 1 ≤ k) w2 (tcs true op [] 0 0 (.slice (some ⟨g, 0, none⟩) acc.length cp)) (.mk op [] 0 0 acc) := ⟨_, _, rfl, hg3, .inr ⟨g, 0, rfl, hg1, hg2, HKD.out⟩⟩
       exact ⟨_, rfl, ⟨_, rfl, (ht.keep HB3.out.size (fun b hb hlt => ⟨hb, HB3.out.block b hlt⟩)).off ho (Nat.lt_succ_self _) (Nat.le_succ _)⟩, (HP2.out.below HB3.out).off ho hpl, (HE2.out.trans (Eff.of_below HB3.out)).off ho (Nat.le_refl _)⟩
   · have HT := Lib.hid ht
     have h0 : (0 : Int) ≤ i := by omega
     clear ht
     refine (take_some [W] _ 1 p fin t2 r3 _ hpw hrw (by simp) i HT.out).mono ?_
     rintro e w2 ⟨rfl, hp2, he2⟩
     have HP2 := Lib.hid hp2
     have HE2 := Lib.hid he2
     have hk := HKK.out
     simp only [List.length_cons] at hlen hk
     have hr3 : r3.length < n' + 1 := by omega
     obtain ⟨k', rfl⟩ : ∃ k', k = k' + 1 := ⟨k - 1, by omega⟩
     clear hp2 he2 hrw hpw
     go_wp2_with fail
     rw [HF1.out, Oper.upon_enter]
     refine HONE.out.call HP2.out hr3 ?_ ?_
     case refine_2 =>
      intro e s w3 hq3 he3
      go_wp2_with fail
      have hs : severalL one W (n' + 1) l = .error (e, s) := by rw [HSEV.out, tailL_go HT.out, hq3]; rfl
      refine ⟨rfl, ?_⟩
      rw [several_err hs]
      exact ⟨rfl, HEFF.out.trans (((Eff.of_below ((Below.refl _ _).alloc (Nat.le_refl _) _)).trans HE2.out).trans he3)⟩
     case refine_1 =>
      intro t3 r4 v3 w3 hq3 hv3 hp3 he3 hr4
      obtain ⟨cs3, rfl, hrt3⟩ := hv3
      have HRT3 := Lib.hid hrt3
      obtain ⟨o3, name3, cm3, m3, ks3⟩ := t3
      obtain ⟨A3, cap3, rfl, hcap3, hks3⟩ := hrt3
      simp only [tcs]
      clear hcap3 hks3
      have HSN := Lib.hid (sev_snoc (ty := 24) (by omega) rfl hz HNE.out HOWN.out HEFF.out ((Below.refl _ _).alloc (Nat.le_refl _) _) HE2.out he3 hp3 HRT3.out rfl)
      have HQ3 := Lib.hid hq3
      clear hp3 he3 hq3
      go_wp2_with (at_builtin; refine wpList_append_f rfl (.tmp 18) (.tmp 21) rfl (w.heap.size + 1) u9 acc w3.heap.size (tcs true o3 name3 cm3 m3 (.slice A3 ks3.length cap3)) (.mk o3 name3 cm3 m3 ks3) rfl rfl HSN.out.1 HSN.out.2.2.1 HSN.out.2.1 (by omega) HSN.out.2.2.2.1 ?_; intro v' w' ho hg)
      obtain ⟨-, -, -, q1, q2, q3, q4⟩ := HSN.out
      have hown' := HOWN.out.own HNE.out
      have q5 : w3.heap.size + 1 ≤ w'.heap.size := by have := hg.size; simpa using this
      have q6 : wr.heap.size ≤ w3.heap.size + 1 := by have := q4.size; simpa using this
      have hp' := q2.grown hg (fun b hb => by have := (hown' b hb).1; omega)
      refine ⟨⟨k', acc ++ [.mk o3 name3 cm3 m3 ks3], r4, by simp, by simp; omega, ?_, by omega, by omega, hp', q3.grown hg (fun b hb => by have := (hown' b hb).1; omega), ho, by omega, ?_⟩, ?_⟩
      · rw [HSEV.out, tailL_go HT.out, HQ3.out]
        exact consR_consR _ _ _
      · exact (hg.block _ (by simp; omega) (fun e => by have := (hown' _ e.symm).1; omega)).trans ((q4.block _ (by omega) (by omega)).trans HBOX.out)
      · rw [hp'.plen, HPS.out.plen]
        simp
        omega
end Go.Proofs.YtbicmjmcdnkjhaaGreatDoor
set_option maxRecDepth 20000
set_option maxHeartbeats 400000
namespace Go.Proofs.YtbicmjmcdnkjhaaGreatDoor
open Go.RowKit
theorem several_s (f1 fj : FuncId) (op : Nat) (W : List UInt8) (one : List Tok → R Tree) (n p fin : Nat) (hone : ReadsT false f1 p fin n one) (hj : JoinsT false fj op) (hf1 : Enters f1) (hfj : Enters fj) (l : List Tok) (w : World) (hp : PS w p fin l) (hl : l.length < n) (hl2 : l.length ≤ 6000) :
 Calls Tryz.prog 166 #[.pointer (some ⟨p, 0, none⟩), vs W, .func (.func f1) #[.pointer (some ⟨p, 0, none⟩)] #[], .func (.func fj) #[] #[]] w (OutR p fin w (severalF one W op n l) (TreeV false w)) := by
 have HONE := Lib.hid hone
 have HJ := Lib.hid hj
 have HF1 := Lib.hid hf1
 have HFJ := Lib.hid hfj
 have HP := Lib.hid hp
 have hpl := hp.lt
 obtain ⟨n', rfl⟩ : ∃ n', n = n' + 1 := ⟨n - 1, by omega⟩
 clear hone hj hp hf1 hfj
 go_enter Tryz.func166, Tryz.ntmps166
 go_wp2_with fail
 rw [HF1.out, Oper.upon_enter]
 refine HONE.out.call (HP.out.below ((Below.refl _ _).alloc (Nat.le_refl _) _)) hl ?_ ?_
 case refine_2 =>
  intro e s w1 hq he1
  go_wp2_with fail
  refine ⟨rfl, ?_⟩
  have hs : severalF one W op (n' + 1) l = .error (e, s) := by unfold severalF; rw [severalL_tail, hq]; rfl
  rw [hs]
  exact ⟨rfl, (Eff.of_below ((Below.refl _ _).alloc (Nat.le_refl _) _)).trans he1⟩
 case refine_1 =>
  intro t r v w1 hq hv hp1 he1 hr
  obtain ⟨cs, rfl, hrt⟩ := hv
  have HRT := Lib.hid hrt
  obtain ⟨o1, name, cm, m, ks⟩ := t
  obtain ⟨A, cap, rfl, hcap, hks⟩ := hrt
  simp only [tcs]
  clear hcap hks
  have z1 : w.heap.size + 1 ≤ w1.heap.size := by have := he1.size; simpa using this
  have hres : w1.heap[w.heap.size]? = some (.cells #[.int .i64 0, .string ⟨#[]⟩, .int .i64 0, .slice none 0 0] 28 (0, 0)) := by
   rw [he1.block _ (by simp) (by omega)]; exact heap_alloc_new w _
  have HRES := Lib.hid hres
  have HP1 := Lib.hid hp1
  have HE1 := Lib.hid he1
  clear hres hp1 he1
  go_wp2_with fail
  go_loopw [9] (fun v wr => ∃ (k : Nat) (acc : List Tree) (r : List Tok), acc ≠ [] ∧ acc.length + r.length ≤ 6001 ∧ severalL one W (n' + 1) l = consR acc (tailL one W k r) ∧ r.length < k ∧ k ≤ n' ∧ PS wr p fin r ∧ Eff p w wr ∧ OwnT false wr (w.heap.size + 1) v acc ∧ w.heap.size + 1 ≤ wr.heap.size ∧
   wr.heap[w.heap.size]? = some (.cells #[.int .i64 0, .string ⟨#[]⟩, .int .i64 0, .slice none 0 0] 28 (0, 0))) (fun _ wr => plen p wr)
  case atStart =>
   refine ⟨n', [.mk o1 name cm m ks], r, by simp, by simp; omega, by rw [severalL_tail, hq]; rfl, by omega, Nat.le_refl _, ?_, ?_, OwnT.one (cs := tcs false o1 name cm m (.slice A ks.length cap)) (by omega) (HRT.out.keep (Nat.le_refl _) (fun b hb _ => ⟨by simpa using hb, rfl⟩)), by simp; omega, ?_⟩
   · exact HP1.out.below ((Below.refl _ _).alloc (Nat.le_refl _) _)
   · exact ((Eff.of_below ((Below.refl _ _).alloc (Nat.le_refl _) _)).trans HE1.out).alloc _
   · rw [Below.heap_alloc _ _ _ (by omega)]; exact HRES.out
  case round =>
   obtain ⟨k, acc, r2, hne, hlen, hsev, hk, hkn, hps, heff, hown, hz, hbox⟩ := hrel
   have HSEV := Lib.hid hsev
   have HPS := Lib.hid hps
   have HEFF := Lib.hid heff
   have HOWN := Lib.hid hown
   have HBOX := Lib.hid hbox
   have HNE := Lib.hid hne
   have HKK := Lib.hid hk
   clear hsev hps heff hown hbox hne hk HP1 HE1 HRES HRT hq
   go_wp2_with fail
   have hrw : RdS (wr.alloc (.cells #[vs W] 9)) (some ⟨wr.heap.size, 0, none⟩) [W] := RdS.new (heap_alloc_new wr _)
   have hpw := HPS.out.below (w' := wr.alloc (.cells #[vs W] 9)) ((Below.refl _ _).alloc (Nat.le_refl _) _)
   rcases takeF_cases [W] r2 with ht | ⟨t2, r3, i, rfl, ht, -, -⟩
   · have HT := Lib.hid ht
     clear ht
     refine (take_no [W] _ 1 p fin r2 _ hpw hrw (by simp) HT.out).mono ?_
     rintro e w2 ⟨rfl, hb2⟩
     have hb : Below wr.heap.size wr w2 := ((Below.refl _ _).alloc (Nat.le_refl _) _).trans (hb2.mono (by simp))
     have hown2 := HOWN.out.keep hb.size (fun b _ hlt => hb.block b hlt)
     have hbox2 := (hb.block _ hz).trans HBOX.out
     have hp2 := HPS.out.below hb
     have he2 : Eff p w w2 := HEFF.out.trans (Eff.of_below hb)
     have c0 := cell_of_blk (o := 0) hbox2 rfl
     have c1 := cell_of_blk (o := 1) hbox2 rfl
     have c2 := cell_of_blk (o := 2) hbox2 rfl
     have c3 := cell_of_blk (o := 3) hbox2 rfl
     have f0 := frozen_of_blk (o := 0) hbox2
     have f1' := frozen_of_blk (o := 1) hbox2
     have f2 := frozen_of_blk (o := 2) hbox2
     have f3 := frozen_of_blk (o := 3) hbox2
     have hblt := lt_of_heap' hbox2
     have HBOX2 := Lib.hid hbox2
     have HP2 := Lib.hid hp2
     have HE2 := Lib.hid he2
     have HB := Lib.hid hb
     clear hb hb2 hbox2 hp2 he2 hrw hpw
     by_cases h1 : acc.length = 1
     · obtain ⟨t0, rfl⟩ := List.length_eq_one_iff.1 h1
       obtain ⟨g, cp, rfl, hg1, hg2, hg3, ⟨cs, hcs, hrt⟩, -⟩ := hown2.form HNE.out
       have HRT := Lib.hid hrt
       obtain ⟨o0, nm0, cm0, m0, ks0⟩ := t0
       obtain ⟨A0, cap0, rfl, -, -⟩ := hrt
       have e0 := hcs 0 _ rfl
       have e1 := hcs 1 _ rfl
       have e2 := hcs 2 _ rfl
       have e3 := hcs 3 _ rfl
       have HOWN2 := Lib.hid hown2
       clear hown2 hcs h1
       simp only [Nat.zero_add] at e0 e1 e2 e3
       go_wp2_with fail
       have hs : severalF one W op (n' + 1) l = .ok (.mk o0 nm0 cm0 m0 ks0, r2) := several_stop HSEV.out HT.out
       rw [hs]
       refine bodyPost_ret (v := .agg (tcs false o0 nm0 cm0 m0 (.slice A0 ks0.length cap0)).toArray) (by simp [results, Tryz.results166, go_sem, tcs, *]) rfl ?_
       have ho := ((((Off.refl w.heap.size w2).set (o := 0) (.int .i64 o0)).set (o := 1) (vs nm0)).set (o := 2) (.int .i64 m0)).set (o := 3) (.slice A0 ks0.length cap0)
       exact ⟨_, rfl, ⟨_, rfl, HRT.out.off ho (Nat.lt_succ_self _) (Nat.le_succ _)⟩, HP2.out.off ho hpl, HE2.out.off ho (Nat.le_refl _)⟩
     · have h1' : ((acc.length : Int) == 1) = false := by simp; omega
       obtain ⟨g, cp, rfl, hg1, hg2, hg3, hkids⟩ := hown2.form HNE.out
       have HOWN2 := Lib.hid hown2
       have HKD := Lib.hid hkids
       have H1 := Lib.hid h1
       clear hown2 h1 hkids
       go_wp2_with fail
       rw [HFJ.out, Oper.upon_enter]
       refine (HJ.out.go _ _ _ _).mono ?_
       rintro e w3 ⟨rfl, hb3⟩
       simp only [tcs]
       have d0 := (hb3.cell (p := ⟨w.heap.size, 0, none⟩) hblt).trans c0
       have d1 := (hb3.cell (p := ⟨w.heap.size, 1, none⟩) hblt).trans c1
       have d2 := (hb3.cell (p := ⟨w.heap.size, 2, none⟩) hblt).trans c2
       have d3 := (hb3.cell (p := ⟨w.heap.size, 3, none⟩) hblt).trans c3
       have df0 := (hb3.frozen (p := ⟨w.heap.size, 0, none⟩) hblt).trans f0
       have df1 := (hb3.frozen (p := ⟨w.heap.size, 1, none⟩) hblt).trans f1'
       have df2 := (hb3.frozen (p := ⟨w.heap.size, 2, none⟩) hblt).trans f2
       have df3 := (hb3.frozen (p := ⟨w.heap.size, 3, none⟩) hblt).trans f3
       have dl := World.block_lt_of_cell? _ _ d0
       clear c0 c1 c2 c3 f0 f1' f2 f3 hblt
       have HB3 := Lib.hid hb3
       clear hb3
       go_wp2_with fail
       have hs : severalF one W op (n' + 1) l = .ok (.mk op [] 0 0 acc, r2) := by rw [several_stop HSEV.out HT.out, joinT_many H1.out]
       rw [hs]
       refine bodyPost_ret (v := .agg (tcs false op [] 0 0 (.slice (some ⟨g, 0, none⟩) acc.length cp)).toArray) (by simp [results, Tryz.results166, go_sem, tcs, *]) rfl ?_
       have ho := ((((Off.refl w.heap.size w3).set (o := 0) (.int .i64 op)).set (o := 1) (vs [])).set (o := 2) (.int .i64 0)).set (o := 3) (.slice (some ⟨g, 0, none⟩) acc.length cp)
       have ht : RdTree false (fun k => w.heap.size + 1 ≤ k) w2 (tcs false op [] 0 0 (.slice (some ⟨g, 0, none⟩) acc.length cp)) (.mk op [] 0 0 acc) := ⟨_, _, rfl, hg3, .inr ⟨g, 0, rfl, hg1, hg2, HKD.out⟩⟩
       exact ⟨_, rfl, ⟨_, rfl, (ht.keep HB3.out.size (fun b hb hlt => ⟨hb, HB3.out.block b hlt⟩)).off ho (Nat.lt_succ_self _) (Nat.le_succ _)⟩, (HP2.out.below HB3.out).off ho hpl, (HE2.out.trans (Eff.of_below HB3.out)).off ho (Nat.le_refl _)⟩
   · have HT := Lib.hid ht
     have h0 : (0 : Int) ≤ i := by omega
     clear ht
     refine (take_some [W] _ 1 p fin t2 r3 _ hpw hrw (by simp) i HT.out).mono ?_
     rintro e w2 ⟨rfl, hp2, he2⟩
     have HP2 := Lib.hid hp2
     have HE2 := Lib.hid he2
     have hk := HKK.out
     simp only [List.length_cons] at hlen hk
     have hr3 : r3.length < n' + 1 := by omega
     obtain ⟨k', rfl⟩ : ∃ k', k = k' + 1 := ⟨k - 1, by omega⟩
     clear hp2 he2 hrw hpw
     go_wp2_with fail
     rw [HF1.out, Oper.upon_enter]
     refine HONE.out.call HP2.out hr3 ?_ ?_
     case refine_2 =>
      intro e s w3 hq3 he3
      go_wp2_with fail
      have hs : severalL one W (n' + 1) l = .error (e, s) := by rw [HSEV.out, tailL_go HT.out, hq3]; rfl
      refine ⟨rfl, ?_⟩
      rw [several_err hs]
      exact ⟨rfl, HEFF.out.trans (((Eff.of_below ((Below.refl _ _).alloc (Nat.le_refl _) _)).trans HE2.out).trans he3)⟩
     case refine_1 =>
      intro t3 r4 v3 w3 hq3 hv3 hp3 he3 hr4
      obtain ⟨cs3, rfl, hrt3⟩ := hv3
      have HRT3 := Lib.hid hrt3
      obtain ⟨o3, name3, cm3, m3, ks3⟩ := t3
      obtain ⟨A3, cap3, rfl, hcap3, hks3⟩ := hrt3
      simp only [tcs]
      clear hcap3 hks3
      have HSN := Lib.hid (sev_snoc (ty := 28) (by omega) rfl hz HNE.out HOWN.out HEFF.out ((Below.refl _ _).alloc (Nat.le_refl _) _) HE2.out he3 hp3 HRT3.out rfl)
      have HQ3 := Lib.hid hq3
      clear hp3 he3 hq3
      go_wp2_with (at_builtin; refine wpList_append_s rfl (.tmp 18) (.tmp 21) rfl (w.heap.size + 1) u9 acc w3.heap.size (tcs false o3 name3 cm3 m3 (.slice A3 ks3.length cap3)) (.mk o3 name3 cm3 m3 ks3) rfl rfl HSN.out.1 HSN.out.2.2.1 HSN.out.2.1 (by omega) HSN.out.2.2.2.1 ?_; intro v' w' ho hg)
      obtain ⟨-, -, -, q1, q2, q3, q4⟩ := HSN.out
      have hown' := HOWN.out.own HNE.out
      have q5 : w3.heap.size + 1 ≤ w'.heap.size := by have := hg.size; simpa using this
      have q6 : wr.heap.size ≤ w3.heap.size + 1 := by have := q4.size; simpa using this
      have hp' := q2.grown hg (fun b hb => by have := (hown' b hb).1; omega)
      refine ⟨⟨k', acc ++ [.mk o3 name3 cm3 m3 ks3], r4, by simp, by simp; omega, ?_, by omega, by omega, hp', q3.grown hg (fun b hb => by have := (hown' b hb).1; omega), ho, by omega, ?_⟩, ?_⟩
      · rw [HSEV.out, tailL_go HT.out, HQ3.out]
        exact consR_consR _ _ _
      · exact (hg.block _ (by simp; omega) (fun e => by have := (hown' _ e.symm).1; omega)).trans ((q4.block _ (by omega) (by omega)).trans HBOX.out)
      · rw [hp'.plen, HPS.out.plen]
        simp
        omega
end Go.Proofs.YtbicmjmcdnkjhaaGreatDoor
