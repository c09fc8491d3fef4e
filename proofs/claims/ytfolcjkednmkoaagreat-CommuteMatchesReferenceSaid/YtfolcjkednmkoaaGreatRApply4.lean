/- The reference's Apply: move. -/
import Derived.Test.YtfolcjkednmkoaaGreatJApply
import Derived.Deep.RegionHeld3
set_option linter.unusedVariables false
set_option linter.unusedSimpArgs false
set_option maxRecDepth 20000
set_option maxHeartbeats 8000000
namespace Go.Proofs.YtfolcjkednmkoaaGreat
open Go.RowKit
theorem step_append_items {ops : Array Oper} {o : Oper} {a : Act} {w : World} {K : Act → World → Prop} {Q : Exit → Act → World → Prop} {E : Prop}
 (hgd : o.guard = none) (d x : Operand) (hop : o.op = Op.call { callee := Callee.builtin Builtin.append, args := #[d, x], argTypes := #[22, 22] }) (ht : o.type = 22)
 (base : Nat) (v : Value) (l : List Item) (A : Option Addr) (ys : List Item) (n cc : Nat) (hd : a.eval d = v) (hx : a.eval x = .slice A n cc) (hn : n = ys.length) (hown : OwnI w base v l) (hr : RdI w A ys) (hlen : l.length + ys.length ≤ 1000000) (hb : base ≤ w.heap.size)
 (hK : ∀ v' w', OwnI w' base v' (l ++ ys) → w.grownBy w' v.ownBlock → K (a.put o.dst v') w') :
 if Region.wanted o (yielded ops a.tmps) = true then Oper.wp Tryz.prog o a w K Q else E := by
 obtain ⟨v', w', h1, h2, h3⟩ := run_append_items w base v l hown A ys n cc hn hr hlen hb
 have hw : Region.wanted o (yielded ops a.tmps) = true := by simp [Region.wanted, hgd]
 rw [if_pos hw]
 unfold Oper.wp
 simp [execOp, hop, ht, resolve, invoke, builtin, hd, hx, h1, Result.andThen]
 exact hK _ _ h2 h3
theorem mark_alloc {ops : Array Oper} {o : Oper} {a : Act} {w : World} {obj : Obj} {K : Act → World → Prop} {Q : Exit → Act → World → Prop} {E : Prop} (h : if Region.wanted o (yielded ops a.tmps) = true then Oper.wp Tryz.prog o a (w.alloc obj) K Q else E) : if Region.wanted o (yielded ops a.tmps) = true then Oper.wp Tryz.prog o a (w.alloc obj) K Q else E := h
theorem mark_at {ops : Array Oper} {o : Oper} {a : Act} (w : World) {K : Act → World → Prop} {Q : Exit → Act → World → Prop} {E : Prop} (h : if Region.wanted o (yielded ops a.tmps) = true then Oper.wp Tryz.prog o a w K Q else E) : if Region.wanted o (yielded ops a.tmps) = true then Oper.wp Tryz.prog o a w K Q else E := h
theorem own_other {w : World} {base b : Nat} {v : Value} {l : List Item} {C : Array Value} {fr : Nat × Nat} (h : OwnI w base v l) (hb : w.blk b = some (.cells C 24 fr)) : v.ownBlock ≠ some b := by
 rcases h.form with ⟨rfl, -⟩ | ⟨g, cap, rest, rfl, -, -, hh, -⟩
 · intro h; cases h
 · intro h
   cases h
   unfold World.blk at hb
   rw [hh] at hb
   cases hb
theorem blk_lt {w : World} {b : Nat} {x : Obj} (h : w.blk b = some x) : b < w.heap.size := lt_of_heap h
theorem blk_grown {w w' : World} {own : Option Nat} {b : Nat} {x : Obj} (hg : w.grownBy w' own) (h : w.blk b = some x) (hne : own ≠ some b) : w'.blk b = some x := by
 obtain ⟨_, _, _, _, h5⟩ := hg
 exact (h5 b (blk_lt h) hne.symm).trans h
theorem fin_new {u : World} {base n c : Nat} {A : Option Addr} {L : List Item} (h : OwnI u base (.slice A n c) L) (o : Obj) : RdI (u.alloc o) A L ∧ L.length ≤ c := by
 obtain ⟨A', c', he, hr, hlc, hA⟩ := h.slice
 injection he with e1 e2 e3
 subst e1 e2 e3
 exact ⟨hr.below ((Below.refl _ _).alloc (Nat.le_refl _) _), hlc⟩
theorem step_second_alloc {ops : Array Oper} {o : Oper} {a : Act} {u1 W : World} {C : Array Value} {fr : Nat × Nat} {K : Act → World → Prop} {Q : Exit → Act → World → Prop} {E : Prop}
 (hgd : o.guard = none) (d x : Operand) (hop : o.op = Op.call { callee := Callee.builtin Builtin.append, args := #[d, x], argTypes := #[22, 22] }) (ht : o.type = 22)
 (v : Value) (l : List Item) (A : Option Addr) (ys : List Item) (n cc : Nat) (hd : a.eval d = v) (hx : a.eval x = .slice A n cc) (hn : n = ys.length) (hown : OwnI u1 W.heap.size v l) (hB : Below W.heap.size W u1) (hr : RdI u1 A ys) (hlen : l.length + ys.length ≤ 1000000)
 (hK : ∀ v' w', OwnI w' W.heap.size v' (l ++ ys) → w'.blk u1.heap.size = some (.cells C 24 fr) → Below W.heap.size W w' → K (a.put o.dst v') w') :
 if Region.wanted o (yielded ops a.tmps) = true then Oper.wp Tryz.prog o a (u1.alloc (.cells C 24 fr)) K Q else E :=
 have hba : Below u1.heap.size u1 (u1.alloc (.cells C 24 fr)) := (Below.refl _ _).alloc (Nat.le_refl _) _
 have hbw : Below W.heap.size W (u1.alloc (.cells C 24 fr)) := hB.alloc hB.size _
 have hown' : OwnI (u1.alloc (.cells C 24 fr)) W.heap.size v l := hown.below hba
 step_append_items hgd d x hop ht W.heap.size v l A ys n cc hd hx hn hown' (hr.below hba) hlen hbw.size (fun v' w' h1 h2 =>
  hK v' w' h1 (blk_grown h2 (heap_alloc_new u1 _) (own_other hown' (heap_alloc_new u1 _))) (hbw.grown h2 hbw.size (own_base hown)))
theorem own_ne {n m : Nat} (h : n ≠ m) : (Value.slice (some ⟨n, 0, none⟩) 0 0).ownBlock ≠ some m := by
 intro e
 simp [Value.ownBlock] at e
 exact h e
theorem bel_alloc {B : Nat} {w w' : World} (h : Below B w w') (hB : B ≤ w.heap.size) (o : Obj) : Below B w (w'.alloc o) := h.alloc (Nat.le_trans hB h.size) o
theorem mE (w : World) (n : Nat) (h : w.heap.size = n) : OwnI (w.alloc (.cells #[] 27)) n (.slice (some ⟨n, 0, none⟩) 0 0) [] := by subst h; exact made_empty w
theorem drew_size (w : World) : w.drew.heap.size = w.heap.size := rfl
theorem alloc_size (w : World) (o : Obj) : (w.alloc o).heap.size = w.heap.size + 1 := by simp
theorem hC (w : World) (x o : Obj) : ((w.alloc x).alloc o).blk (w.heap.size + 1) = some o := by
 have h := heap_alloc_new (w.alloc x) o
 rw [alloc_size] at h
 exact h
theorem hD (w : World) (o x : Obj) : ((w.alloc o).alloc x).blk w.heap.size = some o := (Below.heap_alloc _ _ _ (by simp)).trans (heap_alloc_new w o)
theorem g1 {w w0 u : World} {own : Option Nat} {n : Nat} (hb : Below w.heap.size w w0) (hg : w0.grownBy u own) (ho : own = some n) (hn : w.heap.size ≤ n) : Below w.heap.size w u := hb.grown hg hb.size (fun k hk => by rw [ho] at hk; injection hk with hk; omega)
theorem fin_box {u : World} {base b n c : Nat} {A : Option Addr} {L : List Item} {x0 v : Value} (h : OwnI u base (.slice A n c) L) (hb : u.blk b = some (.cells #[x0] 24 (0, 0))) :
 RdI (u.setCell ⟨b, 0, none⟩ v) A L ∧ (u.setCell ⟨b, 0, none⟩ v).cell? ⟨b, 0, none⟩ = some v ∧ n = L.length ∧ L.length ≤ c := by
 have hno := own_other h hb
 have hc := cell_of_blk (o := 0) (v := x0) hb rfl
 obtain ⟨A', c', he, hr, hlc, hA⟩ := h.slice
 have hlt := blk_lt hb
 injection he with e1 e2 e3
 subst e1 e2 e3
 refine ⟨Sl.keep hr (by simp) (fun b' o' hA' hne => Below.heap_setCell _ _ _ _ ?_), by simp [go_sem, hc, hlt], rfl, hlc⟩
 rintro rfl
 rcases h.form with ⟨he, -⟩ | ⟨g, cap, rest, he, -⟩
 · injection he with e1 e2 e3; rw [hA'] at e1; cases e1
 · injection he with e1 e2 e3; rw [hA'] at e1; cases e1; subst hA'; exact hno rfl
theorem rap_4n (l : List Item) (A : Option Addr) (c : Nat) (p : Patch) (w : World) (hr : RdI w A l) (hl : l.length ≤ 100000) (hlc : l.length ≤ c) (hsh : ∀ x ∈ l, x.Short) (hps : p.item.Short) (hpn : p.num.length ≤ maxLen) (hfr : p.fr.length ≤ 1000000) (htt : p.to.length ≤ 1000000) (he : (applyF l p).2 = 0) (hk : p.kind = 4) (k : Nat) (y : Item) (hfi : findI l p.id = k) (hy : l[k]? = some y) (hyi : y.id = p.id) (e1 : Nat) (he1 : k + (1 + (belowL l p.id).length) = e1) (hel : e1 ≤ l.length) (r : List Item) (hblk : (l.drop k).take (e1 - k) = y :: r) (hok : PutOk (l.take k ++ l.drop e1) p.par p.aft) (hce : ¬ c = e1) (hres : (applyF l p).1 = putL (l.take k ++ l.drop e1) ({ y with par := p.par } :: r) p.par p.aft) : RApplies l A c p w := by
 unfold RApplies
 rw [hres, he]
 clear hres
 have kb1 : (p.kind == 1) = false := by simp [hk]
 have kb2 : (p.kind == 2) = false := by simp [hk]
 have kb3 : (p.kind == 3) = false := by simp [hk]
 have kb4 : (p.kind == 4) = true := by simp [hk]
 have kb5 : (p.kind == 5) = false := by simp [hk]
 have kb6 : (p.kind == 6) = false := by simp [hk]
 have kb7 : (p.kind == 7) = false := by simp [hk]
 have HBL := Lib.hid hblk
 have HOK := Lib.hid hok; clear hok
 have hrl : e1 - k = r.length + 1 := by have := congrArg List.length hblk; simp at this; omega
 have hek : k < e1 := by omega
 clear hblk
 obtain ⟨nb, hnb⟩ : ∃ n, (belowL l y.id).length = n := ⟨_, rfl⟩
 have HE1 : Hid ((k : Int) + (1 + (nb : Int)) = (e1 : Int)) := Lib.hid (by rw [← hnb, hyi, ← he1]; push_cast; rfl)
 have HNB := Lib.hid hnb; clear hnb
 obtain ⟨L, hL⟩ : ∃ L, l.take k ++ l.drop e1 = L := ⟨_, rfl⟩
 have hLl : Hid (L.length = k + (l.length - e1)) := Lib.hid (by rw [← hL]; simp; omega)
 rw [hL]
 have HL := Lib.hid hL; clear hL
 have hq0 : (0 : Int) ≤ e1 := by omega
 have hq1 : (k : Int) ≤ e1 := by omega
 have hq2 : (e1 : Int) ≤ c := by omega
 have hq3 : (e1 : Int) ≤ l.length := by omega
 have hq4 : (k : Int) ≤ c := by omega
 have hq5 : ¬ c = k := by omega
 clear hyi he1
 have hq6 : ¬ c = e1 := hce
 clear hce
 have hkl : k < l.length := (List.getElem?_eq_some_iff.1 hy).1
 have hi0 : (0 : Int) ≤ k := by omega
 have hi1 : (k : Int) < l.length := by omega
 have hne : l ≠ [] := by rintro rfl; simp at hkl
 obtain ⟨b1, o1, hA, hbs1, -⟩ := hr.item hy
 subst hA
 have HFI := Lib.hid hfi; clear hfi
 have HY := Lib.hid hy; clear hy
 have HNE := Lib.hid hne; clear hne
 clear hk 
 have hb0 := (((Below.refl w.heap.size w).alloc (Nat.le_refl _) (.cells #[.slice (some ⟨b1, o1, none⟩) l.length c] 24)).alloc (by simp) (.cells (patCs p) 29)).alloc (by simp; omega) (.cells #[.slice none 0 0] 24)
 have HB0 := Lib.hid hb0; clear hb0
 have HR := Lib.hid hr; clear hr
 have HE := Lib.hid he; clear he
 have K20 : (((w.alloc (.cells #[.slice (some ⟨b1, o1, none⟩) l.length c] 24)).alloc (.cells (patCs p) 29)).alloc (.cells #[.slice none 0 0] 24)).cell? ⟨w.heap.size, 0, none⟩ = some (.slice (some ⟨b1, o1, none⟩) l.length c) := by simp [go_sem]
 have P30 : (((w.alloc (.cells #[.slice (some ⟨b1, o1, none⟩) l.length c] 24)).alloc (.cells (patCs p) 29)).alloc (.cells #[.slice none 0 0] 24)).blk (w.heap.size + 1) = some (.cells (patCs p) 29 (0, 0)) := by simp [go_sem]
 have R0 : (((w.alloc (.cells #[.slice (some ⟨b1, o1, none⟩) l.length c] 24)).alloc (.cells (patCs p) 29)).alloc (.cells #[.slice none 0 0] 24)).cell? ⟨w.heap.size + 1 + 1, 0, none⟩ = some (.slice none 0 0) := by simp [go_sem]
 have RF0 : (((w.alloc (.cells #[.slice (some ⟨b1, o1, none⟩) l.length c] 24)).alloc (.cells (patCs p) 29)).alloc (.cells #[.slice none 0 0] 24)).frozen? ⟨w.heap.size + 1 + 1, 0, none⟩ = false := by simp [go_sem]
 have z0 : w.heap.size + 1 + 1 < (((w.alloc (.cells #[.slice (some ⟨b1, o1, none⟩) l.length c] 24)).alloc (.cells (patCs p) 29)).alloc (.cells #[.slice none 0 0] 24)).heap.size := by simp
 have hsz0 : (((w.alloc (.cells #[.slice (some ⟨b1, o1, none⟩) l.length c] 24)).alloc (.cells (patCs p) 29)).alloc (.cells #[.slice none 0 0] 24)).heap.size = w.heap.size + 1 + 1 + 1 := by simp
 have HSZ0 := Lib.hid hsz0; clear hsz0
 go_enter Tryz.func38, Tryz.ntmps38
 go_wp2_with fail
 refine (rfail_any l _ c p _ (HR.out.below HB0.out) (by omega) hsh hps hpn hfr htt).mono ?_
 rintro e w1 ⟨rfl, hb1⟩
 rw [HE.out]
 have K21 := keepw hb1 K20
 have P31 := rkeepk hb1 P30
 have R1 := keepw hb1 R0
 have RF1 := (hb1.frozen (p := ⟨w.heap.size + 1 + 1, 0, none⟩) z0).trans RF0
 have HB1 := Lib.hid (HB0.out.trans (hb1.mono HB0.out.size))
 have y21 : w.heap.size < w1.heap.size := World.block_lt_of_cell? _ _ K21
 have y31 : w.heap.size + 1 < w1.heap.size := lt_of_heap P31
 have y41 : w.heap.size + 1 + 1 < w1.heap.size := World.block_lt_of_cell? _ _ R1
 have HR1 := Lib.hid (HR.out.below HB1.out)
 clear hb1 K20 P30 R0 RF0 z0
 have c0 : w1.cell? ⟨w.heap.size + 1, 0, none⟩ = some (.int .i64 p.kind) := cell_of_blk P31 rfl
 have c1 : w1.cell? ⟨w.heap.size + 1, 1, none⟩ = some (vs p.id) := cell_of_blk P31 rfl
 go_wp2_with fail
 refine (rfind_at HFI.out _ _ _ HR1.out (le_maxLen (by omega))).mono ?_
 rintro e w2 ⟨rfl, hb2⟩
 have K22 := keepw hb2 K21
 have P32 := rkeepk hb2 P31
 have R2 := keepw hb2 R1
 have RF2 := (hb2.frozen (p := ⟨w.heap.size + 1 + 1, 0, none⟩) y41).trans RF1
 have HB2 := Lib.hid (HB1.out.trans (hb2.mono HB1.out.size))
 have y42 : w.heap.size + 1 + 1 < w2.heap.size := World.block_lt_of_cell? _ _ R2
 have y22 : w.heap.size < w2.heap.size := by omega
 have y32 : w.heap.size + 1 < w2.heap.size := by omega
 have HR2 := Lib.hid (HR.out.below HB2.out)
 clear hb2 K21 P31 R1 RF1 HB1 y21 y31 y41 HR1 c0 c1
 have p0 : w2.cell? ⟨w.heap.size + 1, 0, none⟩ = some (.int .i64 p.kind) := cell_of_blk P32 rfl
 have p2 : w2.cell? ⟨w.heap.size + 1, 2, none⟩ = some (vs p.par) := cell_of_blk P32 rfl
 have p3 : w2.cell? ⟨w.heap.size + 1, 3, none⟩ = some (vs p.aft) := cell_of_blk P32 rfl
 obtain ⟨b9, o9, hA9, hbs9, c0, c1, c2, c3, c4, c5, c6⟩ := HR2.out.item HY.out
 cases hA9
 go_upto_region 7 with (fail)
 go_cut [8] (fun v8 wc => ∃ (g cap : Nat) (rest : List Value), v8 = .pointer (some ⟨wc.heap.size - 1, 0, none⟩) ∧ wc.cell? ⟨wc.heap.size - 1, 0, none⟩ = some (.slice (some ⟨g, 0, none⟩) l.length cap) ∧ w2.heap.size ≤ g ∧ g < wc.heap.size - 1 ∧ wc.heap[g]? = some (.cells (flat l ++ rest).toArray 27 (0, 0)) ∧ l.length ≤ cap ∧ cap ≤ maxLen ∧ (flat l ++ rest).length = cap * 7 ∧ Below w2.heap.size w2 wc)
 case first =>
  go_wp2_with (at_builtin; refine wpList_append_items rfl (.tmp 36) (.tmp 38) rfl rfl w2.heap.size (.slice (some ⟨w2.heap.size, 0, none⟩) 0 0) [] _ l _ _ rfl rfl rfl (made_empty w2) (HR2.out.below ((Below.refl _ _).alloc (Nat.le_refl _) _)) (by simp; omega) (by simp) ?_; intro v1 u1 hown1 hgr1; have hB1 : Below w2.heap.size w2 u1 := ((Below.refl _ _).alloc (Nat.le_refl _) _).grown hgr1 (by simp) (by simp [Value.ownBlock]); rw [List.nil_append] at hown1; obtain ⟨g, cap, rest, rfl, hg, hglt, hh, hlc1, hcm, hs⟩ := hown1.row HNE.out)
  go_meet
  case rel => exact ⟨g, cap, rest, by simp, by simp [go_sem], hg, by simpa using hglt, (Below.heap_alloc _ _ _ hglt).trans hh, hlc1, hcm, hs, hB1.alloc hB1.size _⟩
 case' rest =>
  obtain ⟨g, cap, rest, rfl, hc8, hg, hg2, hh, hlc1, hcm, hs, hbw⟩ := hcut
  obtain ⟨b8, hb8⟩ : ∃ b, b = wc.heap.size - 1 := ⟨_, rfl⟩
  rw [← hb8] at hc8 hg2 ⊢
  have hb8lt : b8 < wc.heap.size := World.block_lt_of_cell? _ _ hc8
  have hgne : ¬ b8 = g := by omega
  have hgne2 : ¬ g = b8 := by omega
  have hglt : g < wc.heap.size := by omega
  have R3 := keepw hbw R2
  have RF3 := (hbw.frozen (p := ⟨w.heap.size + 1 + 1, 0, none⟩) y42).trans RF2
  have K23 := keepw hbw K22
  have r0 := keepw hbw p0
  have r2 := keepw hbw p2
  have r3 := keepw hbw p3
  have HB3 := Lib.hid (HB2.out.trans (hbw.mono HB2.out.size))
  have d0 := keepw hbw c0
  have d1 := keepw hbw c1
  have d2 := keepw hbw c2
  have d3 := keepw hbw c3
  have d4 := keepw hbw c4
  have d5 := keepw hbw c5
  have d6 := keepw hbw c6
  have y43 : w.heap.size + 1 + 1 < wc.heap.size := World.block_lt_of_cell? _ _ R3
  have y23 : w.heap.size < wc.heap.size := by omega
  have y33 : w.heap.size + 1 < wc.heap.size := by omega
  have hb1c : b1 < wc.heap.size := World.block_lt_of_cell? _ _ d0
  have hbig : b8 < wc.heap.size + 1 := by omega
  have hfit : k * 7 + 7 ≤ (flat l ++ rest).length := by rw [hs]; omega
  have hkc : (k : Int) < cap := by omega
  have HH := Lib.hid hh
  have HG := Lib.hid hg
  clear hbw c0 c1 c2 c3 c4 c5 c6 R2 RF2 K22 P32 hh hg hb8
  have HRc := Lib.hid (HR.out.below HB3.out)
  go_wp2_with fail
  refine (rend_at HNB.out _ c k _ (HRc.out.below ((Below.refl _ _).alloc (Nat.le_refl _) _)) (by omega) hsh HY.out).mono ?_
  rintro e w5 ⟨rfl, hbe⟩
  rw [HE1.out]
  have hb5 : Below wc.heap.size wc w5 := ((Below.refl _ _).alloc (Nat.le_refl _) _).trans (hbe.mono (by simp))
  clear hbe
  have R5 := keepw hb5 R3
  have RF5 := (hb5.frozen (p := ⟨w.heap.size + 1 + 1, 0, none⟩) y43).trans RF3
  have K25 := keepw hb5 K23
  have s2 := keepw hb5 r2
  have s3 := keepw hb5 r3
  have HB5 := Lib.hid (HB3.out.trans (hb5.mono HB3.out.size))
  have y45 : w.heap.size + 1 + 1 < w5.heap.size := World.block_lt_of_cell? _ _ R5
  have HR5 := Lib.hid (HR.out.below HB5.out)
  clear hb5 R3 RF3 K23 r0 r2 r3 HB3 HRc HG HH d0 d1 d2 d3 d4 d5 d6 hc8 y43 y23 y33 hglt hbig hfit hkc hgne hgne2 hg2 hlc1 hcm hs
  have y25 : w.heap.size < w5.heap.size := by omega
  have y35 : w.heap.size + 1 < w5.heap.size := by omega
  go_wp2_with (at_builtin; refine wpList_append_items rfl (.tmp 61) (.tmp 66) rfl rfl w5.heap.size (.slice (some ⟨w5.heap.size, 0, none⟩) 0 0) [] _ ((l.drop k).take (e1 - k)) _ _ rfl rfl (by first | (simp; done) | (simp; omega)) (made_empty w5) (((HR5.out.drop k).take (e1 - k)).below ((Below.refl _ _).alloc (Nat.le_refl _) _)) (by first | (simp; done) | (simp; omega)) (by simp) ?_; intro v1 u1 hown1 hgr1; have hB1 : Below w5.heap.size w5 u1 := ((Below.refl _ _).alloc (Nat.le_refl _) _).grown hgr1 (by simp) (by simp [Value.ownBlock]); rw [List.nil_append, HBL.out] at hown1; obtain ⟨gm, capm, restm, rfl, hgm, hgmlt, hhm, hlcm, hcmm, hsm⟩ := hown1.row (by simp); have HHM := Lib.hid hhm; have R6a := keepw hB1 R5; have RF6a := (hB1.frozen (p := ⟨w.heap.size + 1 + 1, 0, none⟩) y45).trans RF5; have K26a := keepw hB1 K25; have s2a := keepw hB1 s2; have s3a := keepw hB1 s3; have y25a : w.heap.size < u1.heap.size := (World.block_lt_of_cell? _ _ K26a); have y35a : w.heap.size + 1 < u1.heap.size := (World.block_lt_of_cell? _ _ s2a); have y45a : w.heap.size + 1 + 1 < u1.heap.size := (World.block_lt_of_cell? _ _ R6a); have m2 : u1.cell? ⟨gm, 2, none⟩ = some (vs y.par) := (cell_of_blk (o := 2) hhm (by simp [flat_cons, Item.cells])); have m2f : u1.frozen? ⟨gm, 2, none⟩ = false := (frozen_of_blk hhm); clear hhm)
  generalize hW6 : World.setCell u1 ⟨gm, 2, none⟩ (vs p.par) = W6
  have hB6 : Below w5.heap.size w5 W6 := (by rw [← hW6]; exact hB1.setCell (show w5.heap.size ≤ gm from hgm) _)
  have HHM6 : Hid (W6.heap[gm]? = some (.cells (flat ({ y with par := p.par } :: r) ++ restm).toArray 27 (0, 0))) := Lib.hid (by rw [← hW6, row_setCell HHM.out, set_par])
  clear hW6 m2 m2f R6a RF6a K26a s2a s3a y25a y35a y45a HHM hgr1 hown1 hB1
  have R6 := keepw hB6 R5
  have RF6 := (hB6.frozen (p := ⟨w.heap.size + 1 + 1, 0, none⟩) y45).trans RF5
  have K26 := keepw hB6 K25
  have q2 := keepw hB6 s2
  have q3 := keepw hB6 s3
  have HB6 := Lib.hid (HB5.out.trans (hB6.mono HB5.out.size))
  have HR6 := Lib.hid (HR.out.below HB6.out)
  clear R5 RF5 K25 s2 s3 y25 y35 y45 hB6 HB5 HR5
  have y26 : w.heap.size < W6.heap.size := World.block_lt_of_cell? _ _ K26
  have y36 : w.heap.size + 1 < W6.heap.size := World.block_lt_of_cell? _ _ q2
  have y46 : w.heap.size + 1 + 1 < W6.heap.size := World.block_lt_of_cell? _ _ R6
  have nW1 : ¬ W6.heap.size = w.heap.size := by omega
  have nW2 : ¬ w.heap.size = W6.heap.size := by omega
  have nW3 : ¬ W6.heap.size + 1 = w.heap.size := by omega
  have nW4 : ¬ w.heap.size = W6.heap.size + 1 := by omega
  have hrlen : Hid (L.length + (r.length + 1) ≤ 1000000) := Lib.hid (by have := hLl.out; omega)
  have HRT : ∀ W, Below W6.heap.size W6 W → RdI W (some ⟨b1, o1, none⟩) (l.take k) := fun W hW => (HR6.out.take k).below hW
  have HRD : ∀ W, Below W6.heap.size W6 W → RdI W (some ⟨b1, o1 + e1 * 7, none⟩) (l.drop e1) := fun W hW => (HR6.out.drop e1).below hW
  go_cut [12] (fun v12 wd => ∃ (b c3 : Nat) (A3 : Option Addr), v12 = .pointer (some ⟨b, 0, none⟩) ∧ wd.cell? ⟨b, 0, none⟩ = some (.slice A3 L.length c3) ∧ RdI wd A3 L ∧ L.length ≤ c3 ∧ Below W6.heap.size W6 wd)
  case first =>
   go_region_held3 (fun X => X.cell? ⟨w.heap.size, 0, none⟩ = some (.slice (some ⟨b1, o1, none⟩) l.length c)) (first | assumption | go_keep | (simp [go_sem, *]; done))
    (first
      | (refine step_append_items rfl (.tmp 73) (.tmp 77) rfl rfl W6.heap.size (.slice (some ⟨W6.heap.size, 0, none⟩) 0 0) [] _ (l.take k) _ _ rfl rfl (by simp; omega) (OwnI.below (mE W6 _ rfl) (by repeat (first | exact Below.refl _ _ | exact hB1 | apply Below.drew | refine bel_alloc ?_ (by first | exact Nat.le_refl _ | omega) _))) (HRT _ (by repeat (first | exact Below.refl _ _ | exact hB1 | apply Below.drew | refine bel_alloc ?_ (by first | exact Nat.le_refl _ | omega) _))) (by simp; omega) (Below.size (w := W6) (by repeat (first | exact Below.refl _ _ | exact hB1 | apply Below.drew | refine bel_alloc ?_ (by first | exact Nat.le_refl _ | omega) _))) ?_; intro v1 u1 hown1 hgr1; have hbx1 := blk_grown hgr1 (hC W6 _ _) (own_ne (by omega)); have hB1 := g1 (by repeat (first | exact Below.refl _ _ | exact hB1 | apply Below.drew | refine bel_alloc ?_ (by first | exact Nat.le_refl _ | omega) _)) hgr1 rfl (Nat.le_refl _); rw [List.nil_append] at hown1; have h61 := keepw hB1 K26; have x1 : w.heap.size < u1.heap.size := (by have := hB1.size; omega); have x2 : ¬ u1.heap.size = w.heap.size := (by omega); have x3 : ¬ w.heap.size = u1.heap.size := (by omega))
      | (refine step_append_items rfl (.tmp 73) (.tmp 77) rfl rfl W6.heap.size (.slice (some ⟨W6.heap.size, 0, none⟩) 0 0) [] _ (l.take k) _ _ rfl rfl (by simp; omega) (OwnI.below (mE W6 _ rfl) (by repeat (first | exact Below.refl _ _ | exact hB1 | apply Below.drew | refine bel_alloc ?_ (by first | exact Nat.le_refl _ | omega) _))) (HRT _ (by repeat (first | exact Below.refl _ _ | exact hB1 | apply Below.drew | refine bel_alloc ?_ (by first | exact Nat.le_refl _ | omega) _))) (by simp; omega) (Below.size (w := W6) (by repeat (first | exact Below.refl _ _ | exact hB1 | apply Below.drew | refine bel_alloc ?_ (by first | exact Nat.le_refl _ | omega) _))) ?_; intro v1 u1 hown1 hgr1; have hB1 := g1 (by repeat (first | exact Below.refl _ _ | exact hB1 | apply Below.drew | refine bel_alloc ?_ (by first | exact Nat.le_refl _ | omega) _)) hgr1 rfl (Nat.le_refl _); rw [List.nil_append] at hown1; have h61 := keepw hB1 K26; have x1 : w.heap.size < u1.heap.size := (by have := hB1.size; omega); have x2 : ¬ u1.heap.size = w.heap.size := (by omega); have x3 : ¬ w.heap.size = u1.heap.size := (by omega))
      | (refine step_append_items rfl (.tmp 73) (.tmp 77) rfl rfl W6.heap.size (.slice (some ⟨W6.heap.size + 1, 0, none⟩) 0 0) [] _ (l.take k) _ _ rfl rfl (by simp; omega) (OwnI.mono (mE _ _ (by first | exact alloc_size _ _ | exact (drew_size _).trans (alloc_size _ _))) (Nat.le_succ _)) (HRT _ (by repeat (first | exact Below.refl _ _ | exact hB1 | apply Below.drew | refine bel_alloc ?_ (by first | exact Nat.le_refl _ | omega) _))) (by simp; omega) (Below.size (w := W6) (by repeat (first | exact Below.refl _ _ | exact hB1 | apply Below.drew | refine bel_alloc ?_ (by first | exact Nat.le_refl _ | omega) _))) ?_; intro v1 u1 hown1 hgr1; have hbx1 := blk_grown hgr1 (hD W6 _ _) (own_ne (by omega)); have hB1 := g1 (by repeat (first | exact Below.refl _ _ | exact hB1 | apply Below.drew | refine bel_alloc ?_ (by first | exact Nat.le_refl _ | omega) _)) hgr1 rfl (Nat.le_succ _); rw [List.nil_append] at hown1; have h61 := keepw hB1 K26; have x1 : w.heap.size < u1.heap.size := (by have := hB1.size; omega); have x2 : ¬ u1.heap.size = w.heap.size := (by omega); have x3 : ¬ w.heap.size = u1.heap.size := (by omega))
      | (with_reducible refine mark_at u1 ?_; refine step_append_items rfl (.tmp 78) (.tmp 82) rfl rfl W6.heap.size v1 (l.take k) _ (l.drop e1) _ _ rfl rfl (by first | (simp; done) | (simp; omega)) hown1 (HRD _ hB1) (by simp; omega) hB1.size ?_; intro v2 u2 hown2 hgr2; have hbx2 := blk_grown hgr2 hbx1 (own_other hown1 hbx1); have hB2 := hB1.grown hgr2 hB1.size (own_base hown1); rw [HL.out] at hown2; obtain ⟨A3, c3, rfl, -, -, -⟩ := hown2.slice; have h62 := keepw hB2 K26; have x4 : w.heap.size < u2.heap.size := (by have := hB2.size; omega); have x5 : ¬ u2.heap.size = w.heap.size := (by omega); have x6 : ¬ w.heap.size = u2.heap.size := (by omega); have x7 := cell_of_blk (o := 0) hbx2 rfl; have x8 := frozen_of_blk (o := 0) hbx2; have x9 := blk_lt hbx2)
      | (with_reducible refine mark_at u1 ?_; refine step_append_items rfl (.tmp 78) (.tmp 82) rfl rfl W6.heap.size v1 (l.take k) _ (l.drop e1) _ _ rfl rfl (by first | (simp; done) | (simp; omega)) hown1 (HRD _ hB1) (by simp; omega) hB1.size ?_; intro v2 u2 hown2 hgr2; have hB2 := hB1.grown hgr2 hB1.size (own_base hown1); rw [HL.out] at hown2; obtain ⟨A3, c3, rfl, -, -, -⟩ := hown2.slice; have h62 := keepw hB2 K26; have x4 : w.heap.size < u2.heap.size := (by have := hB2.size; omega); have x5 : ¬ u2.heap.size = w.heap.size := (by omega); have x6 : ¬ w.heap.size = u2.heap.size := (by omega))
      | (with_reducible refine mark_alloc (w := u1) ?_; refine step_second_alloc rfl (.tmp 78) (.tmp 82) rfl rfl v1 (l.take k) _ (l.drop e1) _ _ rfl rfl (by first | (simp; done) | (simp; omega)) hown1 hB1 (HRD _ hB1) (by simp; omega) ?_; intro v2 u2 hown2 hbx2 hB2; rw [HL.out] at hown2; obtain ⟨A3, c3, rfl, -, -, -⟩ := hown2.slice; have h62 := keepw hB2 K26; have x4 : w.heap.size < u2.heap.size := (by have := hB2.size; omega); have x5 : ¬ u2.heap.size = w.heap.size := (by omega); have x6 : ¬ w.heap.size = u2.heap.size := (by omega); have x7 := cell_of_blk (o := 0) hbx2 rfl; have x8 := frozen_of_blk (o := 0) hbx2; have x9 := blk_lt hbx2))
   all_goals
    go_wp2_with fail
    go_meet
    case rel =>
     first
      | exact ⟨_, c3, A3, rfl, (fin_box hown2 hbx2).2.1, (fin_box hown2 hbx2).1, (fin_box (v := .slice none 0 0) hown2 hbx2).2.2.2, hB2.setCell (by first | exact Nat.le_refl _ | exact hB1.size | (show W6.heap.size ≤ W6.heap.size + 1; omega)) _⟩
      | exact ⟨_, c3, A3, rfl, by simp [go_sem], (fin_new hown2 _).1, (fin_new hown2 (.cells #[] 0)).2, hB2.alloc hB2.size _⟩
  case' rest =>
   obtain ⟨b12, c12, A12, rfl, hc12, hr12, hlc12, hbw⟩ := hcut
   have R7 := keepw hbw R6
   have RF7 := (hbw.frozen (p := ⟨w.heap.size + 1 + 1, 0, none⟩) y46).trans RF6
   have s2 := keepw hbw q2
   have s3 := keepw hbw q3
   have HB7 := Lib.hid (HB6.out.trans (hbw.mono HB6.out.size))
   have HH7 := Lib.hid ((hbw.block gm (lt_of_heap HHM6.out)).trans HHM6.out)
   have y47 : w.heap.size + 1 + 1 < wc.heap.size := World.block_lt_of_cell? _ _ R7
   clear hbw R6 RF6 q2 q3 HB6 HHM6
   have HSL : ∀ x ∈ L, x.Short := by
    rw [← HL.out]
    intro x hx
    rcases List.mem_append.1 hx with h | h
    · exact hsh x (List.mem_of_mem_take h)
    · exact hsh x (List.mem_of_mem_drop h)
   go_wp2_with fail
   refine (rput_any L ({ y with par := p.par } :: r) A12 (some ⟨gm, 0, none⟩) c12 capm p.par p.aft _ hr12 (RdI.of_row (cur := flat ({ y with par := p.par } :: r) ++ restm) (rest := restm) (t := 27) HH7.out rfl) (by have := hrlen.out; simp; omega) hlc12 HSL (HL.out ▸ HOK.out)).mono ?_
   rintro e w8 ⟨v, rfl, ⟨A', c', rfl, hr', hlc', hA'⟩, hb8⟩
   have R8 := keepw hb8 R7
   have RF8 := (hb8.frozen (p := ⟨w.heap.size + 1 + 1, 0, none⟩) y47).trans RF7
   have y48 : w.heap.size + 1 + 1 < w8.heap.size := World.block_lt_of_cell? _ _ R8
   have HB8 := Lib.hid (HB7.out.trans (hb8.mono HB7.out.size))
   have hwc : w.heap.size + 3 ≤ wc.heap.size := by omega
   clear hb8
   go_wp2_with fail
   refine bodyPost_ret (v := .tuple #[.agg #[.slice A' (putL L ({ y with par := p.par } :: r) p.par p.aft).length c'], .int .i64 0]) (by simp [results, Tryz.results38, go_sem, R8, RF8, y48]) rfl ⟨_, rfl, ⟨A', c', rfl, Sl.keep hr' (by simp) (fun b o hA _ => Below.heap_setCell _ _ _ _ (by have := hA' b o hA; show b ≠ w.heap.size + 1 + 1; omega)), hlc', fun b o hA => by have := hA' b o hA; omega⟩, ?_⟩
   exact HB8.out.setCell (show w.heap.size ≤ w.heap.size + 1 + 1 by omega) _
end Go.Proofs.YtfolcjkednmkoaaGreat
