/- The statements' check of the chapter's example: pandectlaw10.head. The law PrinterEqual. Parse. The law PrinterSouth. -/
import Derived.Test.YtbicmjmcdnkjhaaGreatDoorJSS1
import Derived.Test.YtbicmjmcdnkjhaaGreatDoorJSS32
import Derived.Test.YtbicmjmcdnkjhaaGreatDoorJSS33
import Derived.Deep.CutRange
import Derived.Test.YtbicmjmcdnkjhaaGreatDoorJSS30
import Derived.Test.YtbicmjmcdnkjhaaGreatDoorJSS22
import Derived.Test.YtbicmjmcdnkjhaaGreatDoorJSS6
import Derived.Test.YtbicmjmcdnkjhaaGreatDoorJSS25
import Derived.Test.YtbicmjmcdnkjhaaGreatDoorJSS45
import Derived.Recover
import Derived.Defers
import Derived.Test.YtbicmjmcdnkjhaaGreatDoorJSS43
set_option linter.unusedVariables false
set_option linter.unusedSimpArgs false
set_option maxHeartbeats 4000000
namespace Go.Proofs.YtbicmjmcdnkjhaaGreatDoor
open Go.RowKit
theorem ex_few (id : Bytes) (h : id.length ≤ 60) : FewP (upP (exP id)) where
 cond := by rw [ex_up]; simp [exI, TreeI.size, sizesI]
 beg := by rw [ex_up]; simp [exI, TreeI.size, sizesI]
 fin := by rw [ex_up]; simp [exI, TreeI.size, sizesI]
 aga := by rw [ex_up]; simp [exI, TreeI.size, sizesI]
 exc := by rw [ex_up]; simp [exI]
 names := by
  rw [namesI_up, ex_names]
  intro s hs
  simp only [List.mem_cons, List.not_mem_nil, or_false] at hs
  rcases hs with rfl | rfl | rfl | rfl | rfl | rfl | rfl <;> first | exact h | decide
theorem five_few (id : Bytes) (h : id.length ≤ 60) : FewP { upP (exP id) with rank := 5 } := by
 obtain ⟨h1, h2, h3, h4, h5, h6⟩ := ex_few id h
 exact ⟨h1, h2, h3, h4, h5, h6⟩
theorem five_plain (id : Bytes) : plainP { upP (exP id) with rank := 5 } := ex_plain id
theorem rdpx_at {w : World} {cs : List Value} {p : ProvI} (h : RdPX w cs p) : cs[0]? = some (vs p.id) ∧ cs[1]? = some (.int .i64 p.rank) ∧ cs[2]? = some (.int .i64 p.kind) ∧ cs[3]? = some (vs p.name) ∧ cs[4]? = some (.int .i64 p.value) := by
 obtain ⟨cc, A, cap, cb, cf, ca, rfl, -⟩ := h
 exact ⟨rfl, rfl, rfl, rfl, rfl⟩
theorem rdpx_id {w : World} {cs : List Value} {p : ProvI} (h : RdPX w cs p) (a : Bytes) : RdPX w (cs.set 0 (vs a)) { p with id := a } := by
 obtain ⟨cc, A, cap, cb, cf, ca, rfl, h2⟩ := h
 exact ⟨cc, A, cap, cb, cf, ca, rfl, h2⟩
theorem rdpx_rank {w : World} {cs : List Value} {p : ProvI} (h : RdPX w cs p) (a : Int) : RdPX w (cs.set 1 (.int .i64 a)) { p with rank := a } := by
 obtain ⟨cc, A, cap, cb, cf, ca, rfl, h2⟩ := h
 exact ⟨cc, A, cap, cb, cf, ca, rfl, h2⟩
theorem rdpx_one {w : World} {cs : List Value} {p : ProvI} (h : RdPX w cs p) : allOne cs = true := by
 obtain ⟨id, rank, kind, name, value, ⟨o3, n3, c3, m3, k3⟩, exc, ⟨o5, n5, c5, m5, k5⟩, ⟨o6, n6, c6, m6, k6⟩, ⟨o7, n7, c7, m7, k7⟩⟩ := p
 obtain ⟨cc, A, cap, cb, cf, ca, rfl, -, ⟨A3, q3, rfl, -⟩, -, ⟨A5, q5, rfl, -⟩, ⟨A6, q6, rfl, -⟩, ⟨A7, q7, rfl, -⟩⟩ := h
 rfl
/- whole loads and stores of a provision that reads as p -/
theorem rdpx_io {w : World} {cs : List Value} {p : ProvI} (h : RdPX w cs p) : (∀ W b D t, D.size = 23 → rowStore W b cs.toArray (some (.cells D t (0, 0))) = .ok () (W.setRow b cs.toArray)) ∧ (∀ W b t fr, rowLoadP W b (some (.cells cs.toArray t fr)) = .ok (.agg cs.toArray) W) :=
 ⟨fun W b D t hD => rowStore_cells W b cs D t hD (by rw [List.size_toArray, h.len]) (rdpx_one h), fun W b t fr => rowLoadP_cells W b cs t fr (by rw [List.size_toArray, h.len])⟩
theorem blk_set {w : World} {b i : Nat} {l : List Value} {T : TypeId} {v : Value} (h : w.blk b = some (.cells l.toArray T (0, 0))) : (w.setCell ⟨b, i, none⟩ v).blk b = some (.cells (l.set i v).toArray T (0, 0)) := by
 have := set_block (o := i) (v := v) h
 rw [List.setIfInBounds_toArray] at this
 exact this
set_option maxRecDepth 100000
theorem head_any (w : World) (ht : Tabs w) : Calls Tryz.prog 10 #[] w fun e w' => e = .returned (.bool true) ∧ Below w.heap.size w w' := by
 have HT := Hi ht
 clear ht
 go_enter Tryz.func10, Tryz.ntmps10
 go_wp2_with fail
 refine (example_any w).mono ?_
 rintro e w1 ⟨cs, rfl, hr, hb⟩
 obtain ⟨st1, ld1⟩ := rdpx_io hr
 have HR := Hi hr
 have HB := Hi hb
 have HT1 : Hid (Tabs w1) := Hi (HT.out.below hb)
 clear hr hb
 go_wp2_with fail
 refine (north_p w1 _ cs _ HR.out (belowA _ _) HT1.out (ex_plain _) (ex_few _ (by decide))).mono ?_
 rintro e w2 ⟨rfl, hb2⟩
 rw [ex_north]
 have k1 : w2.blk w1.heap.size = some (.cells cs.toArray 30 (0, 0)) := (hb2.block _ (by simp)).trans (heap_alloc_new w1 _)
 have HB2 : Hid (Below w1.heap.size w1 w2) := Hi ((belowA w1 _).trans (hb2.mono (by simp)))
 have z1 : w1.heap.size < w2.heap.size := lHp k1
 have HK1 := Hi k1
 clear hb2
 go_wp2_with fail
 refine (south_p w1 _ cs _ HR.out HB2.out HT1.out (ex_plain _) (ex_few _ (by decide))).mono ?_
 rintro e w3 ⟨rfl, hb3⟩
 rw [ex_south]
 clear k1 z1
 have k1 : w3.blk w1.heap.size = some (.cells cs.toArray 30 (0, 0)) := (hb3.block _ (lHp HK1.out)).trans HK1.out
 have HB3 : Hid (Below w1.heap.size w1 w3) := Hi (HB2.out.trans (hb3.mono HB2.out.size))
 have z1 : w1.heap.size < w3.heap.size := lHp k1
 have HK3 := Hi k1
 clear hb3 HB2 HK1
 obtain ⟨d0, d1, -⟩ := rdpx_at HR.out
 have hnew := heap_alloc_new w3 (.cells cs.toArray 30)
 have c0 : (w3.alloc (.cells cs.toArray 30)).cell? ⟨w3.heap.size, 0, none⟩ = some (vs [112, 49]) := cOb hnew (by rw [List.getElem?_toArray]; exact d0)
 have f0 := fOb (o := 0) hnew
 clear hnew
 go_upto_region 6 with fail
 obtain ⟨ds, hds⟩ : ∃ ds, cs.set 0 (vs exW) = ds := ⟨_, rfl⟩
 have hq : RdPX w1 ds (upP (exP exW)) := by rw [← hds]; exact rdpx_id HR.out exW
 rw [show cs.set 0 (Value.string { data := #[119, 104, 101, 114, 101] }) = ds from hds]
 clear c0 f0 d0 d1 hds
 obtain ⟨st2, ld2⟩ := rdpx_io hq
 have HQ := Hi hq
 clear hq
 go_wp2_with fail
 refine (north_p w1 _ ds _ HQ.out (HB3.out.trans ((belowA w3 _).mono HB3.out.size)) HT1.out (ex_plain _) (ex_few _ (by decide))).mono ?_
 rintro e w4 ⟨rfl, hb4⟩
 rw [ex_where.1]
 have k6 : w4.blk w3.heap.size = some (.cells ds.toArray 30 (0, 0)) := (hb4.block _ (by simp)).trans (heap_alloc_new w3 _)
 have HB4 : Hid (Below w3.heap.size w3 w4) := Hi ((belowA w3 _).trans (hb4.mono (by simp)))
 have z6 : w3.heap.size < w4.heap.size := lHp k6
 have HK6 := Hi k6
 clear hb4 k1 z1
 go_wp2_with fail
 refine (south_p w1 _ ds _ HQ.out (HB3.out.trans (HB4.out.mono HB3.out.size)) HT1.out (ex_plain _) (ex_few _ (by decide))).mono ?_
 rintro e w5 ⟨rfl, hb5⟩
 rw [ex_where.2]
 clear k6 z6
 have k6 : w5.blk w3.heap.size = some (.cells ds.toArray 30 (0, 0)) := (hb5.block _ (lHp HK6.out)).trans HK6.out
 have HB5 : Hid (Below w3.heap.size w3 w5) := Hi (HB4.out.trans (hb5.mono HB4.out.size))
 have z6 : w3.heap.size < w5.heap.size := lHp k6
 obtain ⟨d0, d1, -⟩ := rdpx_at HQ.out
 have c1 : w5.cell? ⟨w3.heap.size, 1, none⟩ = some (.int .i64 2) := cOb k6 (by rw [List.getElem?_toArray]; exact d1)
 have f1 := fOb (o := 1) k6
 have k7 := blk_set (i := 1) (v := .int .i64 5) k6
 obtain ⟨es, hes⟩ : ∃ es, ds.set 1 (.int .i64 5) = es := ⟨_, rfl⟩
 have hq : RdPX w1 es { upP (exP exW) with rank := 5 } := by rw [← hes]; exact rdpx_rank HQ.out 5
 rw [hes] at k7
 obtain ⟨st3, ld3⟩ := rdpx_io hq
 have HE := Hi hq
 clear hb5 hq hes d0 d1 k6
 go_wp2_with fail
 refine (north_p w1 _ es _ HE.out ((HB3.out.trans (HB5.out.mono HB3.out.size)).setCell HB3.out.size _) HT1.out (five_plain _) (five_few _ (by decide))).mono ?_
 rintro e w6 ⟨rfl, hb6⟩
 rw [(ex_five rfl).1]
 have HB6 : Hid (Below w.heap.size w w6) := Hi (HB.out.trans (((HB3.out.trans (HB5.out.mono HB3.out.size)).setCell HB3.out.size _).trans (hb6.mono (by simp; have := HB5.out.size; have := HB3.out.size; omega)) |>.mono HB.out.size))
 clear hb6 k7 c1 f1 z6 st1 st2 st3 ld1 ld2 ld3
 go_wp2_with fail
 go_ret
 exact ⟨rfl, HB6.out⟩
/- two boxes of the law: provisions that came in -/
set_option maxRecDepth 100000
end Go.Proofs.YtbicmjmcdnkjhaaGreatDoor
set_option maxRecDepth 100000
set_option maxHeartbeats 4000000
namespace Go.Proofs.YtbicmjmcdnkjhaaGreatDoor
namespace So
open Go.RowKit
@[go_sem] theorem blk_setCell1 {w : World} {k o : Nat} {n} {u : Value} : (w.setCell ⟨k + 1, o, n⟩ u).blk k = w.blk k := Below.heap_setCell _ _ _ _ (by simp)
@[go_sem] theorem blk_setCell2 {w : World} {k o : Nat} {n} {u : Value} : (w.setCell ⟨k + 1 + 1, o, n⟩ u).blk k = w.blk k := Below.heap_setCell _ _ _ _ (by simp; omega)
@[go_sem] theorem blk_drew {w : World} {k : Nat} : w.drew.blk k = w.blk k := rfl
abbrev zeroA : Array Value := #[.string ⟨#[]⟩, .int .i64 0, .int .i64 0, .string ⟨#[]⟩, .int .i64 0, .int .i64 0, .string ⟨#[]⟩, .int .i64 0, .int .i64 0, .slice none 0 0, .slice none 0 0, .int .i64 0, .string ⟨#[]⟩, .int .i64 0, .slice none 0 0, .int .i64 0, .string ⟨#[]⟩, .int .i64 0, .slice none 0 0, .int .i64 0, .string ⟨#[]⟩, .int .i64 0, .slice none 0 0]
theorem modify_same {α : Type} (xs : Array α) (b : Nat) (f : α → α) (h : ∀ x, xs[b]? = some x → f x = x) : xs.modify b f = xs := by
 apply Array.ext_getElem?
 intro i
 rw [Array.getElem?_modify]
 split
 · rename_i e
   subst e
   cases hx : xs[b]? with
   | none => rfl
   | some x => simp [h x hx]
 · rfl
theorem setRow_same {W : World} {b : Nat} {C : Array Value} {t : TypeId} {fr : Nat × Nat} (h : W.blk b = some (.cells C t fr)) : W.setRow b C = W := by
 unfold World.blk at h
 unfold World.setRow
 rw [modify_same W.heap b _ (by intro x hx; rw [h] at hx; cases hx; rfl)]
@[go_sem high] theorem storeProv_same {W : World} {b : Nat} (h : W.blk b = some (.cells zeroA 30 (0, 0))) : (storeProv ⟨b, 0, none⟩ (.agg zeroA)).run Tryz.prog W = .ok () W := by
 rw [storeProv_row, h, rowStore_cells _ _ _ _ _ (by rfl) (by rfl) (by rfl), setRow_same h]
/- the boxes of Parse's outcome -/
structure ResP (b : Nat) (W : World) (C : Array Value) (v3 v4 : Value) : Prop where
 r2 : W.blk b = some (.cells C 30 (0, 0))
 r3 : W.heap[b + 1]? = some (.cells #[v3] 33 (0, 0))
 r4 : W.heap[b + 1 + 1]? = some (.cells #[v4] 3 (0, 0))
/- w' is w with new blocks and the three boxes changed -/
structure Eff3 (b : Nat) (w w' : World) : Prop where
 os : w'.os = w.os
 tape : w'.tape = w.tape
 output : w'.output = w.output
 size : w.heap.size ≤ w'.heap.size
 block : ∀ k, k < w.heap.size → k ≠ b → k ≠ b + 1 → k ≠ b + 1 + 1 → w'.heap[k]? = w.heap[k]?
theorem pr_nil {ts : List Tok} {p : Prov} {r : List Tok} (h : pr ts = .ok (p, r)) : r = [] := by
 unfold pr endF at h
 cases hq : provF ts with
 | error e => rw [hq] at h; cases h
 | ok v =>
   obtain ⟨q, r2⟩ := v
   rw [hq] at h
   cases r2 with
   | nil => cases h; rfl
   | cons t r => cases h
theorem parseF_mk {l : List UInt8} {ts : List Tok} {p : Prov} (h : lexF l = .ok ts) (hp : pr ts = .ok (p, [])) : parseF l = .ok p := by
 unfold parseF
 rw [h]
 simp only [hp]
theorem parseF_err {l : List UInt8} {ts : List Tok} {e : Nat} {s : List Tok} (h : lexF l = .ok ts) (hp : pr ts = .error (e, s)) : parseF l = .error (e, (posAt l.length s : Nat)) := by
 unfold parseF
 rw [h]
 simp only [hp]
theorem catch_idle (b : Nat) (w : World) :
 CallsD Tryz.prog 55 #[.pointer (some ⟨b, 0, none⟩), .pointer (some ⟨b + 1, 0, none⟩), .pointer (some ⟨b + 1 + 1, 0, none⟩)] .returning w fun e u' w' => e = .returned (.tuple #[]) ∧ u' = .returning ∧ w' = w := by
 refine callsD_of_wpS Tryz.func55 rfl fun c₀ cs hu => ?_
 apply wpS_seq
 apply wpS_region
 simp [wpOpsS, go_sem, recoverD, hu, Tryz.ntmps55, Exit.thenS]
 apply wpS_seq
 apply wpS_region
 simp [wpOpsS, go_sem, Exit.thenS]
 refine wpS_cond (t := false) (by simp [Act.eval, Array.replicate]) ?_
 simp only [Bool.false_eq_true, if_false]
 refine wpS_of_wp (wp_skip ?_)
 cases c₀
 simp_all [bodyPostS, results, Tryz.results55]
theorem catch_panic (b e a : Nat) (older : List PanicEntry) (w : World) (v3 v4 : Value) (hr : ResP b w zeroA v3 v4) :
 CallsD Tryz.prog 55 #[.pointer (some ⟨b, 0, none⟩), .pointer (some ⟨b + 1, 0, none⟩), .pointer (some ⟨b + 1 + 1, 0, none⟩)] (.panicking ({ v := .iface 89 (.agg #[.int .i64 e, .int .i64 a]), recovered := false } :: older)) w fun en u' w' =>
  en = .returned (.tuple #[]) ∧ u' = .panicking ({ v := .iface 89 (.agg #[.int .i64 e, .int .i64 a]), recovered := true } :: older) ∧ Eff3 b w w' ∧ ResP b w' zeroA (.int .i64 e) (.int .i64 a) := by
 refine callsD_of_wpS Tryz.func55 rfl fun c₀ cs hu => ?_
 apply wpS_seq
 apply wpS_region
 simp [wpOpsS, go_sem, recoverD, hu, Tryz.ntmps55, Exit.thenS]
 apply wpS_seq
 apply wpS_region
 simp [wpOpsS, go_sem, Exit.thenS]
 refine wpS_cond (t := true) (by simp [Act.eval, Array.replicate]) ?_
 simp only [if_true]
 refine wpS_of_wp ?_
 simp only [Array.replicate_succ, Array.replicate_zero, List.push_toArray, List.append_toArray, List.nil_append, List.cons_append, List.setIfInBounds_toArray, List.set_cons_succ, List.set_cons_zero]
 have hta : ∀ (v : Value) (w : World), (Instr.typeAssert (.iface 89 v) 20 89 false).run Tryz.prog w = .ok v w := fun v w => by kernel_rfl
 have h2 := hr.r2
 have c3 : w.cell? ⟨b + 1, 0, none⟩ = some v3 := cOb (o := 0) hr.r3 rfl
 have c4 : w.cell? ⟨b + 1 + 1, 0, none⟩ = some v4 := cOb (o := 0) hr.r4 rfl
 have f3 := fOb (o := 0) hr.r3
 have f4 := fOb (o := 0) hr.r4
 have l4 := lHp hr.r4
 have lb : b < w.heap.size := by omega
 have lb1 : b + 1 < w.heap.size := by omega
 have HR := Hi hr
 clear hr
 go_wp2_with fail
 go_region
 all_goals go_wp2_with fail
 have hset : ∀ k, k ≠ b + 1 → k ≠ b + 1 + 1 → ((w.setCell ⟨b + 1, 0, none⟩ (.int .i64 e)).setCell ⟨b + 1 + 1, 0, none⟩ (.int .i64 a)).heap[k]? = w.heap[k]? :=
  fun k h1 h2 => (Below.heap_setCell _ _ _ _ (by simpa using h2)).trans (Below.heap_setCell _ _ _ _ (by simpa using h1))
 have hal : ∀ k o, k < w.heap.size → (((w.setCell ⟨b + 1, 0, none⟩ (.int .i64 e)).setCell ⟨b + 1 + 1, 0, none⟩ (.int .i64 a)).alloc o).drew.heap[k]? = ((w.setCell ⟨b + 1, 0, none⟩ (.int .i64 e)).setCell ⟨b + 1 + 1, 0, none⟩ (.int .i64 a)).heap[k]? := fun k o hk => Below.heap_alloc _ _ _ (by simpa using hk)
 refine ⟨rfl, _, rfl, _, results_none Tryz.results55 _ _ _, rfl, rfl, ⟨rfl, rfl, rfl, by show _ ≤ (World.alloc _ _).heap.size; simp, fun k hk h1 h2 h3 => (hal k _ hk).trans (hset k h2 h3)⟩, ⟨(hal b _ lb).trans ((hset b (by omega) (by omega)).trans HR.out.r2), (hal _ _ lb1).trans ?_, (hal _ _ l4).trans ?_⟩⟩
 · exact (Below.heap_setCell _ _ _ _ (by simp)).trans (rSc HR.out.r3)
 · exact rSc ((Below.heap_setCell _ _ _ _ (by simp)).trans HR.out.r4)
theorem ResP.set34 {b : Nat} {W : World} {C : Array Value} {v3 v4 : Value} (h : ResP b W C v3 v4) (u3 u4 : Value) : ResP b ((W.setCell ⟨b + 1, 0, none⟩ u3).setCell ⟨b + 1 + 1, 0, none⟩ u4) C u3 u4 := by
 have e3 := rSc (o := 0) (u := u3) h.r3
 have e4 := (Below.heap_setCell W ⟨b + 1, 0, none⟩ u3 (b + 1 + 1) (by simp)).trans h.r4
 refine ⟨?_, (Below.heap_setCell _ _ _ _ (by simp)).trans e3, rSc e4⟩
 show World.blk _ b = _
 rw [blk_setCell2, blk_setCell1]
 exact h.r2
theorem ResP.drew {b : Nat} {W : World} {C : Array Value} {v3 v4 : Value} (h : ResP b W C v3 v4) : ResP b W.drew C v3 v4 := ⟨h.r2, h.r3, h.r4⟩
theorem below_set34 {b0 b : Nat} {w W : World} (h : Below b0 w W) (hb : b0 ≤ b) (u3 u4 : Value) : Below b0 w ((W.setCell ⟨b + 1, 0, none⟩ u3).setCell ⟨b + 1 + 1, 0, none⟩ u4) := (h.setCell (by simp; omega) _).setCell (by simp; omega) _
theorem ResP.row {b : Nat} {W : World} {C D : Array Value} {v3 v4 : Value} (h : ResP b W C v3 v4) : ResP b (W.setRow b D) D v3 v4 := by
 have ho : Off b W (W.setRow b D) := Off.row _ _
 exact ⟨blk_setRow_at h.r2, (ho.block _ (by omega)).trans h.r3, (ho.block _ (by omega)).trans h.r4⟩
theorem tree_cells {fm : Bool} {S : Nat → Prop} {W : World} {cs : List Value} {t : Tree} (h : RdTree fm S W cs t) : cs.length = tsz fm ∧ allOne cs = true := by
 refine ⟨h.len, ?_⟩
 obtain ⟨op, name, cmp, n, ks⟩ := t
 obtain ⟨A, cap, rfl, -, -⟩ := h
 cases fm <;> rfl
theorem allOne_cat : ∀ {a b : List Value}, allOne a = true → allOne b = true → allOne (a ++ b) = true
 | [], b, _, hb => hb
 | x :: a, b, ha, hb => by
   simp only [allOne, Bool.and_eq_true, List.cons_append] at ha ⊢
   exact ⟨ha.1, allOne_cat ha.2 hb⟩
theorem prov_cells {base : Nat} {W : World} {cs : List Value} {P : Prov} (h : RdProv base W cs P) : cs.length = 23 ∧ allOne cs = true := by
 obtain ⟨cc, A, cap, cb, cf, ca, rfl, -, h1, -, h2, h3, h4⟩ := h
 obtain ⟨a1, b1⟩ := tree_cells h1
 obtain ⟨a2, b2⟩ := tree_cells h2
 obtain ⟨a3, b3⟩ := tree_cells h3
 obtain ⟨a4, b4⟩ := tree_cells h4
 have e5 : tsz true = 5 := rfl
 have e4 : tsz false = 4 := rfl
 constructor
 · simp [a1, a2, a3, a4, e5, e4]
 · refine allOne_cat rfl (allOne_cat b1 ?_)
   show allOne (_ ++ _) = true
   exact allOne_cat b2 (allOne_cat b3 b4)
theorem resultsP {X : World} {b : Nat} {C : Array Value} {v3 v4 : Value} {tmps : Array Value} (hr : ResP b X C v3 v4) (hs : C.size = 23) (h2 : tmps.getD 2 undef = .pointer (some ⟨b, 0, none⟩)) (h3 : tmps.getD 3 undef = .pointer (some ⟨b + 1, 0, none⟩)) (h4 : tmps.getD 4 undef = .pointer (some ⟨b + 1 + 1, 0, none⟩)) :
 (results Tryz.f21 tmps).run Tryz.prog X = .ok (.tuple #[.agg C, v3, v4]) X := by
 have c3 : X.cell? ⟨b + 1, 0, none⟩ = some v3 := cOb (o := 0) hr.r3 rfl
 have c4 : X.cell? ⟨b + 1 + 1, 0, none⟩ = some v4 := cOb (o := 0) hr.r4 rfl
 have h2' : tmps[2]?.getD undef = .pointer (some ⟨b, 0, none⟩) := by simpa using h2
 have h3' : tmps[3]?.getD undef = .pointer (some ⟨b + 1, 0, none⟩) := by simpa using h3
 have h4' : tmps[4]?.getD undef = .pointer (some ⟨b + 1 + 1, 0, none⟩) := by simpa using h4
 have hl : (loadVar 30 ⟨b, 0, none⟩).run Tryz.prog X = .ok (.agg C) X := run_loadVar_row X b 30 30 C (0, 0) _ hr.r2 Tryz.underlying30 rfl (by rw [hs]; kernel_rfl)
 have hl3 : (loadVar 33 ⟨b + 1, 0, none⟩).run Tryz.prog X = .ok v3 X := by simp [go_sem, c3]
 have hl4 : (loadVar 3 ⟨b + 1 + 1, 0, none⟩).run Tryz.prog X = .ok v4 X := by simp [go_sem, c4]
 clear hr hs h2 h3 h4
 simp [results, Tryz.results21, h2', h3', h4', asAddr, hl, hl3, hl4]
abbrev ParsePost (l : List UInt8) (w : World) (e : Ending) (w' : World) : Prop := Below w.heap.size w w' ∧ (match parseF l with
 | .ok p => ∃ cs : List Value, e = .returned (.tuple #[.agg cs.toArray, .int .i64 0, .int .i64 0]) ∧ RdProv w.heap.size w' cs p
 | .error (er, a) => e = .returned (.tuple #[.agg zeroA, .int .i64 er, .int .i64 a]))
theorem below_eff3 {w X Y : World} (h : Below w.heap.size w X) (k : Eff3 w.heap.size X Y) : Below w.heap.size w Y :=
 ⟨k.os.trans h.os, k.tape.trans h.tape, k.output.trans h.output, Nat.le_trans h.size k.size, fun i hi => (k.block i (Nat.lt_of_lt_of_le hi h.size) (by omega) (by omega) (by omega)).trans (h.block i hi)⟩
theorem parse_any (l : List UInt8) (w : World) (m : Int) (hm : w.cell? ⟨2, 0, none⟩ = some (.int .i64 m)) :
 Calls Tryz.prog 21 #[vs l] w (ParsePost l w) := by
 have hmf : ∀ (fn : Fn) (first cap : Array Value) (w : World), (Instr.makeFunc fn first cap).run Tryz.prog w = .ok (.func fn first cap) w := fun _ _ _ _ => rfl
 have hml := World.block_lt_of_cell? _ _ hm
 have HM := Hi hm
 clear hm
 cases hlx : lexF l with
 | error v =>
   obtain ⟨er, a⟩ := v
   have HNE := Hi (lexF_err_ne hlx)
   have hpf : parseF l = .error (er, a) := by unfold parseF; rw [hlx]
   have HPF := Hi hpf
   have HLX := Hi hlx
   clear hlx hpf
   go_enter_defers Tryz.func21, Tryz.ntmps21
   go_wp2_with fail
   refine (lex_any l _).mono ?_
   rintro e w1 ⟨hb1, hres⟩
   rw [HLX.out] at hres
   obtain rfl := hres
   have hrp : ResP w.heap.size w1 zeroA (.int .i64 0) (.int .i64 0) := ⟨(hb1.block _ (by simp; omega)).trans (old_at (old_at (alloc_at rfl))), (hb1.block _ (by simp)).trans (old_at (alloc_at (by simp))), (hb1.block _ (by simp)).trans (alloc_at (by simp))⟩
   have hbw : Below w.heap.size w w1 := ((((Below.refl _ _).alloc (lR _) _).alloc (by simp) _).alloc (by simp; omega) _).trans (hb1.mono (by simp; omega))
   have h2 := hrp.r2
   have c3 : w1.cell? ⟨w.heap.size + 1, 0, none⟩ = some (.int .i64 0) := cOb (o := 0) hrp.r3 rfl
   have c4 : w1.cell? ⟨w.heap.size + 1 + 1, 0, none⟩ = some (.int .i64 0) := cOb (o := 0) hrp.r4 rfl
   have f3 := fOb (o := 0) hrp.r3
   have f4 := fOb (o := 0) hrp.r4
   have l4 := lHp hrp.r4
   have z : ((er : Int) != 0) = true := by have := HNE.out; simp; omega
   have HRP := Hi hrp
   have HBW := Hi hbw
   clear hb1 hrp hbw
   go_wp2_with fail
   go_region
   all_goals go_wp2_with fail
   have hr4 : ResP w.heap.size (((((w1.setCell ⟨w.heap.size + 1, 0, none⟩ (.int .i64 er)).setCell ⟨w.heap.size + 1 + 1, 0, none⟩ (.int .i64 a)).setCell ⟨w.heap.size + 1, 0, none⟩ (.int .i64 er)).setCell ⟨w.heap.size + 1 + 1, 0, none⟩ (.int .i64 a)).drew) zeroA (.int .i64 er) (.int .i64 a) := ((HRP.out.set34 (.int .i64 er) (.int .i64 a)).set34 (.int .i64 er) (.int .i64 a)).drew
   refine ⟨_, resultsP hr4 rfl rfl rfl rfl, (below_set34 (below_set34 HBW.out (lR _) _ _) (lR _) _ _).drew, ?_⟩
   rw [HPF.out]
 | ok ts =>
   have HLX := Hi hlx
   clear hlx
   go_enter_defers Tryz.func21, Tryz.ntmps21
   go_wp2_with fail
   refine (lex_any l _).mono ?_
   rintro e w1 ⟨hb1, hres⟩
   rw [HLX.out] at hres
   obtain ⟨A, c, rfl, hrd, hA, hc1, hc2⟩ := hres
   have hrp : ResP w.heap.size w1 zeroA (.int .i64 0) (.int .i64 0) := ⟨(hb1.block _ (by simp; omega)).trans (old_at (old_at (alloc_at rfl))), (hb1.block _ (by simp)).trans (old_at (alloc_at (by simp))), (hb1.block _ (by simp)).trans (alloc_at (by simp))⟩
   have hbw : Below w.heap.size w w1 := ((((Below.refl _ _).alloc (lR _) _).alloc (by simp) _).alloc (by simp; omega) _).trans (hb1.mono (by simp; omega))
   have l4 := lHp hrp.r4
   have HRP := Hi hrp
   have HBW := Hi hbw
   have h2 := hrp.r2
   have c3 : w1.cell? ⟨w.heap.size + 1, 0, none⟩ = some (.int .i64 0) := cOb (o := 0) hrp.r3 rfl
   have c4 : w1.cell? ⟨w.heap.size + 1 + 1, 0, none⟩ = some (.int .i64 0) := cOb (o := 0) hrp.r4 rfl
   have f3 := fOb (o := 0) hrp.r3
   have f4 := fOb (o := 0) hrp.r4
   have HRP0 := Hi (hrp.set34 (.int .i64 0) (.int .i64 0))
   have HBW0 := Hi (below_set34 hbw (lR _) (.int .i64 0) (.int .i64 0))
   have hz0 : ((w1.setCell ⟨w.heap.size + 1, 0, none⟩ (.int .i64 0)).setCell ⟨w.heap.size + 1 + 1, 0, none⟩ (.int .i64 0)).heap.size = w1.heap.size := by simp
   have HRD0 : Hid (RdT ((w1.setCell ⟨w.heap.size + 1, 0, none⟩ (.int .i64 0)).setCell ⟨w.heap.size + 1 + 1, 0, none⟩ (.int .i64 0)) A ts) := Hi (Sl.keep hrd (by rw [hz0]; exact lR _) (fun g o e hlt => by
    have := (hA g o e).1
    simp at this
    exact (Below.heap_setCell _ _ _ _ (by simp; omega)).trans (Below.heap_setCell _ _ _ _ (by simp; omega))))
   clear hb1 hrp hbw hrd HRP HBW
   go_upto_region 2 with fail
   have HA : Hid (∀ b o, A = some ⟨b, o, none⟩ → b < ((w1.setCell ⟨w.heap.size + 1, 0, none⟩ (.int .i64 0)).setCell ⟨w.heap.size + 1 + 1, 0, none⟩ (.int .i64 0)).heap.size) := Hi (fun b o e => by rw [hz0]; exact (hA b o e).2)
   clear h2 c3 c4 f3 f4 hA l4 hz0
   generalize ((w1.setCell ⟨w.heap.size + 1, 0, none⟩ (.int .i64 0)).setCell ⟨w.heap.size + 1 + 1, 0, none⟩ (.int .i64 0)) = w1 at HRP0 HBW0 HRD0 HA ⊢
   have HRP := HRP0
   have HBW := HBW0
   have HRD := HRD0
   clear HRP0 HBW0 HRD0
   have l4 := lHp HRP.out.r4
   have c3 : w1.cell? ⟨w.heap.size + 1, 0, none⟩ = some (.int .i64 0) := cOb (o := 0) HRP.out.r3 rfl
   go_wp2_with fail
   have hlen := (lexF_ok HLX.out).2.1
   have hll := (lexF_ok HLX.out).2.2
   have hwl := HBW.out.size
   have HPS : Hid (PS (w1.alloc (.cells #[.slice A ts.length c, .int .i64 0, .int .i64 l.length] 92)) w1.heap.size l.length ts ts) := Hi
    ⟨⟨A, c, [], alloc_at rfl, rfl, HRD.out.below ((Below.refl _ _).alloc (lR _) _), fun b o e => HA.out b o e, hc1, hc2⟩, fun t ht => (by obtain ⟨a1, a2, a3, a4, a5⟩ := tok_fit HLX.out t ht; exact ⟨a1, a2, a3, a4, a5⟩), hlen,
      ⟨m, cOh ((Below.heap_alloc _ _ _ (by omega)).trans (HBW.out.block _ hml)) 0 |>.trans HM.out⟩, by omega, by omega⟩
   refine calls_out (prov_any w1.heap.size l.length ts ts _ HPS.out) ?_ ?_
   case refine_2 =>
    intro er s w2 hq he2
    have hpf : parseF l = .error (er, (posAt l.length s : Nat)) := parseF_err HLX.out hq
    have hrp2 : ResP w.heap.size w2 zeroA (.int .i64 0) (.int .i64 0) := ⟨(he2.block _ (by simp; omega) (by omega)).trans (old_at HRP.out.r2), (he2.block _ (by simp; omega) (by omega)).trans (old_at HRP.out.r3), (he2.block _ (by simp; omega) (by omega)).trans (old_at HRP.out.r4)⟩
    have hbw2 : Below w.heap.size w w2 := ⟨he2.os.trans HBW.out.os, he2.tape.trans HBW.out.tape, he2.output.trans HBW.out.output, by have := he2.size; simp at this; omega, fun k hk => (he2.block k (by simp; omega) (by omega)).trans ((Below.heap_alloc _ _ _ (by omega)).trans (HBW.out.block k hk))⟩
    have HPF := Hi hpf
    have HRP2 := Hi hrp2
    have HBW2 := Hi hbw2
    clear hq hpf hrp2 hbw2 he2
    go_wp2_with fail
    refine leaves_cons (f := 55) (args := #[.pointer (some ⟨w.heap.size, 0, none⟩), .pointer (some ⟨w.heap.size + 1, 0, none⟩), .pointer (some ⟨w.heap.size + 1 + 1, 0, none⟩)]) (by simp) (by simp [go_sem]) ?_
    refine (catch_panic w.heap.size er (posAt l.length s) [] _ _ _ HRP2.out).mono ?_
    rintro e u' w'' ⟨rfl, rfl, he3, hr3⟩
    show Leaves _ _ _ _ [] .returning w''
    refine ⟨_, resultsP hr3 rfl rfl rfl rfl, below_eff3 HBW2.out he3, ?_⟩
    rw [HPF.out]
   case refine_1 =>
    intro P r v w2 hq hv hp2 he2
    obtain ⟨cs, rfl, hrdp⟩ := hv
    obtain rfl := pr_nil (ts := ts) hq
    have hpf : parseF l = .ok P := parseF_mk HLX.out hq
    have hrp2 : ResP w.heap.size w2 zeroA (.int .i64 0) (.int .i64 0) := ⟨(he2.block _ (by simp; omega) (by omega)).trans (old_at HRP.out.r2), (he2.block _ (by simp; omega) (by omega)).trans (old_at HRP.out.r3), (he2.block _ (by simp; omega) (by omega)).trans (old_at HRP.out.r4)⟩
    have hbw2 : Below w.heap.size w w2 := ⟨he2.os.trans HBW.out.os, he2.tape.trans HBW.out.tape, he2.output.trans HBW.out.output, by have := he2.size; simp at this; omega, fun k hk => (he2.block k (by simp; omega) (by omega)).trans ((Below.heap_alloc _ _ _ (by omega)).trans (HBW.out.block k hk))⟩
    have hb2 := hrp2.r2
    have c3 : w2.cell? ⟨w.heap.size + 1, 0, none⟩ = some (.int .i64 0) := cOb (o := 0) hrp2.r3 rfl
    have c4 : w2.cell? ⟨w.heap.size + 1 + 1, 0, none⟩ = some (.int .i64 0) := cOb (o := 0) hrp2.r4 rfl
    have f3 := fOb (o := 0) hrp2.r3
    have f4 := fOb (o := 0) hrp2.r4
    have l42 := lHp hrp2.r4
    obtain ⟨hcl, hc1⟩ := prov_cells hrdp
    have HCL := Hi hcl
    have HC1 := Hi hc1
    have HPF := Hi hpf
    have HRP2 := Hi hrp2
    have HBW2 := Hi hbw2
    have HRDP := Hi hrdp
    clear hq hpf hrp2 hbw2 he2 hcl hc1 hrdp hp2
    go_wp2_with fail
    rw [rowStore_cells _ _ cs zeroA _ (by rfl) (by rw [List.size_toArray, HCL.out]) HC1.out]
    have hrp4 := (HRP2.out.row (D := cs.toArray)).set34 (.int .i64 0) (.int .i64 0)
    have ho : Off w.heap.size w2 (w2.setRow w.heap.size cs.toArray) := Off.row _ _
    have d3 : (w2.setRow w.heap.size cs.toArray).cell? ⟨w.heap.size + 1, 0, none⟩ = some (.int .i64 0) := cOb (o := 0) (HRP2.out.row (D := cs.toArray)).r3 rfl
    have d4 : (w2.setRow w.heap.size cs.toArray).cell? ⟨w.heap.size + 1 + 1, 0, none⟩ = some (.int .i64 0) := cOb (o := 0) (HRP2.out.row (D := cs.toArray)).r4 rfl
    have g3 := fOb (o := 0) (HRP2.out.row (D := cs.toArray)).r3
    have g4 := fOb (o := 0) (HRP2.out.row (D := cs.toArray)).r4
    have l43 := lHp (HRP2.out.row (D := cs.toArray)).r4
    have hrd4 : RdProv w.heap.size (((w2.setRow w.heap.size cs.toArray).setCell ⟨w.heap.size + 1, 0, none⟩ (.int .i64 0)).setCell ⟨w.heap.size + 1 + 1, 0, none⟩ (.int .i64 0)) cs P :=
     HRDP.out.weak (by simp; omega) (by have := ho.size; simp [this]) (fun k hk _ => (Below.heap_setCell _ _ _ _ (by simp at hk ⊢; omega)).trans ((Below.heap_setCell _ _ _ _ (by simp at hk ⊢; omega)).trans (ho.block k (by simp at hk; omega))))
    have hbw4 := below_set34 (b0 := w.heap.size) (b := w.heap.size) (w := w) (W := w2.setRow w.heap.size cs.toArray) (below_setRow HBW2.out (lR _) _) (lR _) (.int .i64 0) (.int .i64 0)
    have HRP4 := Hi hrp4
    have HRD4 := Hi hrd4
    have HBW4 := Hi hbw4
    clear hrp4 hrd4 hbw4 ho
    go_wp2_with fail
    refine leaves_cons (f := 55) (args := #[.pointer (some ⟨w.heap.size, 0, none⟩), .pointer (some ⟨w.heap.size + 1, 0, none⟩), .pointer (some ⟨w.heap.size + 1 + 1, 0, none⟩)]) (by simp) (by simp [go_sem]) ?_
    refine (catch_idle w.heap.size _).mono ?_
    rintro e u' w'' ⟨rfl, rfl, rfl⟩
    show Leaves _ _ _ _ [] .returning _
    refine ⟨_, resultsP HRP4.out (by rw [List.size_toArray, HCL.out]) rfl rfl rfl, HBW4.out, ?_⟩
    rw [HPF.out]
    exact ⟨cs, rfl, HRD4.out⟩
end So
end Go.Proofs.YtbicmjmcdnkjhaaGreatDoor
set_option maxHeartbeats 4000000
namespace Go.Proofs.YtbicmjmcdnkjhaaGreatDoor
open Go.RowKit
/- the law's box: the provision that came in -/
structure Bz1 (w wx : World) (C : Array Value) (T : TypeId) : Prop where
 below : Below w.heap.size w wx
 b1 : wx.blk w.heap.size = some (.cells C T (0, 0))
theorem Bz1.start (w : World) (C : Array Value) (T : TypeId) : Bz1 w (w.alloc (.cells C T)) C T := ⟨belowA w _, new_at rfl⟩
theorem Bz1.step {w wx w' : World} {C : Array Value} {T : TypeId} (h : Bz1 w wx C T) (hb : Below wx.heap.size wx w') : Bz1 w w' C T :=
 ⟨h.below.trans (hb.mono h.below.size), (hb.block _ (lHp h.b1)).trans h.b1⟩
set_option maxRecDepth 100000
theorem psou_any (w : World) (cs1 : List Value) (P : ProvI) (hr1 : RdPX w cs1 P) (hp1 : plainP P) (hm1 : P.exc.length ≤ maxLen) (ht : Tabs w) (m : Int) (hmc : w.cell? ⟨2, 0, none⟩ = some (.int .i64 m)) :
 Calls Tryz.prog 8 #[.agg cs1.toArray] w fun e w' => e = .returned (.bool true) ∧ Below w.heap.size w w' := by
 obtain ⟨-, ld1⟩ := rdpx_io hr1
 have HT := Hi ht
 have HR1 := Hi hr1
 have hml := World.block_lt_of_cell? _ _ hmc
 have HMC := Hi (And.intro hmc hml)
 have HX := Hi (Bz1.start w cs1.toArray 30)
 clear ht hr1 hmc hml
 go_enter Tryz.func8, Tryz.ntmps8
 go_wp2_with fail
 refine (head_any _ (HT.out.below HX.out.below)).mono ?_
 rintro e w1 ⟨rfl, hb⟩
 have H1 := Hi (HX.out.step hb)
 have k1 := H1.out.b1
 have l1 := lHp k1
 clear hb HX
 go_wp2_with fail
 cases hf1 : fewI P with
 | false =>
   refine (few_any w1 cs1 P (HR1.out.keep H1.out.below) hm1 false hf1).mono ?_
   rintro e w2 ⟨rfl, hb⟩
   have H2 := Hi (H1.out.step hb)
   clear hb k1 l1
   go_wp2_with fail
   go_ret
   exact ⟨rfl, H2.out.below⟩
 | true =>
 refine (few_any w1 cs1 P (HR1.out.keep H1.out.below) hm1 true hf1).mono ?_
 rintro e w2 ⟨rfl, hb⟩
 have H2 := Hi (H1.out.step hb)
 clear hb k1 l1
 have HF1 := Hi (fewI_iff.1 hf1)
 have HP1 := Hi hp1
 obtain ⟨NP, hNP⟩ : ∃ x, southA P = x := ⟨_, rfl⟩
 obtain ⟨a, e⟩ := NP
 have HNP := Hi hNP
 clear hf1 hp1 hNP
 have k1 := H2.out.b1
 have l1 := lHp k1
 go_wp2_with fail
 refine (south_p w w2 cs1 P HR1.out H2.out.below HT.out HP1.out HF1.out).mono ?_
 rintro e4 w4 ⟨rfl, hb⟩
 rw [HNP.out]
 have H4 := Hi (H2.out.step hb)
 clear hb k1 l1
 have k1 := H4.out.b1
 have l1 := lHp k1
 have z0 : (((0 : Nat) : Int)) = 0 := rfl
 by_cases he : e = 0
 · subst he
   have HL := Hi (south_law HP1.out (by rw [HNP.out]))
   rw [HNP.out] at HL
   rw [z0]
   clear z0
   go_wp2_with fail
   refine (So.parse_any a w4 m ((H4.out.below.cell HMC.out.2).trans HMC.out.1)).mono ?_
   rintro e5 w5 ⟨hb, hres⟩
   rw [HL.out.2.2.1] at hres
   obtain ⟨cs, rfl, hrd⟩ := hres
   have H5 := Hi (H4.out.step hb)
   have hrq := hrd.toX
   rw [← HL.out.1] at hrq
   have HRQ := Hi (hrq.keep (Below.refl w5.heap.size w5))
   clear hrq
   obtain ⟨-, ld2⟩ := rdpx_io HRQ.out
   have st2 := (rdpx_io HRQ.out).1
   clear hb hrd k1 l1
   have k1 := H5.out.b1
   have l1 := lHp k1
   go_wp2_with fail
   have hsz := HF1.out
   refine (sameP_any P P cs1 cs _ (HR1.out.keep (H5.out.below.alloc H5.out.below.size _)) (HRQ.out.keep (belowA _ _)) HP1.out HP1.out (by have := hsz.cond; omega) (by have := hsz.beg; omega) (by have := hsz.fin; omega) (by have := hsz.aga; omega) (by have := hsz.exc; omega)).mono ?_
   rintro e8 w8 ⟨rfl, hb⟩
   rw [(eqP_iff P P).2 rfl]
   have hbb := (H5.out.below.alloc H5.out.below.size _).trans (hb.mono (by have := H5.out.below.size; simp; omega))
   have HBB := Hi hbb
   clear hbb hb k1 l1 hsz ld1 ld2 st2
   go_wp2_with fail
   go_ret
   exact ⟨rfl, HBB.out⟩
 · obtain ⟨ha, he3⟩ := ansP_err So.nameOk So.textS P (by rw [show ansP So.nameOk So.textS P = southA P from rfl, HNP.out]; exact he)
   rw [show ansP So.nameOk So.textS P = southA P from rfl, HNP.out] at ha he3
   simp only at ha he3
   subst ha
   clear HNP z0 he
   rcases he3 with rfl | rfl | rfl
   all_goals
    go_wp2_with fail
    go_ret
    exact ⟨rfl, H4.out.below⟩
end Go.Proofs.YtbicmjmcdnkjhaaGreatDoor
