/- The statements' check of the chapter's example: pandectlaw10.head. The law PrinterEqual. -/
import Derived.Test.YtbicmjmcdnkjhaaGreatDoorJP38
import Derived.Test.YtbicmjmcdnkjhaaGreatDoorJP39
import Derived.Deep.CutRange
import Derived.Test.YtbicmjmcdnkjhaaGreatDoorJP36
import Derived.Test.YtbicmjmcdnkjhaaGreatDoorJP27
import Derived.Test.YtbicmjmcdnkjhaaGreatDoorJP11
set_option linter.unusedVariables false
set_option linter.unusedSimpArgs false
namespace Go.Proofs.YtbicmjmcdnkjhaaGreatDoor
open Go.RowKit
theorem ex_few (id : Bytes) (h : id.length ≤ 60) : FewP (upP (exP id)) where
  cond := by rw [ex_up]; simp [exI, TreeI.size, sizesI]
  beg := by rw [ex_up]; simp [exI, TreeI.size, sizesI]
  fin := by rw [ex_up]; simp [exI, TreeI.size, sizesI]
  aga := by rw [ex_up]; simp [exI, TreeI.size, sizesI]
  exc := by rw [ex_up]; simp [exI]
  names := by
    rw [namesI_up, ex_names]
    intro s hs
    simp only [List.mem_cons, List.not_mem_nil, or_false] at hs
    rcases hs with rfl | rfl | rfl | rfl | rfl | rfl | rfl <;> first | exact h | decide
theorem five_few (id : Bytes) (h : id.length ≤ 60) : FewP { upP (exP id) with rank := 5 } := by
  obtain ⟨h1, h2, h3, h4, h5, h6⟩ := ex_few id h
  exact ⟨h1, h2, h3, h4, h5, h6⟩
theorem five_plain (id : Bytes) : plainP { upP (exP id) with rank := 5 } := ex_plain id
theorem rdpx_at {w : World} {cs : List Value} {p : ProvI} (h : RdPX w cs p) : cs[0]? = some (vs p.id) ∧ cs[1]? = some (.int .i64 p.rank) ∧ cs[2]? = some (.int .i64 p.kind) ∧ cs[3]? = some (vs p.name) ∧ cs[4]? = some (.int .i64 p.value) := by
  obtain ⟨cc, A, cap, cb, cf, ca, rfl, -⟩ := h
  exact ⟨rfl, rfl, rfl, rfl, rfl⟩
theorem rdpx_id {w : World} {cs : List Value} {p : ProvI} (h : RdPX w cs p) (a : Bytes) : RdPX w (cs.set 0 (vs a)) { p with id := a } := by
  obtain ⟨cc, A, cap, cb, cf, ca, rfl, h2⟩ := h
  exact ⟨cc, A, cap, cb, cf, ca, rfl, h2⟩
theorem rdpx_rank {w : World} {cs : List Value} {p : ProvI} (h : RdPX w cs p) (a : Int) : RdPX w (cs.set 1 (.int .i64 a)) { p with rank := a } := by
  obtain ⟨cc, A, cap, cb, cf, ca, rfl, h2⟩ := h
  exact ⟨cc, A, cap, cb, cf, ca, rfl, h2⟩
theorem rdpx_kind {w : World} {cs : List Value} {p : ProvI} (h : RdPX w cs p) (a : Int) : RdPX w (cs.set 2 (.int .i64 a)) { p with kind := a } := by
  obtain ⟨cc, A, cap, cb, cf, ca, rfl, h2⟩ := h
  exact ⟨cc, A, cap, cb, cf, ca, rfl, h2⟩
theorem rdpx_name {w : World} {cs : List Value} {p : ProvI} (h : RdPX w cs p) (a : Bytes) : RdPX w (cs.set 3 (vs a)) { p with name := a } := by
  obtain ⟨cc, A, cap, cb, cf, ca, rfl, h2⟩ := h
  exact ⟨cc, A, cap, cb, cf, ca, rfl, h2⟩
theorem rdpx_value {w : World} {cs : List Value} {p : ProvI} (h : RdPX w cs p) (a : Int) : RdPX w (cs.set 4 (.int .i64 a)) { p with value := a } := by
  obtain ⟨cc, A, cap, cb, cf, ca, rfl, h2⟩ := h
  exact ⟨cc, A, cap, cb, cf, ca, rfl, h2⟩
theorem rdpx_one {w : World} {cs : List Value} {p : ProvI} (h : RdPX w cs p) : allOne cs = true := by
  obtain ⟨id, rank, kind, name, value, ⟨o3, n3, c3, m3, k3⟩, exc, ⟨o5, n5, c5, m5, k5⟩, ⟨o6, n6, c6, m6, k6⟩, ⟨o7, n7, c7, m7, k7⟩⟩ := p
  obtain ⟨cc, A, cap, cb, cf, ca, rfl, -, ⟨A3, q3, rfl, -⟩, -, ⟨A5, q5, rfl, -⟩, ⟨A6, q6, rfl, -⟩, ⟨A7, q7, rfl, -⟩⟩ := h
  rfl
/- whole loads and stores of a provision that reads as p -/
theorem rdpx_io {w : World} {cs : List Value} {p : ProvI} (h : RdPX w cs p) : (∀ W b D t, D.size = 23 → rowStore W b cs.toArray (some (.cells D t (0, 0))) = .ok () (W.setRow b cs.toArray)) ∧ (∀ W b t fr, rowLoadP W b (some (.cells cs.toArray t fr)) = .ok (.agg cs.toArray) W) :=
  ⟨fun W b D t hD => rowStore_cells W b cs D t hD (by rw [List.size_toArray, h.len]) (rdpx_one h), fun W b t fr => rowLoadP_cells W b cs t fr (by rw [List.size_toArray, h.len])⟩
theorem blk_set {w : World} {b i : Nat} {l : List Value} {T : TypeId} {v : Value} (h : w.blk b = some (.cells l.toArray T (0, 0))) : (w.setCell ⟨b, i, none⟩ v).blk b = some (.cells (l.set i v).toArray T (0, 0)) := by
  have := set_block (o := i) (v := v) h
  rw [List.setIfInBounds_toArray] at this
  exact this
set_option maxRecDepth 100000
set_option maxHeartbeats 4000000 in
theorem head_any (w : World) (ht : Tabs w) : Calls Tryz.prog 10 #[] w fun e w' => e = .returned (.bool true) ∧ Below w.heap.size w w' := by
  have HT := Lib.hid ht
  clear ht
  go_enter Tryz.func10, Tryz.ntmps10
  go_wp2_with fail
  refine (example_any w).mono ?_
  rintro e w1 ⟨cs, rfl, hr, hb⟩
  obtain ⟨st1, ld1⟩ := rdpx_io hr
  have HR := Lib.hid hr
  have HB := Lib.hid hb
  have HT1 : Hid (Tabs w1) := Lib.hid (HT.out.below hb)
  clear hr hb
  go_wp2_with fail
  refine (north_p w1 _ cs _ HR.out (belowA _ _) HT1.out (ex_plain _) (ex_few _ (by decide))).mono ?_
  rintro e w2 ⟨rfl, hb2⟩
  rw [ex_north]
  have k1 : w2.blk w1.heap.size = some (.cells cs.toArray 30 (0, 0)) := (hb2.block _ (by simp)).trans (heap_alloc_new w1 _)
  have HB2 : Hid (Below w1.heap.size w1 w2) := Lib.hid ((belowA w1 _).trans (hb2.mono (by simp)))
  have z1 : w1.heap.size < w2.heap.size := lt_of_heap' k1
  have HK1 := Lib.hid k1
  clear hb2
  go_wp2_with fail
  refine (south_p w1 _ cs _ HR.out HB2.out HT1.out (ex_plain _) (ex_few _ (by decide))).mono ?_
  rintro e w3 ⟨rfl, hb3⟩
  rw [ex_south]
  clear k1 z1
  have k1 : w3.blk w1.heap.size = some (.cells cs.toArray 30 (0, 0)) := (hb3.block _ (lt_of_heap' HK1.out)).trans HK1.out
  have HB3 : Hid (Below w1.heap.size w1 w3) := Lib.hid (HB2.out.trans (hb3.mono HB2.out.size))
  have z1 : w1.heap.size < w3.heap.size := lt_of_heap' k1
  have HK3 := Lib.hid k1
  clear hb3 HB2 HK1
  obtain ⟨d0, d1, -⟩ := rdpx_at HR.out
  have hnew := heap_alloc_new w3 (.cells cs.toArray 30)
  have c0 : (w3.alloc (.cells cs.toArray 30)).cell? ⟨w3.heap.size, 0, none⟩ = some (vs [112, 49]) := cell_of_blk hnew (by rw [List.getElem?_toArray]; exact d0)
  have f0 := frozen_of_blk (o := 0) hnew
  clear hnew
  go_upto_region 6 with fail
  obtain ⟨ds, hds⟩ : ∃ ds, cs.set 0 (vs exW) = ds := ⟨_, rfl⟩
  have hq : RdPX w1 ds (upP (exP exW)) := by rw [← hds]; exact rdpx_id HR.out exW
  rw [show cs.set 0 (Value.string { data := #[119, 104, 101, 114, 101] }) = ds from hds]
  clear c0 f0 d0 d1 hds
  obtain ⟨st2, ld2⟩ := rdpx_io hq
  have HQ := Lib.hid hq
  clear hq
  go_wp2_with fail
  refine (north_p w1 _ ds _ HQ.out (HB3.out.trans ((belowA w3 _).mono HB3.out.size)) HT1.out (ex_plain _) (ex_few _ (by decide))).mono ?_
  rintro e w4 ⟨rfl, hb4⟩
  rw [ex_where.1]
  have k6 : w4.blk w3.heap.size = some (.cells ds.toArray 30 (0, 0)) := (hb4.block _ (by simp)).trans (heap_alloc_new w3 _)
  have HB4 : Hid (Below w3.heap.size w3 w4) := Lib.hid ((belowA w3 _).trans (hb4.mono (by simp)))
  have z6 : w3.heap.size < w4.heap.size := lt_of_heap' k6
  have HK6 := Lib.hid k6
  clear hb4 k1 z1
  go_wp2_with fail
  refine (south_p w1 _ ds _ HQ.out (HB3.out.trans (HB4.out.mono HB3.out.size)) HT1.out (ex_plain _) (ex_few _ (by decide))).mono ?_
  rintro e w5 ⟨rfl, hb5⟩
  rw [ex_where.2]
  clear k6 z6
  have k6 : w5.blk w3.heap.size = some (.cells ds.toArray 30 (0, 0)) := (hb5.block _ (lt_of_heap' HK6.out)).trans HK6.out
  have HB5 : Hid (Below w3.heap.size w3 w5) := Lib.hid (HB4.out.trans (hb5.mono HB4.out.size))
  have z6 : w3.heap.size < w5.heap.size := lt_of_heap' k6
  obtain ⟨d0, d1, -⟩ := rdpx_at HQ.out
  have c1 : w5.cell? ⟨w3.heap.size, 1, none⟩ = some (.int .i64 2) := cell_of_blk k6 (by rw [List.getElem?_toArray]; exact d1)
  have f1 := frozen_of_blk (o := 1) k6
  have k7 := blk_set (i := 1) (v := .int .i64 5) k6
  obtain ⟨es, hes⟩ : ∃ es, ds.set 1 (.int .i64 5) = es := ⟨_, rfl⟩
  have hq : RdPX w1 es { upP (exP exW) with rank := 5 } := by rw [← hes]; exact rdpx_rank HQ.out 5
  rw [hes] at k7
  obtain ⟨st3, ld3⟩ := rdpx_io hq
  have HE := Lib.hid hq
  clear hb5 hq hes d0 d1 k6
  go_wp2_with fail
  refine (north_p w1 _ es _ HE.out ((HB3.out.trans (HB5.out.mono HB3.out.size)).setCell HB3.out.size _) HT1.out (five_plain _) (five_few _ (by decide))).mono ?_
  rintro e w6 ⟨rfl, hb6⟩
  rw [(ex_five rfl).1]
  have HB6 : Hid (Below w.heap.size w w6) := Lib.hid (HB.out.trans (((HB3.out.trans (HB5.out.mono HB3.out.size)).setCell HB3.out.size _).trans (hb6.mono (by simp; have := HB5.out.size; have := HB3.out.size; omega)) |>.mono HB.out.size))
  clear hb6 k7 c1 f1 z6 st1 st2 st3 ld1 ld2 ld3
  go_wp2_with fail
  go_ret
  exact ⟨rfl, HB6.out⟩
end Go.Proofs.YtbicmjmcdnkjhaaGreatDoor
namespace Go.Proofs.YtbicmjmcdnkjhaaGreatDoor
open Go.RowKit
/- two boxes of the law: provisions that came in -/
structure Bx2 (w wx : World) (C D : Array Value) (T : TypeId) : Prop where
  below : Below w.heap.size w wx
  b1 : wx.blk w.heap.size = some (.cells C T (0, 0))
  b2 : wx.blk (w.heap.size + 1) = some (.cells D T (0, 0))
theorem Bx2.start (w : World) (C D : Array Value) (T : TypeId) : Bx2 w ((w.alloc (.cells C T)).alloc (.cells D T)) C D T :=
  ⟨(belowA w _).alloc (by simp) _, kept_at (new_at rfl), new_at (by simp)⟩
theorem Bx2.step {w wx w' : World} {C D : Array Value} {T : TypeId} (h : Bx2 w wx C D T) (hb : Below wx.heap.size wx w') : Bx2 w w' C D T :=
  ⟨h.below.trans (hb.mono h.below.size), (hb.block _ (lt_of_heap' h.b1)).trans h.b1, (hb.block _ (lt_of_heap' h.b2)).trans h.b2⟩
theorem Bx2.lts {w wx : World} {C D : Array Value} {T : TypeId} (h : Bx2 w wx C D T) : w.heap.size < wx.heap.size ∧ w.heap.size + 1 < wx.heap.size := ⟨lt_of_heap' h.b1, lt_of_heap' h.b2⟩
set_option maxRecDepth 100000
set_option maxHeartbeats 4000000 in
theorem equal_any (w : World) (cs1 : List Value) (P : ProvI) (cs2 : List Value) (Q : ProvI) (hr1 : RdPX w cs1 P) (hp1 : plainP P) (hm1 : P.exc.length ≤ maxLen) (hr2 : RdPX w cs2 Q) (hp2 : plainP Q) (hm2 : Q.exc.length ≤ maxLen) (ht : Tabs w) :
    Calls Tryz.prog 4 #[.agg cs1.toArray, .agg cs2.toArray] w fun e w' => e = .returned (.bool true) ∧ Below w.heap.size w w' := by
  obtain ⟨-, ld1⟩ := rdpx_io hr1
  obtain ⟨-, ld2⟩ := rdpx_io hr2
  have HT := Lib.hid ht
  have HR1 := Lib.hid hr1
  have HR2 := Lib.hid hr2
  have HX := Lib.hid (Bx2.start w cs1.toArray cs2.toArray 30)
  clear ht hr1 hr2
  go_enter Tryz.func4, Tryz.ntmps4
  go_wp2_with fail
  refine (head_any _ (HT.out.below HX.out.below)).mono ?_
  rintro e w1 ⟨rfl, hb⟩
  have H1 := Lib.hid (HX.out.step hb)
  have k1 := H1.out.b1
  have k2 := H1.out.b2
  have l1 := H1.out.lts.1
  have l2 := H1.out.lts.2
  clear hb HX
  go_wp2_with fail
  cases hf1 : fewI P with
  | false =>
    refine (few_any w1 cs1 P (HR1.out.keep H1.out.below) hm1 false hf1).mono ?_
    rintro e w2 ⟨rfl, hb⟩
    have H2 := Lib.hid (H1.out.step hb)
    clear hb k1 k2 l1 l2
    go_wp2_with fail
    go_ret
    exact ⟨rfl, H2.out.below⟩
  | true =>
  refine (few_any w1 cs1 P (HR1.out.keep H1.out.below) hm1 true hf1).mono ?_
  rintro e w2 ⟨rfl, hb⟩
  have H2 := Lib.hid (H1.out.step hb)
  clear hb k1 k2 l1 l2
  have k1 := H2.out.b1
  have k2 := H2.out.b2
  have l1 := H2.out.lts.1
  have l2 := H2.out.lts.2
  go_wp2_with fail
  cases hf2 : fewI Q with
  | false =>
    refine (few_any w2 cs2 Q (HR2.out.keep H2.out.below) hm2 false hf2).mono ?_
    rintro e w3 ⟨rfl, hb⟩
    have H3 := Lib.hid (H2.out.step hb)
    clear hb k1 k2 l1 l2
    go_wp2_with fail
    go_ret
    exact ⟨rfl, H3.out.below⟩
  | true =>
  refine (few_any w2 cs2 Q (HR2.out.keep H2.out.below) hm2 true hf2).mono ?_
  rintro e w3 ⟨rfl, hb⟩
  have H3 := Lib.hid (H2.out.step hb)
  clear hb k1 k2 l1 l2
  have hF1 := fewI_iff.1 hf1
  have hF2 := fewI_iff.1 hf2
  have HF1 := Lib.hid hF1
  have HF2 := Lib.hid hF2
  have HEN := Lib.hid (fun h1 h2 => equal_north hp1 hp2 h1 h2)
  have HES := Lib.hid (fun h1 h2 => equal_south hp1 hp2 h1 h2)
  have HP1 := Lib.hid hp1
  have HP2 := Lib.hid hp2
  obtain ⟨NP, hNP⟩ : ∃ x, northA P = x := ⟨_, rfl⟩
  obtain ⟨NQ, hNQ⟩ : ∃ x, northA Q = x := ⟨_, rfl⟩
  obtain ⟨SP, hSP⟩ : ∃ x, southA P = x := ⟨_, rfl⟩
  obtain ⟨SQ, hSQ⟩ : ∃ x, southA Q = x := ⟨_, rfl⟩
  rw [hNP, hNQ] at HEN
  rw [hSP, hSQ] at HES
  obtain ⟨a, e⟩ := NP
  obtain ⟨b, f⟩ := NQ
  obtain ⟨c, g⟩ := SP
  obtain ⟨d, h⟩ := SQ
  have HNP := Lib.hid hNP
  have HNQ := Lib.hid hNQ
  have HSP := Lib.hid hSP
  have HSQ := Lib.hid hSQ
  obtain ⟨sm, hsm⟩ : ∃ x, eqP P Q = x := ⟨_, rfl⟩
  have HSM := Lib.hid hsm
  clear hf1 hf2 hF1 hF2 hp1 hp2 hNP hNQ hSP hSQ hsm
  have k1 := H3.out.b1
  have k2 := H3.out.b2
  have l1 := H3.out.lts.1
  have l2 := H3.out.lts.2
  go_wp2_with fail
  refine (north_p w w3 cs1 P HR1.out H3.out.below HT.out HP1.out HF1.out).mono ?_
  rintro e4 w4 ⟨rfl, hb⟩
  rw [HNP.out]
  have H4 := Lib.hid (H3.out.step hb)
  clear hb k1 k2 l1 l2
  have k1 := H4.out.b1
  have k2 := H4.out.b2
  have l1 := H4.out.lts.1
  have l2 := H4.out.lts.2
  go_wp2_with fail
  refine (north_p w w4 cs2 Q HR2.out H4.out.below HT.out HP2.out HF2.out).mono ?_
  rintro e5 w5 ⟨rfl, hb⟩
  rw [HNQ.out]
  have H5 := Lib.hid (H4.out.step hb)
  clear hb k1 k2 l1 l2
  have k1 := H5.out.b1
  have k2 := H5.out.b2
  have l1 := H5.out.lts.1
  have l2 := H5.out.lts.2
  go_wp2_with fail
  refine (south_p w w5 cs1 P HR1.out H5.out.below HT.out HP1.out HF1.out).mono ?_
  rintro e6 w6 ⟨rfl, hb⟩
  rw [HSP.out]
  have H6 := Lib.hid (H5.out.step hb)
  clear hb k1 k2 l1 l2
  have k1 := H6.out.b1
  have k2 := H6.out.b2
  have l1 := H6.out.lts.1
  have l2 := H6.out.lts.2
  go_wp2_with fail
  refine (south_p w w6 cs2 Q HR2.out H6.out.below HT.out HP2.out HF2.out).mono ?_
  rintro e7 w7 ⟨rfl, hb⟩
  rw [HSQ.out]
  have H7 := Lib.hid (H6.out.step hb)
  clear hb k1 k2 l1 l2
  have k1 := H7.out.b1
  have k2 := H7.out.b2
  have l1 := H7.out.lts.1
  have l2 := H7.out.lts.2
  have hsz := HF1.out
  go_wp2_with fail
  refine (sameP_any P Q cs1 cs2 w7 (HR1.out.keep H7.out.below) (HR2.out.keep H7.out.below) HP1.out HP2.out (by have := hsz.cond; omega) (by have := hsz.beg; omega) (by have := hsz.fin; omega) (by have := hsz.aga; omega) (by have := hsz.exc; omega)).mono ?_
  rintro e8 w8 ⟨rfl, hb⟩
  rw [HSM.out]
  have H8 := Lib.hid (H7.out.step hb)
  clear hb k1 k2 l1 l2 hsz ld1 ld2
  have z0 : (((0 : Nat) : Int)) = 0 := rfl
  cases sm with
  | true =>
    obtain rfl := (eqP_iff P Q).1 HSM.out
    have e1 := HNP.out.symm.trans HNQ.out
    have e2 := HSP.out.symm.trans HSQ.out
    simp only [Prod.mk.injEq] at e1 e2
    obtain ⟨rfl, rfl⟩ := e1
    obtain ⟨rfl, rfl⟩ := e2
    clear HNP HNQ HSP HSQ HEN HES HSM
    by_cases he : e = 0
    all_goals by_cases hg : g = 0
    all_goals (try subst he)
    all_goals (try subst hg)
    all_goals (try rw [z0])
    all_goals (try have he1 : ¬ ((e : Int) = 0) := by omega)
    all_goals (try have hg1 : ¬ ((g : Int) = 0) := by omega)
    all_goals clear z0
    all_goals
      go_wp2_with fail
      go_ret
      exact ⟨rfl, H8.out.below⟩
  | false =>
    have hne : ¬ P = Q := fun e => by have := (eqP_iff P Q).2 e; rw [HSM.out] at this; cases this
    have HAB : Hid (e = 0 → f = 0 → ¬ a = b) := Lib.hid (fun h1 h2 hh => hne ((HEN.out h1 h2).1 hh))
    have HCD : Hid (g = 0 → h = 0 → ¬ c = d) := Lib.hid (fun h1 h2 hh => hne ((HES.out h1 h2).1 hh))
    clear HNP HNQ HSP HSQ HEN HES HSM hne
    have hN : ¬ e = 0 ∨ (e = 0 ∧ ¬ f = 0) ∨ (e = 0 ∧ f = 0 ∧ ¬ a = b) := by
      by_cases h1 : e = 0
      · by_cases h2 : f = 0
        · exact Or.inr (Or.inr ⟨h1, h2, HAB.out h1 h2⟩)
        · exact Or.inr (Or.inl ⟨h1, h2⟩)
      · exact Or.inl h1
    have hS : ¬ g = 0 ∨ (g = 0 ∧ ¬ h = 0) ∨ (g = 0 ∧ h = 0 ∧ ¬ c = d) := by
      by_cases h1 : g = 0
      · by_cases h2 : h = 0
        · exact Or.inr (Or.inr ⟨h1, h2, HCD.out h1 h2⟩)
        · exact Or.inr (Or.inl ⟨h1, h2⟩)
      · exact Or.inl h1
    clear HAB HCD
    rcases hN with he | ⟨rfl, hf⟩ | ⟨rfl, rfl, hab⟩
    all_goals rcases hS with hg | ⟨rfl, hh⟩ | ⟨rfl, rfl, hcd⟩
    all_goals (try rw [z0])
    all_goals (try have he1 : ¬ ((e : Int) = 0) := by omega)
    all_goals (try have hf1 : ¬ ((f : Int) = 0) := by omega)
    all_goals (try have hg1 : ¬ ((g : Int) = 0) := by omega)
    all_goals (try have hh1 : ¬ ((h : Int) = 0) := by omega)
    all_goals (try have hab1 : (a == b) = false := by simpa using hab)
    all_goals (try have hcd1 : (c == d) = false := by simpa using hcd)
    all_goals clear z0
    all_goals
      go_wp2_with fail
      go_ret
      exact ⟨rfl, H8.out.below⟩
end Go.Proofs.YtbicmjmcdnkjhaaGreatDoor
