/- conference.Clashes. -/
import Derived.Laws.EntriesVeiled
import Derived.RegionIn
import Derived.Shelf.RegionOpen
import Derived.Test.YtecnlfaholmpoaaGreatJC33
set_option linter.unusedVariables false
set_option linter.unusedSimpArgs false
set_option maxRecDepth 100000
set_option maxHeartbeats 8000000
namespace Go.Proofs.YtecnlfaholmpoaaGreat
open Go.RowKit Go.Shelf
attribute [local go_sem] Oper.semAt_some
theorem pairs_in_any (A : Option Addr) (n cap : Nat) (w : World) :
 Calls Tryz.prog 49 #[.slice A n cap] w fun e w' => e = .returned (.func (.func 89) #[] #[.pointer (some ⟨w.heap.size, 0, none⟩)]) ∧ w' = w.alloc (.cells #[.slice A n cap] 25) := by
 go_enter Tryz.func49, Tryz.ntmps49
 go_wp2_with fail
 go_ret
 exact ⟨rfl, rfl⟩
structure ClI {O : List Clause} (w : World) (n₀ cb pb ob : Nat) (l : List Item) (A : Option Addr) (c : Nat) (pre : List (PairOf O)) (W : World) : Prop where
 cbx : W.heap[cb]? = some (.cells #[.slice A l.length c] 24 (0, 0))
 pbx : W.heap[pb]? = some (.cells #[.func (.func 48) #[] #[.pointer (some ⟨cb, 0, none⟩)]] 79 (0, 0))
 out : ∃ v, W.heap[ob]? = some (.cells #[v] 32 (0, 0)) ∧ OwnRs W n₀ v (clashOf l (pre.map (·.1)))
 below : Below w.heap.size w W
 size : n₀ ≤ W.heap.size
theorem heap_kept {X Y : World} {row : Option Nat} {b : Nat} {C : Array Value} {t : TypeId} {fr : Nat × Nat} (h : X.heap[b]? = some (.cells C t fr)) (hg : X.grownBy Y row) (hr : ∀ r, row = some r → ∃ o : Obj, X.heap[r]? = some o ∧ o.isCells = false) : Y.heap[b]? = some (.cells C t fr) :=
 (hg.block b (lt_of_heap h) (fun e => by obtain ⟨o, ho, hc⟩ := hr b e.symm; rw [h] at ho; cases ho; cases hc)).trans h
theorem below_kept {w X Y : World} {row : Option Nat} {B : Nat} (h : Below w.heap.size w X) (hB : w.heap.size ≤ B) (hg : X.grownBy Y row) (hr : ∀ r, row = some r → B ≤ r) : Below w.heap.size w Y :=
 h.grown hg h.size (fun k e => Nat.le_trans hB (hr k e))
theorem OwnRs.form {w : World} {base : Nat} {v : Value} {l : List (Stamp × Stamp)} (h : OwnRs w base v l) : ∀ b, v.ownBlock = some b → base ≤ b ∧ ∃ C, w.heap[b]? = some (.cells C 62 (0, 0)) := by
 rcases h.2 with ⟨hv, h0⟩ | ⟨g, cap, cur, rfl, r2, r3, r4, r5, r6, r7⟩
 · intro b hb
   rw [hv] at hb
   simp [Value.ownBlock] at hb
 · intro b hb
   simp [Value.ownBlock] at hb
   subst hb
   exact ⟨r2, _, r3⟩
theorem OwnRs.kept {X Y : World} {base : Nat} {v : Value} {l : List (Stamp × Stamp)} (h : OwnRs X base v l) (hk : ∀ b C, base ≤ b → X.heap[b]? = some (.cells C 62 (0, 0)) → Y.heap[b]? = some (.cells C 62 (0, 0))) : OwnRs Y base v l :=
 h.keep fun b hb => by obtain ⟨h1, C, h2⟩ := h.form b hb; exact (hk b C h1 h2).trans h2.symm
theorem OwnRs.lower {w : World} {base base' : Nat} {v : Value} {l : List (Stamp × Stamp)} (h : OwnRs w base v l) (hb : base' ≤ base) : OwnRs w base' v l := by
 refine ⟨h.1, ?_⟩
 rcases h.2 with h | ⟨b, cap, cur, rfl, r2, r3⟩
 · exact .inl h
 · exact .inr ⟨b, cap, cur, rfl, by omega, r3⟩
theorem OwnRs.cast {w : World} {base : Nat} {v v' : Value} {l : List (Stamp × Stamp)} (h : OwnRs w base v l) (e : v = v') : OwnRs w base v' l := e ▸ h
theorem ClI.own {O : List Clause} {w : World} {n₀ cb pb ob B : Nat} {l : List Item} {A : Option Addr} {c : Nat} (hB : w.heap.size ≤ B) : OwnFrom B (ClI (O := O) w n₀ cb pb ob l A c) := by
 intro pre X Y row h hg hr
 obtain ⟨v, h1, h2⟩ := h.out
 have hr' : ∀ r, row = some r → ∃ o : Obj, X.heap[r]? = some o ∧ o.isCells = false := fun r e => (hr r e).2
 exact ⟨heap_kept h.cbx hg hr', heap_kept h.pbx hg hr', ⟨v, heap_kept h1 hg hr', h2.kept (fun b C _ hb => heap_kept hb hg hr')⟩, below_kept h.below hB hg (fun r e => (hr r e).1), Nat.le_trans h.size hg.size⟩
theorem KpP.put {w : World} (W : World) (l : Nat) (o o' : Obj) (hl : w.heap.size ≤ l) (h : W.heap[l]? = some o) (hc : o.isCells = false) (hw : o.isWalk = false) : KpP W (W.putObj l o') :=
 ⟨by simp [World.putObj], fun k C fr hk => (World.putObj_heap_other (fun e => by subst e; rw [hk] at h; cases h; cases hc)).trans hk, fun k C fr hk => (World.putObj_heap_other (fun e => by subst e; rw [hk] at h; cases h; cases hc)).trans hk⟩
theorem keepsFrom_below {B : Nat} {W W' : World} (h : Below W.heap.size W W') : KeepsFrom B W W' := ⟨h.size, fun k o hB hk hc => (h.block k (Array.getElem?_eq_some_iff.1 hk).1).trans hk⟩
theorem ClI.keep {O : List Clause} {w : World} {n₀ cb pb ob : Nat} {l : List Item} {A : Option Addr} {c : Nat} {pre : List (PairOf O)} {W W' : World} (h : ClI w n₀ cb pb ob l A c pre W) (hb : Below W.heap.size W W') : ClI w n₀ cb pb ob l A c pre W' := by
 obtain ⟨v, h1, h2⟩ := h.out
 exact ⟨(hb.block _ (lt_of_heap h.cbx)).trans h.cbx, (hb.block _ (lt_of_heap h.pbx)).trans h.pbx, ⟨v, (hb.block _ (lt_of_heap h1)).trans h1, h2.below hb⟩, h.below.trans (hb.mono h.below.size), Nat.le_trans h.size hb.size⟩
theorem cl_skip {O : List Clause} {w : World} {n₀ cb pb ob B : Nat} {l : List Item} {A : Option Addr} {c : Nat} {pre : List (PairOf O)} {x : PairOf O} {W W' : World} {a' : Act} (h : ClI w n₀ cb pb ob l A c pre W) (hb : Below W.heap.size W W') (hc : clashB l x.1.1.patch x.1.2.patch = false) :
 ownPostG B KpP (ClI w n₀ cb pb ob l A c) (fun _ _ _ => False) (pre ++ [x]) W Exit.normal a' W' := by
 have h2 := h.keep hb
 refine ⟨keepsFrom_below hb, KpP.of_below hb, ⟨h2.cbx, h2.pbx, ?_, h2.below, h2.size⟩⟩
 rw [List.map_append, List.map_cons, List.map_nil, clashOf_snoc, hc]
 exact h2.out
theorem cl_more {O : List Clause} {w : World} {n₀ cb pb ob : Nat} {l : List Item} {A : Option Addr} {c : Nat} {pre : List (PairOf O)} {x : PairOf O} {W Wa W3 : World} {a' : Act} {v v' : Value} (h : ClI w n₀ cb pb ob l A c pre W) (hb : Below W.heap.size W Wa) (hc : clashB l x.1.1.patch x.1.2.patch = true)
 (hv : W.heap[ob]? = some (.cells #[v] 32 (0, 0))) (ho : OwnRs W n₀ v (clashOf l (pre.map (·.1)))) (ho3 : OwnRs W3 n₀ v' (clashOf l (pre.map (·.1)) ++ [(x.1.1.id, x.1.2.id)])) (hg : Wa.grownBy W3 v.ownBlock) (hob : ob < n₀) (hwo : w.heap.size ≤ ob) (hcb : cb ≠ ob ∧ cb < n₀) (hpb : pb ≠ ob ∧ pb < n₀) :
 ownPostG n₀ KpP (ClI w n₀ cb pb ob l A c) (fun _ _ _ => False) (pre ++ [x]) W Exit.normal a' (W3.setCell ⟨ob, 0, none⟩ v') := by
 have hwn := h.size
 have hk : ∀ k, k < W.heap.size → v.ownBlock ≠ some k → W3.heap[k]? = W.heap[k]? := fun k h1 h2 => (hg.block k (Nat.lt_of_lt_of_le h1 hb.size) (fun e => h2 e.symm)).trans (hb.block k h1)
 have hne : ∀ k, k < n₀ → v.ownBlock ≠ some k := fun k h1 e => by have := (ho.form k e).1; omega
 have hset : ∀ k, k ≠ ob → (W3.setCell ⟨ob, 0, none⟩ v').heap[k]? = W3.heap[k]? := fun k h => Below.heap_setCell _ _ _ _ h
 have hs : W.heap.size ≤ (W3.setCell ⟨ob, 0, none⟩ v').heap.size := by rw [World.size_setCell]; exact Nat.le_trans hb.size hg.size
 have hty : ∀ k C t fr, W.heap[k]? = some (.cells C t fr) → t ≠ 62 → v.ownBlock ≠ some k := fun k C t fr h1 h2 e => by
  obtain ⟨-, C', h'⟩ := ho.form k e
  rw [h1] at h'
  injection h' with h'
  injection h' with _ h' _
  exact h2 h'
 have hto : ∀ k C t fr, W.heap[k]? = some (.cells C t fr) → t ≠ 32 → k ≠ ob := fun k C t fr h1 h2 e => by
  subst e
  rw [h1] at hv
  injection hv with h'
  injection h' with _ h' _
  exact h2 h'
 refine ⟨⟨hs, fun k o hB hk' hc' => ?_⟩, ⟨hs, fun k C fr hC => ?_, fun k C fr hC => ?_⟩, ⟨?_, ?_, ⟨v', ?_, ?_⟩, ?_, Nat.le_trans hwn hs⟩⟩
 · have hn : v.ownBlock ≠ some k := fun e => by
     obtain ⟨-, C', h'⟩ := ho.form k e
     rw [hk'] at h'
     cases h'
     cases hc'
   rw [hset k (by omega), hk k (Array.getElem?_eq_some_iff.1 hk').1 hn]
   exact hk'
 · rw [hset k (hto k C _ fr hC (by decide)), hk k (lt_of_heap hC) (hty k C _ fr hC (by decide))]
   exact hC
 · rw [hset k (hto k C _ fr hC (by decide)), hk k (lt_of_heap hC) (hty k C _ fr hC (by decide))]
   exact hC
 · rw [hset cb hcb.1, hk cb (lt_of_heap h.cbx) (hne cb hcb.2)]
   exact h.cbx
 · rw [hset pb hpb.1, hk pb (lt_of_heap h.pbx) (hne pb hpb.2)]
   exact h.pbx
 · exact row_setCell ((hk ob (lt_of_heap hv) (hne ob hob)).trans hv)
 · rw [List.map_append, List.map_cons, List.map_nil, clashOf_snoc, hc]
   exact ho3.kept fun b C hb' hC => (hset b (by omega)).trans hC
 · refine ⟨hg.os.trans (hb.os.trans h.below.os), hg.tape.trans (hb.tape.trans h.below.tape), hg.output.trans (hb.output.trans h.below.output), Nat.le_trans h.below.size hs, fun k hk' => ?_⟩
   have := h.below.size
   rw [hset k (by omega), hk k (by omega) (hne k (by omega))]
   exact h.below.block k hk'
theorem cl_face {O : List Clause} {w : World} {n₀ cb pb ob : Nat} {l : List Item} {A : Option Addr} {c : Nat} {pre : List (PairOf O)} {W Wa W3 : World} {v : Value} (h : ClI w n₀ cb pb ob l A c pre W) (hb : Below W.heap.size W Wa)
 (hv : W.heap[ob]? = some (.cells #[v] 32 (0, 0))) (ho : OwnRs W n₀ v (clashOf l (pre.map (·.1)))) (hg : Wa.grownBy W3 v.ownBlock) (hob : ob < n₀) : W3.cell? ⟨ob, 0, none⟩ = some v ∧ W3.frozen? ⟨ob, 0, none⟩ = false := by
 have h1 := (hg.block ob (Nat.lt_of_lt_of_le (lt_of_heap hv) hb.size) (fun e => by have := (ho.form ob e.symm).1; omega)).trans ((hb.block ob (lt_of_heap hv)).trans hv)
 exact ⟨(cell_of_row _ _ _ _ _ _ h1).trans rfl, frozen_of_row _ _ 0 _ _ h1⟩
theorem pairs_seq {w0 : World} {Bs c base : Nat} {A : Option Addr} {O : List Clause} (hl : O.length ≤ 64) (hlc : O.length ≤ c) (hBs : w0.heap[Bs]? = some (.cells #[.slice A O.length c] 25 (0, 0))) (hrow : OwnCs w0 base (.slice A O.length c) O) :
 SeqStopsK Fence.wide 8 Tryz.prog 89 #[.pointer (some ⟨Bs, 0, none⟩)] (encP (O := O)) KpP (fun xs => xs.map (·.1) = pairsL O) (fun pre => ∃ r, pre.map (·.1) ++ r = pairsL O) (pairsL O).length w0 := by
 intro lp J Jx W hW hJ hJx hY h0
 exact (callsIn_wide (n := 8)).2 (pairs_it lp Bs c base A O hl hlc J Jx W ((hW.block _ (lt_of_heap hBs)).trans hBs) (hrow.below hW) hJ hY h0)
theorem setRow_alloc_new2 (w : World) (o : Obj) (D C : Array Value) (t : TypeId) : ((w.alloc o).alloc (.cells D t)).setRow (w.heap.size + 1) C = (w.alloc o).alloc (.cells C t) := by
 have := setRow_alloc_new (w.alloc o) D C t
 rwa [World.size_alloc] at this
theorem pairs_len (O : List Clause) : (pairsL O).length ≤ O.length * O.length := by
 induction O with
 | nil => simp [pairsL]
 | cons a r ih =>
   simp only [pairsL, List.length_append, List.length_map, List.length_cons]
   have : (r.length + 1) * (r.length + 1) = r.length * r.length + 2 * r.length + 1 := by rw [Nat.add_mul, Nat.mul_add]; omega
   omega
theorem clashes_t (l : List Item) (cs : List Clause) (A B : Option Addr) (c d : Nat) (w : World) (hr : RdI w A l) (hl : l.length ≤ 100000) (hlc : l.length ≤ c) (hs : RdC w B cs) (hm : cs.length ≤ 64) (hrd : ∀ x ∈ cs, x.patch.Ready) (m : Int) (hg : w.cell? ⟨0, 0, none⟩ = some (.int .i64 m)) (hv : walkB l = true) :
 Calls Tryz.prog 15 #[.agg #[.slice A l.length c], .slice B cs.length d] w fun e w' => ∃ v, e = .returned (.tuple #[v, .int .i64 0]) ∧ OwnRs w' w.heap.size v (clashOf l (pairsL (openL cs))) ∧ Below w.heap.size w w' := by
 have HR := Lib.hid hr; clear hr
 have HS := Lib.hid hs; clear hs
 have HV := Lib.hid hv; clear hv
 have HG := Lib.hid hg; clear hg
 obtain ⟨O, hO⟩ : ∃ O, O = openL cs := ⟨_, rfl⟩
 have hOl : O.length ≤ 64 := by rw [hO]; exact Nat.le_trans (List.length_filter_le _ _) hm
 have hrdO : ∀ x ∈ O, x.patch.Ready := fun x hx => hrd x (by rw [hO] at hx; exact (List.mem_filter.1 hx).1)
 have HRD := Lib.hid hrdO; clear hrdO hrd
 rw [← hO]
 have HO := Lib.hid hO; clear hO
 have hb0 := (Below.refl w.heap.size w).alloc (Nat.le_refl _) (.cells #[.slice A l.length c] 24)
 have HB0 := Lib.hid hb0; clear hb0
 refine (callsIn_wide (n := 9)).1 ?_
 refine callsIn_of_wp_marks Tryz.func15 rfl trivial ?_ rfl
 simp only [Tryz.ntmps15, List.size_toArray, List.length_cons, List.length_nil, Nat.reduceAdd, Nat.reduceSub, Array.replicate_succ, Array.replicate_zero, List.push_toArray, List.append_toArray, List.nil_append, List.cons_append]
 have f47 : Fence.wide.fn 47 := trivial
 have f49 : Fence.wide.fn 49 := trivial
 have f89 : Fence.wide.fn 89 := trivial
 gi_wp2_with fail
 refine ((callsIn_wide (n := 8)).2 (openc_true l cs A B c d _ (HR.out.below HB0.out) (by omega) (short_of_good HV.out) (HS.out.below HB0.out) hm HV.out)).mono ?_
 rintro e w1 ⟨v, rfl, hv1, hb1⟩
 rw [← HO.out, World.size_alloc] at hv1
 have hbx1 : w1.heap[w.heap.size]? = some (.cells #[.slice A l.length c] 24 (0, 0)) := (hb1.block _ (by simp)).trans (heap_alloc_new _ _)
 have hbw1 := HB0.out.trans (hb1.mono HB0.out.size)
 have hsz1 : w.heap.size + 1 ≤ w1.heap.size := by have := hb1.size; simpa using this
 have HBX1 := Lib.hid hbx1; clear hbx1
 have HB1 := Lib.hid hbw1; clear hbw1 hb1
 obtain ⟨Ao, co, rfl, hlo, hco, _⟩ := hv1.reads
 have HV1 := Lib.hid hv1; clear hv1
 gi_wp2_with fail
 refine ((callsIn_wide (n := 8)).2 (pairs_in_any Ao O.length co _)).mono ?_
 rintro e w2 ⟨rfl, hw2⟩
 have hz2 : w2.heap.size = w1.heap.size + 1 + 1 + 1 := by rw [hw2]; simp
 have hb12 : Below w1.heap.size w1 w2 := by rw [hw2]; exact (((Below.refl _ _).alloc (Nat.le_refl _) _).alloc (by simp) _).alloc (by simp; omega) _
 have hp2 : w2.heap[w1.heap.size]? = some (.cells #[.func (.func 48) #[] #[.pointer (some ⟨w.heap.size, 0, none⟩)]] 79 (0, 0)) := by rw [hw2]; exact heap_old_at (by simp; omega) (heap_old_at (by simp) (heap_new_at rfl))
 have ho2 : w2.heap[w1.heap.size + 1]? = some (.cells #[.slice none 0 0] 32 (0, 0)) := by rw [hw2]; exact heap_old_at (by simp) (heap_new_at (by simp))
 have hs2 : w2.heap[w1.heap.size + 1 + 1]? = some (.cells #[.slice Ao O.length co] 25 (0, 0)) := by rw [hw2]; exact heap_new_at (by simp)
 have hI0 : ClI (O := O) w w2.heap.size w.heap.size w1.heap.size (w1.heap.size + 1) l A c [] w2 := ⟨(hb12.block _ (by omega)).trans HBX1.out, hp2, ⟨_, ho2, OwnRs.nil _ _⟩, HB1.out.trans (hb12.mono HB1.out.size), Nat.le_refl _⟩
 have HI0 := Lib.hid hI0; clear hI0 hp2 ho2
 have HS2 := Lib.hid hs2; clear hs2
 have HV2 := Lib.hid (HV1.out.below hb12)
 have HZ2 := Lib.hid hz2; clear hz2 hw2 hb12
 have hpl : (pairsL O).length ≤ 4096 := Nat.le_trans (pairs_len O) (Nat.mul_le_mul hOl hOl)
 have HPL := Lib.hid hpl; clear hpl
 gi_wp2_with fail
 refine wpIn_rangeFunc_ownH rfl (by decide) (gf := 89) (lb := #[.pointer (some ⟨w1.heap.size + 1 + 1, 0, none⟩)]) rfl f89 (enters_of Tryz.func89 (by kernel_rfl) rfl)
  (pairs_seq hOl hlo HS2.out HV2.out) (fun h k => KpP.trans h k) (KpP.put (w := w2)) (Below.refl _ _) (fun _ => rfl)
  (ClI (O := O) w w2.heap.size w.heap.size w1.heap.size (w1.heap.size + 1) l A c) (fun _ _ _ => False) (ClI.own HI0.out.below.size) (fun _ _ _ _ _ h _ _ => h)
  HI0.out
  (fun x a' W => ∃ B1 B2, W.heap[B1]? = some (.cells (claCs x.1.1) 51 (0, 0)) ∧ W.heap[B2]? = some (.cells (claCs x.1.2) 51 (0, 0)) ∧ a' = { tmps := #[.agg #[.slice A l.length c], .slice Ao O.length co, .pointer (some ⟨w.heap.size, 0, none⟩), undef, .slice none 0 0, .int .i64 0, .int .i64 0, .pointer (some ⟨w1.heap.size, 0, none⟩), .pointer (some ⟨w1.heap.size + 1, 0, none⟩), .pointer (some ⟨B1, 0, none⟩), .pointer (some ⟨B2, 0, none⟩), undef, undef, undef, undef, undef, undef, .tuple #[.slice Ao O.length co, .int .i64 0], .agg #[.slice A l.length c], .slice B cs.length d, .tuple #[.slice Ao O.length co, .int .i64 0], .slice Ao O.length co, .int .i64 0, .int .i64 0, .bool false, undef, .func (.func 48) #[] #[.pointer (some ⟨w.heap.size, 0, none⟩)], .slice Ao O.length co, .func (.func 89) #[] #[.pointer (some ⟨w1.heap.size + 1 + 1, 0, none⟩)], x.1.1.agg, x.1.2.agg, undef, undef, undef, undef, undef, undef, undef, undef, undef, undef, undef, undef, undef, undef, undef, undef, undef, undef, undef, undef, undef, undef, undef, undef, undef, undef, undef, undef, undef, undef, undef, undef, undef, undef, undef, undef, undef, undef, undef, undef, undef, undef, undef, undef, undef, undef, undef, undef, undef, undef, undef, undef, undef, undef, undef, undef, undef, undef, undef], defers := [] })
  (fun x a' _ X Y row hs hg hr => by obtain ⟨B1, B2, h1, h2, h3⟩ := hs; exact ⟨B1, B2, heap_kept h1 hg (fun r e => (hr r e).2), heap_kept h2 hg (fun r e => (hr r e).2), h3⟩)
  ?assign ?body ?done ?stop
 case assign =>
  rintro l' pre ⟨⟨x1, x2⟩, hx⟩ W K hI hK
  have hb : Below W.heap.size W ((W.alloc (.cells (claCs x1) 51)).alloc (.cells (claCs x2) 51)) := ((Below.refl _ _).alloc (Nat.le_refl _) _).alloc (by simp) _
  have HI := Lib.hid (hI.keep hb); clear hI
  have HB := Lib.hid hb; clear hb
  simp only [encP]
  gi_wp2
  rw [setRow_alloc_new2]
  exact hK _ _ (keepsFrom_below HB.out) (KpP.of_below HB.out) HI.out ⟨W.heap.size, W.heap.size + 1, heap_old_at (by simp) (heap_new_at rfl), heap_new_at (by simp), rfl⟩
 case body =>
  rintro l' pre ⟨⟨x1, x2⟩, hx⟩ a' W hl2 ⟨rr, hrr⟩ hI ⟨B1, B2, hb1, hb2, rfl⟩ hlt
  have hrd1 := HRD.out x1 hx.1
  have hrd2 := HRD.out x2 hx.2
  have HRD1 := Lib.hid hrd1; clear hrd1
  have HRD2 := Lib.hid hrd2; clear hrd2
  have hplen : pre.length ≤ 4096 := Nat.le_trans (Nat.le_of_lt hlt) HPL.out
  have l1 := lt_of_heap hb1
  have l2 := lt_of_heap hb2
  have kp : W.cell? ⟨w1.heap.size, 0, none⟩ = some (.func (.func 48) #[] #[.pointer (some ⟨w.heap.size, 0, none⟩)]) := (cell_of_row _ _ _ _ _ _ hI.pbx).trans rfl
  have lp := lt_of_heap hI.pbx
  have lc := lt_of_heap hI.cbx
  have k1 : W.blk B1 = some (.cells (claCs x1) 51 (0, 0)) := hb1
  have k2 : W.blk B2 = some (.cells (claCs x2) 51 (0, 0)) := hb2
  have HI := Lib.hid hI; clear hI
  have hra : RdI W A l := HR.out.below HI.out.below
  have hga : W.cell? ⟨0, 0, none⟩ = some (.int .i64 m) := step_cell HI.out.below HG.out
  have HRA := Lib.hid hra; clear hra
  have HGA := Lib.hid hga; clear hga
  have HB1 := Lib.hid hb1; clear hb1
  have HB2 := Lib.hid hb2; clear hb2
  have f48 : Fence.wide.fn 48 := trivial
  have f33 : Fence.wide.fn 33 := trivial
  have f50 : Fence.wide.fn 50 := trivial
  clear hrr
  have hpos : ∀ (X : World) (hX : Below W.heap.size W X) (p : Patch) (hp : p.Ready) (r : Bool) (hres : onceB l p = r), CallsIn (Fence.wide.inRound l') 6 Tryz.prog 48 #[.slice (some ⟨X.heap.size, 0, none⟩) 1 1, .pointer (some ⟨w.heap.size, 0, none⟩)] (X.alloc (.cells (patCs p) 49)) fun e w' => e = .returned (.bool r) ∧ Below X.heap.size X w' := by
   intro X hX p hp r hres
   have hX1 : Below X.heap.size X (X.alloc (.cells (patCs p) 49)) := (Below.refl _ _).alloc (Nat.le_refl _) _
   have hX2 : Below W.heap.size W (X.alloc (.cells (patCs p) 49)) := chain2 hX hX1
   refine CallsIn.inRound l' ((callsIn_wide (n := 6)).2 ((poss_any l [p] A (some ⟨X.heap.size, 0, none⟩) c 1 w.heap.size _ ((hX2.block _ lc).trans HI.out.cbx) (HRA.out.below hX2) (RdP.one _ p _ (heap_alloc_new _ _)) hl hlc (short_of_good HV.out) (by simp) (by simpa using hp) m (step_cell hX2 HGA.out) r hres).mono ?_))
   rintro e w' ⟨h1, h2⟩
   exact ⟨h1, chain2 hX1 h2⟩
  have HPOS := Lib.hid hpos; clear hpos
  have hall : ∀ (X : World) (hX : Below W.heap.size W X) (p q : Patch) (hp : p.Ready) (hq : q.Ready), CallsIn (Fence.wide.inRound l') 6 Tryz.prog 33 #[.agg #[.slice A l.length c], .slice (some ⟨X.heap.size, 0, none⟩) 2 2] (X.alloc (.cells (twoCs p q) 49)) fun e w' => (∃ (A1 : Option Addr) (c1 : Nat), e = .returned (.tuple #[.agg #[.slice A1 (allR l [p, q]).1.length c1], .int .i64 (allR l [p, q]).2.1, .int .i64 (allR l [p, q]).2.2]) ∧ RdI w' A1 (allR l [p, q]).1) ∧ Below X.heap.size X w' := by
   intro X hX p q hp hq
   have hX1 : Below X.heap.size X (X.alloc (.cells (twoCs p q) 49)) := (Below.refl _ _).alloc (Nat.le_refl _) _
   have hX2 : Below W.heap.size W (X.alloc (.cells (twoCs p q) 49)) := chain2 hX hX1
   refine CallsIn.inRound l' ((callsIn_wide (n := 6)).2 ((all_any l [p, q] A (some ⟨X.heap.size, 0, none⟩) c 2 _ (HRA.out.below hX2) (RdP.lit2 X p q _ rfl) hl hlc (short_of_good HV.out) (by simp) (by intro z hz; simp at hz; rcases hz with rfl | rfl <;> assumption) m (step_cell hX2 HGA.out)).mono ?_))
   rintro e w' ⟨v, rfl, ⟨A1, c1, rfl, h1, _, _⟩, h2⟩
   exact ⟨⟨A1, c1, rfl, h1⟩, chain2 hX1 h2⟩
  have HALL := Lib.hid hall; clear hall
  gi_wp2
  cases ha : onceB l x1.patch with
  | false =>
    have HA := Lib.hid ha; clear ha
    refine (HPOS.out W (Below.refl _ _) x1.patch HRD1.out _ HA.out).mono ?_
    rintro e W2 ⟨rfl, hbW2⟩
    have HW2 := Lib.hid hbW2; clear hbW2
    gi_wp2
    refine ⟨fun _ h => (by cases h), ?_⟩
    gi_wp2
    have hcl : clashB l x1.patch x2.patch = false := by unfold clashB; rw [HA.out]; rfl
    exact cl_skip (x := ⟨(x1, x2), hx⟩) HI.out HW2.out hcl
  | true =>
    have HA := Lib.hid ha; clear ha
    refine (HPOS.out W (Below.refl _ _) x1.patch HRD1.out _ HA.out).mono ?_
    rintro e W2 ⟨rfl, hbW2⟩
    have k1' := rkeepk hbW2 k1
    have k2' := rkeepk hbW2 k2
    have kp' := keepw hbW2 kp
    have lp' := Nat.lt_of_lt_of_le lp hbW2.size
    have l1' := Nat.lt_of_lt_of_le l1 hbW2.size
    have l2' := Nat.lt_of_lt_of_le l2 hbW2.size
    have lc' := Nat.lt_of_lt_of_le lc hbW2.size
    have HW2 := Lib.hid hbW2; clear hbW2 k1 k2 kp lp l1 l2 lc
    gi_wp2
    cases hbo : onceB l x2.patch with
    | false =>
      have HBO := Lib.hid hbo; clear hbo
      refine (HPOS.out W2 HW2.out x2.patch HRD2.out _ HBO.out).mono ?_
      rintro e W3 ⟨rfl, hbW3⟩
      have HW3 := Lib.hid (chain2 HW2.out hbW3); clear hbW3
      gi_wp2
      have hcl : clashB l x1.patch x2.patch = false := by unfold clashB; rw [HBO.out, Bool.false_and, Bool.and_false]
      exact cl_skip (x := ⟨(x1, x2), hx⟩) HI.out HW3.out hcl
    | true =>
      have HBO := Lib.hid hbo; clear hbo
      refine (HPOS.out W2 HW2.out x2.patch HRD2.out _ HBO.out).mono ?_
      rintro e W3 ⟨rfl, hbW3⟩
      have m1 := rkeepk hbW3 k1'
      have m2 := rkeepk hbW3 k2'
      have n1 := Nat.lt_of_lt_of_le l1' hbW3.size
      have n2 := Nat.lt_of_lt_of_le l2' hbW3.size
      have HW3 := Lib.hid (chain2 HW2.out hbW3); clear hbW3 k1' k2' kp' lp' l1' l2' lc'
      have mc : W3.cell? ⟨w.heap.size, 0, none⟩ = some (.slice A l.length c) := (cell_of_row _ _ _ _ _ _ ((HW3.out.block _ (lt_of_heap HI.out.cbx)).trans HI.out.cbx)).trans rfl
      have nc : w.heap.size < W3.heap.size := lt_of_heap ((HW3.out.block _ (lt_of_heap HI.out.cbx)).trans HI.out.cbx)
      gi_wp2
      refine (HALL.out W3 HW3.out x1.patch x2.patch HRD1.out HRD2.out).mono ?_
      rintro e W4 ⟨⟨A1, c1, rfl, hr1⟩, hbW4⟩
      obtain ⟨R1, hR1⟩ : ∃ R, R = allR l [x1.patch, x2.patch] := ⟨_, rfl⟩
      rw [← hR1] at hr1 ⊢
      have m1' := rkeepk hbW4 m1
      have m2' := rkeepk hbW4 m2
      have n1' := Nat.lt_of_lt_of_le n1 hbW4.size
      have n2' := Nat.lt_of_lt_of_le n2 hbW4.size
      have mc' := keepw hbW4 mc
      have nc' := Nat.lt_of_lt_of_le nc hbW4.size
      have HW4 := Lib.hid (chain2 HW3.out hbW4); clear hbW4 m1 m2 n1 n2 mc nc
      have HRR1 := Lib.hid hr1; clear hr1
      have HR1 := Lib.hid hR1; clear hR1
      have hbX : Below W4.heap.size W4 (W4.alloc (.cells #[.slice A1 R1.1.length c1] 24)) := (Below.refl _ _).alloc (Nat.le_refl _) _
      have HBX := Lib.hid hbX; clear hbX
      gi_wp2
      have hA2 := HALL.out _ (chain2 HW4.out HBX.out) x2.patch x1.patch HRD2.out HRD1.out
      rw [World.size_alloc] at hA2
      refine hA2.mono ?_
      clear hA2
      rintro e W5 ⟨⟨A2, c2, rfl, hr2⟩, hbW5⟩
      obtain ⟨R2, hR2⟩ : ∃ R, R = allR l [x2.patch, x1.patch] := ⟨_, rfl⟩
      rw [← hR2] at hr2 ⊢
      have b11 : W5.heap[W4.heap.size]? = some (.cells #[.slice A1 R1.1.length c1] 24 (0, 0)) := (hbW5.block _ (by omega)).trans (heap_alloc_new _ _)
      have c11 : W5.cell? ⟨W4.heap.size, 0, none⟩ = some (.slice A1 R1.1.length c1) := (cell_of_row _ _ _ _ _ _ b11).trans rfl
      have n11 := lt_of_heap b11
      have hb45 : Below W4.heap.size W4 W5 := HBX.out.trans (hbW5.mono (by omega))
      have m1'' := rkeepk hb45 m1'
      have m2'' := rkeepk hb45 m2'
      have n1'' := Nat.lt_of_lt_of_le n1' hb45.size
      have n2'' := Nat.lt_of_lt_of_le n2' hb45.size
      have HRR1' := Lib.hid (HRR1.out.below hb45)
      have HW5 := Lib.hid (chain2 HW4.out hb45)
      have HRR2 := Lib.hid hr2; clear hr2
      have HR2 := Lib.hid hR2; clear hR2
      clear hbW5 hb45 m1' m2' n1' n2' mc' nc' b11 HBX HRR1
      have hbY : Below W5.heap.size W5 (W5.alloc (.cells #[.slice A2 R2.1.length c2] 24)) := (Below.refl _ _).alloc (Nat.le_refl _) _
      have HBY := Lib.hid hbY; clear hbY
      obtain ⟨v, hov, hown⟩ := HI.out.out
      have hcll : (clashOf l (pre.map (·.1))).length ≤ 5000 := by
       have h := clashOf_len l (pre.map (·.1))
       rw [List.length_map] at h
       omega
      have hov5 := (HW5.out.block _ (lt_of_heap hov)).trans hov
      have ov : W5.cell? ⟨w1.heap.size + 1, 0, none⟩ = some v := (cell_of_row _ _ _ _ _ _ hov5).trans rfl
      have on : w1.heap.size + 1 < W5.heap.size := lt_of_heap hov5
      have s10 : W5.cell? ⟨B1, 0, none⟩ = some (.int .i64 x1.id.seat) := (cell_of_row _ _ 0 _ _ _ m1'').trans rfl
      have s11 : W5.cell? ⟨B1, 1, none⟩ = some (.int .i64 x1.id.count) := (cell_of_row _ _ 1 _ _ _ m1'').trans rfl
      have s20 : W5.cell? ⟨B2, 0, none⟩ = some (.int .i64 x2.id.seat) := (cell_of_row _ _ 0 _ _ _ m2'').trans rfl
      have s21 : W5.cell? ⟨B2, 1, none⟩ = some (.int .i64 x2.id.count) := (cell_of_row _ _ 1 _ _ _ m2'').trans rfl
      have HOV := Lib.hid hov; clear hov hov5
      have HOWN := Lib.hid hown; clear hown
      clear m1'' m2''
      cases he1 : (R1.2.2 != 0) with
      | true =>
        have HE1 := Lib.hid he1
        have e1 : (R1.2.2 == 0) = false := by simpa using he1
        obtain ⟨X, hX⟩ : ∃ X, X = (W5.alloc (.cells #[.slice A2 R2.1.length c2] 24)).alloc (.cells (parCs (x1.id, x2.id)) 62) := ⟨_, rfl⟩
        have hXb : Below W.heap.size W X := by rw [hX]; exact chain2 (chain2 HW5.out HBY.out) ((Below.refl _ _).alloc (Nat.le_refl _) _)
        have hXg : X.heap[W5.heap.size + 1]? = some (.cells (parCs (x1.id, x2.id)) 62 (0, 0)) := by rw [hX]; exact heap_new_at (by simp)
        have HXB := Lib.hid hXb; clear hXb
        have HXG := Lib.hid hXg; clear hXg
        have HX := Lib.hid hX; clear hX
        have hcl : clashB l x1.patch x2.patch = true := by
         unfold clashB bothB
         rw [HA.out, HBO.out, ← HR1.out, ← HR2.out]
         rw [e1]; rfl
        have HCL := Lib.hid hcl; clear hcl
        clear e1
        gi_wp2_with (gi_at_builtin; refine wpListIn_append_par1 rfl (.tmp 81) (.tmp 87) rfl rfl w2.heap.size v (clashOf l (pre.map (·.1))) (x1.id, x2.id) (W5.heap.size + 1) 1 rfl rfl (HX.out ▸ HOWN.out.below HXB.out) (HX.out ▸ HXG.out) (by omega) (HX.out ▸ Nat.le_trans HI.out.size HXB.out.size) ?_; intro v' W7 ho7 hg7; rw [← HX.out] at hg7; obtain ⟨cf, ff⟩ := cl_face HI.out HXB.out HOV.out HOWN.out hg7 (by have := HZ2.out; omega); obtain ⟨A7, n7, rfl, -, -, -⟩ := ho7.reads; have HO7 := Lib.hid ho7; clear ho7; have HG7 := Lib.hid hg7; clear hg7)
        exact cl_more (x := ⟨(x1, x2), hx⟩) HI.out HXB.out HCL.out HOV.out HOWN.out (HO7.out.cast (by simp)) HG7.out (by have := HZ2.out; omega) (by omega) ⟨by omega, by have := HZ2.out; omega⟩ ⟨by omega, by have := HZ2.out; omega⟩
      | false =>
        have HE1 := Lib.hid he1
        have e1 : (R1.2.2 == 0) = true := by simpa using he1
        have E1 := Lib.hid e1; clear e1
        cases he2 : (R2.2.2 != 0) with
        | true =>
          have HE2 := Lib.hid he2
          have e2 : (R2.2.2 == 0) = false := by simpa using he2
          obtain ⟨X, hX⟩ : ∃ X, X = (W5.alloc (.cells #[.slice A2 R2.1.length c2] 24)).alloc (.cells (parCs (x1.id, x2.id)) 62) := ⟨_, rfl⟩
          have hXb : Below W.heap.size W X := by rw [hX]; exact chain2 (chain2 HW5.out HBY.out) ((Below.refl _ _).alloc (Nat.le_refl _) _)
          have hXg : X.heap[W5.heap.size + 1]? = some (.cells (parCs (x1.id, x2.id)) 62 (0, 0)) := by rw [hX]; exact heap_new_at (by simp)
          have HXB := Lib.hid hXb; clear hXb
          have HXG := Lib.hid hXg; clear hXg
          have HX := Lib.hid hX; clear hX
          have hcl : clashB l x1.patch x2.patch = true := by
           unfold clashB bothB
           rw [HA.out, HBO.out, ← HR1.out, ← HR2.out]
           rw [E1.out, e2]; rfl
          have HCL := Lib.hid hcl; clear hcl
          clear e2
          gi_wp2_with (gi_at_builtin; refine wpListIn_append_par1 rfl (.tmp 81) (.tmp 87) rfl rfl w2.heap.size v (clashOf l (pre.map (·.1))) (x1.id, x2.id) (W5.heap.size + 1) 1 rfl rfl (HX.out ▸ HOWN.out.below HXB.out) (HX.out ▸ HXG.out) (by omega) (HX.out ▸ Nat.le_trans HI.out.size HXB.out.size) ?_; intro v' W7 ho7 hg7; rw [← HX.out] at hg7; obtain ⟨cf, ff⟩ := cl_face HI.out HXB.out HOV.out HOWN.out hg7 (by have := HZ2.out; omega); obtain ⟨A7, n7, rfl, -, -, -⟩ := ho7.reads; have HO7 := Lib.hid ho7; clear ho7; have HG7 := Lib.hid hg7; clear hg7)
          exact cl_more (x := ⟨(x1, x2), hx⟩) HI.out HXB.out HCL.out HOV.out HOWN.out (HO7.out.cast (by simp)) HG7.out (by have := HZ2.out; omega) (by omega) ⟨by omega, by have := HZ2.out; omega⟩ ⟨by omega, by have := HZ2.out; omega⟩
        | false =>
          have HE2 := Lib.hid he2
          have e2 : (R2.2.2 == 0) = true := by simpa using he2
          have E2 := Lib.hid e2; clear e2
          gi_wp2
          refine (CallsIn.inRound l' ((callsIn_wide (n := 6)).2 (seq_any R1.1 R2.1 A1 A2 c1 c2 _ (HRR1'.out.below HBY.out) (HRR2.out.below HBY.out) ?_ ?_))).mono ?_
          · rw [HR1.out]; exact Nat.le_trans (allR_len l HV.out _) (by omega)
          · rw [HR2.out]; exact Nat.le_trans (allR_len l HV.out _) (by omega)
          rintro e W6 ⟨rfl, hbW6⟩
          have hb56 := chain2 HBY.out hbW6
          have hw6 := chain2 HW5.out hb56
          have ov6 := keepw hb56 ov
          have t10 := keepw hb56 s10
          have t11 := keepw hb56 s11
          have t20 := keepw hb56 s20
          have t21 := keepw hb56 s21
          have on6 := Nat.lt_of_lt_of_le on hb56.size
          have p1 := Nat.lt_of_lt_of_le n1'' hb56.size
          have p2 := Nat.lt_of_lt_of_le n2'' hb56.size
          have HW6 := Lib.hid hw6; clear hw6 hbW6 hb56 ov s10 s11 s20 s21 on n1'' n2''
          cases he3 : decide (R1.1 = R2.1) with
          | true =>
            have HE3 := Lib.hid he3; clear he3
            gi_wp2
            have hcl : clashB l x1.patch x2.patch = false := by
             unfold clashB bothB
             rw [HA.out, HBO.out, ← HR1.out, ← HR2.out, E1.out, E2.out, HE3.out]
             rfl
            exact cl_skip (x := ⟨(x1, x2), hx⟩) HI.out HW6.out hcl
          | false =>
            have HE3 := Lib.hid he3; clear he3
            obtain ⟨X, hX⟩ : ∃ X, X = W6.alloc (.cells (parCs (x1.id, x2.id)) 62) := ⟨_, rfl⟩
            have hXb : Below W.heap.size W X := by rw [hX]; exact chain2 HW6.out ((Below.refl _ _).alloc (Nat.le_refl _) _)
            have hXg : X.heap[W6.heap.size]? = some (.cells (parCs (x1.id, x2.id)) 62 (0, 0)) := by rw [hX]; exact heap_alloc_new _ _
            have HXB := Lib.hid hXb; clear hXb
            have HXG := Lib.hid hXg; clear hXg
            have HX := Lib.hid hX; clear hX
            have hcl : clashB l x1.patch x2.patch = true := by
             unfold clashB bothB
             rw [HA.out, HBO.out, ← HR1.out, ← HR2.out, E1.out, E2.out, HE3.out]
             rfl
            have HCL := Lib.hid hcl; clear hcl
            gi_wp2_with (gi_at_builtin; refine wpListIn_append_par1 rfl (.tmp 81) (.tmp 87) rfl rfl w2.heap.size v (clashOf l (pre.map (·.1))) (x1.id, x2.id) (W6.heap.size) 1 rfl rfl (HX.out ▸ HOWN.out.below HXB.out) (HX.out ▸ HXG.out) (by omega) (HX.out ▸ Nat.le_trans HI.out.size HXB.out.size) ?_; intro v' W7 ho7 hg7; rw [← HX.out] at hg7; obtain ⟨cf, ff⟩ := cl_face HI.out HXB.out HOV.out HOWN.out hg7 (by have := HZ2.out; omega); obtain ⟨A7, n7, rfl, -, -, -⟩ := ho7.reads; have HO7 := Lib.hid ho7; clear ho7; have HG7 := Lib.hid hg7; clear hg7)
            exact cl_more (x := ⟨(x1, x2), hx⟩) HI.out HXB.out HCL.out HOV.out HOWN.out (HO7.out.cast (by simp)) HG7.out (by have := HZ2.out; omega) (by omega) ⟨by omega, by have := HZ2.out; omega⟩ ⟨by omega, by have := HZ2.out; omega⟩
 case done =>
  rintro D ys W hD hS hI hK
  obtain ⟨v, hov, hown⟩ := hI.out
  have hs1 := hS
  have ov : W.cell? ⟨w1.heap.size + 1, 0, none⟩ = some v := (cell_of_row _ _ _ _ _ _ hov).trans rfl
  have on := lt_of_heap hov
  rw [hs1] at hown
  have hbel := hI.below
  have HOWN := Lib.hid hown; clear hown
  have HBEL := Lib.hid hbel; clear hbel
  have HK := Lib.hid hK; clear hK
  clear hI hov hS hs1
  gi_wp2
  refine ⟨by simp, .inl ⟨_, _, rfl, run_takeDeferred HK.out, ?_⟩⟩
  refine ⟨.tuple #[v, .int .i64 0], by simp [results, Tryz.results15, go_sem], v, rfl, ?_, ?_⟩
  · exact (HOWN.out.kept fun b C _ hC => (World.putObj_heap_other (fun e => by subst e; rw [HK.out] at hC; cases hC)).trans hC).lower (by have := HI0.out.below.size; omega)
  · exact HBEL.out.trans (belowK_b (w := w) (Nat.le_refl _) _ D _ _ (by have := HI0.out.below.size; omega) HK.out rfl rfl)
 case stop =>
  rintro D c1 pre W hD _ h _
  exact h.elim
end Go.Proofs.YtecnlfaholmpoaaGreat
