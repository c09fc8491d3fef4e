/- The closure of List: it walks over the rows, and lists; by induction on how many clauses come later. 'm[s] = append(m[s], c)' in the map of rows. (*Page).List. A page without clauses. -/
import Derived.Test.YtecnlfaholmpoaaGreatJC28
import Derived.Laws.EntriesVeiled
import Derived.Test.YtecnlfaholmpoaaGreatJC23
import Derived.Carry
set_option linter.unusedVariables false
set_option linter.unusedSimpArgs false
set_option maxRecDepth 20000
set_option maxHeartbeats 4000000
namespace Go.Proofs.YtecnlfaholmpoaaGreat
open Go.RowKit
theorem wpList_lookup_run {P : Program} {ops : Array Oper} {rest : List Oper} {o : Oper} {a : Act} {w : World} {Q : Exit → Act → World → Prop} (hgd : o.guard = none) (t : TypeId) (m x : Operand) (hop : o.op = Op.lookup t m x false) (v1 v2 r : Value) (hm : a.eval m = v1) (hx : a.eval x = v2)
 (hrun : (Instr.lookup t v1 v2 false).run P w = .ok r w) (h : wpList P ops Q rest (a.put o.dst r) w) : wpList P ops Q (o :: rest) a w := by
 refine wpList_plain hgd fun K hK => ?_
 unfold Oper.wp
 simp [execOp, hop, hm, hx, hrun, Result.andThen]
 exact hK _ _ h
def Walked (pg : List Clause) (cb ob wb mb base : Nat) (ent : List (Stamp × Value)) (w : World) (L : Stamp → List Clause) (acc' : List Clause) (e : Ending) (w' : World) : Prop :=
 e = .returned (.tuple #[]) ∧ ∃ L' v', WSt w' pg cb ob wb mb base ent L' acc' v' ∧ (∀ t, L' t = L t ∨ L' t = kids pg t) ∧ Below base w w'
theorem WSt.row {w : World} {pg : List Clause} {cb ob wb mb base : Nat} {ent : List (Stamp × Value)} {L : Stamp → List Clause} {acc : List Clause} {v : Value} (h : WSt w pg cb ob wb mb base ent L acc v) {s : Stamp} {u : Value} (hv : (s, u) ∈ ent ∨ (u = .slice none 0 0 ∧ ∀ p ∈ ent, p.1 ≠ s)) : OwnCs w base u (L s) := by
 rcases hv with hv | ⟨rfl, hv⟩
 · exact h.kin.own _ hv
 · rw [h.kin.out s hv]
   exact OwnCs.nil _ _
theorem flatm_take {β : Type} {K : List β} {k : Nat} {x : β} (G : β → List Clause) (hx : K[k]? = some x) : (K.take (k + 1)).flatMap G = (K.take k).flatMap G ++ G x := by
 obtain ⟨hk, rfl⟩ := List.getElem?_eq_some_iff.1 hx
 rw [List.take_succ_eq_append_getElem hk, List.flatMap_append]
 simp
theorem flat_take_le {β : Type} (K : List β) (k : Nat) (G : β → List Clause) : ((K.take k).flatMap G).length ≤ (K.flatMap G).length := by
 have := congrArg (fun l => (l.flatMap G).length) (List.take_append_drop k K)
 simp only [List.flatMap_append, List.length_append] at this
 omega
theorem row_props {pg l : List Clause} (hp : PageOk pg) {s : Stamp} (h : l.Perm (pg.filter fun c => decide (c.after = s))) : (∀ c ∈ l, properS c.id = true) ∧ (l.map (·.id)).Nodup ∧ l.length ≤ pg.length := by
 refine ⟨fun c hc => ?_, ?_, ?_⟩
 · have := hp.prop c (List.mem_filter.1 (h.mem_iff.1 hc)).1
   unfold Clause.proper at this
   simp only [Bool.and_eq_true] at this
   exact this.1
 · exact ((h.map _).nodup_iff).2 ((List.filter_sublist.map _).nodup hp.nodup)
 · rw [h.length_eq]
   exact List.length_filter_le _ _
theorem WSt.faces {w W w3 : World} {pg : List Clause} {cb ob wb mb base : Nat} {ent : List (Stamp × Value)} {L : Stamp → List Clause} {acc : List Clause} {v : Value} (h : WSt w pg cb ob wb mb base ent L acc v) (hW : Below w.heap.size w W) (hg : W.grownBy w3 v.ownBlock) :
 w3.cell? ⟨ob, 0, none⟩ = some v ∧ w3.frozen? ⟨ob, 0, none⟩ = false ∧ w3.cell? ⟨wb, 0, none⟩ = some (.func (.func 71) #[] #[.pointer (some ⟨cb, 0, none⟩), .pointer (some ⟨ob, 0, none⟩), .pointer (some ⟨wb, 0, none⟩)]) ∧ ∀ j, w.heap.size ≤ j → j < W.heap.size → w3.heap[j]? = W.heap[j]? := by
 have lo := lt_of_heap h.obx
 have lw := lt_of_heap h.wbx
 have how := h.ow
 have hsz := hW.size
 have hk : ∀ k, k < wb + 1 → w3.heap[k]? = w.heap[k]? := fun k hk => (hg.block k (by omega) (fun e => by have := h.own.ge k e.symm; omega)).trans (hW.block k (by omega))
 have o3 := (hk ob (by omega)).trans h.obx
 have w3' := (hk wb (by omega)).trans h.wbx
 exact ⟨(cell_of_row _ _ _ _ _ _ o3).trans rfl, frozen_of_row _ _ 0 _ _ o3, (cell_of_row _ _ _ _ _ _ w3').trans rfl, fun j h1 h2 => hg.block j h2 (fun e => by have := h.own.lt j e.symm; omega)⟩
theorem OwnCs.cast {w : World} {base : Nat} {v v' : Value} {l : List Clause} (h : OwnCs w base v l) (e : v = v') : OwnCs w base v' l := e ▸ h
theorem lwalk_any (pg : List Clause) (hp : PageOk pg) (hpl : pg.length ≤ 100000) : ∀ (n : Nat) (s : Stamp) (w : World) (cb ob wb mb base : Nat) (ent : List (Stamp × Value)) (L : Stamp → List Clause) (acc : List Clause) (v : Value), above pg s < n → (∃ l, keyOf Tryz.prog 45 s.agg = some l) →
 acc.length + (listF pg n s).length ≤ 100000 → WSt w pg cb ob wb mb base ent L acc v →
 Calls Tryz.prog 71 #[s.agg, .pointer (some ⟨cb, 0, none⟩), .pointer (some ⟨ob, 0, none⟩), .pointer (some ⟨wb, 0, none⟩)] w (Walked pg cb ob wb mb base ent w L (acc ++ listF pg n s)) := by
 intro n
 induction n with
 | zero =>
   intro s w cb ob wb mb base ent L acc v hab
   omega
 | succ n ih =>
   intro s w cb ob wb mb base ent L acc v hab hkey hlen hst
   have IH := Lib.hid ih; clear ih
   have hlF : listF pg (n + 1) s = (kids pg s).flatMap fun c => c :: listF pg n c.id := rfl
   rw [hlF] at hlen ⊢
   clear hlF
   obtain ⟨q1, q2, q3⟩ := row_props hp (hst.perm s)
   have hkid : ∀ c ∈ kids pg s, above pg c.id < n ∧ ∃ l, keyOf Tryz.prog 45 c.id.agg = some l := fun c hc => by
    have h1 := above_kid hp hc
    have h2 := hp.prop c (kids_mem.1 hc).1
    unfold Clause.proper at h2
    simp only [Bool.and_eq_true] at h2
    exact ⟨by omega, properS_key h2.1⟩
   obtain ⟨u, hlk, hou, hmem⟩ := hst.kin.look hkey
   have hKl : (kids pg s).length ≤ 100000 := by
    have := (kids_sort hp.nodup (hst.perm s)) ▸ (sortB_perm later (L s)).length_eq
    omega
   obtain ⟨G, hG⟩ : ∃ G : Clause → List Clause, G = fun c => c :: listF pg n c.id := ⟨_, rfl⟩
   rw [← hG] at hlen ⊢
   have HG := Lib.hid hG; clear hG
   have HKID := Lib.hid hkid; clear hkid
   have HLEN := Lib.hid hlen; clear hlen
   have c1 : w.cell? ⟨cb, 0, none⟩ = some (.map (some mb)) := (cell_of_row _ _ _ _ _ _ hst.cbx).trans rfl
   have l1 := lt_of_heap hst.cbx
   have hmbl : mb < w.heap.size := hst.kin.map.lt
   have hst0 := hst.keep ((Below.refl _ _).alloc (Nat.le_refl _) (.cells #[.int .i64 s.seat, .int .i64 s.count] 45 (0, 0)))
   have HST := Lib.hid hst0
   have HOU := Lib.hid (hst0.row hmem)
   have HLK := Lib.hid hlk; clear hlk hou hst hst0
   have HMEM := Lib.hid hmem; clear hmem
   have HP := Lib.hid hp; clear hp hab hkey
   have Q1 := Lib.hid q1; clear q1
   have Q2 := Lib.hid q2; clear q2
   go_enter Tryz.func71, Tryz.ntmps71
   go_wp2_with (at_lookup; refine wpList_lookup_run rfl 107 (.tmp 8) (.tmp 9) rfl (.map (some mb)) s.agg u rfl rfl (HLK.out _ (Below.heap_alloc _ _ _ hmbl)) ?_)
   refine (sortk_own (L s) Q1.out Q2.out (by omega) base u _ HOU.out).mono ?_
   rintro e w2 ⟨rfl, ho2, hg2⟩
   obtain ⟨hst2, hrow2, hb2⟩ := HST.out.turn HP.out.nodup HMEM.out ho2 hg2
   have hbw2 : Below base w w2 := ((Below.refl _ _).alloc (by have := HST.out.kin.bl; have := lt_of_heap HST.out.obx; simp at this; omega) _).trans hb2
   clear ho2 hg2 hb2
   obtain ⟨K, hK⟩ : ∃ K, K = kids pg s := ⟨_, rfl⟩
   rw [← hK] at hrow2 hst2 HKID HLEN hKl ⊢
   have HK := Lib.hid hK; clear hK
   obtain ⟨A, cc, rfl, hlc, hcm, _⟩ := hrow2.reads
   have HST2 := Lib.hid hst2; clear hst2 hrow2
   have HB2 := Lib.hid hbw2; clear hbw2 c1 l1
   go_wp2_with fail
   go_loopw [15] (fun i wr => ∃ k : Nat, k ≤ K.length ∧ i = .int .i64 k ∧ ∃ Lk vk, WSt wr pg cb ob wb mb base ent Lk (acc ++ (K.take k).flatMap G) vk ∧ Lk s = K ∧ (∀ t, Lk t = L t ∨ Lk t = kids pg t) ∧ Below base w wr) (fun i _ => K.length - (intOf i).toNat)
   case atStart =>
    refine ⟨0, Nat.zero_le _, rfl, _, _, by simpa using HST2.out, by simp [setL], fun t => ?_, HB2.out⟩
    unfold setL
    split
    · rename_i e; rw [e]; exact Or.inr HK.out
    · exact Or.inl rfl
   case round =>
    obtain ⟨k, hk, rfl, Lk, vk, hst, hLs, hLk, hb⟩ := hrel
    have HB := Lib.hid hb; clear hb
    have HLS := Lib.hid hLs; clear hLs
    have HLK2 := Lib.hid hLk; clear hLk
    by_cases hlt : k < K.length
    · obtain ⟨x, hx⟩ := get_of_lt hlt
      have hi1 : (k : Int) < K.length := by omega
      have hi0 : (0 : Int) ≤ k := by omega
      have hrow := hst.row HMEM.out
      rw [HLS.out] at hrow
      obtain ⟨b, rfl⟩ : ∃ b, A = some ⟨b, 0, none⟩ := by
       rcases hrow.2 with ⟨hv, h0⟩ | ⟨g, cap', cur, hv, r2, _⟩
       · omega
       · simp only [Value.slice.injEq] at hv; exact ⟨g, hv.1⟩
      have hq := hrow.load hx
      have HXK := Lib.hid (HKID.out x (List.mem_of_getElem? hx))
      have hfl := flatm_take G hx
      have hfle := flat_take_le K (k + 1) G
      rw [hfl] at hfle
      simp only [List.length_append] at hfle
      have hGx : G x = x :: listF pg n x.id := by rw [HG.out]
      have hgl : (G x).length = (listF pg n x.id).length + 1 := by rw [hGx]; rfl
      have hl1 : (acc ++ (K.take k).flatMap G).length + 1 + (listF pg n x.id).length ≤ 100000 := by
       have := HLEN.out
       simp only [List.length_append]
       omega
      have hacc : acc ++ (K.take (k + 1)).flatMap G = acc ++ (K.take k).flatMap G ++ [x] ++ listF pg n x.id := by rw [hfl, hGx]; simp
      clear hfl hfle hgl hGx
      obtain ⟨ak, hak⟩ : ∃ ak, ak = acc ++ (K.take k).flatMap G := ⟨_, rfl⟩
      rw [← hak] at hst hl1 hacc
      have HACC := Lib.hid hacc; clear hacc hak
      have HL1 := Lib.hid hl1; clear hl1
      have HX := Lib.hid hx; clear hx hrow
      have c2 : wr.cell? ⟨ob, 0, none⟩ = some vk := (cell_of_row _ _ _ _ _ _ hst.obx).trans rfl
      have l2 := lt_of_heap hst.obx
      have l3 := lt_of_heap hst.wbx
      have how := hst.ow
      have HS := Lib.hid hst; clear hst
      obtain ⟨xi, xa, xp, xg⟩ := x
      have hW2 : Below wr.heap.size wr ((wr.alloc (.cells (claCs ⟨xi, xa, xp, xg⟩) 51 (0, 0))).alloc (.cells (claCs ⟨xi, xa, xp, xg⟩) 51 (0, 0))) := ((Below.refl _ _).alloc (Nat.le_refl _) _).alloc (by simp) _
      have HW2 := Lib.hid hW2; clear hW2
      have hnw : ¬ wb = ob := by omega
      have hno : ¬ wr.heap.size = ob := by omega
      go_wp2_with (at_builtin; refine wpList_append_cla1 rfl (.tmp 19) (.tmp 21) rfl rfl (wb + 1) vk ak ⟨xi, xa, xp, xg⟩ (wr.heap.size + 1) 1 rfl rfl (HS.out.own.below HW2.out) (heap_new_at (by simp)) (by have := HL1.out; omega) (by simp only [World.size_alloc]; omega) ?_; intro v' w3 ho3 hg3 hat3; obtain ⟨A3, n3, rfl, -, -, -⟩ := ho3.reads; obtain ⟨c3, f3, d3, hj3⟩ := HS.out.faces HW2.out hg3; have x3 := (hj3 wr.heap.size (Nat.le_refl _) (by simp only [World.size_alloc]; omega)).trans (heap_old_at (by simp) (heap_new_at rfl)); have y0 : w3.cell? ⟨wr.heap.size, 0, none⟩ = some (.int .i64 xi.seat) := (cell_of_row _ _ 0 _ _ _ x3).trans rfl; have y1 : w3.cell? ⟨wr.heap.size, 1, none⟩ = some (.int .i64 xi.count) := (cell_of_row _ _ 1 _ _ _ x3).trans rfl; clear hj3 x3; have HO3 := Lib.hid ho3; clear ho3; have HG3 := Lib.hid hg3; clear hg3 hat3 c2)
      obtain ⟨hst3, hb3⟩ := HS.out.list HW2.out (HO3.out.cast (v' := .slice A3 (ak.length + 1) n3) (by simp)) HG3.out
      refine (IH.out xi _ cb ob wb mb base ent Lk (ak ++ [⟨xi, xa, xp, xg⟩]) _ HXK.out.1 HXK.out.2 (by have := HL1.out; simpa using this) hst3).mono ?_
      rintro e w4 ⟨rfl, L4, v4, hst4, hL4, hb4⟩
      rw [← HACC.out] at hst4
      have HST4 := Lib.hid hst4; clear hst4 hst3
      have hb5 : Below base w w4 := (HB.out.trans hb3).trans hb4
      have HB5 := Lib.hid hb5; clear hb5 hb3 hb4
      have HL4 := Lib.hid hL4; clear hL4
      clear c3 f3 d3 y0 y1
      go_wp2_with fail
      refine ⟨⟨k + 1, by omega, by go_num, L4, v4, HST4.out, ?_, fun t => ?_, HB5.out⟩, by simp [intOf]; omega⟩
      · rcases HL4.out s with e | e
        · rw [e]; exact HLS.out
        · rw [e]; exact HK.out.symm
      · rcases HL4.out t with e | e
        · rw [e]; exact HLK2.out t
        · exact Or.inr e
    · have hke : k = K.length := by omega
      have hi1 : ¬ (k : Int) < K.length := by omega
      go_wp2_with fail
      go_end0
      subst hke
      refine ⟨rfl, Lk, vk, ?_, HLK2.out, HB.out⟩
      rw [← HK.out]
      simpa using hst
end Go.Proofs.YtecnlfaholmpoaaGreat
namespace Go.Proofs.YtecnlfaholmpoaaGreat
open Go.RowKit
open Go.ChangeMaps (setBlock)
theorem sb_ne {W : World} {mb k : Nat} {o : Obj} (h : k ≠ mb) : (setBlock W mb o).heap[k]? = W.heap[k]? := by
 simp only [Go.ChangeMaps.setBlock, Array.getElem?_setIfInBounds]
 rw [if_neg (fun e => h e.symm)]
theorem sb_size {W : World} {mb : Nat} {o : Obj} : (setBlock W mb o).heap.size = W.heap.size := by simp [setBlock]
theorem Kin.put {w : World} {mb base : Nat} {ent : List (Stamp × Value)} {L : Stamp → List Clause} (h : Kin w mb base w.heap.size ent L) {s : Stamp} (hk : ∃ l, keyOf Tryz.prog 45 s.agg = some l) (c : Clause) :
 ∃ (v0 : Value) (st : Nat) (o1 : Obj), (Instr.mapEntry 107 (.map (some mb)) s.agg).run Tryz.prog w = .ok (.tuple #[v0, .int .i64 st]) (setBlock w mb o1) ∧ OwnCs (setBlock w mb o1) base v0 (L s) ∧
  ∀ (w6 : World) (v' : Value), OwnCs w6 base v' (L s ++ [c]) → (setBlock w mb o1).grownBy w6 v0.ownBlock → (v'.ownBlock = v0.ownBlock ∨ v'.ownBlock = some (setBlock w mb o1).heap.size) →
   ∃ o2, (Instr.entryStore 107 (.map (some mb)) (.int .i64 st) v').run Tryz.prog w6 = .ok () (setBlock w6 mb o2) ∧ (∃ ent', Kin (setBlock w6 mb o2) mb base (setBlock w6 mb o2).heap.size ent' (setL L s (L s ++ [c]))) ∧
    (∀ k, k < w.heap.size → k ≠ mb → some k ≠ v0.ownBlock → (setBlock w6 mb o2).heap[k]? = w.heap[k]?) ∧ (∀ k, v0.ownBlock = some k → base ≤ k) ∧ w.heap.size ≤ (setBlock w6 mb o2).heap.size ∧ (setBlock w6 mb o2).os = w.os ∧ (setBlock w6 mb o2).tape = w.tape ∧ (setBlock w6 mb o2).output = w.output := by
 obtain ⟨l, hl⟩ := hk
 have hmb := h.mbb
 have hml := h.map.lt
 obtain ⟨v0, st, o1, hrun, hb1, hmem, hst⟩ := h.map.entry stamp_law Tryz.underlying107 (z := .slice none 0 0) zero_sl hl
 have hm : (s, v0) ∈ ent ∨ (v0 = .slice none 0 0 ∧ ∀ p ∈ ent, p.1 ≠ s) := by
  rcases hmem with h1 | ⟨h1, h2⟩
  · obtain ⟨p, hp, e⟩ := List.mem_map.1 h1
    simp only [Prod.mk.injEq] at e
    left
    have e1 := stamp_agg e.1
    rw [← e1, ← e.2]
    exact hp
  · right
    refine ⟨h2, fun p hp e => h1 (p.1.agg, p.2) (List.mem_map.2 ⟨p, hp, rfl⟩) (by rw [e])⟩
 have hown : OwnCs w base v0 (L s) := by
  rcases hm with hm | ⟨rfl, hm⟩
  · exact h.own _ hm
  · rw [h.out s hm]; exact OwnCs.nil _ _
 have hge := hown.ge
 refine ⟨v0, st, o1, hrun, hown.keep fun b hb => sb_ne (by have := hge b hb; omega), fun w6 v' ho hg hat => ?_⟩
 have hmb6 : w6.heap[mb]? = some o1 := (hg.block mb (by rw [sb_size]; omega) (fun e => by have := hge mb e.symm; omega)).trans hb1
 obtain ⟨o2, hrun2, hhit, hmiss⟩ := hst w6 v' hmb6
 have hsz6 : w.heap.size ≤ w6.heap.size := by have := hg.size; rwa [sb_size] at this
 have hk6 : ∀ k, k < w.heap.size → k ≠ mb → some k ≠ v0.ownBlock → (setBlock w6 mb o2).heap[k]? = w.heap[k]? := fun k h1 h2 h3 => (sb_ne h2).trans ((hg.block k (by rw [sb_size]; omega) h3).trans (sb_ne h2))
 have ho7 : OwnCs (setBlock w6 mb o2) base v' (L s ++ [c]) := ho.keep fun b hb => sb_ne (by have := ho.ge b hb; omega)
 have hat' : v'.ownBlock = v0.ownBlock ∨ ∃ b, v'.ownBlock = some b ∧ w.heap.size ≤ b := by
  rcases hat with e | e
  · exact Or.inl e
  · exact Or.inr ⟨_, e, by rw [sb_size]; exact Nat.le_refl _⟩
 have hs7 : w.heap.size ≤ (setBlock w6 mb o2).heap.size := by rw [sb_size]; exact hsz6
 refine ⟨o2, hrun2, ?_, hk6, hge, hs7, hg.os, hg.tape, hg.output⟩
 rcases hm with hm1 | ⟨rfl, hm1⟩
 · obtain ⟨eu, er, he⟩ := List.append_of_mem hm1
   subst he
   have hn := h.map.nodup
   rw [List.map_map, List.map_append, List.map_cons, List.nodup_append, List.nodup_cons] at hn
   have hu : ∀ p ∈ eu, p.1 ≠ s := fun p hp e => hn.2.2 p.1.agg (List.mem_map.2 ⟨p, hp, rfl⟩) s.agg (by simp) (by rw [e])
   have hr : ∀ p ∈ er, p.1 ≠ s := fun p hp e => hn.2.1.1 (List.mem_map.2 ⟨p, hp, by simp [e]⟩)
   refine ⟨eu ++ (s, v') :: er, h.add (v := v0) (v' := v') (Or.inl hm1) ho7 (by simp) ?_ (fun p => ?_) hk6 hat' hs7⟩
   · have := hhit (eu.map fun p => (p.1.agg, p.2)) (er.map fun p => (p.1.agg, p.2)) (by simp)
     simpa using this
   · simp only [List.mem_append, List.mem_cons]
     constructor
     · rintro (h1 | rfl | h1)
       · exact Or.inr ⟨Or.inl h1, hu p h1⟩
       · exact Or.inl rfl
       · exact Or.inr ⟨Or.inr (Or.inr h1), hr p h1⟩
     · rintro (rfl | ⟨h1 | rfl | h1, h2⟩)
       · exact Or.inr (Or.inl rfl)
       · exact Or.inl h1
       · exact absurd rfl h2
       · exact Or.inr (Or.inr h1)
 · refine ⟨ent ++ [(s, v')], h.add (v := .slice none 0 0) (v' := v') (Or.inr ⟨rfl, hm1⟩) ho7 (by simp) ?_ (fun p => ?_) hk6 hat' hs7⟩
   · have := hmiss fun p hp e => by
       obtain ⟨x, hx, rfl⟩ := List.mem_map.1 hp
       exact hm1 x hx (stamp_agg e)
     simpa using this
   · simp only [List.mem_append, List.mem_singleton]
     constructor
     · rintro (h1 | rfl)
       · exact Or.inr ⟨h1, hm1 p h1⟩
       · exact Or.inl rfl
     · rintro (rfl | ⟨h1, _⟩)
       · exact Or.inr rfl
       · exact Or.inl h1
end Go.Proofs.YtecnlfaholmpoaaGreat
set_option maxRecDepth 20000
set_option maxHeartbeats 4000000
namespace Go.Proofs.YtecnlfaholmpoaaGreat
open Go.RowKit
theorem wpList_mapEntry_run {P : Program} {ops : Array Oper} {rest : List Oper} {o : Oper} {a : Act} {w w' : World} {Q : Exit → Act → World → Prop} (hgd : o.guard = none) (t : TypeId) (m x : Operand) (hop : o.op = Op.mapEntry t m x) (v1 v2 r : Value) (hm : a.eval m = v1) (hx : a.eval x = v2)
 (hrun : (Instr.mapEntry t v1 v2).run P w = .ok r w') (h : wpList P ops Q rest (a.put o.dst r) w') : wpList P ops Q (o :: rest) a w := by
 refine wpList_plain hgd fun K hK => ?_
 unfold Oper.wp
 simp [execOp, hop, hm, hx, hrun, Result.andThen]
 exact hK _ _ h
theorem wpList_entryStore_run {P : Program} {ops : Array Oper} {rest : List Oper} {o : Oper} {a : Act} {w w' : World} {Q : Exit → Act → World → Prop} (hgd : o.guard = none) (t : TypeId) (m s x : Operand) (hop : o.op = Op.entryStore t m s x) (v1 v2 v3 : Value) (hm : a.eval m = v1) (hs : a.eval s = v2) (hx : a.eval x = v3)
 (hrun : (Instr.entryStore t v1 v2 v3).run P w = .ok () w') (h : wpList P ops Q rest (a.put o.dst undef) w') : wpList P ops Q (o :: rest) a w := by
 refine wpList_plain hgd fun K hK => ?_
 unfold Oper.wp
 simp [execOp, hop, hm, hs, hx, hrun, Result.andThen]
 exact hK _ _ h
theorem OwnCs.lower {w : World} {base base' : Nat} {v : Value} {l : List Clause} (h : OwnCs w base v l) (hb : base' ≤ base) : OwnCs w base' v l := by
 refine ⟨h.1, ?_⟩
 rcases h.2 with h | ⟨b, cap, cur, rfl, r2, r3⟩
 · exact .inl h
 · exact .inr ⟨b, cap, cur, rfl, by omega, r3⟩
structure Reading (w : World) (w0 : World) (pg : List Clause) (mb0 : Nat) (lc : List Clause) (left : List (Value × Value)) (ent : List (Stamp × Value)) (L : Stamp → List Clause) : Prop where
 it : KIter Tryz.prog 45 w mb0 (w0.heap.size + 2) (pg.map kvOf) left
 perm : (lc.map kvOf).Perm left
 kin : Kin w w0.heap.size (w0.heap.size + 3) w.heap.size ent L
 rows : ∀ s, (L s ++ lc.filter fun c => decide (c.after = s)).Perm (pg.filter fun c => decide (c.after = s))
 cbx : w.heap[w0.heap.size + 1]? = some (.cells #[.map (some w0.heap.size)] 107 (0, 0))
 bel : Below w0.heap.size w0 w
theorem Reading.start {wr w : World} {pg : List Clause} {mb0 : Nat} {left : List (Value × Value)} {ent : List (Stamp × Value)} {L : Stamp → List Clause} (h : Reading wr w pg mb0 [] left ent L) :
 WSt ((wr.alloc (.cells #[.slice none 0 0] 25)).alloc (.cells #[.func (.func 71) #[] #[.pointer (some ⟨w.heap.size + 1, 0, none⟩), .pointer (some ⟨wr.heap.size, 0, none⟩), .pointer (some ⟨wr.heap.size + 1, 0, none⟩)]] 108))
  pg (w.heap.size + 1) wr.heap.size (wr.heap.size + 1) w.heap.size (w.heap.size + 3) ent L [] (.slice none 0 0) := by
 refine ⟨h.kin.below fun k hk => ?_, fun s => by simpa using h.rows s, heap_old_at (by have := lt_of_heap h.cbx; simp; omega) (heap_old_at (lt_of_heap h.cbx) h.cbx), heap_old_at (by simp) (heap_new_at rfl), heap_new_at (by simp), OwnCs.nil _ _, by omega, by omega⟩
 exact (Below.heap_alloc _ _ _ (by simp; omega)).trans (Below.heap_alloc _ _ _ hk)
theorem list_any (pg : List Clause) (hp : PageOk pg) (hn : pg.length ≤ 10000) (pb mb0 : Nat) (w : World) (hpc : w.cell? ⟨pb, 0, none⟩ = some (.map (some mb0))) (hpl : pb < w.heap.size) (hm : CMap w mb0 pg) :
 Calls Tryz.prog 32 #[.pointer (some ⟨pb, 0, none⟩)] w fun e w' => ∃ v, e = .returned v ∧ OwnCs w' w.heap.size v (listP pg) ∧ Below w.heap.size w w' := by
 have hmm := @run_makeMap Tryz.prog
 have hba : Below w.heap.size w ((w.alloc (.map #[] 0)).alloc (.cells #[.map (some w.heap.size)] 107 (0, 0))) := ((Below.refl _ _).alloc (Nat.le_refl _) _).alloc (by simp) _
 obtain ⟨o, hr, hit⟩ := (hm.keep (hba.block _ hm.lt)).range (t := 100) (e := 51) Tryz.underlying100
 have HIT := Lib.hid hit; clear hit
 have HP := Lib.hid hp; clear hp
 have HM := Lib.hid hm; clear hm
 have HBA := Lib.hid hba; clear hba
 go_enter Tryz.func32, Tryz.ntmps32
 go_wp2_with fail
 have hit0 : KIter Tryz.prog 45 (((w.alloc (.map #[] 0)).alloc (.cells #[.map (some w.heap.size)] 107 (0, 0))).alloc o) mb0 (w.heap.size + 2) (pg.map kvOf) (pg.map kvOf) := by
  have := HIT.out
  rwa [show ((w.alloc (.map #[] 0)).alloc (.cells #[.map (some w.heap.size)] 107 (0, 0))).heap.size = w.heap.size + 2 by simp] at this
 have hrd0 : Reading (((w.alloc (.map #[] 0)).alloc (.cells #[.map (some w.heap.size)] 107 (0, 0))).alloc o) w pg mb0 pg (pg.map kvOf) [] (fun _ => []) := by
  refine ⟨hit0, List.Perm.refl _, ⟨?_, by simp, by simp, fun _ _ => rfl, by simp, by omega, by simp⟩, fun s => by simp, heap_old_at (by simp) (heap_new_at (by simp)), HBA.out.alloc (by simp; omega) _⟩
  exact (KMap.made (k := 45) (P := Tryz.prog) w 0).keep ((Below.heap_alloc _ _ _ (by simp; omega)).trans (Below.heap_alloc _ _ _ (by simp)))
 have HRD0 := Lib.hid hrd0; clear hrd0 hit0 hr HIT
 go_loopg [] (pg.length) (fun g wr => ∃ (lc : List Clause) (left : List (Value × Value)) (ent : List (Stamp × Value)) (L : Stamp → List Clause), Reading wr w pg mb0 lc left ent L ∧ lc.length ≤ g)
 case atStart => exact ⟨pg, _, _, _, HRD0.out, Nat.le_refl _⟩
 case round =>
  obtain ⟨lc, left, ent, L, hrd, hg⟩ := hrel
  rcases hrd.it.next 0 with ⟨hl, hrun⟩ | ⟨p, left', w1, o', hw1, hp2, hrun, hit', hent⟩
  · have HRD := Lib.hid hrd; clear hrd
    have HRUN := Lib.hid hrun; clear hrun
    go_wp2_with (at_next; refine wpList_next_run rfl (.tmp 15) rfl 0 rfl _ _ rfl HRUN.out ?_)
    have hlc : lc = [] := by have := HRD.out.perm; rw [hl] at this; simpa using this.eq_nil
    subst hlc
    have hpl2 := listP_top HP.out
    have hll : (listP pg).length = pg.length := (listP_perm HP.out).length_eq
    refine (lwalk_any pg HP.out (by omega) (pg.length + 1) noStamp _ (w.heap.size + 1) wr.heap.size (wr.heap.size + 1) w.heap.size (w.heap.size + 3) ent L [] (.slice none 0 0) (by have := above_le pg noStamp; omega) noStamp_key (by rw [hpl2, hll]; simp; omega) HRD.out.start).mono ?_
    rintro e w4 ⟨rfl, L4, v4, hst4, hL4, hb4⟩
    rw [hpl2, List.nil_append] at hst4
    have c4 : w4.cell? ⟨wr.heap.size, 0, none⟩ = some v4 := (cell_of_row _ _ _ _ _ _ hst4.obx).trans rfl
    have hown := hst4.own
    have hbw : Below w.heap.size w w4 := by
     have h1 := HRD.out.bel
     have h2 : Below w.heap.size w ((wr.alloc (.cells #[.slice none 0 0] 25)).alloc (.cells #[.func (.func 71) #[] #[.pointer (some ⟨w.heap.size + 1, 0, none⟩), .pointer (some ⟨wr.heap.size, 0, none⟩), .pointer (some ⟨wr.heap.size + 1, 0, none⟩)]] 108)) := (h1.alloc h1.size _).alloc (by have := h1.size; simp; omega) _
     exact h2.trans (hb4.mono (by omega))
    have hsz := HRD.out.bel.size
    have HB4 := Lib.hid hbw; clear hbw hb4
    have HO4 := Lib.hid hown; clear hown hst4
    clear HRUN hl hpl2
    go_wp2_with fail
    go_ret
    exact ⟨_, rfl, HO4.out.lower (by omega), HB4.out⟩
  · obtain ⟨c, l', hlc, rfl, hr'⟩ := perm_one (hrd.perm.trans hp2)
    have he := hent _ rfl rfl
    have hw1h : w1.heap = wr.heap := by rcases hw1 with rfl | rfl <;> rfl
    have hsw : w1.heap.size = wr.heap.size := by rw [hw1h]
    have hlen := hlc.length_eq
    obtain ⟨w2, hw2⟩ : ∃ X, X = Go.ChangeMaps.setBlock w1 (w.heap.size + 2) o' := ⟨_, rfl⟩
    rw [← hw2] at hrun hit' he
    have hk2 : ∀ k, k ≠ w.heap.size + 2 → w2.heap[k]? = wr.heap[k]? := fun k hk => by rw [hw2, sb_ne hk, hw1h]
    have hs2 : w2.heap.size = wr.heap.size := by rw [hw2, sb_size, hsw]
    have hb2 : Below w.heap.size w w2 := by rw [hw2]; exact below_setBlock hrd.bel hw1 (by omega)
    obtain ⟨w4, hw4⟩ : ∃ X, X = (w2.alloc (.cells (claCs c) 51)).alloc (.cells (claCs c) 51) := ⟨_, rfl⟩
    have hb24 : Below w2.heap.size w2 w4 := by rw [hw4]; exact ((Below.refl _ _).alloc (Nat.le_refl _) _).alloc (by simp) _
    have hs4 : w4.heap.size = w2.heap.size + 1 + 1 := by rw [hw4]; simp
    have hcbl := lt_of_heap hrd.cbx
    have hkin4 : Kin w4 w.heap.size (w.heap.size + 3) w4.heap.size ent L := hrd.kin.keep2 (by omega) ((hb24.block _ (by omega)).trans (hk2 _ (by omega))) fun k h1 h2 => (hb24.block _ (by omega)).trans (hk2 _ (by omega))
    have hcm : c ∈ pg := (List.mem_filter.1 ((hrd.rows c.after).mem_iff.1 (by
     refine List.mem_append.2 (Or.inr (List.mem_filter.2 ⟨hlc.mem_iff.2 (by simp), by simp⟩))))).1
    have hkey : ∃ l, keyOf Tryz.prog 45 c.after.agg = some l := by
     have h := HP.out.prop c hcm
     unfold Clause.proper at h
     simp only [Bool.and_eq_true, Bool.or_eq_true, decide_eq_true_eq] at h
     rcases h.2 with h | h
     · rw [h]; exact noStamp_key
     · exact properS_key h.1
    have hLl : (L c.after).length ≤ 10000 := by
     have h := (hrd.rows c.after).length_eq
     have h2 := List.length_filter_le (fun x : Clause => decide (x.after = c.after)) pg
     simp only [List.length_append] at h
     omega
    obtain ⟨v0, st, o1, hme, ho5, hcont⟩ := hkin4.put hkey c
    have hbx4 : w4.heap[w2.heap.size + 1]? = some (.cells (claCs c) 51 (0, 0)) := by rw [hw4]; exact heap_new_at (by simp)
    have hg5 : (Go.ChangeMaps.setBlock w4 w.heap.size o1).heap[w2.heap.size + 1]? = some (.cells (claCs c) 51 (0, 0)) := (sb_ne (by omega)).trans hbx4
    have hs5 : w.heap.size + 3 ≤ (Go.ChangeMaps.setBlock w4 w.heap.size o1).heap.size := by have := hrd.kin.bl; rw [sb_size]; omega
    have hcb2 : w2.cell? ⟨w.heap.size + 1, 0, none⟩ = some (.map (some w.heap.size)) := (cell_of_row _ _ _ _ _ _ ((hk2 _ (by omega)).trans hrd.cbx)).trans rfl
    have hlt2 : w.heap.size + 1 < w2.heap.size := by omega
    obtain ⟨w5, hw5⟩ : ∃ X, X = Go.ChangeMaps.setBlock w4 w.heap.size o1 := ⟨_, rfl⟩
    rw [← hw5] at hme ho5 hg5 hs5 hcont
    have HME := Lib.hid (hw4 ▸ hme); clear hme
    have HO5 := Lib.hid ho5; clear ho5
    have HG5 := Lib.hid hg5; clear hg5
    have HCONT := Lib.hid hcont; clear hcont
    have HRD := Lib.hid hrd; clear hrd
    have HRUN := Lib.hid hrun; clear hrun
    have HE := Lib.hid he; clear he
    have HIT2 := Lib.hid hit'; clear hit'
    have HK2 := Lib.hid hk2; clear hk2
    have HB2 := Lib.hid hb2; clear hb2
    have HB24 := Lib.hid hb24; clear hb24
    have HLC := Lib.hid hlc; clear hlc
    have HPR := Lib.hid hr'; clear hr'
    have HS5 := Lib.hid hs5; clear hs5
    have HS4 := Lib.hid hs4; clear hs4
    have HS2 := Lib.hid hs2; clear hs2
    have HLEN := Lib.hid hlen; clear hlen
    clear hw4 hw5 hw2 hbx4 hw1h hsw hent hp2 hw1 hkey hcm
    obtain ⟨ci, ca, cp, cg⟩ := c
    go_wp2_with (at_next; refine wpList_next_run rfl (.tmp 15) rfl 0 rfl _ _ rfl HRUN.out ?_)
    rw [HE.out]
    simp only [Oper.upon, Result.andThen]
    go_wp2_with (first | (refine wpList_mapEntry_run rfl 107 (.tmp 20) (.tmp 22) rfl (.map (some w.heap.size)) (Stamp.agg ca) _ rfl rfl HME.out ?_) | (at_builtin; refine wpList_append_cla1 rfl (.tmp 23) (.tmp 25) rfl rfl (w.heap.size + 3) v0 (L ca) ⟨ci, ca, cp, cg⟩ (w2.heap.size + 1) 1 rfl rfl HO5.out HG5.out (by omega) HS5.out ?_; intro v' w6 ho6 hg6 hat6; obtain ⟨o2, hes, hkin7, hk7, hge7, hs7, hos7⟩ := HCONT.out w6 v' ho6 hg6 hat6; have HES := Lib.hid hes; clear hes; have HF := Lib.hid (And.intro hkin7 (And.intro hk7 (And.intro hge7 (And.intro hs7 hos7)))); clear hkin7 hk7 hge7 hs7 hos7 ho6 hg6 hat6) | (refine wpList_entryStore_run rfl 107 (.tmp 20) (.tmp 28) (.tmp 27) rfl (.map (some w.heap.size)) (.int .i64 st) v' rfl rfl rfl HES.out ?_))
    obtain ⟨⟨ent', hkin7⟩, hk7, hge7, hs7, hos7, hta7, hou7⟩ := HF.out
    obtain ⟨w7, hw7⟩ : ∃ X, X = Go.ChangeMaps.setBlock w6 w.heap.size o2 := ⟨_, rfl⟩
    rw [← hw7] at hkin7 hk7 hs7 hos7 hta7 hou7 ⊢
    have z4 := HS4.out
    have z2 := HS2.out
    have hm0 := HM.out.lt
    have hb24 := HB24.out
    have hk : ∀ k, k < w2.heap.size → k < w.heap.size + 3 → k ≠ w.heap.size → w7.heap[k]? = w2.heap[k]? := fun k h1 h2 h3 => (hk7 k (by omega) h3 (fun e => by have := hge7 k e.symm; omega)).trans (hb24.block k h1)
    have hlt := HIT2.out.lt
    have hit7 := HIT2.out.keep (hk mb0 hlt.1 (by omega) (by omega)) (hk _ hlt.2.1 (by omega) (by omega))
    have hb2 := HB2.out
    have hbel7 : Below w.heap.size w w7 := ⟨hos7.trans (hb24.os.trans hb2.os), hta7.trans (hb24.tape.trans hb2.tape), hou7.trans (hb24.output.trans hb2.output), by have := hb2.size; omega, fun k h1 => (hk k (by omega) (by omega) (by omega)).trans (hb2.block k h1)⟩
    have hcb7 := (hk (w.heap.size + 1) (by omega) (by omega) (by omega)).trans ((HK2.out _ (by omega)).trans HRD.out.cbx)
    have hl := HLEN.out
    simp only [List.length_cons] at hl
    go_roundg (l'.length)
    case measure => omega
    case rel => exact ⟨l', left', ent', _, ⟨hit7, HPR.out.symm, hkin7, fun s => by
     have := rest_perm HRD.out.rows HLC.out s
     unfold setL
     split
     · rename_i e
       rw [if_pos e] at this
       exact this
     · rename_i e
       rw [if_neg e] at this
       exact this, hcb7, hbel7⟩, Nat.le_refl _⟩
end Go.Proofs.YtecnlfaholmpoaaGreat
namespace Go.Proofs.YtecnlfaholmpoaaGreat
open Go.RowKit
theorem new_any (w : World) : Calls Tryz.prog 30 #[] w fun e w' => e = .returned (.pointer (some ⟨w.heap.size + 1, 0, none⟩)) ∧ w'.cell? ⟨w.heap.size + 1, 0, none⟩ = some (.map (some w.heap.size)) ∧ CMap w' w.heap.size [] ∧ w.heap.size + 1 < w'.heap.size ∧ Below w.heap.size w w' := by
 have hmm := @run_makeMap Tryz.prog
 go_enter Tryz.func30, Tryz.ntmps30
 go_wp2_with fail
 go_ret
 refine ⟨rfl, by simp [go_sem], ?_, by simp, ((Below.refl _ _).alloc (Nat.le_refl _) _).alloc (by simp) _⟩
 exact (KMap.made (k := 45) (P := Tryz.prog) w 0).keep (Below.heap_alloc _ _ _ (by simp))
end Go.Proofs.YtecnlfaholmpoaaGreat
