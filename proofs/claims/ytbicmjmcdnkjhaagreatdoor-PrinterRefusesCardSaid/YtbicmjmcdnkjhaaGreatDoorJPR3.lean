/- The law PrinterRefuses: its tail. -/
import Derived.Test.YtbicmjmcdnkjhaaGreatDoorJPR1
import Derived.Test.YtbicmjmcdnkjhaaGreatDoorJP18
import Derived.Test.YtbicmjmcdnkjhaaGreatDoorJPR2
import Derived.Test.YtbicmjmcdnkjhaaGreatDoorJP40
import Derived.Deep.CutRange
set_option linter.unusedVariables false
set_option linter.unusedSimpArgs false
namespace Go.Proofs.YtbicmjmcdnkjhaaGreatDoor
open Go.RowKit
attribute [local go_sem ↓] Go.wp_at_zero Go.wp_at_succ
theorem lit_io {l : List Value} (h : l.length = 23) (h1 : allOne l = true) : (∀ W b D t, D.size = 23 → rowStore W b l.toArray (some (.cells D t (0, 0))) = .ok () (W.setRow b l.toArray)) ∧ (∀ W b t fr, rowLoadP W b (some (.cells l.toArray t fr)) = .ok (.agg l.toArray) W) :=
  ⟨fun W b D t hD => rowStore_cells W b l D t hD (by rw [List.size_toArray, h]) h1, fun W b t fr => rowLoadP_cells W b l t fr (by rw [List.size_toArray, h])⟩
noncomputable def rtail : Code := (Tryz.f6.body.bind (fromReg 19)).getD .skip
theorem own_obj {w : World} {base : Nat} {v : Value} {L : List Bytes} (h : OwnS w base v L) (hne : L ≠ []) : ∃ g cap n O, v = .slice (some ⟨g, 0, none⟩) n cap ∧ n = L.length ∧ n ≤ cap ∧ base ≤ g ∧ w.heap[g]? = some O ∧ ∀ w' : World, w'.heap[g]? = some O → RdS w' (some ⟨g, 0, none⟩) L := by
  obtain ⟨A, cap, rfl, h1, h2, h3⟩ := h.form
  obtain ⟨b, o, rfl, hb, -⟩ := id h2 hne
  have ho : o = 0 := by
    rcases h.2 with ⟨e, -⟩ | ⟨g, cap', cur, e, -⟩
    · simp at e
    · simp at e; exact e.1.2
  subst ho
  refine ⟨b, cap, _, w.heap[b], rfl, rfl, h1, (h3 b 0 rfl).1, by rw [Array.getElem?_eq_getElem hb], fun w' hw => ?_⟩
  have hlt := lt_of_heap' hw
  obtain ⟨b', o', e, hb', hc⟩ := h2 hne
  cases e
  intro _
  exact ⟨b, 0, rfl, hlt, fun k x hx j u hu => (cell_of_heap (by rw [hw, Array.getElem?_eq_getElem hb]) _).trans (hc k x hx j u hu)⟩
theorem rds_two (w : World) (s u : Bytes) (g : Nat) (hg : g = w.heap.size) : RdS (w.alloc (.cells #[vs s, vs u] 9)) (some ⟨g, 0, none⟩) [s, u] := by
  subst hg
  intro _
  refine ⟨_, 0, rfl, by simp, fun k x hx j y hy => ?_⟩
  cases j with
  | succ j => simp at hy
  | zero =>
    simp at hy
    subst hy
    refine cell_of_blk (heap_alloc_new w _) ?_
    match k, hx with
    | 0, hx => simp at hx; subst hx; rfl
    | 1, hx => simp at hx; subst hx; rfl
    | k + 2, hx => simp at hx
theorem own_rows {w : World} {base : Nat} {v : Value} {Ls : List (List Value)} (h : OwnPs w base v Ls) (hne : Ls ≠ []) (hl : ∀ r ∈ Ls, r.length = 23) : ∃ vb cv m, v = .slice (some ⟨vb, 0, none⟩) m cv ∧ m = Ls.length ∧ vb < w.heap.size ∧ ∀ (k : Nat) r, Ls[k]? = some r → ∀ (j : Nat) x, r[j]? = some x → w.cell? ⟨vb, k * 23 + j, none⟩ = some x := by
  have hc := fun g hg => h.cells (g := g) hg
  rcases h.2 with ⟨-, h0⟩ | ⟨g, cap, cur, rfl, -, hg, -⟩
  · exact absurd (List.length_eq_zero_iff.1 h0) hne
  · refine ⟨g, cap, _, rfl, rfl, lt_of_heap' hg, fun k r hk j x hx => ?_⟩
    have := hc g rfl _ _ (flatten_at hl hk hx)
    rwa [Addr.add_lit, Nat.zero_add] at this
theorem rdpx_lit {w : World} {cs : List Value} {p : ProvI} (h : RdPX w cs p) (A : Option Addr) (n c : Nat) (L : List Bytes) (hn : n = L.length) (hc : n ≤ c) (hr : RdS w A L) : RdPX w (cs.set 10 (.slice A n c)) { p with exc := L } := by
  obtain ⟨id, rank, kind, name, value, ⟨o3, n3, c3, m3, k3⟩, exc, ⟨o5, n5, c5, m5, k5⟩, ⟨o6, n6, c6, m6, k6⟩, ⟨o7, n7, c7, m7, k7⟩⟩ := p
  obtain ⟨cc, A0, cap, cb, cf, ca, rfl, -, ⟨A3, q3, rfl, a3⟩, -, ⟨A5, q5, rfl, a5⟩, ⟨A6, q6, rfl, a6⟩, ⟨A7, q7, rfl, a7⟩⟩ := h
  subst hn
  exact ⟨_, A, c, _, _, _, rfl, hc, ⟨A3, q3, rfl, a3⟩, hr, ⟨A5, q5, rfl, a5⟩, ⟨A6, q6, rfl, a6⟩, ⟨A7, q7, rfl, a7⟩⟩
/- small enough to be looked at -/
structure BadSz (p : ProvI) : Prop where
  cond : p.cond.size ≤ 300
  beg : p.beg.size ≤ 300
  fin : p.fin.size ≤ 300
  aga : p.aga.size ≤ 300
  exc : p.exc.length ≤ 30
  short : ∀ s ∈ p.exc, s.length ≤ 10000
theorem bad_exc {w : World} {cs : List Value} {p : ProvI} (h : RdPX w cs p) (hs : BadSz p) (A : Option Addr) (n c : Nat) (hn : n = (([] : List Bytes) ++ p.exc ++ [[97], [97]]).length) (hc : n ≤ c) (hr : RdS w A ([] ++ p.exc ++ [[97], [97]])) : RowBad w (cs.set 10 (.slice A n c)) := by
  have hl := hs.exc
  refine ⟨_, rdpx_lit h A n c _ hn hc hr, refuses_exc [97] p.exc (by simp), Nat.le_trans hs.cond (by decide), Nat.le_trans hs.beg (by decide), Nat.le_trans hs.fin (by decide), Nat.le_trans hs.aga (by decide), by simp; omega, fun s hm => ?_⟩
  simp only [List.nil_append, List.mem_append, List.mem_cons, List.not_mem_nil, or_false] at hm
  rcases hm with hm | rfl | rfl
  · exact hs.short s hm
  · decide
  · decide
theorem bad_fin {w : World} {cs : List Value} {p : ProvI} (h : RdPX w cs p) (hs : BadSz p) (g : Nat) (hg : w.heap[g]? = some (.cells #[.int .i64 2, vs [], .int .i64 0, .slice none 0 0] 28 (0, 0))) : RowBad w ((((cs.set 15 (.int .i64 8)).set 16 (vs [])).set 17 (.int .i64 0)).set 18 (.slice (some ⟨g, 0, none⟩) 1 1)) := by
  obtain ⟨s1, s2, s3, s4, s5, s6⟩ := hs
  obtain ⟨id, rank, kind, name, value, ⟨o3, n3, c3, m3, k3⟩, exc, ⟨o5, n5, c5, m5, k5⟩, ⟨o6, n6, c6, m6, k6⟩, ⟨o7, n7, c7, m7, k7⟩⟩ := p
  obtain ⟨cc, A0, cap, cb, cf, ca, rfl, h0, ⟨A3, q3, rfl, a3⟩, hx, ⟨A5, q5, rfl, a5⟩, ⟨A6, q6, rfl, a6⟩, ⟨A7, q7, rfl, a7⟩⟩ := h
  have h5 : RdX false w (tcX false 8 [] 0 0 (.slice (some ⟨g, 0, none⟩) 1 1)) (.mk 8 [] 0 0 [.mk 2 [] 0 0 []]) := ⟨_, 1, rfl, Nat.le_refl _, Or.inr ⟨g, 0, rfl, lt_of_heap' hg, rdxs_one (cs := tcX false 2 [] 0 0 (.slice none 0 0)) hg (rdx_leaf _ _ _ _ _ _ (fun _ => rfl))⟩⟩
  simp only at s1 s2 s3 s4 s5 s6
  exact ⟨⟨id, rank, kind, name, value, .mk o3 n3 c3 m3 k3, exc, .mk o5 n5 c5 m5 k5, .mk 8 [] 0 0 [.mk 2 [] 0 0 []], .mk o7 n7 c7 m7 k7⟩, ⟨_, A0, cap, _, _, _, rfl, h0, ⟨A3, q3, rfl, a3⟩, hx, ⟨A5, q5, rfl, a5⟩, h5, ⟨A7, q7, rfl, a7⟩⟩, refuses_fin _ rfl, Nat.le_trans s1 (by decide), Nat.le_trans s2 (by decide), (by simp [TreeI.size, sizesI]), Nat.le_trans s4 (by decide), Nat.le_trans s5 (by decide), s6⟩
theorem bad_cond {w : World} {cs cc : List Value} {p : ProvI} (h : RdPX w cs p) (hs : BadSz p) (g : Nat) (hcc : RdX true w cc p.cond) (hg : w.heap[g]? = some (.cells (cc ++ cc).toArray 24 (0, 0))) : RowBad w (((((cs.set 5 (.int .i64 5)).set 6 (vs [])).set 7 (.int .i64 0)).set 8 (.int .i64 0)).set 9 (.slice (some ⟨g, 0, none⟩) 2 2)) := by
  obtain ⟨s1, s2, s3, s4, s5, s6⟩ := hs
  have h5 : RdX true w (tcX true 5 [] 0 0 (.slice (some ⟨g, 0, none⟩) 2 2)) (.mk 5 [] 0 0 [p.cond, p.cond]) := ⟨_, 2, rfl, Nat.le_refl _, Or.inr ⟨g, 0, rfl, lt_of_heap' hg, rdxs_two hg hcc hcc⟩⟩
  obtain ⟨id, rank, kind, name, value, ⟨o3, n3, c3, m3, k3⟩, exc, ⟨o5, n5, c5, m5, k5⟩, ⟨o6, n6, c6, m6, k6⟩, ⟨o7, n7, c7, m7, k7⟩⟩ := p
  obtain ⟨c0, A0, cap, cb, cf, ca, rfl, h0, ⟨A3, q3, rfl, a3⟩, hx, ⟨A5, q5, rfl, a5⟩, ⟨A6, q6, rfl, a6⟩, ⟨A7, q7, rfl, a7⟩⟩ := h
  simp only at s1 s2 s3 s4 s5 s6
  exact ⟨⟨id, rank, kind, name, value, .mk 5 [] 0 0 [.mk o3 n3 c3 m3 k3, .mk o3 n3 c3 m3 k3], exc, .mk o5 n5 c5 m5 k5, .mk o6 n6 c6 m6 k6, .mk o7 n7 c7 m7 k7⟩, ⟨_, A0, cap, _, _, _, rfl, h0, h5, hx, ⟨A5, q5, rfl, a5⟩, ⟨A6, q6, rfl, a6⟩, ⟨A7, q7, rfl, a7⟩⟩, refuses_cond _ _ rfl, (by simp only [TreeI.size, sizesI] at s1 ⊢; omega), Nat.le_trans s2 (by decide), Nat.le_trans s3 (by decide), Nat.le_trans s4 (by decide), Nat.le_trans s5 (by decide), s6⟩
theorem below_own {w wx w' : World} {row : Option Nat} (hb : Below w.heap.size w wx) (hg : wx.grownBy w' row) (hr : ∀ b, row = some b → w.heap.size ≤ b) : Below w.heap.size w w' :=
  hb.trans ⟨hg.os, hg.tape, hg.output, hg.size, fun k hk => hg.block k (Nat.lt_of_lt_of_le hk hb.size) (fun e => by have := hr k e.symm; omega)⟩
theorem own0 (w : World) (base g : Nat) (hg : g = w.heap.size) (hb : base ≤ w.heap.size) : OwnS (w.alloc (.cells #[] 9)) base (.slice (some ⟨g, 0, none⟩) 0 0) [] := by
  subst hg
  exact World.ownsRow_lit w #[] 0 hb (Nat.zero_le _) rfl
set_option maxRecDepth 100000
set_option maxHeartbeats 4000000 in
theorem refu_tail (Q : Exit → Act → World → Prop) (w w3 : World) (id : Bytes) (rank kind : Int) (name : Bytes) (value : Int) (exc : List Bytes) (A : Option Addr) (cap : Nat)
    (oC dC mC oB dB mB oD dD mD oG dG mG : Int) (nC nB nD nG : Bytes) (ksC ksB ksD ksG : List TreeI) (KC KB KD KG : Option Addr) (qC qB qD qG : Nat) (n : Int) (v3 : Value) (qb : Nat) (D3 : List Value) (L3 : List (List Value))
    (hr : RdPX w [vs id, .int .i64 rank, .int .i64 kind, vs name, .int .i64 value, .int .i64 oC, vs nC, .int .i64 dC, .int .i64 mC, .slice KC ksC.length qC, .slice A exc.length cap, .int .i64 oB, vs nB, .int .i64 mB, .slice KB ksB.length qB, .int .i64 oD, vs nD, .int .i64 mD, .slice KD ksD.length qD, .int .i64 oG, vs nG, .int .i64 mG, .slice KG ksG.length qG] ⟨id, rank, kind, name, value, .mk oC nC dC mC ksC, exc, .mk oB nB dB mB ksB, .mk oD nD dD mD ksD, .mk oG nG dG mG ksG⟩) (hcc : RdX true w [.int .i64 oC, vs nC, .int .i64 dC, .int .i64 mC, .slice KC ksC.length qC] (.mk oC nC dC mC ksC)) (hex : RdS w A exc) (hcap : exc.length ≤ cap) (hsz : BadSz ⟨id, rank, kind, name, value, .mk oC nC dC mC ksC, exc, .mk oB nB dB mB ksB, .mk oD nD dD mD ksD, .mk oG nG dG mG ksG⟩) (hS : RSt w w3 qb [vs id, .int .i64 rank, .int .i64 kind, vs name, .int .i64 value, .int .i64 oC, vs nC, .int .i64 dC, .int .i64 mC, .slice KC ksC.length qC, .slice A exc.length cap, .int .i64 oB, vs nB, .int .i64 mB, .slice KB ksB.length qB, .int .i64 oD, vs nD, .int .i64 mD, .slice KD ksD.length qD, .int .i64 oG, vs nG, .int .i64 mG, .slice KG ksG.length qG] D3 v3 L3 []) (hl : L3.length ≤ 3) (hb : ∀ r ∈ L3, RowBad w r)
    (u0 u3 u4 u6 u7 u8 u9 u12 u13 u14 u15 u16 u17 u18 u19 u20 u21 u22 u23 u24 u25 u26 u27 u28 u29 u30 u31 u32 u33 u34 u35 u36 u37 u38 u39 u40 u41 u42 u43 u44 u45 u46 u47 u48 u49 u50 u51 u52 u53 u54 u55 u56 u57 u58 u59 u60 u61 u62 u63 u64 u65 u66 u67 u68 u69 u70 u71 u72 u73 u74 u75 u76 u77 u78 u79 u80 u81 u82 u83 u84 u85 u86 u87 u88 u89 u90 u91 u92 u93 u94 u95 u96 u97 u98 u99 u100 u101 u102 u103 u104 u105 u106 u107 u108 u109 u110 u111 u112 u113 u114 u115 u116 u117 u118 u119 u120 u121 u122 u123 u124 u125 u126 u127 u128 u129 u130 u131 : Value)
    (hend : ∀ (y6 y7 y8 y9 y10 y12 y13 y14 y15 y16 y17 y18 y19 y20 y21 y22 y23 y24 y25 y26 y27 y28 y29 y30 y31 y32 y33 y34 y35 y36 y37 y38 y39 y40 y41 y42 y43 y44 y45 y46 y47 y48 y49 y50 y51 y52 y53 y54 y55 y56 y57 y58 y59 y60 y61 y62 y63 y64 y65 y66 y67 y68 y69 y70 y71 y72 y73 y74 y75 y76 y77 y78 y79 y80 y81 y82 y83 y84 y85 y86 y87 y88 y89 y90 y91 y92 y93 y94 y95 y96 y97 y98 y99 y100 y101 y102 y103 y104 y105 y106 y107 y108 y109 y110 y111 y112 y113 y114 y115 y116 y117 y118 y119 y120 y121 y122 y123 y124 y125 y126 y127 y128 y129 y130 y131 : Value) (w' : World), Below w.heap.size w w' → Q .ret ⟨#[u0, .int .i64 n, .pointer (some ⟨w.heap.size, 0, none⟩), u3, .bool true, .bool true, y6, y7, y8, y9, y10, .pointer (some ⟨qb, 0, none⟩), y12, y13, y14, y15, y16, y17, y18, y19, y20, y21, y22, y23, y24, y25, y26, y27, y28, y29, y30, y31, y32, y33, y34, y35, y36, y37, y38, y39, y40, y41, y42, y43, y44, y45, y46, y47, y48, y49, y50, y51, y52, y53, y54, y55, y56, y57, y58, y59, y60, y61, y62, y63, y64, y65, y66, y67, y68, y69, y70, y71, y72, y73, y74, y75, y76, y77, y78, y79, y80, y81, y82, y83, y84, y85, y86, y87, y88, y89, y90, y91, y92, y93, y94, y95, y96, y97, y98, y99, y100, y101, y102, y103, y104, y105, y106, y107, y108, y109, y110, y111, y112, y113, y114, y115, y116, y117, y118, y119, y120, y121, y122, y123, y124, y125, y126, y127, y128, y129, y130, y131], []⟩ w') :
    Code.wp Tryz.prog rtail Q ⟨#[u0, .int .i64 n, .pointer (some ⟨w.heap.size, 0, none⟩), u3, u4, .bool true, u6, u7, u8, u9, v3, .pointer (some ⟨qb, 0, none⟩), u12, u13, u14, u15, u16, u17, u18, u19, u20, u21, u22, u23, u24, u25, u26, u27, u28, u29, u30, u31, u32, u33, u34, u35, u36, u37, u38, u39, u40, u41, u42, u43, u44, u45, u46, u47, u48, u49, u50, u51, u52, u53, u54, u55, u56, u57, u58, u59, u60, u61, u62, u63, u64, u65, u66, u67, u68, u69, u70, u71, u72, u73, u74, u75, u76, u77, u78, u79, u80, u81, u82, u83, u84, u85, u86, u87, u88, u89, u90, u91, u92, u93, u94, u95, u96, u97, u98, u99, u100, u101, u102, u103, u104, u105, u106, u107, u108, u109, u110, u111, u112, u113, u114, u115, u116, u117, u118, u119, u120, u121, u122, u123, u124, u125, u126, u127, u128, u129, u130, u131], []⟩ w3 := by
  have HE := Lib.hid hend
  have HR := Lib.hid hr
  have HCC := Lib.hid hcc
  have HEX := Lib.hid hex
  have HSZ := Lib.hid hsz
  have HS3 := Lib.hid hS
  have HL3 := Lib.hid hl
  have HLB := Lib.hid hb
  have hxl : exc.length ≤ 30 := hsz.exc
  have k1 := hS.pblk
  have k2 := hS.qblk
  have l1 := hS.plt
  have l2 := hS.qlt
  have l3 := hS.qlo
  have hd3 := hS.qlen
  obtain ⟨st1, ld1⟩ := lit_io (l := [vs id, .int .i64 rank, .int .i64 kind, vs name, .int .i64 value, .int .i64 oC, vs nC, .int .i64 dC, .int .i64 mC, .slice KC ksC.length qC, .slice A exc.length cap, .int .i64 oB, vs nB, .int .i64 mB, .slice KB ksB.length qB, .int .i64 oD, vs nD, .int .i64 mD, .slice KD ksD.length qD, .int .i64 oG, vs nG, .int .i64 mG, .slice KG ksG.length qG]) rfl rfl
  clear hend hr hcc hex hsz hS hl hb
  conv => arg 2; whnf
  go_upto_region 20 with fail
  have HQ4 : Hid (RSt w (w3.setRow qb #[vs id, .int .i64 rank, .int .i64 kind, vs name, .int .i64 value, .int .i64 oC, vs nC, .int .i64 dC, .int .i64 mC, .slice KC ksC.length qC, .slice A exc.length cap, .int .i64 oB, vs nB, .int .i64 mB, .slice KB ksB.length qB, .int .i64 oD, vs nD, .int .i64 mD, .slice KD ksD.length qD, .int .i64 oG, vs nG, .int .i64 mG, .slice KG ksG.length qG]) qb [vs id, .int .i64 rank, .int .i64 kind, vs name, .int .i64 value, .int .i64 oC, vs nC, .int .i64 dC, .int .i64 mC, .slice KC ksC.length qC, .slice A exc.length cap, .int .i64 oB, vs nB, .int .i64 mB, .slice KB ksB.length qB, .int .i64 oD, vs nD, .int .i64 mD, .slice KD ksD.length qD, .int .i64 oG, vs nG, .int .i64 mG, .slice KG ksG.length qG] [vs id, .int .i64 rank, .int .i64 kind, vs name, .int .i64 value, .int .i64 oC, vs nC, .int .i64 dC, .int .i64 mC, .slice KC ksC.length qC, .slice A exc.length cap, .int .i64 oB, vs nB, .int .i64 mB, .slice KB ksB.length qB, .int .i64 oD, vs nD, .int .i64 mD, .slice KD ksD.length qD, .int .i64 oG, vs nG, .int .i64 mG, .slice KG ksG.length qG] v3 L3 []) := Lib.hid (HS3.out.row (D' := [vs id, .int .i64 rank, .int .i64 kind, vs name, .int .i64 value, .int .i64 oC, vs nC, .int .i64 dC, .int .i64 mC, .slice KC ksC.length qC, .slice A exc.length cap, .int .i64 oB, vs nB, .int .i64 mB, .slice KB ksB.length qB, .int .i64 oD, vs nD, .int .i64 mD, .slice KD ksD.length qD, .int .i64 oG, vs nG, .int .i64 mG, .slice KG ksG.length qG]) rfl)
  obtain ⟨wq, hwq⟩ : ∃ x, w3.setRow qb #[vs id, .int .i64 rank, .int .i64 kind, vs name, .int .i64 value, .int .i64 oC, vs nC, .int .i64 dC, .int .i64 mC, .slice KC ksC.length qC, .slice A exc.length cap, .int .i64 oB, vs nB, .int .i64 mB, .slice KB ksB.length qB, .int .i64 oD, vs nD, .int .i64 mD, .slice KD ksD.length qD, .int .i64 oG, vs nG, .int .i64 mG, .slice KG ksG.length qG] = x := ⟨_, rfl⟩
  rw [hwq] at HQ4 ⊢
  clear hwq k1 k2 l1 l2 hd3
  have c10 : wq.cell? ⟨w.heap.size, 10, none⟩ = some (.slice A exc.length cap) := cell_of_blk HQ4.out.pblk rfl
  have l1 := HQ4.out.plt
  have l2 := HQ4.out.qlt
  go_upto_region 21 with (first
    | (at_builtin; refine wpList_append_src rfl (.tmp 63) (.tmp 65) rfl (w.heap.size + 1) _ [] exc A cap rfl rfl (own0 wq _ _ (by simp) (by omega)) ((HEX.out.below HQ4.out.below).below (belowA wq _)) (by simp; omega) (by simp; omega) ?_; intro va wa ho hg ha; have HGA : Hid (Below wq.heap.size wq wa ∧ ∀ b, va.ownBlock = some b → wq.heap.size ≤ b) := Lib.hid (And.intro (below_own (belowA wq _) hg (fun b e => Nat.le_of_eq (Option.some.inj e))) (fun b e => ha.elim (fun h => Nat.le_of_eq (Option.some.inj (h.symm.trans e))) (fun h => (by have := Option.some.inj (h.symm.trans e); simp at this; omega)))); have HOA := Lib.hid ho; obtain ⟨A1, n1, c1, rfl⟩ := ho.sl; clear ho hg ha c10)
    | (at_builtin; refine wpList_append_src rfl (.tmp 66) (.tmp 67) rfl (w.heap.size + 1) _ ([] ++ exc) [[97], [97]] _ 2 rfl rfl (HOA.out.grown (belowA _ _)) (rds_two _ _ _ _ (by simp)) (by simp; omega) (by have := HGA.out.1.size; simp; omega) ?_; intro vb wb ho hg ha; have HGB : Hid (Below wq.heap.size wq wb ∧ ∀ b, vb.ownBlock = some b → wq.heap.size ≤ b) := Lib.hid (And.intro (below_own (HGA.out.1.trans ((belowA _ _).mono HGA.out.1.size)) hg (fun b e => HGA.out.2 b e)) (fun b e => ha.elim (fun h => HGA.out.2 b (h.symm.trans e)) (fun h => (by have h1 := Option.some.inj (h.symm.trans e); have h2 := HGA.out.1.size; simp at h1; omega)))); obtain ⟨g4, c4, n4, O4, rfl, hn4, hnc4, -, ho4, hr4⟩ := own_obj ho (by simp); have HR4 := Lib.hid (And.intro hn4 (And.intro hnc4 (And.intro ho4 hr4))); have HQ5 := Lib.hid (HQ4.out.grow HGB.out.1); have c1' : wb.cell? ⟨qb, 10, none⟩ = some (.slice A exc.length cap) := cell_of_blk HQ5.out.qblk rfl; have f1 := frozen_of_blk (o := 10) HQ5.out.qblk; clear ho hg ha hn4 hnc4 ho4 hr4 l1 l2; have l1 := HQ5.out.plt; have l2 := HQ5.out.qlt))
  have hg4 : wq.heap.size ≤ g4 := HGB.out.2 g4 rfl
  have HT4 : Hid (RSt w (wb.setCell ⟨qb, 10, none⟩ (.slice (some ⟨g4, 0, none⟩) n4 c4)) qb [vs id, .int .i64 rank, .int .i64 kind, vs name, .int .i64 value, .int .i64 oC, vs nC, .int .i64 dC, .int .i64 mC, .slice KC ksC.length qC, .slice A exc.length cap, .int .i64 oB, vs nB, .int .i64 mB, .slice KB ksB.length qB, .int .i64 oD, vs nD, .int .i64 mD, .slice KD ksD.length qD, .int .i64 oG, vs nG, .int .i64 mG, .slice KG ksG.length qG] [vs id, .int .i64 rank, .int .i64 kind, vs name, .int .i64 value, .int .i64 oC, vs nC, .int .i64 dC, .int .i64 mC, .slice KC ksC.length qC, .slice (some ⟨g4, 0, none⟩) n4 c4, .int .i64 oB, vs nB, .int .i64 mB, .slice KB ksB.length qB, .int .i64 oD, vs nD, .int .i64 mD, .slice KD ksD.length qD, .int .i64 oG, vs nG, .int .i64 mG, .slice KG ksG.length qG] v3 L3 [(g4, O4)]) := Lib.hid (by
    have h := HQ5.out.cell 10 (.slice (some ⟨g4, 0, none⟩) n4 c4)
    have h1 := HQ4.out.qlt
    refine RSt.add h ((Below.heap_setCell _ _ _ _ (by show g4 ≠ qb; omega)).trans HR4.out.2.2.1) (by omega) (fun e => ?_)
    have := (own_lt HQ4.out g4 e).2
    omega)
  have k2 : (wb.setCell ⟨qb, 10, none⟩ (.slice (some ⟨g4, 0, none⟩) n4 c4)).blk qb = some (.cells #[vs id, .int .i64 rank, .int .i64 kind, vs name, .int .i64 value, .int .i64 oC, vs nC, .int .i64 dC, .int .i64 mC, .slice KC ksC.length qC, .slice (some ⟨g4, 0, none⟩) n4 c4, .int .i64 oB, vs nB, .int .i64 mB, .slice KB ksB.length qB, .int .i64 oD, vs nD, .int .i64 mD, .slice KD ksD.length qD, .int .i64 oG, vs nG, .int .i64 mG, .slice KG ksG.length qG] 30 (0, 0)) := HT4.out.qblk
  have l1' := HT4.out.plt
  have l2' := HT4.out.qlt
  have ld2 := (lit_io (l := [vs id, .int .i64 rank, .int .i64 kind, vs name, .int .i64 value, .int .i64 oC, vs nC, .int .i64 dC, .int .i64 mC, .slice KC ksC.length qC, .slice (some ⟨g4, 0, none⟩) n4 c4, .int .i64 oB, vs nB, .int .i64 mB, .slice KB ksB.length qB, .int .i64 oD, vs nD, .int .i64 mD, .slice KD ksD.length qD, .int .i64 oG, vs nG, .int .i64 mG, .slice KG ksG.length qG]) rfl rfl).2
  go_upto_region 22 with (at_builtin; refine wpList_append_pv rfl (.tmp 70) (.tmp 72) rfl (w.heap.size + 1) _ L3 _ [vs id, .int .i64 rank, .int .i64 kind, vs name, .int .i64 value, .int .i64 oC, vs nC, .int .i64 dC, .int .i64 mC, .slice KC ksC.length qC, .slice (some ⟨g4, 0, none⟩) n4 c4, .int .i64 oB, vs nB, .int .i64 mB, .slice KB ksB.length qB, .int .i64 oD, vs nD, .int .i64 mD, .slice KD ksD.length qD, .int .i64 oG, vs nG, .int .i64 mG, .slice KG ksG.length qG] rfl rfl (HT4.out.own.alloc _) rfl rfl (new_at (by simp)) (by have := HL3.out; omega) (by simp; omega) ?_; intro v4 w5 ho hg ha; have HS4 := Lib.hid ((HT4.out.grow (belowA _ _)).app ho hg ha); clear ho hg ha k2 ld2)
  obtain ⟨L4, hL4⟩ : ∃ L, L3 ++ [[vs id, .int .i64 rank, .int .i64 kind, vs name, .int .i64 value, .int .i64 oC, vs nC, .int .i64 dC, .int .i64 mC, .slice KC ksC.length qC, .slice (some ⟨g4, 0, none⟩) n4 c4, .int .i64 oB, vs nB, .int .i64 mB, .slice KB ksB.length qB, .int .i64 oD, vs nD, .int .i64 mD, .slice KD ksD.length qD, .int .i64 oG, vs nG, .int .i64 mG, .slice KG ksG.length qG]] = L := ⟨_, rfl⟩
  rw [hL4] at HS4
  have HL4 : Hid (L4.length ≤ 4) := Lib.hid (by rw [← hL4, List.length_append]; have := HL3.out; simp; omega)
  have HE4 := Lib.hid hL4
  clear hL4 HT4 l1' l2' l1 l2
  have k1 := HS4.out.pblk
  have k2 := HS4.out.qblk
  have l1 := HS4.out.plt
  have l2 := HS4.out.qlt
  go_upto_region 23 with fail
  have HQ5a : Hid (RSt w (w5.setRow qb #[vs id, .int .i64 rank, .int .i64 kind, vs name, .int .i64 value, .int .i64 oC, vs nC, .int .i64 dC, .int .i64 mC, .slice KC ksC.length qC, .slice A exc.length cap, .int .i64 oB, vs nB, .int .i64 mB, .slice KB ksB.length qB, .int .i64 oD, vs nD, .int .i64 mD, .slice KD ksD.length qD, .int .i64 oG, vs nG, .int .i64 mG, .slice KG ksG.length qG]) qb [vs id, .int .i64 rank, .int .i64 kind, vs name, .int .i64 value, .int .i64 oC, vs nC, .int .i64 dC, .int .i64 mC, .slice KC ksC.length qC, .slice A exc.length cap, .int .i64 oB, vs nB, .int .i64 mB, .slice KB ksB.length qB, .int .i64 oD, vs nD, .int .i64 mD, .slice KD ksD.length qD, .int .i64 oG, vs nG, .int .i64 mG, .slice KG ksG.length qG] [vs id, .int .i64 rank, .int .i64 kind, vs name, .int .i64 value, .int .i64 oC, vs nC, .int .i64 dC, .int .i64 mC, .slice KC ksC.length qC, .slice A exc.length cap, .int .i64 oB, vs nB, .int .i64 mB, .slice KB ksB.length qB, .int .i64 oD, vs nD, .int .i64 mD, .slice KD ksD.length qD, .int .i64 oG, vs nG, .int .i64 mG, .slice KG ksG.length qG] v4 L4 [(g4, O4)]) := Lib.hid (HS4.out.row (D' := [vs id, .int .i64 rank, .int .i64 kind, vs name, .int .i64 value, .int .i64 oC, vs nC, .int .i64 dC, .int .i64 mC, .slice KC ksC.length qC, .slice A exc.length cap, .int .i64 oB, vs nB, .int .i64 mB, .slice KB ksB.length qB, .int .i64 oD, vs nD, .int .i64 mD, .slice KD ksD.length qD, .int .i64 oG, vs nG, .int .i64 mG, .slice KG ksG.length qG]) rfl)
  obtain ⟨wq5, hwq⟩ : ∃ x, w5.setRow qb #[vs id, .int .i64 rank, .int .i64 kind, vs name, .int .i64 value, .int .i64 oC, vs nC, .int .i64 dC, .int .i64 mC, .slice KC ksC.length qC, .slice A exc.length cap, .int .i64 oB, vs nB, .int .i64 mB, .slice KB ksB.length qB, .int .i64 oD, vs nD, .int .i64 mD, .slice KD ksD.length qD, .int .i64 oG, vs nG, .int .i64 mG, .slice KG ksG.length qG] = x := ⟨_, rfl⟩
  rw [hwq] at HQ5a ⊢
  clear hwq k1 k2 l1 l2
  have l1 := HQ5a.out.plt
  have l2 := HQ5a.out.qlt
  have e15 : wq5.cell? ⟨qb, 15, none⟩ = some (.int .i64 oD) := cell_of_blk HQ5a.out.qblk rfl
  have f15 : wq5.frozen? ⟨qb, 15, none⟩ = false := frozen_of_blk HQ5a.out.qblk
  have e16 : wq5.cell? ⟨qb, 16, none⟩ = some (vs nD) := cell_of_blk HQ5a.out.qblk rfl
  have f16 : wq5.frozen? ⟨qb, 16, none⟩ = false := frozen_of_blk HQ5a.out.qblk
  have e17 : wq5.cell? ⟨qb, 17, none⟩ = some (.int .i64 mD) := cell_of_blk HQ5a.out.qblk rfl
  have f17 : wq5.frozen? ⟨qb, 17, none⟩ = false := frozen_of_blk HQ5a.out.qblk
  have e18 : wq5.cell? ⟨qb, 18, none⟩ = some (.slice KD ksD.length qD) := cell_of_blk HQ5a.out.qblk rfl
  have f18 : wq5.frozen? ⟨qb, 18, none⟩ = false := frozen_of_blk HQ5a.out.qblk
  go_upto_region 24 with fail
  obtain ⟨g5, hg5⟩ : ∃ g, wq5.heap.size = g := ⟨_, rfl⟩
  rw [hg5]
  have HG5 : Hid (wq5.heap.size = g5) := Lib.hid hg5
  have HT5 : Hid (RSt w (((((wq5.setCell ⟨qb, 15, none⟩ (.int .i64 8)).setCell ⟨qb, 16, none⟩ (vs [])).setCell ⟨qb, 17, none⟩ (.int .i64 0)).setCell ⟨qb, 18, none⟩ (.slice (some ⟨g5, 0, none⟩) 1 1)).alloc (.cells #[.int .i64 2, vs [], .int .i64 0, .slice none 0 0] 28)) qb [vs id, .int .i64 rank, .int .i64 kind, vs name, .int .i64 value, .int .i64 oC, vs nC, .int .i64 dC, .int .i64 mC, .slice KC ksC.length qC, .slice A exc.length cap, .int .i64 oB, vs nB, .int .i64 mB, .slice KB ksB.length qB, .int .i64 oD, vs nD, .int .i64 mD, .slice KD ksD.length qD, .int .i64 oG, vs nG, .int .i64 mG, .slice KG ksG.length qG] [vs id, .int .i64 rank, .int .i64 kind, vs name, .int .i64 value, .int .i64 oC, vs nC, .int .i64 dC, .int .i64 mC, .slice KC ksC.length qC, .slice A exc.length cap, .int .i64 oB, vs nB, .int .i64 mB, .slice KB ksB.length qB, .int .i64 8, vs [], .int .i64 0, .slice (some ⟨g5, 0, none⟩) 1 1, .int .i64 oG, vs nG, .int .i64 mG, .slice KG ksG.length qG] v4 L4 [(g5, (.cells #[.int .i64 2, vs [], .int .i64 0, .slice none 0 0] 28 (0, 0))), (g4, O4)]) := Lib.hid (by
    have h : RSt w (((((wq5.setCell ⟨qb, 15, none⟩ (.int .i64 8)).setCell ⟨qb, 16, none⟩ (vs [])).setCell ⟨qb, 17, none⟩ (.int .i64 0)).setCell ⟨qb, 18, none⟩ (.slice (some ⟨g5, 0, none⟩) 1 1)).alloc (.cells #[.int .i64 2, vs [], .int .i64 0, .slice none 0 0] 28)) qb [vs id, .int .i64 rank, .int .i64 kind, vs name, .int .i64 value, .int .i64 oC, vs nC, .int .i64 dC, .int .i64 mC, .slice KC ksC.length qC, .slice A exc.length cap, .int .i64 oB, vs nB, .int .i64 mB, .slice KB ksB.length qB, .int .i64 oD, vs nD, .int .i64 mD, .slice KD ksD.length qD, .int .i64 oG, vs nG, .int .i64 mG, .slice KG ksG.length qG] [vs id, .int .i64 rank, .int .i64 kind, vs name, .int .i64 value, .int .i64 oC, vs nC, .int .i64 dC, .int .i64 mC, .slice KC ksC.length qC, .slice A exc.length cap, .int .i64 oB, vs nB, .int .i64 mB, .slice KB ksB.length qB, .int .i64 8, vs [], .int .i64 0, .slice (some ⟨g5, 0, none⟩) 1 1, .int .i64 oG, vs nG, .int .i64 mG, .slice KG ksG.length qG] v4 L4 [(g4, O4)] := ((((HQ5a.out.cell 15 (.int .i64 8)).cell 16 (vs [])).cell 17 (.int .i64 0)).cell 18 (.slice (some ⟨g5, 0, none⟩) 1 1)).grow (belowA _ _)
    have h1 := HQ5a.out.qlt
    refine RSt.add h (new_at (by simp [hg5])) (by omega) (fun e => ?_)
    have := (own_lt HQ5a.out g5 e).2
    omega)
  clear hg5
  clear e15 f15 e16 f16 e17 f17 e18 f18
  have k2 : (((((wq5.setCell ⟨qb, 15, none⟩ (.int .i64 8)).setCell ⟨qb, 16, none⟩ (vs [])).setCell ⟨qb, 17, none⟩ (.int .i64 0)).setCell ⟨qb, 18, none⟩ (.slice (some ⟨g5, 0, none⟩) 1 1)).alloc (.cells #[.int .i64 2, vs [], .int .i64 0, .slice none 0 0] 28)).blk qb = some (.cells #[vs id, .int .i64 rank, .int .i64 kind, vs name, .int .i64 value, .int .i64 oC, vs nC, .int .i64 dC, .int .i64 mC, .slice KC ksC.length qC, .slice A exc.length cap, .int .i64 oB, vs nB, .int .i64 mB, .slice KB ksB.length qB, .int .i64 8, vs [], .int .i64 0, .slice (some ⟨g5, 0, none⟩) 1 1, .int .i64 oG, vs nG, .int .i64 mG, .slice KG ksG.length qG] 30 (0, 0)) := HT5.out.qblk
  have l1' := HT5.out.plt
  have l2' := HT5.out.qlt
  have ld2 := (lit_io (l := [vs id, .int .i64 rank, .int .i64 kind, vs name, .int .i64 value, .int .i64 oC, vs nC, .int .i64 dC, .int .i64 mC, .slice KC ksC.length qC, .slice A exc.length cap, .int .i64 oB, vs nB, .int .i64 mB, .slice KB ksB.length qB, .int .i64 8, vs [], .int .i64 0, .slice (some ⟨g5, 0, none⟩) 1 1, .int .i64 oG, vs nG, .int .i64 mG, .slice KG ksG.length qG]) rfl rfl).2
  go_upto_region 25 with (at_builtin; refine wpList_append_pv rfl (.tmp 79) (.tmp 81) rfl (w.heap.size + 1) _ L4 _ [vs id, .int .i64 rank, .int .i64 kind, vs name, .int .i64 value, .int .i64 oC, vs nC, .int .i64 dC, .int .i64 mC, .slice KC ksC.length qC, .slice A exc.length cap, .int .i64 oB, vs nB, .int .i64 mB, .slice KB ksB.length qB, .int .i64 8, vs [], .int .i64 0, .slice (some ⟨g5, 0, none⟩) 1 1, .int .i64 oG, vs nG, .int .i64 mG, .slice KG ksG.length qG] rfl rfl (HT5.out.own.alloc _) rfl rfl (new_at (by simp)) (by have := HL4.out; omega) (by simp; omega) ?_; intro v5 w6 ho hg ha; have HS5 := Lib.hid ((HT5.out.grow (belowA _ _)).app ho hg ha); clear ho hg ha k2 ld2)
  obtain ⟨L5, hL5⟩ : ∃ L, L4 ++ [[vs id, .int .i64 rank, .int .i64 kind, vs name, .int .i64 value, .int .i64 oC, vs nC, .int .i64 dC, .int .i64 mC, .slice KC ksC.length qC, .slice A exc.length cap, .int .i64 oB, vs nB, .int .i64 mB, .slice KB ksB.length qB, .int .i64 8, vs [], .int .i64 0, .slice (some ⟨g5, 0, none⟩) 1 1, .int .i64 oG, vs nG, .int .i64 mG, .slice KG ksG.length qG]] = L := ⟨_, rfl⟩
  rw [hL5] at HS5
  have HL5 : Hid (L5.length ≤ 5) := Lib.hid (by rw [← hL5, List.length_append]; have := HL4.out; simp; omega)
  have HE5 := Lib.hid hL5
  clear hL5 HT5 l1' l2' l1 l2
  have k1 := HS5.out.pblk
  have k2 := HS5.out.qblk
  have l1 := HS5.out.plt
  have l2 := HS5.out.qlt
  go_upto_region 26 with fail
  have HQ6a : Hid (RSt w (w6.setRow qb #[vs id, .int .i64 rank, .int .i64 kind, vs name, .int .i64 value, .int .i64 oC, vs nC, .int .i64 dC, .int .i64 mC, .slice KC ksC.length qC, .slice A exc.length cap, .int .i64 oB, vs nB, .int .i64 mB, .slice KB ksB.length qB, .int .i64 oD, vs nD, .int .i64 mD, .slice KD ksD.length qD, .int .i64 oG, vs nG, .int .i64 mG, .slice KG ksG.length qG]) qb [vs id, .int .i64 rank, .int .i64 kind, vs name, .int .i64 value, .int .i64 oC, vs nC, .int .i64 dC, .int .i64 mC, .slice KC ksC.length qC, .slice A exc.length cap, .int .i64 oB, vs nB, .int .i64 mB, .slice KB ksB.length qB, .int .i64 oD, vs nD, .int .i64 mD, .slice KD ksD.length qD, .int .i64 oG, vs nG, .int .i64 mG, .slice KG ksG.length qG] [vs id, .int .i64 rank, .int .i64 kind, vs name, .int .i64 value, .int .i64 oC, vs nC, .int .i64 dC, .int .i64 mC, .slice KC ksC.length qC, .slice A exc.length cap, .int .i64 oB, vs nB, .int .i64 mB, .slice KB ksB.length qB, .int .i64 oD, vs nD, .int .i64 mD, .slice KD ksD.length qD, .int .i64 oG, vs nG, .int .i64 mG, .slice KG ksG.length qG] v5 L5 [(g5, (.cells #[.int .i64 2, vs [], .int .i64 0, .slice none 0 0] 28 (0, 0))), (g4, O4)]) := Lib.hid (HS5.out.row (D' := [vs id, .int .i64 rank, .int .i64 kind, vs name, .int .i64 value, .int .i64 oC, vs nC, .int .i64 dC, .int .i64 mC, .slice KC ksC.length qC, .slice A exc.length cap, .int .i64 oB, vs nB, .int .i64 mB, .slice KB ksB.length qB, .int .i64 oD, vs nD, .int .i64 mD, .slice KD ksD.length qD, .int .i64 oG, vs nG, .int .i64 mG, .slice KG ksG.length qG]) rfl)
  obtain ⟨wq6, hwq⟩ : ∃ x, w6.setRow qb #[vs id, .int .i64 rank, .int .i64 kind, vs name, .int .i64 value, .int .i64 oC, vs nC, .int .i64 dC, .int .i64 mC, .slice KC ksC.length qC, .slice A exc.length cap, .int .i64 oB, vs nB, .int .i64 mB, .slice KB ksB.length qB, .int .i64 oD, vs nD, .int .i64 mD, .slice KD ksD.length qD, .int .i64 oG, vs nG, .int .i64 mG, .slice KG ksG.length qG] = x := ⟨_, rfl⟩
  rw [hwq] at HQ6a ⊢
  clear hwq k1 k2 l1 l2
  have l1 := HQ6a.out.plt
  have l2 := HQ6a.out.qlt
  have e5 : wq6.cell? ⟨qb, 5, none⟩ = some (.int .i64 oC) := cell_of_blk HQ6a.out.qblk rfl
  have f5 : wq6.frozen? ⟨qb, 5, none⟩ = false := frozen_of_blk HQ6a.out.qblk
  have e6 : wq6.cell? ⟨qb, 6, none⟩ = some (vs nC) := cell_of_blk HQ6a.out.qblk rfl
  have f6 : wq6.frozen? ⟨qb, 6, none⟩ = false := frozen_of_blk HQ6a.out.qblk
  have e7 : wq6.cell? ⟨qb, 7, none⟩ = some (.int .i64 dC) := cell_of_blk HQ6a.out.qblk rfl
  have f7 : wq6.frozen? ⟨qb, 7, none⟩ = false := frozen_of_blk HQ6a.out.qblk
  have e8 : wq6.cell? ⟨qb, 8, none⟩ = some (.int .i64 mC) := cell_of_blk HQ6a.out.qblk rfl
  have f8 : wq6.frozen? ⟨qb, 8, none⟩ = false := frozen_of_blk HQ6a.out.qblk
  have e9 : wq6.cell? ⟨qb, 9, none⟩ = some (.slice KC ksC.length qC) := cell_of_blk HQ6a.out.qblk rfl
  have f9 : wq6.frozen? ⟨qb, 9, none⟩ = false := frozen_of_blk HQ6a.out.qblk
  have c5 : wq6.cell? ⟨w.heap.size, 5, none⟩ = some (.int .i64 oC) := cell_of_blk HQ6a.out.pblk rfl
  have c6 : wq6.cell? ⟨w.heap.size, 6, none⟩ = some (vs nC) := cell_of_blk HQ6a.out.pblk rfl
  have c7 : wq6.cell? ⟨w.heap.size, 7, none⟩ = some (.int .i64 dC) := cell_of_blk HQ6a.out.pblk rfl
  have c8 : wq6.cell? ⟨w.heap.size, 8, none⟩ = some (.int .i64 mC) := cell_of_blk HQ6a.out.pblk rfl
  have c9 : wq6.cell? ⟨w.heap.size, 9, none⟩ = some (.slice KC ksC.length qC) := cell_of_blk HQ6a.out.pblk rfl
  go_upto_region 27 with fail
  obtain ⟨g6, hg6⟩ : ∃ g, wq6.heap.size = g := ⟨_, rfl⟩
  rw [hg6]
  have HG6 : Hid (wq6.heap.size = g6) := Lib.hid hg6
  have HT6 : Hid (RSt w ((((((wq6.setCell ⟨qb, 5, none⟩ (.int .i64 5)).setCell ⟨qb, 6, none⟩ (vs [])).setCell ⟨qb, 7, none⟩ (.int .i64 0)).setCell ⟨qb, 8, none⟩ (.int .i64 0)).setCell ⟨qb, 9, none⟩ (.slice (some ⟨g6, 0, none⟩) 2 2)).alloc (.cells #[.int .i64 oC, vs nC, .int .i64 dC, .int .i64 mC, .slice KC ksC.length qC, .int .i64 oC, vs nC, .int .i64 dC, .int .i64 mC, .slice KC ksC.length qC] 24)) qb [vs id, .int .i64 rank, .int .i64 kind, vs name, .int .i64 value, .int .i64 oC, vs nC, .int .i64 dC, .int .i64 mC, .slice KC ksC.length qC, .slice A exc.length cap, .int .i64 oB, vs nB, .int .i64 mB, .slice KB ksB.length qB, .int .i64 oD, vs nD, .int .i64 mD, .slice KD ksD.length qD, .int .i64 oG, vs nG, .int .i64 mG, .slice KG ksG.length qG] [vs id, .int .i64 rank, .int .i64 kind, vs name, .int .i64 value, .int .i64 5, vs [], .int .i64 0, .int .i64 0, .slice (some ⟨g6, 0, none⟩) 2 2, .slice A exc.length cap, .int .i64 oB, vs nB, .int .i64 mB, .slice KB ksB.length qB, .int .i64 oD, vs nD, .int .i64 mD, .slice KD ksD.length qD, .int .i64 oG, vs nG, .int .i64 mG, .slice KG ksG.length qG] v5 L5 [(g6, (.cells #[.int .i64 oC, vs nC, .int .i64 dC, .int .i64 mC, .slice KC ksC.length qC, .int .i64 oC, vs nC, .int .i64 dC, .int .i64 mC, .slice KC ksC.length qC] 24 (0, 0))), (g5, (.cells #[.int .i64 2, vs [], .int .i64 0, .slice none 0 0] 28 (0, 0))), (g4, O4)]) := Lib.hid (by
    have h : RSt w ((((((wq6.setCell ⟨qb, 5, none⟩ (.int .i64 5)).setCell ⟨qb, 6, none⟩ (vs [])).setCell ⟨qb, 7, none⟩ (.int .i64 0)).setCell ⟨qb, 8, none⟩ (.int .i64 0)).setCell ⟨qb, 9, none⟩ (.slice (some ⟨g6, 0, none⟩) 2 2)).alloc (.cells #[.int .i64 oC, vs nC, .int .i64 dC, .int .i64 mC, .slice KC ksC.length qC, .int .i64 oC, vs nC, .int .i64 dC, .int .i64 mC, .slice KC ksC.length qC] 24)) qb [vs id, .int .i64 rank, .int .i64 kind, vs name, .int .i64 value, .int .i64 oC, vs nC, .int .i64 dC, .int .i64 mC, .slice KC ksC.length qC, .slice A exc.length cap, .int .i64 oB, vs nB, .int .i64 mB, .slice KB ksB.length qB, .int .i64 oD, vs nD, .int .i64 mD, .slice KD ksD.length qD, .int .i64 oG, vs nG, .int .i64 mG, .slice KG ksG.length qG] [vs id, .int .i64 rank, .int .i64 kind, vs name, .int .i64 value, .int .i64 5, vs [], .int .i64 0, .int .i64 0, .slice (some ⟨g6, 0, none⟩) 2 2, .slice A exc.length cap, .int .i64 oB, vs nB, .int .i64 mB, .slice KB ksB.length qB, .int .i64 oD, vs nD, .int .i64 mD, .slice KD ksD.length qD, .int .i64 oG, vs nG, .int .i64 mG, .slice KG ksG.length qG] v5 L5 [(g5, (.cells #[.int .i64 2, vs [], .int .i64 0, .slice none 0 0] 28 (0, 0))), (g4, O4)] := (((((HQ6a.out.cell 5 (.int .i64 5)).cell 6 (vs [])).cell 7 (.int .i64 0)).cell 8 (.int .i64 0)).cell 9 (.slice (some ⟨g6, 0, none⟩) 2 2)).grow (belowA _ _)
    have h1 := HQ6a.out.qlt
    refine RSt.add h (new_at (by simp [hg6])) (by omega) (fun e => ?_)
    have := (own_lt HQ6a.out g6 e).2
    omega)
  clear hg6
  clear e5 f5 c5 e6 f6 c6 e7 f7 c7 e8 f8 c8 e9 f9 c9
  have k2 : ((((((wq6.setCell ⟨qb, 5, none⟩ (.int .i64 5)).setCell ⟨qb, 6, none⟩ (vs [])).setCell ⟨qb, 7, none⟩ (.int .i64 0)).setCell ⟨qb, 8, none⟩ (.int .i64 0)).setCell ⟨qb, 9, none⟩ (.slice (some ⟨g6, 0, none⟩) 2 2)).alloc (.cells #[.int .i64 oC, vs nC, .int .i64 dC, .int .i64 mC, .slice KC ksC.length qC, .int .i64 oC, vs nC, .int .i64 dC, .int .i64 mC, .slice KC ksC.length qC] 24)).blk qb = some (.cells #[vs id, .int .i64 rank, .int .i64 kind, vs name, .int .i64 value, .int .i64 5, vs [], .int .i64 0, .int .i64 0, .slice (some ⟨g6, 0, none⟩) 2 2, .slice A exc.length cap, .int .i64 oB, vs nB, .int .i64 mB, .slice KB ksB.length qB, .int .i64 oD, vs nD, .int .i64 mD, .slice KD ksD.length qD, .int .i64 oG, vs nG, .int .i64 mG, .slice KG ksG.length qG] 30 (0, 0)) := HT6.out.qblk
  have l1' := HT6.out.plt
  have l2' := HT6.out.qlt
  have ld2 := (lit_io (l := [vs id, .int .i64 rank, .int .i64 kind, vs name, .int .i64 value, .int .i64 5, vs [], .int .i64 0, .int .i64 0, .slice (some ⟨g6, 0, none⟩) 2 2, .slice A exc.length cap, .int .i64 oB, vs nB, .int .i64 mB, .slice KB ksB.length qB, .int .i64 oD, vs nD, .int .i64 mD, .slice KD ksD.length qD, .int .i64 oG, vs nG, .int .i64 mG, .slice KG ksG.length qG]) rfl rfl).2
  go_upto_region 28 with (at_builtin; refine wpList_append_pv rfl (.tmp 91) (.tmp 93) rfl (w.heap.size + 1) _ L5 _ [vs id, .int .i64 rank, .int .i64 kind, vs name, .int .i64 value, .int .i64 5, vs [], .int .i64 0, .int .i64 0, .slice (some ⟨g6, 0, none⟩) 2 2, .slice A exc.length cap, .int .i64 oB, vs nB, .int .i64 mB, .slice KB ksB.length qB, .int .i64 oD, vs nD, .int .i64 mD, .slice KD ksD.length qD, .int .i64 oG, vs nG, .int .i64 mG, .slice KG ksG.length qG] rfl rfl (HT6.out.own.alloc _) rfl rfl (new_at (by simp)) (by have := HL5.out; omega) (by simp; omega) ?_; intro v6 w7 ho hg ha; have HS6 := Lib.hid ((HT6.out.grow (belowA _ _)).app ho hg ha); clear ho hg ha k2 ld2)
  obtain ⟨L6, hL6⟩ : ∃ L, L5 ++ [[vs id, .int .i64 rank, .int .i64 kind, vs name, .int .i64 value, .int .i64 5, vs [], .int .i64 0, .int .i64 0, .slice (some ⟨g6, 0, none⟩) 2 2, .slice A exc.length cap, .int .i64 oB, vs nB, .int .i64 mB, .slice KB ksB.length qB, .int .i64 oD, vs nD, .int .i64 mD, .slice KD ksD.length qD, .int .i64 oG, vs nG, .int .i64 mG, .slice KG ksG.length qG]] = L := ⟨_, rfl⟩
  rw [hL6] at HS6
  have HL6 : Hid (L6.length ≤ 6) := Lib.hid (by rw [← hL6, List.length_append]; have := HL5.out; simp; omega)
  have HE6 := Lib.hid hL6
  clear hL6 HT6 l1' l2' l1 l2
  have hBW := HS6.out.below
  have HR7 := Lib.hid (HR.out.keep hBW)
  have HB4 : Hid (RowBad w7 [vs id, .int .i64 rank, .int .i64 kind, vs name, .int .i64 value, .int .i64 oC, vs nC, .int .i64 dC, .int .i64 mC, .slice KC ksC.length qC, .slice (some ⟨g4, 0, none⟩) n4 c4, .int .i64 oB, vs nB, .int .i64 mB, .slice KB ksB.length qB, .int .i64 oD, vs nD, .int .i64 mD, .slice KD ksD.length qD, .int .i64 oG, vs nG, .int .i64 mG, .slice KG ksG.length qG]) := Lib.hid (bad_exc HR7.out HSZ.out (some ⟨g4, 0, none⟩) n4 c4 HR4.out.1 HR4.out.2.1 (HR4.out.2.2.2 w7 (HS6.out.xs g4 O4 (by simp)).1))
  have HB5 : Hid (RowBad w7 [vs id, .int .i64 rank, .int .i64 kind, vs name, .int .i64 value, .int .i64 oC, vs nC, .int .i64 dC, .int .i64 mC, .slice KC ksC.length qC, .slice A exc.length cap, .int .i64 oB, vs nB, .int .i64 mB, .slice KB ksB.length qB, .int .i64 8, vs [], .int .i64 0, .slice (some ⟨g5, 0, none⟩) 1 1, .int .i64 oG, vs nG, .int .i64 mG, .slice KG ksG.length qG]) := Lib.hid (bad_fin HR7.out HSZ.out g5 (HS6.out.xs g5 _ (by simp)).1)
  have HB6 : Hid (RowBad w7 [vs id, .int .i64 rank, .int .i64 kind, vs name, .int .i64 value, .int .i64 5, vs [], .int .i64 0, .int .i64 0, .slice (some ⟨g6, 0, none⟩) 2 2, .slice A exc.length cap, .int .i64 oB, vs nB, .int .i64 mB, .slice KB ksB.length qB, .int .i64 oD, vs nD, .int .i64 mD, .slice KD ksD.length qD, .int .i64 oG, vs nG, .int .i64 mG, .slice KG ksG.length qG]) := Lib.hid (bad_cond HR7.out HSZ.out g6 (HCC.out.keep hBW) (HS6.out.xs g6 _ (by simp)).1)
  have HALL : Hid (∀ r ∈ L6, RowBad w7 r) := Lib.hid (fun r hr => by
    rw [← HE6.out] at hr
    rcases List.mem_append.1 hr with hr | hr
    · rw [← HE5.out] at hr
      rcases List.mem_append.1 hr with hr | hr
      · rw [← HE4.out] at hr
        rcases List.mem_append.1 hr with hr | hr
        · exact (HLB.out r hr).keep hBW
        · rw [List.mem_singleton.1 hr]; exact HB4.out
      · rw [List.mem_singleton.1 hr]; exact HB5.out
    · rw [List.mem_singleton.1 hr]; exact HB6.out)
  obtain ⟨vb, cv, m, rfl, hm, hvb, hrows⟩ := own_rows HS6.out.own (by rw [← HE6.out]; simp) (fun r hr => (HALL.out r hr).len)
  have HM := Lib.hid hm
  have hm6 := HL6.out
  have HROW : Hid (∀ k, k < m → ∃ r, RowBad w7 r ∧ ∀ (j : Nat) x, r[j]? = some x → w7.cell? ⟨vb, k * 23 + j, none⟩ = some x) := Lib.hid (fun k hk => by
    obtain ⟨r, hr⟩ := get_of_lt (l := L6) (k := k) (by rw [← HM.out]; exact hk)
    exact ⟨r, HALL.out r (List.mem_of_getElem? hr), hrows k r hr⟩)
  have HBW := Lib.hid hBW
  have hmm : m ≤ 100 := by rw [hm]; omega
  clear hm hrows hBW hm6
  go_wp2_with fail
  refine refu_loop _ w7 w.heap.size qb vb m cv hvb hmm HROW.out _ _ _ _ _ _ _ _ _ _ _ _ _ _ _ _ _ _ _ _ _ _ _ _ _ _ _ _ _ _ _ _ _ _ _ _ _ _ _ _ _ _ _ _ _ _ _ _ _ _ _ _ _ _ _ _ _ _ _ _ _ _ _ _ _ _ _ _ _ _ _ _ _ _ _ _ _ _ _ _ _ _ _ _ _ _ _ _ _ _ _ _ _ _ _ _ _ _ _ _ _ _ _ _ _ _ _ _ _ _ _ _ _ _ _ _ _ _ _ _ _ _ _ _ _ _ _ ?_
  intro x13 x14 x15 x16 x95 x96 x97 x98 x99 x100 x101 x102 x103 x104 x105 x106 x107 x108 x109 x110 x111 x112 x113 x114 x115 x116 x117 x118 x119 x120 x121 x122 x123 x124 x125 x126 x127 x128 x129 x130 wz hz
  have HZ := Lib.hid hz
  clear hz
  dsimp only
  go_wp2_with fail
  exact HE.out _ _ _ _ _ _ _ _ _ _ _ _ _ _ _ _ _ _ _ _ _ _ _ _ _ _ _ _ _ _ _ _ _ _ _ _ _ _ _ _ _ _ _ _ _ _ _ _ _ _ _ _ _ _ _ _ _ _ _ _ _ _ _ _ _ _ _ _ _ _ _ _ _ _ _ _ _ _ _ _ _ _ _ _ _ _ _ _ _ _ _ _ _ _ _ _ _ _ _ _ _ _ _ _ _ _ _ _ _ _ _ _ _ _ _ _ _ _ _ _ _ _ _ _ _ _ (HBW.out.trans (HZ.out.mono HBW.out.size))
end Go.Proofs.YtbicmjmcdnkjhaaGreatDoor
