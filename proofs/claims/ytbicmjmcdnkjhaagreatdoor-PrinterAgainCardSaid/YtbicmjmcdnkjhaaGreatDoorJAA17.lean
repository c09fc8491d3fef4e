/- Whole loads and stores of a Provision (23 cells) by one law each. -/
import Derived.Deep.MidRow
import Derived.Deep.WholeRow
import Derived.Test.YtbicmjmcdnkjhaaGreatDoorJAA6
import Derived.StillTailTactics
import Derived.Deep.CutRange
import Derived.Deep.RegionLawGrows
set_option linter.unusedVariables false
set_option linter.unusedSimpArgs false
namespace Go
noncomputable def World.blk (W : World) (b : Nat) : Option Obj := W.heap[b]?
end Go
namespace Go.Proofs.YtbicmjmcdnkjhaaGreatDoor
section
open Go.RowKit
def Rd (a : Addr) : Sem Value := loadVar 30 a
def Ud (a : Addr) (v : Value) : Sem Unit := storeVar 30 a v
@[go_sem ↓ high] theorem qbn (a : Addr) : loadVar 30 a = Rd a := rfl
@[go_sem ↓ high] theorem Su (a : Addr) (v : Value) : storeVar 30 a v = Ud a v := rfl
def Jw : List Value -> Bool
 | [] => true
 | v :: l => v.oneCell' && Jw l
theorem Nm : ∀ {l : List Value}, Jw l = true -> ∀ v ∈ l, v.oneCell' = true
 | [], _, v, hv => by cases hv
 | x :: l, h, v, hv => by
   simp only [Jw, Bool.and_eq_true] at h; rcases List.mem_cons.1 hv with rfl | hv
   · exact h.1
   · exact Nm h.2 v hv
@[go_sem] theorem qkr : Jw [] = true := rfl
@[go_sem] theorem qks (k : IntKind) (i : Int) (l : List Value) : Jw (.int k i :: l) = Jw l := rfl
@[go_sem] theorem qkq (b : ByteArray) (l : List Value) : Jw (.string b :: l) = Jw l := rfl
@[go_sem] theorem qiz (a : Option Addr) (n c : Nat) (l : List Value) : Jw (.slice a n c :: l) = Jw l := rfl
noncomputable def I6 (W : World) (b : Nat) (c : Array Value) (x : Option Obj) : Result Unit :=
 match x with
 | some (.cells C _ (0, 0)) => if C.size = 23 /\ c.size = 23 /\ Jw c.toList = true then .ok () (W.setRow b c) else (Ud ⟨b, 0, none⟩ (.agg c)).run Tryz.prog W
 | _ => (Ud ⟨b, 0, none⟩ (.agg c)).run Tryz.prog W
@[go_sem] theorem Nt (W : World) (b : Nat) (c : Array Value) : (Ud ⟨b, 0, none⟩ (.agg c)).run Tryz.prog W = I6 W b c (W.blk b) := by
 unfold I6 World.blk
 split
 · rename_i C t' h
   split
   · rename_i hn; exact run_storeVar_row W b t' 30 C c h (by rw [hn.2.1]; kernel_rfl) (by omega) (by have := all_oneCell_toArray (Nm hn.2.2); rwa [Array.toArray_toList] at this)
   · rfl
 · rfl
@[go_sem] theorem J2 (W : World) (b : Nat) (l : List Value) (C : Array Value) (t : TypeId) (h1 : C.size = 23) (h2 : l.toArray.size = 23) (h3 : Jw l = true) : I6 W b l.toArray (some (.cells C t (0, 0))) = .ok () (W.setRow b l.toArray) := by
 exact if_pos ⟨h1, h2, h3⟩
noncomputable def I8 (W : World) (b : Nat) (x : Option Obj) : Result Value :=
 match x with
 | some (.cells C _ _) => if C.size = 23 then .ok (.agg C) W else (Rd ⟨b, 0, none⟩).run Tryz.prog W
 | _ => (Rd ⟨b, 0, none⟩).run Tryz.prog W
@[go_sem] theorem qie (W : World) (b : Nat) : (Rd ⟨b, 0, none⟩).run Tryz.prog W = I8 W b (W.blk b) := by
 unfold I8 World.blk
 split
 · rename_i C t' fr h
   split
   · rename_i hn; have := run_loadVar_mid (P := Tryz.prog) W b 0 30 C.toList _ (fun j v hv => by rw [Nat.zero_add]; simp [World.cell?, h]; simpa using hv) Tryz.underlying30 rfl (by rw [Array.length_toList, hn]; kernel_rfl); rwa [Array.toArray_toList] at this
   · rfl
 · rfl
@[go_sem] theorem I7 (W : World) (b : Nat) (l : List Value) (t : TypeId) (fr : Nat × Nat) (h : l.toArray.size = 23) : I8 W b (some (.cells l.toArray t fr)) = .ok (.agg l.toArray) W := if_pos h
@[go_sem] theorem qiy {w : World} {o : Obj} {k : Nat} (h : k = w.heap.size) : (w.alloc o).blk k = some o := h ▸ heap_alloc_new w o
@[go_sem] theorem qix {w : World} {o : Obj} {k : Nat} (h : k < w.heap.size) : (w.alloc o).blk k = w.blk k := Below.heap_alloc w o k h
@[go_sem] theorem qjr {w : World} {c c' : Array Value} {t : TypeId} {k : Nat} (h : k = w.heap.size) : (w.alloc (.cells c t)).setRow k c' = w.alloc (.cells c' t) := by subst h; exact World.setRow_alloc_new w c c' t
def Bw : List Value := [.string ⟨#[]⟩, .int .i64 0, .int .i64 0, .string ⟨#[]⟩, .int .i64 0, .int .i64 0, .string ⟨#[]⟩, .int .i64 0, .int .i64 0, .slice none 0 0, .slice none 0 0, .int .i64 0, .string ⟨#[]⟩, .int .i64 0, .slice none 0 0, .int .i64 0, .string ⟨#[]⟩, .int .i64 0, .slice none 0 0, .int .i64 0, .string ⟨#[]⟩, .int .i64 0, .slice none 0 0]
def Kd (base : Nat) (M : World -> Prop) : Prop := ∀ a b : World, a.heap.size <= b.heap.size -> (∀ k, base <= k -> k < a.heap.size -> b.heap[k]? = a.heap[k]?) -> M a -> M b
theorem Kd.triv (base : Nat) : Kd base (fun _ => True) := fun _ _ _ _ _ => trivial
theorem Kd.and {base : Nat} {M N : World -> Prop} (h : Kd base M) (k : Kd base N) : Kd base (fun W => M W /\ N W) := fun a b hs hk hm => ⟨h a b hs hk hm.1, k a b hs hk hm.2⟩
theorem Kd.tree {fm : Bool} {base : Nat} {cs : List Value} {t : Qb} : Kd base (fun W => Qg fm (fun k => base <= k) W cs t) := fun a b hs hk hm => hm.keep hs (fun k h1 h2 => ⟨h1, hk k h1 h2⟩)
def RdE (base : Nat) (A : Option Addr) (l : List (List UInt8)) (W : World) : Prop := RdS W A l /\ ∀ b o, A = some ⟨b, o, none⟩ -> base <= b /\ b < W.heap.size
theorem Kd.exc {base : Nat} {A : Option Addr} {l : List (List UInt8)} : Kd base (RdE base A l) := fun a b hs hk hm =>
 ⟨Sl.keep hm.1 hs (fun g o hA aC => hk g (hm.2 g o hA).1 aC), fun g o hA => ⟨(hm.2 g o hA).1, Nat.lt_of_lt_of_le (hm.2 g o hA).2 hs⟩⟩
structure PV (w wX : World) (p fin : Nat) (l : List Tok) (C : List Value) (M : World -> Prop) : Prop where
 ps : PS wX p fin l
 eff : Eff p w wX
 out : wX.blk (w.heap.size + 1) = some (.cells C.toArray 30 (0, 0))
 res : wX.blk w.heap.size = some (.cells Bw.toArray 30 (0, 0))
 lt : p < w.heap.size
 stab : Kd (w.heap.size + 2) M
 mem : M wX
theorem PV.alloc {w wX : World} {p fin : Nat} {l : List Tok} {C : List Value} {M : World -> Prop} (h : PV w wX p fin l C M) (o : Obj) : PV w (wX.alloc o) p fin l C M :=
 ⟨Qi h.ps o, h.eff.alloc o, Qn h.out, Qn h.res, h.lt, h.stab, h.stab _ _ (by simp) (fun k _ hk => Below.heap_alloc _ _ _ hk) h.mem⟩
theorem PV.call {w wX w' : World} {p fin : Nat} {l r : List Tok} {C : List Value} {M : World -> Prop} (h : PV w wX p fin l C M) (he : Eff p wX w') (hp : PS w' p fin r) : PV w w' p fin r C M :=
 ⟨hp, h.eff.trans he, (he.block _ (lHp h.out) (by have := h.lt; omega)).trans h.out, (he.block _ (lHp h.res) (by have := h.lt; omega)).trans h.res, h.lt, h.stab, h.stab _ _ he.size (fun k h1 h2 => he.block k h2 (by have := h.lt; omega)) h.mem⟩
theorem PV.set {w wX : World} {p fin : Nat} {l : List Tok} {C : List Value} {M : World -> Prop} (h : PV w wX p fin l C M) (o : Nat) (v : Value) : PV w (wX.setCell ⟨w.heap.size + 1, o, none⟩ v) p fin l (C.set o v) M := by
 have ho := (Off.refl (w.heap.size + 1) wX).set (o := o) v; have aC := h.lt; refine ⟨h.ps.off ho (by omega), h.eff.off ho (by omega), ?_, (ho.block _ (by omega)).trans h.res, h.lt, h.stab, h.stab _ _ (Nat.le_of_eq ho.size.symm) (fun k h1 _ => ho.block k (by omega)) h.mem⟩; show (wX.setCell ⟨w.heap.size + 1, o, none⟩ v).heap[w.heap.size + 1]? = _
 have := h.out; unfold World.blk at this; rw [rSc this]; simp
theorem PV.and {w wX : World} {p fin : Nat} {l : List Tok} {C : List Value} {M N : World -> Prop} (h : PV w wX p fin l C M) (k : Kd (w.heap.size + 2) N) (hn : N wX) : PV w wX p fin l C (fun W => M W /\ N W) :=
 ⟨h.ps, h.eff, h.out, h.res, h.lt, h.stab.and k, h.mem, hn⟩
theorem PV.cells {w wX : World} {p fin : Nat} {l : List Tok} {C : List Value} {M : World -> Prop} (h : PV w wX p fin l C M) (o : Nat) {v : Value} (hv : C[o]? = some v) : wX.cell? ⟨w.heap.size + 1, o, none⟩ = some v /\ wX.frozen? ⟨w.heap.size + 1, o, none⟩ = false :=
 ⟨cOb (o := o) (show wX.heap[w.heap.size + 1]? = _ from h.out) (by simpa using hv), fOb (o := o) (show wX.heap[w.heap.size + 1]? = _ from h.out)⟩
theorem PV.room {w wX : World} {p fin : Nat} {l : List Tok} {C : List Value} {M : World -> Prop} (h : PV w wX p fin l C M) : w.heap.size + 1 < wX.heap.size /\ w.heap.size < wX.heap.size := ⟨lHp h.out, lHp h.res⟩
def Jy (base : Nat) (W : World) (cs : List Value) (P : Qf) : Prop := ∃ cc A cap cb cf ca, cs = [vs P.id, .int .i64 P.rank, .int .i64 P.kind, vs P.name, .int .i64 P.value] ++ (cc ++ (.slice A P.exc.length cap :: (cb ++ (cf ++ ca)))) /\ P.exc.length <= cap /\
 Qg true (fun k => base <= k) W cc P.cond /\ RdE base A P.exc W /\ Qg false (fun k => base <= k) W cb P.beg /\ Qg false (fun k => base <= k) W cf P.fin /\ Qg false (fun k => base <= k) W ca P.aga
abbrev Sk (w : World) (P : Qf) (v : Value) (w' : World) : Prop := ∃ cs : List Value, v = .agg cs.toArray /\ Jy w.heap.size w' cs P
theorem PV.start {p fin : Nat} {l : List Tok} {w : World} (hp : PS w p fin l) (C : List Value) : PV w ((w.alloc (.cells Bw.toArray 30 (0, 0))).alloc (.cells C.toArray 30 (0, 0))) p fin l C (fun _ => True) :=
 ⟨Qi (Qi hp _) _, (Qd p w _).trans (Qd p _ _), Qe (by simp), Qn (Qe rfl), hp.lt, Kd.triv _, trivial⟩
theorem tcs_X (fm : Bool) (op : Nat) (name : List UInt8) (cmp n : Nat) (s : Value) : tcs fm op name cmp n s = tcX fm op name cmp n s := by cases fm <;> rfl
theorem tsz_X (fm : Bool) : tsz fm = In fm := rfl
mutual
theorem Qg.toX {fm : Bool} {S : Nat -> Prop} {w : World} : ∀ {cs : List Value} {t : Qb}, Qg fm S w cs t -> RdX fm w cs (up t)
 | cs, .mk op name cmp n ks, h => by
   obtain ⟨A, cap, h1, h2, h3⟩ := h; rw [up, RdX]; refine ⟨A, cap, by rw [Z3, h1, tcs_X], by rw [Z3]; exact h2, ?_⟩; rcases h3 with h3 | ⟨b, o, hA, hS, hb, h3⟩
   · subst h3; exact .inl (by rw [ups])
   · exact .inr ⟨b, o, hA, hb, X1.toX h3⟩
theorem X1.toX {fm : Bool} {S : Nat -> Prop} {w : World} {b : Nat} : ∀ {o : Nat} {ks : List Qb}, X1 fm S w b o ks -> Wb fm w b o (ups ks)
 | o, [], h => by rw [ups, Wb]; trivial
 | o, t :: r, h => by
   rw [X1] at h; rw [ups, Wb]; obtain ⟨⟨cs, h1, h2⟩, h3⟩ := h; exact ⟨⟨cs, h1, Qg.toX h2⟩, by rw [<- tsz_X]; exact X1.toX h3⟩
end
theorem Jy.toX {base : Nat} {w : World} {cs : List Value} {P : Qf} (h : Jy base w cs P) : Wo w cs (upP P) := by
 obtain ⟨cc, A, cap, cb, cf, ca, h1, h2, h3, h4, h5, h6, h7⟩ := h; exact ⟨cc, A, cap, cb, cf, ca, h1, h2, h3.toX, h4.1, h5.toX, h6.toX, h7.toX⟩
namespace So
@[go_sem] theorem blk_grew {w x : World} {k : Nat} (h : k < w.heap.size) : (World.grew w x).blk k = w.blk k := (gBl w x).block k h
structure PS (w : World) (p fin : Nat) (ts l : List Tok) : Prop where
 is : ∃ A c u, w.heap[p]? = some (.cells #[.slice A ts.length c, .int .i64 (u.length : Nat), .int .i64 fin] 92 (0, 0)) /\ ts = u ++ l /\ RdT w A ts /\ (∀ b o, A = some ⟨b, o, none⟩ -> b < p) /\ ts.length <= c /\ c <= 9223372036854775807
 fit : ∀ t ∈ ts, C9 t
 few : ts.length <= 5000
 mx : ∃ m, w.cell? ⟨2, 0, none⟩ = some (.int .i64 m)
 ne : 2 < p
 bound : fin <= 1000000
theorem PS.lt {w : World} {p fin : Nat} {ts l : List Tok} (h : PS w p fin ts l) : p < w.heap.size := by obtain ⟨A, c, u, hh, _⟩ := h.is; exact lHp hh
theorem PS.below {w w' : World} {p fin : Nat} {ts l : List Tok} (h : PS w p fin ts l) (hb : Below w.heap.size w w') : PS w' p fin ts l := by
 obtain ⟨A, c, u, hh, hu, hr, hn, h1, h2⟩ := h.is; obtain ⟨m, hm⟩ := h.mx; exact ⟨⟨A, c, u, (hb.block p (lHp hh)).trans hh, hu, hr.below hb, hn, h1, h2⟩, h.fit, h.few, ⟨m, (hb.cell (p := ⟨_, 0, none⟩) (World.block_lt_of_cell? _ _ hm)).trans hm⟩, h.ne, h.bound⟩
theorem PS.keep {w w' : World} {p fin : Nat} {ts l : List Tok} (h : PS w p fin ts l) (hs : w.heap.size <= w'.heap.size) (hk : ∀ b, b <= p -> w'.heap[b]? = w.heap[b]?) : PS w' p fin ts l := by
 obtain ⟨A, c, u, hh, hu, hr, hn, h1, h2⟩ := h.is; obtain ⟨m, hm⟩ := h.mx; have bD := h.ne; exact ⟨⟨A, c, u, (hk p (lR _)).trans hh, hu, Sl.keep hr hs (fun b o hA _ => hk b (Nat.le_of_lt (hn b o hA))), hn, h1, h2⟩, h.fit, h.few, ⟨m, (cOh (hk _ (Nat.le_of_lt bD)) 0).trans hm⟩, h.ne, h.bound⟩
theorem U5 (s : List UInt8) (hs : ∀ c ∈ s, c ≠ 32) : Lib.contains (Vi Qw) (32 :: (s ++ [32])) = Wq s := by
 rw [Bool.eq_iff_iff, Rk _ _ (by simp), Ma Qw s hs (by decide)]; unfold Wq; simp
end So
end
set_option maxRecDepth 20000
set_option maxHeartbeats 800000
section
namespace So
open Go.RowKit
abbrev Xg (e a : Nat) : Ending := .panicked [{ v := .iface 89 (.agg #[.int .i64 e, .int .i64 a]), recovered := false }]
@[go_sem] theorem Tc (a b c d : Value) (W : World) : (Instr.field 122 (.agg #[a, b, c, d]) 0).run Tryz.prog W = .ok a W := by kernel_rfl
@[go_sem] theorem Tb (a b c d : Value) (W : World) : (Instr.field 122 (.agg #[a, b, c, d]) 1).run Tryz.prog W = .ok b W := by kernel_rfl
@[go_sem] theorem qej (a b c d : Value) (W : World) : (Instr.field 122 (.agg #[a, b, c, d]) 2).run Tryz.prog W = .ok c W := by kernel_rfl
abbrev zTok : Obj := .cells #[.int .i64 0, .string ⟨#[]⟩, .int .i64 0, .int .i64 0] 122 (0, 0)
structure qeh (w wg : World) (b : Nat) : Prop where
 c0 : wg.cell? ⟨b, 0, none⟩ = some (.int .i64 0)
 c1 : wg.cell? ⟨b, 1, none⟩ = some (.string ⟨#[]⟩)
 c2 : wg.cell? ⟨b, 2, none⟩ = some (.int .i64 0)
 c3 : wg.cell? ⟨b, 3, none⟩ = some (.int .i64 0)
 f0 : wg.frozen? ⟨b, 0, none⟩ = false
 f1 : wg.frozen? ⟨b, 1, none⟩ = false
 f2 : wg.frozen? ⟨b, 2, none⟩ = false
 f3 : wg.frozen? ⟨b, 3, none⟩ = false
 lt : b < wg.heap.size
theorem qeh.mk' {w wg : World} {b : Nat} (h : wg.heap[b]? = some zTok) : qeh w wg b :=
 ⟨cOb (o := 0) h rfl, cOb (o := 1) h rfl, cOb (o := 2) h rfl, cOb (o := 3) h rfl, fOb (o := 0) h, fOb (o := 1) h, fOb (o := 2) h, fOb (o := 3) h, lHp h⟩
theorem Ng {B : Nat} {w w' : World} (h : Below B w w') {b : Nat} (hb : B <= b) (v0 v1 v2 v3 : Value) : Below B w ((((w'.setCell ⟨b, 0, none⟩ v0).setCell ⟨b, 1, none⟩ v1).setCell ⟨b, 2, none⟩ v2).setCell ⟨b, 3, none⟩ v3) :=
 (((h.setCell hb _).setCell hb _).setCell hb _).setCell hb _
theorem Ou {w : World} {A : Option Addr} {ts u l : List Tok} {t : Tok} (h : RdT w A ts) (hu : ts = u ++ t :: l) : ∃ b o, A = some ⟨b, o, none⟩ /\ b < w.heap.size /\ w.cell? ⟨b, o + u.length * 4, none⟩ = some (.int .i64 t.kind) /\ w.cell? ⟨b, o + u.length * 4 + 1, none⟩ = some (vs t.text) /\ w.cell? ⟨b, o + u.length * 4 + 2, none⟩ = some (.int .i64 t.n) /\ w.cell? ⟨b, o + u.length * 4 + 3, none⟩ = some (.int .i64 t.pos) := by
 obtain ⟨b, o, hA, hb, hc⟩ := h (by rw [hu]; simp); have hx : ts[u.length]? = some t := by rw [hu, List.getElem?_append_right (lR _)]; simp
 exact ⟨b, o, hA, hb, hc _ _ hx 0 _ rfl, hc _ _ hx 1 _ rfl, hc _ _ hx 2 _ rfl, hc _ _ hx 3 _ rfl⟩
theorem qfi (p fin : Nat) (ts : List Tok) (w : World) (hp : PS w p fin ts []) :
 Calls Tryz.prog 142 #[.pointer (some ⟨p, 0, none⟩)] w fun e w' => e = .returned (Zx fin []).agg /\ Below w.heap.size w w' := by
 obtain ⟨A, c, u, hh, hu, -⟩ := hp.is; have bQ : u.length = ts.length := by rw [hu]; simp
 rw [bQ] at hh; have c0 := cOb (o := 0) hh rfl; have c1 := cOb (o := 1) hh rfl; have aC := lHp hh; have HH := Hi hh; clear hh hp hu bQ; go_enter Tryz.func142, Tryz.ntmps142
 go_wp2_with fail; refine Je (by kernel_rfl) (by as_aux_lemma => kernel_rfl) ?_
 repeat (go_big_quiet_step (fail))
 refine wpQuiet_nil ?_; rintro _ ⟨y, rfl⟩; have hb : Below w.heap.size w (World.grew (w.alloc zTok) y) := ((Below.refl _ _).alloc (lR _) _).trans ((gBl _ y).mono (by simp)); have hx : (World.grew (w.alloc zTok) y).heap[w.heap.size]? = some zTok := ((gBl (w.alloc zTok) y).block _ (by simp)).trans (heap_alloc_new w _); generalize World.grew (w.alloc zTok) y = wg at hb hx ⊢; obtain ⟨d0, d1, d2, d3, f0, f1, f2, f3, dl⟩ := qeh.mk' (w := w) hx; have c2 : wg.cell? ⟨p, 2, none⟩ = some (.int .i64 fin) := cOb (o := 2) ((hb.block _ aC).trans HH.out) rfl; have HB := Hi hb; clear hb hx c0 c1; go_wp2_with fail; refine bodyPost_ret (v := (Zx fin []).agg) (by simp [results, Tryz.results142, go_sem, Zx, *]) rfl ⟨rfl, ?_⟩; exact Ng HB.out (lR _) _ _ _ _
theorem Uj (p fin : Nat) (ts : List Tok) (t : Tok) (l : List Tok) (w : World) (hp : PS w p fin ts (t :: l)) :
 Calls Tryz.prog 142 #[.pointer (some ⟨p, 0, none⟩)] w fun e w' => e = .returned t.agg /\ Below w.heap.size w w' := by
 obtain ⟨A, c, u, hh, hu, hr, -⟩ := hp.is; obtain ⟨b, o, rfl, aM, t0, t1, t2, t3⟩ := Ou hr hu; have c0 := cOb (o := 0) hh rfl; have c1 := cOb (o := 1) hh rfl; have aC := lHp hh; have HH := Hi hh; have bQ : u.length < ts.length := by rw [hu]; simp
 have hz : ((u.length : Int) == ts.length) = false := by simp; omega
 have T0 := Hi t0; have T1 := Hi t1; have T2 := Hi t2; have T3 := Hi t3; clear hh hp hu hr t0 t1 t2 t3; go_enter Tryz.func142, Tryz.ntmps142
 go_wp2_with fail; refine Je (by kernel_rfl) (by as_aux_lemma => kernel_rfl) ?_
 repeat (go_big_quiet_step (fail))
 refine wpQuiet_nil ?_; rintro _ ⟨y, rfl⟩; have hb : Below w.heap.size w (World.grew (w.alloc zTok) y) := ((Below.refl _ _).alloc (lR _) _).trans ((gBl _ y).mono (by simp)); have hx : (World.grew (w.alloc zTok) y).heap[w.heap.size]? = some zTok := ((gBl (w.alloc zTok) y).block _ (by simp)).trans (heap_alloc_new w _); generalize World.grew (w.alloc zTok) y = wg at hb hx ⊢; have hk := (hb.block _ aC).trans HH.out; have bK := cOb (o := 0) hk rfl; have bJ := cOb (o := 1) hk rfl; have s0 := (hb.cell (p := ⟨b, o + u.length * 4, none⟩) aM).trans T0.out; have s1 := (hb.cell (p := ⟨b, o + u.length * 4 + 1, none⟩) aM).trans T1.out; have s2 := (hb.cell (p := ⟨b, o + u.length * 4 + 2, none⟩) aM).trans T2.out; have s3 := (hb.cell (p := ⟨b, o + u.length * 4 + 3, none⟩) aM).trans T3.out; have bT := lHp hk; have bW : b < wg.heap.size := Nat.lt_of_lt_of_le aM hb.size; have HB := Hi hb; have HX := Hi hx; have hi : (u.length : Int) < ts.length := by omega
 clear hb hx c0 c1 hk; go_wp2_with fail; go_still_tail 10, (by kernel_rfl)
 change wpList _ _ _ _ _ wg.drew
 have aJ : wg.drew.heap[w.heap.size]? = some zTok := HX.out; have aB : Hid (Below w.heap.size w wg.drew) := Hi HB.out.drew; generalize wg.drew = w2 at aJ aB ⊢; obtain ⟨d0, d1, d2, d3, f0, f1, f2, f3, dl⟩ := qeh.mk' (w := w) aJ; clear aJ bK bJ s0 s1 s2 s3 bT bW; go_wp2_with fail; refine bodyPost_ret (v := t.agg) (by simp [results, Tryz.results142, go_sem, *]) rfl ⟨rfl, ?_⟩; exact Ng aB.out (lR _) _ _ _ _
theorem Ve (p fin : Nat) (ts l : List Tok) (w : World) (hp : PS w p fin ts l) :
 Calls Tryz.prog 142 #[.pointer (some ⟨p, 0, none⟩)] w fun e w' => e = .returned (Zx fin l).agg /\ Below w.heap.size w w' := by
 cases l with
 | nil => exact qfi p fin ts w hp
 | cons t r => exact Uj p fin ts t r w hp
theorem Zq (p fin : Nat) (ts l : List Tok) (w : World) (hp : PS w p fin ts l) :
 Calls Tryz.prog 96 #[.pointer (some ⟨p, 0, none⟩)] w fun e w' => e = Xg (Z1 l) (Xd fin l) /\ Below w.heap.size w w' := by
 have HP := Hi hp; obtain ⟨A, c, u, hh, hu, hr, -⟩ := hp.is; have c0 := cOb (o := 0) hh rfl; have c1 := cOb (o := 1) hh rfl; have aC := lHp hh; have HH := Hi hh; have HU := Hi hu; cases l with
 | nil =>
   have hz : ((u.length : Int) == ts.length) = true := by rw [hu]; simp
   clear hh hu hr hp; go_enter Tryz.func96, Tryz.ntmps96
   go_wp2_with fail; refine Je (by kernel_rfl) (by as_aux_lemma => kernel_rfl) ?_
   repeat (go_big_quiet_step (fail))
   refine wpQuiet_nil ?_; rintro _ ⟨y, rfl⟩; have hb := gBl w y; generalize World.grew w y = wg at hb ⊢; have hk := (hb.block _ aC).trans HH.out; have c2 := cOb (o := 2) hk rfl; have cO := lHp hk; have HB := Hi hb; clear hb hk c0 c1; go_wp2_with fail; exact ⟨rfl, rfl, HB.out⟩
 | cons t r =>
   have hz : ((u.length : Int) == ts.length) = false := by rw [hu]; simp; omega
   clear hh hu hr hp; go_enter Tryz.func96, Tryz.ntmps96
   go_wp2_with fail; refine Je (by kernel_rfl) (by as_aux_lemma => kernel_rfl) ?_
   repeat (go_big_quiet_step (fail))
   refine wpQuiet_nil ?_; rintro _ ⟨y, rfl⟩; have hb := gBl w y; have aH := Hi (HP.out.below hb); have HB := Hi hb; clear hb c0 c1; go_wp2_with (go_at_call 142; refine (Uj p fin ts t r _ aH.out).mono ?_; rintro e w2 ⟨rfl, aD⟩)
   exact ⟨rfl, rfl, HB.out.trans (aD.mono HB.out.size)⟩
end So
end
set_option maxRecDepth 20000
set_option maxHeartbeats 1600000
section
namespace So
open Go.RowKit
theorem Ie (B : ByteArray) (s : List UInt8) (w : World) (hB : B.data.toList = Vi Qw) (hs : ∀ c ∈ s, c ≠ 32) (hm : ∃ m, w.cell? ⟨2, 0, none⟩ = some (.int .i64 m)) :
 Calls Tryz.prog 162 #[.string B, .string ((⟨#[32]⟩ : ByteArray) ++ ⟨s.toArray⟩ ++ ⟨#[32]⟩)] w fun e w' => e = .returned (.bool (Wq s)) /\ w = w' := by
 obtain ⟨m, hm⟩ := hm
 have cK : B.size < 4294967281 := by
  have h1 : B.data.toList.length <= 1000 := by rw [hB]; decide
  have h2 : B.size = B.data.toList.length := (Array.length_toList).symm; omega
 refine (Tryz.strings_Contains B _ m w cK hm).mono ?_; rintro e w' ⟨rfl, rfl⟩; rw [hB, Mq, U5 s hs]; exact ⟨rfl, rfl⟩
theorem PS.off {p b fin : Nat} {ts l : List Tok} {w w' : World} (h : PS w p fin ts l) (ho : Off b w w') (hb : p < b) : PS w' p fin ts l :=
 h.keep (Nat.le_of_eq ho.size.symm) (fun k hk => ho.block k (by omega))
theorem Ta (ws : List (List UInt8)) (fin : Nat) (l : List Tok) : Ji ws l = (((Zx fin l).kind == 1 || (Zx fin l).kind == 3) && ws.contains (Zx fin l).text) := by
 cases l with
 | nil => rfl
 | cons t r => rfl
theorem Ug (ws : List (List UInt8)) (W : Option Addr) (cw : Nat) (p fin : Nat) (ts l : List Tok) (w : World) (hp : PS w p fin ts l) (hr : RdS w W ws) (hl : ws.length <= 1000) :
 Calls Tryz.prog 129 #[.pointer (some ⟨p, 0, none⟩), .slice W ws.length cw] w fun e w' => e = .returned (.bool (Ji ws l)) /\ Below w.heap.size w w' := by
 have HP := Hi hp; have HR := Hi hr; have HS := Hi (Ta ws fin l); clear hp hr; go_enter Tryz.func129, Tryz.ntmps129
 go_wp2_with fail; refine (Ve p fin ts l _ HP.out).mono ?_; rintro e w1 ⟨rfl, aA⟩; generalize Zx fin l = T at HS ⊢; have aB := Hi (aA.alloc aA.size (.cells #[.int .i64 T.kind, vs T.text, .int .i64 T.n, .int .i64 T.pos] 122 (0, 0))); have cC := Hi (HR.out.below aB.out); have hx := heap_alloc_new w1 (.cells #[.int .i64 T.kind, vs T.text, .int .i64 T.n, .int .i64 T.pos] 122 (0, 0)); clear aA; simp only [Tok.agg]; go_upto_region 2 with fail; generalize w1.alloc (.cells #[.int .i64 T.kind, vs T.text, .int .i64 T.n, .int .i64 T.pos] 122 (0, 0)) = w2 at aB cC hx ⊢; have d0 := cOb (o := 0) hx rfl; have d1 := cOb (o := 1) hx rfl; have dl := lHp hx; clear hx
 by_cases h1 : T.kind = 1
 · rw [h1] at d0; have HE : Hid (Ji ws l = ws.contains T.text) := Hi (by rw [HS.out, h1]; rfl); clear h1; go_wp2_with fail; refine (J7 ws W cw T.text w2 cC.out hl).mono ?_; rintro e w3 ⟨rfl, rfl⟩; generalize ws.contains T.text = B at HE ⊢; go_wp2_with fail; go_ret; exact ⟨by rw [HE.out]; rfl, aB.out⟩
 · by_cases h3 : T.kind = 3
   · rw [h3] at d0; have HE : Hid (Ji ws l = ws.contains T.text) := Hi (by rw [HS.out, h3]; rfl); clear h3 h1; go_wp2_with fail; refine (J7 ws W cw T.text w2 cC.out hl).mono ?_; rintro e w3 ⟨rfl, rfl⟩; generalize ws.contains T.text = B at HE ⊢; go_wp2_with fail; go_ret; exact ⟨by rw [HE.out]; rfl, aB.out⟩
   · have HE : Hid (Ji ws l = false) := Hi (by rw [HS.out]; simp [h1, h3]); have i1 : ((T.kind : Int) == 1) = false := by simp; omega
     have i3 : ((T.kind : Int) == 3) = false := by simp; omega
     clear h1 h3; go_wp2_with fail; go_ret; exact ⟨by rw [HE.out]; rfl, aB.out⟩
theorem PS.step {w w1 : World} {p fin : Nat} {ts : List Tok} {t : Tok} {l : List Tok} (h : PS w p fin ts (t :: l)) (hb : Below w.heap.size w w1) {A : Option Addr} {c : Nat} {u : List Tok}
 (hh : w.heap[p]? = some (.cells #[.slice A ts.length c, .int .i64 (u.length : Nat), .int .i64 fin] 92 (0, 0))) (hu : ts = u ++ t :: l) (hr : RdT w A ts) (hn : ∀ b o, A = some ⟨b, o, none⟩ -> b < p) (h1 : ts.length <= c) (h2 : c <= 9223372036854775807) {i : Int} (hi : i = ((u.length + 1 : Nat) : Int)) :
 PS (w1.setCell ⟨p, 1, none⟩ (.int .i64 i)) p fin ts l /\ Eff p w (w1.setCell ⟨p, 1, none⟩ (.int .i64 i)) := by
 subst hi; have he : Eff p w (w1.setCell ⟨p, 1, none⟩ (.int .i64 ((u.length + 1 : Nat) : Int))) := (Eff.of_below hb).setCell ⟨p, 1, none⟩ (.inl rfl) _; obtain ⟨m, hm⟩ := h.mx; refine ⟨⟨⟨A, c, u ++ [t], ?_, by rw [hu]; simp, Sl.keep hr he.size (fun b o hA aC => he.block _ aC (Nat.ne_of_lt (hn b o hA))), hn, h1, h2⟩, h.fit, h.few, ⟨m, he.cell hm (Nat.ne_of_lt h.ne)⟩, h.ne, h.bound⟩, he⟩; rw [rSc (o := 1) (u := .int .i64 ((u.length + 1 : Nat) : Int)) ((hb.block p (lHp hh)).trans hh)]; simp
theorem Wu (s : List UInt8) (p fin : Nat) (ts l : List Tok) (w : World) (hp : PS w p fin ts l) (hs : Ji [s] l = false) :
 Calls Tryz.prog 88 #[.pointer (some ⟨p, 0, none⟩), vs s] w fun e w' => e = .returned (.bool false) /\ Below w.heap.size w w' := by
 have HP := Hi (hp.below ((Below.refl _ _).alloc (lR _) (.cells #[vs s] 9 (0, 0)))); have HR : Hid (RdS (w.alloc (.cells #[vs s] 9 (0, 0))) (some ⟨w.heap.size, 0, none⟩) [s]) := Hi (RdS.new (heap_alloc_new w _)); have HS := Hi hs; clear hp hs; go_enter Tryz.func88, Tryz.ntmps88
 go_wp2_with fail; refine (Ug [s] _ 1 p fin ts l _ HP.out HR.out (by simp)).mono ?_; rintro e w1 ⟨rfl, aA⟩; rw [HS.out]; have HB := Hi (((Below.refl _ _).alloc (lR _) (.cells #[vs s] 9 (0, 0))).trans (aA.mono (by simp))); clear aA; go_wp2_with fail; go_ret; exact ⟨rfl, HB.out⟩
theorem X0 (s : List UInt8) (p fin : Nat) (ts l : List Tok) (w : World) (hp : PS w p fin ts l) (hs : Ji [s] l = true) :
 Calls Tryz.prog 88 #[.pointer (some ⟨p, 0, none⟩), vs s] w fun e w' => e = .returned (.bool true) /\ PS w' p fin ts l.tail /\ Eff p w w' := by
 have aL := Hi hp; have HP := Hi (hp.below ((Below.refl _ _).alloc (lR _) (.cells #[vs s] 9 (0, 0)))); have HR : Hid (RdS (w.alloc (.cells #[vs s] 9 (0, 0))) (some ⟨w.heap.size, 0, none⟩) [s]) := Hi (RdS.new (heap_alloc_new w _)); have HS := Hi hs; clear hp hs; go_enter Tryz.func88, Tryz.ntmps88
 go_wp2_with fail; refine (Ug [s] _ 1 p fin ts l _ HP.out HR.out (by simp)).mono ?_; rintro e w1 ⟨rfl, aA⟩; rw [HS.out]; have HB : Hid (Below w.heap.size w w1) := Hi (((Below.refl _ _).alloc (lR _) (.cells #[vs s] 9 (0, 0))).trans (aA.mono (by simp))); clear aA; cases l with
 | nil => exact absurd HS.out (by simp [Ji])
 | cons t r =>
   obtain ⟨A, c, u, hh, hu, hr, hn, h1, h2⟩ := aL.out.is; have aZ := Hi (fun i hi => PS.step aL.out HB.out hh hu hr hn h1 h2 (i := i) hi); have hk := (HB.out.block _ (lHp hh)).trans hh; have c1 := cOb (o := 1) hk rfl; have f1 := fOb (o := 1) hk; have dl := lHp hk; have aF : u.length < 5000 := by have := aL.out.few; rw [hu] at this; simp at this; omega
   clear hh hu hr hn hk h1 h2; go_wp2_with fail; go_ret; exact ⟨rfl, aZ.out _ (by simp)⟩
def Wp {α : Type} (p fin : Nat) (ts : List Tok) (w : World) (res : R α) (V : α -> Value -> World -> Prop) (e : Ending) (w' : World) : Prop :=
 match res with
 | .ok (x, r) => ∃ v, e = .returned v /\ V x v w' /\ PS w' p fin ts r /\ Eff p w w'
 | .error (er, s) => e = Xg er (Xd fin s) /\ Eff p w w'
abbrev UnitV : Unit -> Value -> World -> Prop := fun _ v _ => v = .tuple #[]
theorem Xk (s : List UInt8) (p fin : Nat) (ts l : List Tok) (w : World) (hp : PS w p fin ts l) :
 Calls Tryz.prog 91 #[.pointer (some ⟨p, 0, none⟩), vs s] w (Wp p fin ts w (Q3 s l) UnitV) := by
 have HP := Hi hp; clear hp; cases hs : Ji [s] l with
 | true =>
   have HS := Hi hs; rw [show Q3 s l = .ok ((), l.tail) by unfold Q3 isF; rw [hs]; rfl]; clear hs; go_enter Tryz.func91, Tryz.ntmps91
   go_wp2_with fail; refine (X0 s p fin ts l _ HP.out HS.out).mono ?_; rintro e w1 ⟨rfl, bC, aV⟩; go_wp2_with fail; go_end0; exact ⟨_, rfl, rfl, bC, aV⟩
 | false =>
   have HS := Hi hs; rw [show Q3 s l = .error (Z1 l, l) by unfold Q3 isF; rw [hs]; rfl]; clear hs; go_enter Tryz.func91, Tryz.ntmps91
   go_wp2_with fail; refine (Wu s p fin ts l _ HP.out HS.out).mono ?_; rintro e w1 ⟨rfl, aA⟩; have aE := Hi aA; have cD := Hi (HP.out.below aA); clear aA; go_wp2_with fail; refine (Zq p fin ts l _ cD.out).mono ?_; rintro e w2 ⟨rfl, aD⟩; have aB := Hi (aE.out.trans (aD.mono aE.out.size)); clear aD; go_wp2_with fail; exact ⟨rfl, rfl, Eff.of_below aB.out⟩
theorem Fk (fin : Nat) (l : List Tok) : X6 l = ((Zx fin l).kind == 1 && !Wq (Zx fin l).text) := by
 cases l with
 | nil => rfl
 | cons t r => rfl
theorem Pa {w : World} {p fin : Nat} {ts l : List Tok} (h : PS w p fin ts l) : (Zx fin l).text.length <= 30 /\ ((Zx fin l).kind = 1 -> ∀ c ∈ (Zx fin l).text, c ≠ 32) := by
 cases l with
 | nil => exact ⟨by simp [Zx], fun hk => absurd hk (by simp [Zx])⟩
 | cons t r =>
   obtain ⟨A, c, u, -, hu, -⟩ := h.is; have := h.fit t (by rw [hu]; simp); exact ⟨this.len, this.nospace⟩
theorem U6 (p fin : Nat) (ts l : List Tok) (w : World) (hp : PS w p fin ts l) :
 Calls Tryz.prog 132 #[.pointer (some ⟨p, 0, none⟩)] w fun e w' => e = .returned (.bool (X6 l)) /\ Below w.heap.size w w' := by
 have HP := Hi hp; have HS := Hi (Fk fin l); have HF := Hi (Pa hp); clear hp; go_enter Tryz.func132, Tryz.ntmps132
 go_wp2_with fail; refine (Ve p fin ts l _ HP.out).mono ?_; rintro e w1 ⟨rfl, aA⟩; generalize Zx fin l = T at HS HF ⊢; have aB := Hi (aA.alloc aA.size (.cells #[.int .i64 T.kind, vs T.text, .int .i64 T.n, .int .i64 T.pos] 122 (0, 0))); have HM := Hi ((HP.out.below aB.out).mx); have hx := heap_alloc_new w1 (.cells #[.int .i64 T.kind, vs T.text, .int .i64 T.n, .int .i64 T.pos] 122 (0, 0)); clear aA; simp only [Tok.agg]; go_upto_region 2 with fail; generalize w1.alloc (.cells #[.int .i64 T.kind, vs T.text, .int .i64 T.n, .int .i64 T.pos] 122 (0, 0)) = w2 at aB HM hx ⊢; have d0 := cOb (o := 0) hx rfl; have d1 := cOb (o := 1) hx rfl; have dl := lHp hx; obtain ⟨aF, cG⟩ := HF.out; have cM := Hi cG; clear hx cG; have q1 : ¬ 9223372036854775807 < 1 + T.text.length := by omega
 have q2 : ¬ 9223372036854775807 < 1 + T.text.length + 1 := by omega
 by_cases h1 : T.kind = 1
 · rw [h1] at d0; have HE : Hid (X6 l = !Wq T.text) := Hi (by rw [HS.out, h1]; rfl); have cA := Hi (cM.out h1); clear h1; go_wp2_with fail; refine (Ie _ T.text w2 (by kernel_rfl) cA.out HM.out).mono ?_; rintro e w3 ⟨rfl, rfl⟩; generalize Wq T.text = B at HE ⊢; go_wp2_with fail; go_ret; exact ⟨by rw [HE.out]; rfl, aB.out⟩
 · have HE : Hid (X6 l = false) := Hi (by rw [HS.out]; simp [h1]); have i1 : ((T.kind : Int) == 1) = false := by simp; omega
   clear h1; go_wp2_with fail; go_ret; exact ⟨by rw [HE.out]; rfl, aB.out⟩
theorem Rc (p fin : Nat) (ts l : List Tok) (w : World) (hp : PS w p fin ts l) (hs : X6 l = false) :
 Calls Tryz.prog 90 #[.pointer (some ⟨p, 0, none⟩)] w fun e w' => e = Xg (Z1 l) (Xd fin l) /\ Below w.heap.size w w' := by
 have HS := Hi hs; have HP := Hi (hp.below ((Below.refl _ _).alloc (lR _) zTok)); clear hp hs; go_enter Tryz.func90, Tryz.ntmps90
 go_wp2_with fail; refine (U6 p fin ts l _ HP.out).mono ?_; rintro e w1 ⟨rfl, aA⟩; rw [HS.out]; have aE := Hi aA; clear aA; have aH := Hi (HP.out.below aE.out); go_wp2_with fail; refine (Zq p fin ts l _ aH.out).mono ?_; rintro e w2 ⟨rfl, aD⟩; have aB := Hi (((Below.refl _ _).alloc (lR _) zTok).trans ((aE.out.trans (aD.mono aE.out.size)).mono (by simp))); clear aD; go_wp2_with fail; exact ⟨rfl, rfl, aB.out⟩
theorem U1 (p fin : Nat) (ts : List Tok) (t : Tok) (l : List Tok) (w : World) (hp : PS w p fin ts (t :: l)) (hs : X6 (t :: l) = true) :
 Calls Tryz.prog 90 #[.pointer (some ⟨p, 0, none⟩)] w fun e w' => e = .returned t.agg /\ PS w' p fin ts l /\ Eff p w w' := by
 have HS := Hi hs; have aL := Hi hp; have bR := hp.lt; have aX : Below w.heap.size w (w.alloc zTok) := (Below.refl _ _).alloc (lR _) _; have aY := Hi (heap_alloc_new w zTok); have HP := Hi (hp.below aX); have bB := Hi aX; clear hp hs aX; go_enter Tryz.func90, Tryz.ntmps90
 go_wp2_with fail; generalize w.alloc zTok = w0 at aY HP bB ⊢; refine (U6 p fin ts (t :: l) _ HP.out).mono ?_; rintro e w1 ⟨rfl, aA⟩; rw [HS.out]; have aE := Hi aA; clear aA; have HB : Hid (Below w.heap.size w w1) := Hi (bB.out.trans (aE.out.mono bB.out.size)); have bE : Hid (w1.heap[w.heap.size]? = some zTok) := Hi ((aE.out.block _ (lHp aY.out)).trans aY.out); obtain ⟨A, c, u, hh, hu, hr, hn, h1, h2⟩ := aL.out.is; have aZ := Hi (fun i hi => PS.step aL.out HB.out hh hu hr hn h1 h2 (i := i) hi); obtain ⟨b, o, rfl, aM, t0, t1, t2, t3⟩ := Ou hr hu; have bH : b ≠ p := Nat.ne_of_lt (hn b o rfl); have hk := (HB.out.block _ (lHp hh)).trans hh; have c1 := cOb (o := 1) hk rfl; have f1 := fOb (o := 1) hk; have dl := lHp hk; have HK := Hi hk; have aF : u.length < ts.length := by rw [hu]; simp
 have aU := aL.out.few; have T0 := Hi t0; have T1 := Hi t1; have T2 := Hi t2; have T3 := Hi t3; have HN := Hi bH; clear hh hu hr hn hk h1 h2 t0 t1 t2 t3 bH; go_wp2_with fail; obtain ⟨aS, aG⟩ := aZ.out ((u.length : Int) + 1) (by simp); have aJ : (w1.setCell ⟨p, 1, none⟩ (.int .i64 ((u.length : Int) + 1))).heap[w.heap.size]? = some zTok := (Below.heap_setCell _ _ _ _ (by simp; omega)).trans bE.out
 have aI : (w1.setCell ⟨p, 1, none⟩ (.int .i64 ((u.length : Int) + 1))).heap[p]? = some (.cells #[.slice (some ⟨b, o, none⟩) ts.length c, .int .i64 ((u.length : Int) + 1), .int .i64 fin] 92 (0, 0)) := by
  rw [rSc (o := 1) HK.out]; simp
 generalize w1.setCell ⟨p, 1, none⟩ (.int .i64 ((u.length : Int) + 1)) = w2 at aS aG aJ aI ⊢; have bK := cOb (o := 0) aI rfl; have bJ := cOb (o := 1) aI rfl; have bY := lHp aI; have s0 := aG.cell T0.out HN.out; have s1 := aG.cell T1.out HN.out; have s2 := aG.cell T2.out HN.out; have s3 := aG.cell T3.out HN.out; have aW : b < w2.heap.size := Nat.lt_of_lt_of_le aM aG.size; have i1 : IntKind.i64.wrap (u.length : Int) = u.length := IntWalk.i64_in _ ⟨by omega, by omega⟩; have i2 : (u.length : Int) < ts.length := by omega
 have bZ := Hi aJ; have aH := Hi aS; have bA := Hi aG; clear aS aG aJ aI c1 f1 dl aF aU; go_still_tail 11, (by kernel_rfl)
 change wpList _ _ _ _ _ w2.drew
 have aP : w2.drew.heap[w.heap.size]? = some zTok := bZ.out; have bL : Hid (PS w2.drew p fin ts l) := Hi (aH.out.below (Below.refl _ _).drew); have bM : Hid (Eff p w w2.drew) := Hi (bA.out.trans (Eff.of_below (Below.refl _ _).drew)); generalize w2.drew = w3 at aP bL bM ⊢; obtain ⟨d0, d1, d2, d3, f0, f1, f2, f3, dl⟩ := qeh.mk' (w := w) aP; clear aP bK bJ s0 s1 s2 s3 aW bY i1 i2; go_wp2_with fail; have ho := ((((Off.refl w.heap.size w3).set (o := 0) (.int .i64 t.kind)).set (o := 1) (vs t.text)).set (o := 2) (.int .i64 t.n)).set (o := 3) (.int .i64 t.pos); refine bodyPost_ret (v := t.agg) (by simp [results, Tryz.results90, go_sem, *]) rfl ⟨rfl, ?_⟩; exact ⟨bL.out.off ho bR, bM.out.off ho (lR _)⟩
theorem R4 (p fin : Nat) (ts l : List Tok) (w : World) (hp : PS w p fin ts l) (hs : (Zx fin l).kind ≠ 2) :
 Calls Tryz.prog 138 #[.pointer (some ⟨p, 0, none⟩)] w fun e w' => e = Xg (Z1 l) (Xd fin l) /\ Below w.heap.size w w' := by
 have HS := Hi hs; have HP := Hi (hp.below ((Below.refl _ _).alloc (lR _) zTok)); clear hp hs; go_enter Tryz.func138, Tryz.ntmps138
 go_wp2_with fail; refine (Ve p fin ts l _ HP.out).mono ?_; rintro e w1 ⟨rfl, aA⟩; have aI := HS.out; generalize Zx fin l = T at aI ⊢; have i1 : ((T.kind : Int) == 2) = false := by simp; omega
 have i2 : ((T.kind : Int) != 2) = true := by simp; omega
 simp only [Tok.agg]; clear aI; have aE := Hi aA; clear aA; have aH := Hi (HP.out.below aE.out); go_wp2_with fail; refine (Zq p fin ts l _ aH.out).mono ?_; rintro e w2 ⟨rfl, aD⟩; have aB := Hi (((Below.refl _ _).alloc (lR _) zTok).trans ((aE.out.trans (aD.mono aE.out.size)).mono (by simp))); clear aD; go_wp2_with fail; exact ⟨rfl, rfl, aB.out⟩
theorem V0 (p fin : Nat) (ts : List Tok) (t : Tok) (l : List Tok) (w : World) (hp : PS w p fin ts (t :: l)) (hs : t.kind = 2) :
 Calls Tryz.prog 138 #[.pointer (some ⟨p, 0, none⟩)] w fun e w' => e = .returned t.agg /\ PS w' p fin ts l /\ Eff p w w' := by
 have HS := Hi hs; have aL := Hi hp; have bR := hp.lt; have aX : Below w.heap.size w (w.alloc zTok) := (Below.refl _ _).alloc (lR _) _; have aY := Hi (heap_alloc_new w zTok); have HP := Hi (hp.below aX); have bB := Hi aX; clear hp hs aX; go_enter Tryz.func138, Tryz.ntmps138
 go_wp2_with fail; generalize w.alloc zTok = w0 at aY HP bB ⊢; refine (Uj p fin ts t l _ HP.out).mono ?_; rintro e w1 ⟨rfl, aA⟩; have i8 : ((t.kind : Int) == 2) = true := by have := HS.out; simp; omega
 have i9 : ((t.kind : Int) != 2) = false := by have := HS.out; simp; omega
 simp only [Tok.agg]; have aE := Hi aA; clear aA; have HB : Hid (Below w.heap.size w w1) := Hi (bB.out.trans (aE.out.mono bB.out.size)); have bE : Hid (w1.heap[w.heap.size]? = some zTok) := Hi ((aE.out.block _ (lHp aY.out)).trans aY.out); obtain ⟨A, c, u, hh, hu, hr, hn, h1, h2⟩ := aL.out.is; have aZ := Hi (fun i hi => PS.step aL.out HB.out hh hu hr hn h1 h2 (i := i) hi); obtain ⟨b, o, rfl, aM, t0, t1, t2, t3⟩ := Ou hr hu; have bH : b ≠ p := Nat.ne_of_lt (hn b o rfl); have hk := (HB.out.block _ (lHp hh)).trans hh; have c1 := cOb (o := 1) hk rfl; have f1 := fOb (o := 1) hk; have dl := lHp hk; have HK := Hi hk; have aF : u.length < ts.length := by rw [hu]; simp
 have aU := aL.out.few; have T0 := Hi t0; have T1 := Hi t1; have T2 := Hi t2; have T3 := Hi t3; have HN := Hi bH; clear hh hu hr hn hk h1 h2 t0 t1 t2 t3 bH; go_wp2_with fail; obtain ⟨aS, aG⟩ := aZ.out ((u.length : Int) + 1) (by simp); have aJ : (w1.setCell ⟨p, 1, none⟩ (.int .i64 ((u.length : Int) + 1))).heap[w.heap.size]? = some zTok := (Below.heap_setCell _ _ _ _ (by simp; omega)).trans bE.out
 have aI : (w1.setCell ⟨p, 1, none⟩ (.int .i64 ((u.length : Int) + 1))).heap[p]? = some (.cells #[.slice (some ⟨b, o, none⟩) ts.length c, .int .i64 ((u.length : Int) + 1), .int .i64 fin] 92 (0, 0)) := by
  rw [rSc (o := 1) HK.out]; simp
 generalize w1.setCell ⟨p, 1, none⟩ (.int .i64 ((u.length : Int) + 1)) = w2 at aS aG aJ aI ⊢; have bK := cOb (o := 0) aI rfl; have bJ := cOb (o := 1) aI rfl; have bY := lHp aI; have s0 := aG.cell T0.out HN.out; have s1 := aG.cell T1.out HN.out; have s2 := aG.cell T2.out HN.out; have s3 := aG.cell T3.out HN.out; have aW : b < w2.heap.size := Nat.lt_of_lt_of_le aM aG.size; have i1 : IntKind.i64.wrap (u.length : Int) = u.length := IntWalk.i64_in _ ⟨by omega, by omega⟩; have i2 : (u.length : Int) < ts.length := by omega
 have bZ := Hi aJ; have aH := Hi aS; have bA := Hi aG; clear aS aG aJ aI c1 f1 dl aF aU; go_still_tail 11, (by kernel_rfl)
 change wpList _ _ _ _ _ w2.drew
 have aP : w2.drew.heap[w.heap.size]? = some zTok := bZ.out; have bL : Hid (PS w2.drew p fin ts l) := Hi (aH.out.below (Below.refl _ _).drew); have bM : Hid (Eff p w w2.drew) := Hi (bA.out.trans (Eff.of_below (Below.refl _ _).drew)); generalize w2.drew = w3 at aP bL bM ⊢; obtain ⟨d0, d1, d2, d3, f0, f1, f2, f3, dl⟩ := qeh.mk' (w := w) aP; clear aP bK bJ s0 s1 s2 s3 aW bY i1 i2; go_wp2_with fail; have ho := ((((Off.refl w.heap.size w3).set (o := 0) (.int .i64 t.kind)).set (o := 1) (vs t.text)).set (o := 2) (.int .i64 t.n)).set (o := 3) (.int .i64 t.pos); refine bodyPost_ret (v := t.agg) (by simp [results, Tryz.results138, go_sem, *]) rfl ⟨rfl, ?_⟩; exact ⟨bL.out.off ho bR, bM.out.off ho (lR _)⟩
theorem Xm (e : Nat) (t : Tok) (w : World) : Calls Tryz.prog 139 #[.bool false, .int .i64 e, t.agg] w fun x w' => x = .returned (.tuple #[]) /\ Below w.heap.size w w' := by
 simp only [Tok.agg]; go_enter Tryz.func139, Tryz.ntmps139
 go_wp2_with fail; go_end0; exact ⟨rfl, (Below.refl _ _).alloc (lR _) _⟩
theorem Zd (e : Nat) (t : Tok) (w : World) : Calls Tryz.prog 139 #[.bool true, .int .i64 e, t.agg] w fun x w' => x = Xg e t.pos /\ Below w.heap.size w w' := by
 simp only [Tok.agg]; go_enter Tryz.func139, Tryz.ntmps139
 go_wp2_with fail; exact ⟨rfl, rfl, (Below.refl _ _).alloc (lR _) _⟩
theorem Vv (l : List Tok) : (∃ t r, l = t :: r /\ t.kind = 2 /\ Q6 l = .ok (t.n, r)) \/ ((∀ fin, (Zx fin l).kind ≠ 2) /\ Q6 l = .error (Z1 l, l)) := by
 cases l with
 | nil => exact .inr ⟨fun fin => by simp [Zx], rfl⟩
 | cons t r =>
   by_cases h : t.kind = 2
   · exact .inl ⟨t, r, rfl, h, by simp [Q6, h]⟩
   · exact .inr ⟨fun fin => h, by simp [Q6, h, failR]⟩
theorem Yd (l : List Tok) : (∃ t r, l = t :: r /\ X6 l = true /\ Jb l = .ok (t.text, r)) \/ (X6 l = false /\ Jb l = .error (Z1 l, l)) := by
 cases l with
 | nil => exact .inr ⟨rfl, rfl⟩
 | cons t r =>
   cases h : (t.kind == 1 && !Wq t.text) with
   | true => exact .inl ⟨t, r, rfl, h, by unfold Jb; simp only []; rw [h]; rfl⟩
   | false => exact .inr ⟨h, by unfold Jb; simp only []; rw [h]; rfl⟩
theorem Oc (most : Nat) (p fin : Nat) (ts l : List Tok) (w : World) (hp : PS w p fin ts l) :
 Calls Tryz.prog 92 #[.pointer (some ⟨p, 0, none⟩), .int .i64 most] w (Wp p fin ts w (Xf most l) (fun n v _ => v = .int .i64 n)) := by
 have HP := Hi hp; clear hp; rcases Vv l with ⟨t, r, rfl, hk, hn⟩ | ⟨hk, hn⟩
 · have HK := Hi hk
   by_cases hm : most < t.n
   · rw [show Xf most (t :: r) = .error (10, t :: r) by unfold Xf; rw [hn]; simp [Qc, hm]]; have i1 : (most : Int) < t.n := (by omega)
     clear hk hn; go_enter Tryz.func92, Tryz.ntmps92
     go_wp2_with fail; refine (V0 p fin ts t r _ HP.out HK.out).mono ?_; rintro e w1 ⟨rfl, bC, aV⟩; have cE := Hi aV; clear bC aV; simp only [Tok.agg]; go_wp2_with fail; refine (Zd 10 t _).mono ?_; rintro e w2 ⟨rfl, aD⟩; have bA := Hi ((cE.out.alloc _).trans (Eff.of_below aD)); clear aD; go_wp2_with fail; exact ⟨rfl, rfl, bA.out⟩
   · rw [show Xf most (t :: r) = .ok (t.n, r) by unfold Xf; rw [hn]; simp [Qc, hm]]; have i1 : ¬ (most : Int) < t.n := (by omega)
     clear hk hn; go_enter Tryz.func92, Tryz.ntmps92
     go_wp2_with fail; refine (V0 p fin ts t r _ HP.out HK.out).mono ?_; rintro e w1 ⟨rfl, bC, aV⟩; have cE := Hi (aV.alloc (.cells #[.int .i64 t.kind, vs t.text, .int .i64 t.n, .int .i64 t.pos] 122 (0, 0))); have cD := Hi (bC.below ((Below.refl _ _).alloc (lR _) (.cells #[.int .i64 t.kind, vs t.text, .int .i64 t.n, .int .i64 t.pos] 122 (0, 0)))); have bE := Hi (heap_alloc_new w1 (.cells #[.int .i64 t.kind, vs t.text, .int .i64 t.n, .int .i64 t.pos] 122 (0, 0))); clear bC aV; simp only [Tok.agg]; go_wp2_with fail; refine (Xm 10 t _).mono ?_; rintro e w2 ⟨rfl, aD⟩; have bA := Hi (cE.out.trans (Eff.of_below aD)); have aH := Hi (cD.out.below aD); have hx := (aD.block _ (lHp bE.out)).trans bE.out; have d2 := cOb (o := 2) hx rfl; have dl := lHp hx; clear aD hx; go_wp2_with fail; go_ret; exact ⟨_, rfl, rfl, aH.out, bA.out⟩
 · rw [show Xf most l = .error (Z1 l, l) by unfold Xf; rw [hn]; rfl]; have HK := Hi (hk fin); clear hk hn; go_enter Tryz.func92, Tryz.ntmps92
   go_wp2_with fail; refine (R4 p fin ts l _ HP.out HK.out).mono ?_; rintro e w1 ⟨rfl, aA⟩; have aE := Hi aA; clear aA; go_wp2_with fail; exact ⟨rfl, rfl, Eff.of_below aE.out⟩
end So
namespace So
theorem PS.grown {w w' : World} {p fin : Nat} {ts l : List Tok} {row : Option Nat} (h : PS w p fin ts l) (hg : w.grownBy w' row) (hr : ∀ k, row = some k -> p < k) : PS w' p fin ts l :=
 h.keep hg.size (fun b hb => hg.block b (Nat.lt_of_le_of_lt hb h.lt) (fun e => by have := hr b e.symm; omega))
end So
namespace So
def eE (fm : Bool) : TypeId := if fm then 223 else 225
def sE (fm : Bool) : TypeId := if fm then 181 else 189
def esz (fm : Bool) : Nat := tsz fm + 1
def RdE (fm : Bool) (S : Nat -> Prop) (w : World) (cs : List Value) (x : Qb × Nat) : Prop := ∃ tc, cs = tc ++ [.int .i64 (x.2 : Int)] /\ Qg fm S w tc x.1
theorem RdE.len {fm : Bool} {S : Nat -> Prop} {w : World} {cs : List Value} {x : Qb × Nat} (h : RdE fm S w cs x) : cs.length = esz fm := by
 obtain ⟨tc, rfl, h⟩ := h; rw [List.length_append, h.len]; rfl
theorem RdE.one {fm : Bool} {S : Nat -> Prop} {w : World} {cs : List Value} {x : Qb × Nat} (h : RdE fm S w cs x) : ∀ u ∈ cs, u.oneCell' = true := by
 obtain ⟨tc, rfl, h⟩ := h; intro u hu; rcases List.mem_append.1 hu with hu | hu
 · exact h.one u hu
 · simp at hu; subst hu; rfl
theorem RdE.keep {fm : Bool} {S S' : Nat -> Prop} {w w' : World} (hs : w.heap.size <= w'.heap.size) (hk : ∀ b, S b -> b < w.heap.size -> S' b /\ w'.heap[b]? = w.heap[b]?) {cs : List Value} {x : Qb × Nat} (h : RdE fm S w cs x) : RdE fm S' w' cs x := by
 obtain ⟨tc, rfl, h⟩ := h; exact ⟨tc, rfl, h.keep hs hk⟩
structure Ki (fm : Bool) (w : World) (base : Nat) (v : Value) (st : Qm) : Prop where
 is : ∃ css : List (List Value), css.length = st.length /\ (∀ (i : Nat) (cs : List Value) (x : Qb × Nat), css[i]? = some cs -> st[i]? = some x -> RdE fm (fun b => base <= b /\ v.ownBlock ≠ some b) w cs x) /\ w.ownsRow base (eE fm) (esz fm) v st.length css.flatten
theorem Ki.nil {fm : Bool} {w : World} {base : Nat} : Ki fm w base (.slice none 0 0) [] := ⟨[], rfl, fun i cs x h => by simp at h, by simp, .inl ⟨rfl, rfl⟩⟩
theorem Ki.own {fm : Bool} {w : World} {base : Nat} {v : Value} {st : Qm} (h : Ki fm w base v st) : ∀ b, v.ownBlock = some b -> base <= b /\ b < w.heap.size := by
 obtain ⟨css, h1, h2, h3⟩ := h.is; rcases h3.2 with ⟨hv, h0⟩ | ⟨g, cap, cur, rfl, r2, r3, r4⟩
 · intro b hb; rw [hv] at hb; simp [Value.ownBlock] at hb
 · intro b hb; simp [Value.ownBlock] at hb; subst hb; exact ⟨r2, lHp r3⟩
theorem Ki.form {fm : Bool} {w : World} {base : Nat} {v : Value} {st : Qm} (h : Ki fm w base v st) : ∃ A cap, v = .slice A st.length cap := by
 obtain ⟨css, h1, h2, h3⟩ := h.is; rcases h3.2 with ⟨hv, h0⟩ | ⟨g, cap, cur, rfl, r2, r3, r4⟩
 · exact ⟨none, 0, by rw [hv, h0]⟩
 · exact ⟨_, cap, rfl⟩
theorem Ki.keep {fm : Bool} {w w' : World} {base : Nat} {v : Value} {st : Qm} (h : Ki fm w base v st) (hs : w.heap.size <= w'.heap.size) (hk : ∀ b, base <= b -> b < w.heap.size -> w'.heap[b]? = w.heap[b]?) : Ki fm w' base v st := by
 obtain ⟨css, h1, h2, h3⟩ := h.is; refine ⟨css, h1, fun i cs t a b => (h2 i cs t a b).keep hs (fun b hb aC => ⟨hb, hk b hb.1 aC⟩), h3.1, ?_⟩; rcases h3.2 with h | ⟨g, cap, cur, rfl, r2, r3, r4⟩
 · exact .inl h
 · exact .inr ⟨g, cap, cur, rfl, r2, (hk g r2 (lHp r3)).trans r3, r4⟩
theorem Ki.of_heap {fm : Bool} {w w' : World} {base : Nat} {v : Value} {st : Qm} (h : Ki fm w base v st) (hh : w'.heap = w.heap) : Ki fm w' base v st :=
 h.keep (by rw [hh]; exact lR _) (fun b _ _ => by rw [hh])
theorem qb1 {α : Type} {n : Nat} : ∀ {css : List (List α)} {k j : Nat} {cs : List α} {u : α}, (∀ (i : Nat) (c : List α), css[i]? = some c -> c.length = n) -> css[k]? = some cs -> cs[j]? = some u -> css.flatten[k * n + j]? = some u
 | [], k, j, cs, u, _, h, _ => by simp at h
 | c :: r, 0, j, cs, u, hl, h, hu => by
   simp at h; subst h; rw [List.flatten_cons, Nat.zero_mul, Nat.zero_add, List.getElem?_append_left (List.getElem?_eq_some_iff.1 hu).1]; exact hu
 | c :: r, k + 1, j, cs, u, hl, h, hu => by
   have h0 := hl 0 c rfl; have := qb1 (k := k) (j := j) (css := r) (fun i c hi => hl (i + 1) c (by simpa using hi)) (by simpa using h) hu; rw [List.flatten_cons, List.getElem?_append_right (by rw [h0, Nat.add_mul, Nat.one_mul]; omega), h0]; rw [show (k + 1) * n + j - n = k * n + j by rw [Nat.add_mul, Nat.one_mul]; omega]; exact this
theorem Ki.at {fm : Bool} {w : World} {base : Nat} {v : Value} {st : Qm} (h : Ki fm w base v st) (bD : st ≠ []) : ∃ g cap, v = .slice (some ⟨g, 0, none⟩) st.length cap /\ base <= g /\ g < w.heap.size /\ st.length <= cap /\ cap <= maxLen /\ ∀ (k : Nat) x, st[k]? = some x -> ∃ cs, (∀ j u, cs[j]? = some u -> w.cell? ⟨g, k * esz fm + j, none⟩ = some u) /\ RdE fm (fun b => base <= b /\ b ≠ g) w cs x := by
 obtain ⟨css, h1, h2, h3⟩ := h.is; have hl : 0 < st.length := List.length_pos_iff.2 bD; rcases h3.2 with ⟨-, h0⟩ | ⟨g, cap, cur, rfl, r2, r3, r4, r5, r6, r7⟩
 · omega
 · refine ⟨g, cap, rfl, r2, lHp r3, r4, r5, fun k x hx => ?_⟩; have hk := (List.getElem?_eq_some_iff.1 hx).1; obtain ⟨cs, hc⟩ : ∃ cs, css[k]? = some cs := ⟨css[k]'(by omega), List.getElem?_eq_getElem _⟩
   have cL := h2 k cs x hc hx; refine ⟨cs, fun j u hu => ?_, cL.keep (lR _) (fun b hb _ => ⟨⟨hb.1, fun e => hb.2 (by rw [e]; rfl)⟩, rfl⟩)⟩
   have hf : css.flatten[k * esz fm + j]? = some u := qb1 (n := esz fm) (fun i c hi => by
    obtain ⟨x', cJ⟩ : ∃ x', st[i]? = some x' := ⟨st[i]'(by have := (List.getElem?_eq_some_iff.1 hi).1; omega), List.getElem?_eq_getElem _⟩
    exact (h2 i c x' hi cJ).len) hc hu
   refine cOb r3 ?_; rw [<- r7, List.getElem?_take] at hf
   split at hf
   · rw [<- Array.getElem?_toList]; exact hf
   · cases hf
theorem Ki.snoc {fm : Bool} {w w' : World} {base : Nat} {v v' : Value} {st : Qm} {cs : List Value} {x : Qb × Nat} {css : List (List Value)} (h1 : css.length = st.length)
 (h2 : ∀ (i : Nat) (cs : List Value) (x : Qb × Nat), css[i]? = some cs -> st[i]? = some x -> RdE fm (fun b => base <= b /\ v.ownBlock ≠ some b) w cs x) (hr : RdE fm (fun b => base <= b /\ v.ownBlock ≠ some b) w cs x)
 (hv : w'.ownsRow base (eE fm) (esz fm) v' (st.length + 1) (css.flatten ++ cs)) (hs : w.heap.size <= w'.heap.size) (hg : ∀ b, v.ownBlock ≠ some b -> b < w.heap.size -> w'.heap[b]? = w.heap[b]?) (hb : v'.ownBlock = v.ownBlock \/ v'.ownBlock = some w.heap.size) : Ki fm w' base v' (st ++ [x]) := by
 have key : ∀ {c : List Value} {x : Qb × Nat}, RdE fm (fun b => base <= b /\ v.ownBlock ≠ some b) w c x -> RdE fm (fun b => base <= b /\ v'.ownBlock ≠ some b) w' c x := fun hx =>
  hx.keep hs (fun b bX aC => ⟨⟨bX.1, by rcases hb with e | e <;> rw [e]; exact bX.2; intro e2; injection e2 with e2; omega⟩, hg b bX.2 aC⟩)
 refine ⟨css ++ [cs], by simp [h1], fun i c x a b => ?_, ?_⟩
 · rcases Nat.lt_or_ge i css.length with hi | hi
   · rw [List.getElem?_append_left hi] at a; rw [List.getElem?_append_left (by omega)] at b; exact key (h2 i c x a b)
   · rw [List.getElem?_append_right hi] at a; rw [List.getElem?_append_right (by omega), <- h1] at b; cases hq : i - css.length with
     | zero =>
       rw [hq] at a b; simp at a b; subst a b; exact key hr
     | succ n => rw [hq] at a; simp at a
 · simpa using hv
structure SK (fm : Bool) (w : World) (sb p base fj : Nat) (st : Qm) : Prop where
 is : ∃ v, w.heap[sb]? = some (.cells #[.pointer (some ⟨p, 0, none⟩), v, .func (.func fj) #[] #[]] (sE fm) (0, 0)) /\ Ki fm w base v st
 lt : sb < base
 ne : p < sb
 few : st.length <= 200
 dep : ∀ x ∈ st, x.2 <= 20
theorem SK.keep {fm : Bool} {w w' : World} {sb p base fj : Nat} {st : Qm} (h : SK fm w sb p base fj st) (hs : w.heap.size <= w'.heap.size) (hk : ∀ b, b = sb \/ base <= b -> b < w.heap.size -> w'.heap[b]? = w.heap[b]?) : SK fm w' sb p base fj st := by
 obtain ⟨v, h1, h2⟩ := h.is; exact ⟨⟨v, (hk sb (.inl rfl) (lHp h1)).trans h1, h2.keep hs (fun b hb aC => hk b (.inr hb) aC)⟩, h.lt, h.ne, h.few, h.dep⟩
theorem SK.eff {fm : Bool} {w w' : World} {sb p base fj : Nat} {st : Qm} (h : SK fm w sb p base fj st) (he : Eff p w w') : SK fm w' sb p base fj st :=
 h.keep he.size (fun b hb aC => he.block b aC (by have := h.ne; have := h.lt; omega))
theorem qbs : (Tryz.prog.info? 223).map (fun i => (i.zero, i.size, i.bytes)) = some (some (.agg #[.int .i64 0, .string ⟨#[]⟩, .int .i64 0, .int .i64 0, .slice none 0 0, .int .i64 0]), 6, 72) := by kernel_rfl
theorem Dm {ops : Array Oper} {o : Oper} {a : Act} {W : World} {K : Act -> World -> Prop} {Q : Exit -> Act -> World -> Prop} {E : Prop} (hg : o.guard = none) (s x : Operand) (bS : o.op = Op.call { callee := Callee.builtin Builtin.append, args := #[s, x], argTypes := #[179, 179] })
 (w0 : World) (hh : W.heap = w0.heap) (base : Nat) (v : Value) (st : Qm) (g0 : Nat) (cs : List Value) (y : Qb × Nat) (hs : a.eval s = v) (hx : a.eval x = .slice (some ⟨g0, 0, none⟩) 1 1) (aT : Ki true w0 base v st)
 (bV : ∀ (j : Nat) u, cs[j]? = some u -> w0.cell? ⟨g0, 0 + j, none⟩ = some u) (hr : RdE true (fun b => base <= b /\ v.ownBlock ≠ some b) w0 cs y) (aF : st.length + 1 <= 1000000) (hb : base <= w0.heap.size)
 (hK : ∀ v' w', Ki true w' base v' (st ++ [y]) -> W.grownBy w' v.ownBlock -> K (a.put o.dst v') w') : if Region.wanted o (yielded ops a.tmps) = true then Oper.wp Tryz.prog o a W K Q else E := by
 obtain ⟨i0, bU, bP, bO, bN⟩ := info_parts qbs; obtain ⟨css, h1, h2, h3⟩ := (aT.of_heap hh).is; have aR : RdE true (fun b => base <= b /\ v.ownBlock ≠ some b) W cs y := hr.keep (by rw [hh]; exact lR _) (fun b hb _ => ⟨hb, by rw [hh]⟩); have e1 : eE true = 223 := rfl; have e2 : esz true = 6 := rfl; have hl := aR.len; rw [e1, e2] at h3; have hw : Region.wanted o (yielded ops a.tmps) = true := by simp [Region.wanted, hg]
 rw [if_pos hw]; obtain ⟨v', w', aQ, r1, r2, -, r4⟩ := run_append_own_at (P := Tryz.prog) W base 179 o.type 223 i0 (.agg #[.int .i64 0, .string ⟨#[]⟩, .int .i64 0, .int .i64 0, .slice none 0 0, .int .i64 0]) 6 72 Tryz.underlying179 bU bP bO bN rfl (by decide) v st.length css.flatten h3 ⟨g0, 0, none⟩ 1 1 cs (by rw [hl, e2]) (fun j u hu => by rw [Addr.add_lit]; exact (cOh (by rw [hh]) _).trans (bV j u hu)) aR.one (by unfold maxLen; omega) (by omega) (by rw [hh]; exact hb); unfold Oper.wp; simp [execOp, bS, resolve, invoke, builtin, hs, hx, aQ, Result.andThen]; exact hK v' w' (Ki.snoc h1 h2 aR (by rw [e1, e2]; exact r1) r2.size (fun b hb aC => r2.block b aC (fun e => hb e.symm)) r4) r2
theorem qbr : (Tryz.prog.info? 225).map (fun i => (i.zero, i.size, i.bytes)) = some (some (.agg #[.int .i64 0, .string ⟨#[]⟩, .int .i64 0, .slice none 0 0, .int .i64 0]), 5, 64) := by kernel_rfl
theorem Dl {ops : Array Oper} {o : Oper} {a : Act} {W : World} {K : Act -> World -> Prop} {Q : Exit -> Act -> World -> Prop} {E : Prop} (hg : o.guard = none) (s x : Operand) (bS : o.op = Op.call { callee := Callee.builtin Builtin.append, args := #[s, x], argTypes := #[187, 187] })
 (w0 : World) (hh : W.heap = w0.heap) (base : Nat) (v : Value) (st : Qm) (g0 : Nat) (cs : List Value) (y : Qb × Nat) (hs : a.eval s = v) (hx : a.eval x = .slice (some ⟨g0, 0, none⟩) 1 1) (aT : Ki false w0 base v st)
 (bV : ∀ (j : Nat) u, cs[j]? = some u -> w0.cell? ⟨g0, 0 + j, none⟩ = some u) (hr : RdE false (fun b => base <= b /\ v.ownBlock ≠ some b) w0 cs y) (aF : st.length + 1 <= 1000000) (hb : base <= w0.heap.size)
 (hK : ∀ v' w', Ki false w' base v' (st ++ [y]) -> W.grownBy w' v.ownBlock -> K (a.put o.dst v') w') : if Region.wanted o (yielded ops a.tmps) = true then Oper.wp Tryz.prog o a W K Q else E := by
 obtain ⟨i0, bU, bP, bO, bN⟩ := info_parts qbr; obtain ⟨css, h1, h2, h3⟩ := (aT.of_heap hh).is; have aR : RdE false (fun b => base <= b /\ v.ownBlock ≠ some b) W cs y := hr.keep (by rw [hh]; exact lR _) (fun b hb _ => ⟨hb, by rw [hh]⟩); have e1 : eE false = 225 := rfl; have e2 : esz false = 5 := rfl; have hl := aR.len; rw [e1, e2] at h3; have hw : Region.wanted o (yielded ops a.tmps) = true := by simp [Region.wanted, hg]
 rw [if_pos hw]; obtain ⟨v', w', aQ, r1, r2, -, r4⟩ := run_append_own_at (P := Tryz.prog) W base 187 o.type 225 i0 (.agg #[.int .i64 0, .string ⟨#[]⟩, .int .i64 0, .slice none 0 0, .int .i64 0]) 5 64 Tryz.underlying187 bU bP bO bN rfl (by decide) v st.length css.flatten h3 ⟨g0, 0, none⟩ 1 1 cs (by rw [hl, e2]) (fun j u hu => by rw [Addr.add_lit]; exact (cOh (by rw [hh]) _).trans (bV j u hu)) aR.one (by unfold maxLen; omega) (by omega) (by rw [hh]; exact hb); unfold Oper.wp; simp [execOp, bS, resolve, invoke, builtin, hs, hx, aQ, Result.andThen]; exact hK v' w' (Ki.snoc h1 h2 aR (by rw [e1, e2]; exact r1) r2.size (fun b hb aC => r2.block b aC (fun e => hb e.symm)) r4) r2
end So
end
set_option maxRecDepth 20000
set_option maxHeartbeats 800000
section
namespace So
open Go.RowKit Go.Maps
abbrev MD := DataW Unit
def Y3 : MD -> Nat -> List (List UInt8) -> MD
 | D, _, [] => D
 | D, i, s :: r => Y3 (D.put (.string s) (.lit (.int .i64 (i : Int)))) (i + 1) r
theorem Hm (s : List UInt8) : WideAt.IsKeyLit (.string s) := trivial
theorem R9 : ∀ (ws : List (List UInt8)) (D : MD) (i : Nat) (s : List UInt8), s ∉ ws -> has (Y3 D i ws) (.string s) = has D (.string s) /\ ∀ z, (Y3 D i ws).atKey (.string s) z = D.atKey (.string s) z
 | [], D, i, s, _ => ⟨rfl, fun _ => rfl⟩
 | x :: r, D, i, s, h => by
   simp at h; have bD : (Lit.string s) ≠ .string x := by intro e; injection e with e; exact h.1 e
   obtain ⟨h1, h2⟩ := R9 r (D.put (.string x) (.lit (.int .i64 (i : Int)))) (i + 1) s h.2; exact ⟨h1.trans (has_put_other bD _), fun z => (h2 z).trans (atKey_put_other bD _ z)⟩
theorem Be : ∀ (ws : List (List UInt8)) (D : MD) (i k : Nat) (s : List UInt8), IsMap D -> ws.Nodup -> ws[k]? = some s -> has (Y3 D i ws) (.string s) = true /\ ∀ z, (Y3 D i ws).atKey (.string s) z = .lit (.int .i64 ((i + k : Nat) : Int))
 | [], D, i, k, s, _, _, h => by simp at h
 | x :: r, D, i, 0, s, hm, hn, h => by
   simp at h; subst h; obtain ⟨h1, h2⟩ := R9 r (D.put (.string x) (.lit (.int .i64 (i : Int)))) (i + 1) x (List.nodup_cons.1 hn).1; exact ⟨h1.trans (has_put_same hm (Hm x) _), fun z => (h2 z).trans (by rw [atKey_put_same hm (Hm x)]; rfl)⟩
 | x :: r, D, i, k + 1, s, hm, hn, h => by
   obtain ⟨h1, h2⟩ := Be r (D.put (.string x) (.lit (.int .i64 (i : Int)))) (i + 1) k s (hm.put _ _) (List.nodup_cons.1 hn).2 (by simpa using h); exact ⟨h1, fun z => (h2 z).trans (by rw [show i + 1 + k = i + (k + 1) by omega])⟩
abbrev P8 (w : World) (b n base : Nat) (ws : List (List UInt8)) : Prop := w.ownsMap Tryz.prog 9 (plainElem (H := Unit) Tryz.prog 3) b n (Y3 (.map []) base ws)
theorem P8.of_heap {w w' : World} {b n base : Nat} {ws : List (List UInt8)} (h : P8 w b n base ws) (hh : w'.heap[b]? = w.heap[b]?) : P8 w' b n base ws := by
 obtain ⟨es, clock, hb, h1, h2, h3⟩ := h; exact ⟨es, clock, hh.trans hb, h1, h2, h3⟩
theorem P8.lt {w : World} {b n base : Nat} {ws : List (List UInt8)} (h : P8 w b n base ws) : b < w.heap.size := World.ownsMap.lt h
theorem Lh (w : World) : (zeroValue 3).run Tryz.prog w = .ok (.int .i64 0) w := by kernel_rfl
theorem Vt : Keyed Tryz.prog 9 := string_keyed Tryz.underlying9
theorem C4 (ws : List (List UInt8)) (hn : ws.Nodup) (s : List UInt8) (base : Nat) : (∃ i, ws.idxOf? s = some i /\ has (Y3 (.map []) base ws) (.string s) = true /\ ∀ z, (Y3 (.map []) base ws).atKey (.string s) z = .lit (.int .i64 ((base + i : Nat) : Int))) \/ (ws.idxOf? s = none /\ has (Y3 (.map []) base ws) (.string s) = false) := by
 cases h : ws.idxOf? s with
 | some i =>
   left
   have hi : ws[i]? = some s := by
    rw [List.idxOf?, List.findIdx?_eq_some_iff_getElem] at h; obtain ⟨h1, h2, -⟩ := h; rw [List.getElem?_eq_getElem h1]; simpa using h2
   obtain ⟨h1, h2⟩ := Be ws (.map []) base i s ⟨[], rfl⟩ hn hi; exact ⟨i, rfl, h1, h2⟩
 | none =>
   right
   have hs : s ∉ ws := by
    intro hm; have := List.isSome_idxOf?.2 hm; rw [h] at this; cases this
   exact ⟨rfl, (R9 ws _ base s hs).1⟩
theorem qkp {D : MD} {k : Lit} {i c : Int} (h : ∀ z, D.atKey k z = .lit (.int .i64 i)) (hc : D.atKey k (.lit (.int .i64 0)) = .lit (.int .i64 c)) : c = i := by
 rw [h] at hc; cases hc; rfl
theorem Pc (ws : List (List UInt8)) (base b n : Nat) (p fin : Nat) (ts l : List Tok) (w : World) (hp : PS w p fin ts l) (hm : P8 w b n base ws) (cH : (Zx fin l).kind ≠ 1 \/ has (Y3 (.map []) base ws) (.string (Zx fin l).text) = false) :
 Calls Tryz.prog 95 #[.pointer (some ⟨p, 0, none⟩), .map (some b)] w fun e w' => e = Xg (Z1 l) (Xd fin l) /\ Below w.heap.size w w' := by
 have HP := Hi hp; have HM := Hi hm; have cI := Hi cH; have HF := Hi (Pa hp); clear hp hm cH; go_enter Tryz.func95, Tryz.ntmps95
 go_wp2_with fail; refine (Ve p fin ts l _ HP.out).mono ?_; rintro e w1 ⟨rfl, aA⟩; generalize Zx fin l = T at cI HF ⊢; have aB := Hi (aA.alloc aA.size (.cells #[.int .i64 T.kind, vs T.text, .int .i64 T.n, .int .i64 T.pos] 122 (0, 0))); have aH := Hi (HP.out.below aB.out); have bF := Hi (HM.out.of_heap (aB.out.block _ HM.out.lt)); have hx := heap_alloc_new w1 (.cells #[.int .i64 T.kind, vs T.text, .int .i64 T.n, .int .i64 T.pos] 122 (0, 0)); clear aA; simp only [Tok.agg]; go_upto_region 2 with fail; generalize w1.alloc (.cells #[.int .i64 T.kind, vs T.text, .int .i64 T.n, .int .i64 T.pos] 122 (0, 0)) = w2 at aB aH bF hx ⊢; have d0 := cOb (o := 0) hx rfl; have d1 := cOb (o := 1) hx rfl; have dl := lHp hx
 have aK : keyOf Tryz.prog 9 (vs T.text) = some (.string T.text) := by
  have := Go.WideMaps.keyOf_string_mk Tryz.underlying9 (s := ⟨T.text.toArray⟩) (by have := HF.out.1; show T.text.toArray.size <= _; unfold maxLen; simp; omega); simpa using this
 have aO := Hi aK; clear hx aK; cases hh : has (Y3 (.map []) base ws) (.string T.text) with
 | false =>
   have HH := Hi hh; clear hh; go_wp2_with (at_lookup; refine wpList_lookup_own_ok_int _ rfl _ _ 154 rfl 9 3 .i64 Vt Tryz.underlying154 Tryz.underlying3 (Lh _) b n (Y3 (.map []) base ws) rfl bF.out _ _ rfl aO.out ?_; intro c aN bG; clear aN bG; rw [HH.out])
   refine (Zq p fin ts l _ aH.out).mono ?_; rintro e w3 ⟨rfl, bI⟩; have cF := Hi (aB.out.trans (bI.mono aB.out.size)); clear bI; go_wp2_with fail; exact ⟨rfl, rfl, cF.out⟩
 | true =>
   have HH := Hi hh; have hk : T.kind ≠ 1 := cI.out.elim id (fun h => by rw [hh] at h; cases h); have i1 : ((T.kind : Int) == 1) = false := by simp; omega
   have i2 : ((T.kind : Int) != 1) = true := by simp; omega
   clear hh hk; go_wp2_with (at_lookup; refine wpList_lookup_own_ok_int _ rfl _ _ 154 rfl 9 3 .i64 Vt Tryz.underlying154 Tryz.underlying3 (Lh _) b n (Y3 (.map []) base ws) rfl bF.out _ _ rfl aO.out ?_; intro c aN bG; clear aN bG; rw [HH.out])
   refine (Zq p fin ts l _ aH.out).mono ?_; rintro e w3 ⟨rfl, bI⟩; have cF := Hi (aB.out.trans (bI.mono aB.out.size)); clear bI; go_wp2_with fail; exact ⟨rfl, rfl, cF.out⟩
theorem qd3 (ws : List (List UInt8)) (base b n i : Nat) (p fin : Nat) (ts : List Tok) (t : Tok) (l : List Tok) (w : World) (hp : PS w p fin ts (t :: l)) (hm : P8 w b n base ws) (hk : t.kind = 1) (hh : has (Y3 (.map []) base ws) (.string t.text) = true)
 (aN : ∀ z, (Y3 (.map []) base ws).atKey (.string t.text) z = .lit (.int .i64 ((base + i : Nat) : Int))) :
 Calls Tryz.prog 95 #[.pointer (some ⟨p, 0, none⟩), .map (some b)] w fun e w' => e = .returned (.int .i64 ((base + i : Nat) : Int)) /\ PS w' p fin ts l /\ Eff p w w' := by
 have HP := Hi hp; have HM := Hi hm; have HK := Hi hk; have HH := Hi hh; have cN := Hi aN; have HF := Hi (Pa (fin := fin) hp); clear hp hm hk hh aN; go_enter Tryz.func95, Tryz.ntmps95
 go_wp2_with fail; refine (Uj p fin ts t l _ HP.out).mono ?_; rintro e w1 ⟨rfl, aA⟩; have aB := Hi (aA.alloc aA.size (.cells #[.int .i64 t.kind, vs t.text, .int .i64 t.n, .int .i64 t.pos] 122 (0, 0))); have bF := Hi (HM.out.of_heap (aB.out.block _ HM.out.lt)); have hx := heap_alloc_new w1 (.cells #[.int .i64 t.kind, vs t.text, .int .i64 t.n, .int .i64 t.pos] 122 (0, 0)); clear aA; simp only [Tok.agg]; go_upto_region 2 with fail; generalize w1.alloc (.cells #[.int .i64 t.kind, vs t.text, .int .i64 t.n, .int .i64 t.pos] 122 (0, 0)) = w2 at aB bF hx ⊢; have d0 := cOb (o := 0) hx rfl; have d1 := cOb (o := 1) hx rfl; have cP := lHp hx
 have aK : keyOf Tryz.prog 9 (vs t.text) = some (.string t.text) := by
  have hq : t.text.length <= 30 := HF.out.1; have := Go.WideMaps.keyOf_string_mk Tryz.underlying9 (s := ⟨t.text.toArray⟩) (by show t.text.toArray.size <= _; unfold maxLen; simp; omega); simpa using this
 have aO := Hi aK; obtain ⟨A, c, u, hh, hu, hr, hn, h1, h2⟩ := HP.out.is; have aZ := Hi (fun i hi => PS.step HP.out aB.out hh hu hr hn h1 h2 (i := i) hi); have hk := (aB.out.block _ (lHp hh)).trans hh; have c1 := cOb (o := 1) hk rfl; have f1 := fOb (o := 1) hk; have dl := lHp hk; have aF : u.length < 5000 := by have := HP.out.few; rw [hu] at this; simp at this; omega
 have i1 : ((t.kind : Int) == 1) = true := by have := HK.out; simp; omega
 have i2 : ((t.kind : Int) != 1) = false := by have := HK.out; simp; omega
 clear hx aK hh hu hr hn hk h1 h2; go_wp2_with (at_lookup; refine wpList_lookup_own_ok_int _ rfl _ _ 154 rfl 9 3 .i64 Vt Tryz.underlying154 Tryz.underlying3 (Lh _) b n (Y3 (.map []) base ws) rfl bF.out _ _ rfl aO.out ?_; intro c aN bG; obtain rfl := qkp cN.out aN; clear aN bG; rw [HH.out])
 go_ret; exact ⟨rfl, aZ.out _ (by simp)⟩
theorem Ha (ws : List (List UInt8)) (hn : ws.Nodup) (base b n : Nat) (p fin : Nat) (ts l : List Tok) (w : World) (hp : PS w p fin ts l) (hm : P8 w b n base ws) :
 Calls Tryz.prog 95 #[.pointer (some ⟨p, 0, none⟩), .map (some b)] w (Wp p fin ts w (Zl ws l) (fun i v _ => v = .int .i64 ((base + i : Nat) : Int))) := by
 cases l with
 | nil => exact (Pc ws base b n p fin ts [] w hp hm (.inl (by simp [Zx]))).mono fun e w' ⟨h1, h2⟩ => ⟨h1, Eff.of_below h2⟩
 | cons t r =>
   by_cases hk : t.kind = 1
   · rcases C4 ws hn t.text base with ⟨i, h1, h2, h3⟩ | ⟨h1, h2⟩
     · rw [show Zl ws (t :: r) = .ok (i, r) by unfold Zl; simp only [hk, h1]; rfl]; exact (qd3 ws base b n i p fin ts t r w hp hm hk h2 h3).mono fun e w' ⟨h1, h2, h3⟩ => ⟨_, h1, rfl, h2, h3⟩
     · rw [show Zl ws (t :: r) = .error (5, t :: r) by unfold Zl; simp only [hk, h1]; rfl]; exact (Pc ws base b n p fin ts (t :: r) w hp hm (.inr h2)).mono fun e w' ⟨h1, h2⟩ => ⟨h1, Eff.of_below h2⟩
   · rw [show Zl ws (t :: r) = .error (5, t :: r) by unfold Zl; simp [hk, failR, Z1]]; exact (Pc ws base b n p fin ts (t :: r) w hp hm (.inl hk)).mono fun e w' ⟨h1, h2⟩ => ⟨h1, Eff.of_below h2⟩
end So
