/- The writer's add and name. -/
import Derived.Test.YtbicmjmcdnkjhaaGreatDoorJAA6
import Derived.Lib.ItoaMem
set_option linter.unusedVariables false
set_option linter.unusedSimpArgs false
set_option maxRecDepth 20000
set_option maxHeartbeats 1000000
namespace Go.Proofs.YtbicmjmcdnkjhaaGreatDoor
section
open Go.RowKit
theorem Kg {ops : Array Oper} {rest : List Oper} {o : Oper} {a : Act} {w : World} {Q : Exit -> Act -> World -> Prop} (aX : o.guard = none) (s x : Operand) (aW : o.op = Op.call { callee := Callee.builtin Builtin.append, args := #[s, x], argTypes := #[25, 25] })
 (v : Value) (l X : List (List UInt8)) (g0 c : Nat) (hs : a.eval s = v) (hx : a.eval x = .slice (some ⟨g0, 0, none⟩) X.length c) (aV : Xn w 0 v l) (hc : ∀ (j : Nat) x, X[j]? = some x -> w.cell? ⟨g0, j, none⟩ = some (vs x))
 (aB : l.length + X.length <= 1000000) (h : ∀ v' w', Xn w' 0 v' (l ++ X) -> w.grownBy w' v.ownBlock -> (v'.ownBlock = v.ownBlock \/ v'.ownBlock = some w.heap.size) -> wpList Tryz.prog ops Q rest (a.put o.dst v') w') : wpList Tryz.prog ops Q (o :: rest) a w := by
 obtain ⟨i0, bX, bS, bR, bQ⟩ := info_parts Fl; refine wpList_append_own_at _ aX s x _ aW 0 9 i0 (.string ⟨#[]⟩) 1 16 Tryz.underlying25 bX bS bR bQ rfl (by decide) v l.length (l.map vs) hs aV ⟨g0, 0, none⟩ X.length c (X.map vs) hx (by simp) (fun j u hu => ?_) (fun u hu => ?_) (by unfold maxLen; omega) (by omega) (Nat.zero_le _) ?_
 · rw [List.getElem?_map] at hu; cases hj : X[j]? with
   | none => rw [hj] at hu; cases hu
   | some x =>
     rw [hj] at hu; cases hu; rw [Addr.add_lit, Nat.zero_add]; exact hc j x hj
 · rw [List.mem_map] at hu; obtain ⟨x, -, rfl⟩ := hu; rfl
 · intro v' w' ho hg _ hb; exact h v' w' (by unfold Xn; simpa using ho) hg hb
theorem WrV.cells {W w : World} {p : Nat} {T : TypeId} {S : Nat -> Prop} {v1 v2 : Value} {L N : List (List UInt8)} (h : WrV W w p T S v1 v2 L N) : w.cell? ⟨p, 0, none⟩ = some v1 /\ w.cell? ⟨p, 1, none⟩ = some v2 /\ w.frozen? ⟨p, 0, none⟩ = false /\ w.frozen? ⟨p, 1, none⟩ = false /\ p < w.heap.size :=
 ⟨cOb h.is rfl, cOb h.is rfl, fOb h.is, fOb h.is, h.lt p h.mem⟩
theorem Ps {w w' : World} {p : Nat} {T : TypeId} {C : Array Value} {row : Option Nat} (hp : w.heap[p]? = some (.cells C T (0, 0))) (hg : w.grownBy w' row) (aJ : some p ≠ row) : w'.heap[p]? = some (.cells C T (0, 0)) := (hg.block p (lHp hp) aJ).trans hp
theorem Xn.sl {w : World} {b : Nat} {v : Value} {l : List (List UInt8)} (h : Xn w b v l) : ∃ A n c, v = .slice A n c := by
 obtain ⟨A, c, h, -⟩ := h.form; exact ⟨A, _, c, h⟩
theorem Z9 (W w : World) (p : Nat) (T : TypeId) (S : Nat -> Prop) (L N X : List (List UInt8)) (g c : Nat) (h : Wr W w p T S L N) (hX : ∀ (j : Nat) x, X[j]? = some x -> w.cell? ⟨g, j, none⟩ = some (vs x)) (aB : L.length + X.length <= 1000000) :
 Calls Tryz.prog 27 #[.pointer (some ⟨p, 0, none⟩), .slice (some ⟨g, 0, none⟩) X.length c] w (Zy W w p T S (L ++ X) N) := by
 obtain ⟨v1, v2, h⟩ := h; obtain ⟨c1, c2, f1, f2, bF⟩ := h.cells; have H := Hi h; have HX := Hi hX; clear h hX; go_enter Tryz.func27, Tryz.ntmps27
 go_wp2_with (at_builtin; refine Kg rfl (.tmp 8) (.tmp 9) rfl v1 L X g c rfl rfl H.out.l HX.out aB ?_; intro v' w2 ho hg hb; have hk := Ps H.out.is hg (fun e => (H.out.ol p e.symm).2 rfl); have k1 : w2.cell? ⟨p, 0, none⟩ = some v1 := cOb (o := 0) hk rfl; have kl := lHp hk; obtain ⟨A', n', cap', rfl⟩ := ho.sl; have k2 := fOb (o := 0) hk; have HO := Hi (And.intro ho (And.intro hg hb)); clear ho hg hb hk c1 c2 f1 f2)
 go_end0; obtain ⟨ho, hg, hb⟩ := HO.out; exact ⟨rfl, _, ⟨_, _, (H.out.put1 ho hg hb).1⟩, (H.out.put1 ho hg hb).2⟩
theorem Uq {w : World} {s : List UInt8} {t : TypeId} : ∀ (j : Nat) x, [s][j]? = some x -> (w.alloc (.cells #[vs s] t)).cell? ⟨w.heap.size, j, none⟩ = some (vs x) := by
 intro j x hx; cases j with
 | succ j => simp at hx
 | zero =>
   simp at hx; subst hx; exact cOb (J4 rfl) rfl
theorem Wz (W w : World) (p : Nat) (T : TypeId) (S : Nat -> Prop) (L N : List (List UInt8)) (s : List UInt8) (h : Wr W w p T S L N) (aB : L.length + 1 <= 1000000) (aP : N.length + 1 <= 1000000) :
 Calls Tryz.prog 28 #[.pointer (some ⟨p, 0, none⟩), vs s] w (Zy W w p T S (L ++ [s]) (N ++ [s])) := by
 obtain ⟨v1, v2, h⟩ := h; have H0 := Hi h; have H := Hi (h.keep ((Below.refl _ _).alloc (lR _) (.cells #[vs s] 9))); obtain ⟨c1, c2, f1, f2, bF⟩ := h.cells; clear h; go_enter Tryz.func28, Tryz.ntmps28
 go_wp2_with (at_builtin; refine Kg rfl (.tmp 8) (.tmp 10) rfl v2 N [s] w.heap.size 1 rfl rfl H.out.n Uq (by simpa using aP) ?_; intro v' w2 ho hg hb; have hk := Ps H.out.is hg (fun e => (H.out.on p e.symm).2.1 rfl); have k1 : w2.cell? ⟨p, 1, none⟩ = some v2 := cOb (o := 1) hk rfl; obtain ⟨A', n', cap', rfl⟩ := ho.sl; have k2 := fOb (o := 1) hk; have kl := lHp hk; have HO := Hi (And.intro ho (And.intro hg hb)); clear ho hg hb hk c1 c2 f1 f2 bF)
 obtain ⟨ho, hg, hb⟩ := HO.out; obtain ⟨q1, q2⟩ := H.out.put2 ho hg hb; have Q1 := Hi q1; have Q2 := Hi q2; clear ho hg hb q1 q2; refine (Z9 W _ p T _ L (N ++ [s]) [s] _ 1 ⟨_, _, Q1.out.keep ((Below.refl _ _).alloc (lR _) (.cells #[vs s] 9))⟩ (by simpa using Uq (w := w2.setCell ⟨p, 1, none⟩ (.slice A' n' cap')) (s := s) (t := 9)) (by simpa using aB)).mono ?_; rintro e w3 ⟨rfl, S', hw, hf⟩; have HW := Hi hw; have HF := Hi hf; clear hw hf; go_wp2_with fail; go_end0; refine ⟨rfl, S', HW.out, ?_⟩; exact ((J8.of_below S ((Below.refl _ _).alloc (lR _) _)).trans Q2.out).trans ((J8.of_below _ ((Below.refl _ _).alloc (lR _) _)).trans HF.out)
open Go.ChangeMaps (setBlock modify_eq_set)
open Go.MapKept (Stamped stamped_iff stamped_push stamped_modify stamped_empty)
open Go.Maps (Keyed)
variable {P : Program} {k t e : TypeId}
structure W6 (P : Program) (k : TypeId) (w : World) (b : Nat) (kv : List (Value × Value)) : Prop where
 is : ∃ es clock, w.heap[b]? = some (.map es clock) /\ es.toList.map (fun e => (e.key, e.val)) = kv /\ Stamped es clock
 keys : ∀ p ∈ kv, ∃ l, keyOf P k p.1 = some l
theorem W6.lt {w : World} {b : Nat} {kv : List (Value × Value)} (h : W6 P k w b kv) : b < w.heap.size := by
 obtain ⟨es, clock, hh, _⟩ := h.is; exact (Array.getElem?_eq_some_iff.1 hh).1
theorem W6.keep {w w' : World} {b : Nat} {kv : List (Value × Value)} (h : W6 P k w b kv) (hk : w'.heap[b]? = w.heap[b]?) : W6 P k w' b kv := by
 obtain ⟨es, clock, hh, he⟩ := h.is; exact ⟨⟨es, clock, hk.trans hh, he⟩, h.keys⟩
theorem W6.made (w : World) (c : Nat) : W6 P k (w.alloc (.map #[] c)) w.heap.size [] := ⟨⟨#[], c, heap_alloc_new w _, rfl, stamped_empty c⟩, by simp⟩
theorem qka {kv : List (Value × Value)} (h : (kv.map (·.1)).Nodup) {x v v' : Value} (h1 : (x, v) ∈ kv) (h2 : (x, v') ∈ kv) : v = v' := by
 induction kv with
 | nil => cases h1
 | cons a r ih =>
   simp only [List.map_cons, List.nodup_cons, List.mem_map, not_exists, not_and] at h; rcases List.mem_cons.1 h1 with e1 | e1
   · rcases List.mem_cons.1 h2 with e2 | e2
     · rw [<- e1] at e2; cases e2; rfl
     · exact absurd (by rw [<- e1]) (h.1 _ e2)
   · rcases List.mem_cons.1 h2 with e2 | e2
     · exact absurd (by rw [<- e2]) (h.1 _ e1)
     · exact ih h.2 e1 e2
theorem W6.nodup {w : World} {b : Nat} {kv : List (Value × Value)} (h : W6 P k w b kv) : (kv.map (·.1)).Nodup := by
 obtain ⟨es, clock, hh, rfl, hs⟩ := h.is; rw [List.map_map]; exact hs.2.2
theorem Fv (K : Keyed P k) {w : World} {es : List MapEntry} {kv : List (Value × Value)} (he : es.map (fun e => (e.key, e.val)) = kv) (aD : ∀ p ∈ kv, ∃ l, keyOf P k p.1 = some l) (hn : (kv.map (·.1)).Nodup) {key v : Value} {l : Lit} (hk : keyOf P k key = some l) (hm : (key, v) ∈ kv) :
 ∃ j e0, (Instr.findKey k key es).run P w = .ok (some (j, v)) w /\ es[j]? = some e0 /\ e0.key = key /\ e0.val = v := by
 subst he; rcases K.find w hk es (fun x hx => aD (x.key, x.val) (List.mem_map.2 ⟨x, hx, rfl⟩)) with ⟨h1, h2⟩ | ⟨j, e0, h1, h2, h3⟩
 · obtain ⟨x, hx, bU⟩ := List.mem_map.1 hm; exact absurd (congrArg Prod.fst bU) (h2 x hx)
 · have hv : e0.val = v := qka hn (List.mem_map.2 ⟨e0, List.mem_of_getElem? h2, by rw [<- h3]⟩) hm; exact ⟨j, e0, by rw [h1, hv], h2, h3, hv⟩
theorem Bl (K : Keyed P k) {w : World} {es : List MapEntry} {kv : List (Value × Value)} (he : es.map (fun e => (e.key, e.val)) = kv) (aD : ∀ p ∈ kv, ∃ l, keyOf P k p.1 = some l) {key : Value} {l : Lit} (hk : keyOf P k key = some l) (hm : ∀ p ∈ kv, p.1 ≠ key) :
 (Instr.findKey k key es).run P w = .ok none w := by
 subst he; rcases K.find w hk es (fun x hx => aD (x.key, x.val) (List.mem_map.2 ⟨x, hx, rfl⟩)) with ⟨h1, h2⟩ | ⟨j, e0, h1, h2, h3⟩
 · exact h1
 · exact absurd h3 (hm (e0.key, e0.val) (List.mem_map.2 ⟨e0, List.mem_of_getElem? h2, rfl⟩))
theorem W6.hit (K : Keyed P k) (ht : P.underlying t = some (.map k e)) {w : World} {b : Nat} {kv : List (Value × Value)} (h : W6 P k w b kv) {key v : Value} {l : Lit} (hk : keyOf P k key = some l) (hm : (key, v) ∈ kv) (ok : Bool) :
 (Instr.lookup t (.map (some b)) key ok).run P w = .ok (if ok then .tuple #[v, .bool true] else v) w := by
 have hn := h.nodup; obtain ⟨es, clock, hb, he, hs⟩ := h.is; obtain ⟨j, e0, h1, _, _, _⟩ := Fv K (w := w) he h.keys hn hk hm; simp [Instr.lookup, run_underlying ht, MapKept.run_getObj_map hb, K.check w _ hk, h1, Result.andThen]
theorem W6.miss (K : Keyed P k) (ht : P.underlying t = some (.map k e)) {w : World} {b : Nat} {kv : List (Value × Value)} (h : W6 P k w b kv) {key z : Value} {l : Lit} (hk : keyOf P k key = some l) (hm : ∀ p ∈ kv, p.1 ≠ key) (hz : (zeroValue e).run P w = .ok z w) (ok : Bool) :
 (Instr.lookup t (.map (some b)) key ok).run P w = .ok (if ok then .tuple #[z, .bool false] else z) w := by
 obtain ⟨es, clock, hb, he, hs⟩ := h.is; have h1 := Bl K (w := w) he h.keys hk hm; simp [Instr.lookup, run_underlying ht, MapKept.run_getObj_map hb, K.check w _ hk, h1, hz, Result.andThen]
theorem W6.put_new (K : Keyed P k) (ht : P.underlying t = some (.map k e)) {w : World} {b : Nat} {kv : List (Value × Value)} (h : W6 P k w b kv) {key : Value} (v : Value) {l : Lit} (hk : keyOf P k key = some l) (hm : ∀ p ∈ kv, p.1 ≠ key) :
 ∃ o, (Instr.mapUpdate t (.map (some b)) key v).run P w = .ok () (setBlock w b o) /\ W6 P k (setBlock w b o) b (kv ++ [(key, v)]) := by
 obtain ⟨es, clock, hb, he, hs⟩ := h.is; have h1 := Bl K (w := w) he h.keys hk hm; refine ⟨.map (es.push ⟨key, v, clock⟩) (clock + 1), ?_, ⟨⟨_, _, ChangeMaps.heap_setBlock_same hb _, by simp [he], stamped_push hs (fun x hx e1 => hm (x.key, x.val) (by rw [<- he]; exact List.mem_map.2 ⟨x, hx, rfl⟩) e1)⟩, ?_⟩⟩
 · simp [Instr.mapUpdate, run_underlying ht, MapKept.run_getObj_map hb, K.check w false hk, h1, MapKept.run_setObj_map _ hb, Result.andThen, setBlock]
 · intro p hp; rcases List.mem_append.1 hp with hp | hp
   · exact h.keys p hp
   · obtain rfl : p = (key, v) := by simpa using hp
     exact ⟨l, hk⟩
theorem W6.put_old (K : Keyed P k) (ht : P.underlying t = some (.map k e)) {w : World} {b : Nat} {kv : List (Value × Value)} (h : W6 P k w b kv) {key v0 : Value} (v : Value) {l : Lit} (hk : keyOf P k key = some l) (hm : (key, v0) ∈ kv) :
 ∃ o, (Instr.mapUpdate t (.map (some b)) key v).run P w = .ok () (setBlock w b o) /\ ∃ kv', W6 P k (setBlock w b o) b kv' /\ ∀ u r, kv = u ++ (key, v0) :: r -> kv' = u ++ (key, v) :: r := by
 have hn := h.nodup; obtain ⟨es, clock, hb, he, hs⟩ := h.is; obtain ⟨j, e0, h1, h2, h3, h4⟩ := Fv K (w := w) he h.keys hn hk hm; have hj : es[j]? = some e0 := by simpa using h2
 have aO : (es.modify j (fun e' => { e' with key := key, val := v })).toList = es.toList.set j { e0 with key := key, val := v } := by rw [Array.toList_modify, modify_eq_set _ _ _ _ h2]
 have aS : kv[j]? = some (key, v0) := by rw [<- he, List.getElem?_map, h2]; simp [h3, h4]
 have bV : (es.toList.set j { e0 with key := key, val := v }).map (fun e => (e.key, e.val)) = kv.set j (key, v) := by rw [List.map_set, he]
 refine ⟨.map (es.modify j fun e' => { e' with key := key, val := v }) clock, ?_, kv.set j (key, v), ⟨⟨_, _, ChangeMaps.heap_setBlock_same hb _, by rw [aO, bV], stamped_modify hs _ _ (fun _ _ => rfl) (fun e' _ bN => by rw [hj] at bN; cases bN; exact h3.symm)⟩, ?_⟩, ?_⟩
 · simp [Instr.mapUpdate, run_underlying ht, MapKept.run_getObj_map hb, K.check w false hk, h1, hj, h3, K.stays w hk, MapKept.run_setObj_map _ hb, Result.andThen, setBlock]
 · intro p hp; rcases List.mem_or_eq_of_mem_set hp with hp | rfl
   · exact h.keys p hp
   · exact ⟨l, hk⟩
 · rintro u r rfl
   have bW : j = u.length := by
    rcases Nat.lt_trichotomy j u.length with h5 | h5 | h5
    · exfalso; rw [List.getElem?_append_left h5] at aS; have hu := List.mem_of_getElem? aS; rw [List.map_append, List.nodup_append] at hn; exact hn.2.2 key (List.mem_map.2 ⟨_, hu, rfl⟩) key (by simp) rfl
    · exact h5
    · exfalso; rw [List.getElem?_append_right (by omega)] at aS; obtain ⟨i, hi⟩ : ∃ i, j - u.length = i + 1 := ⟨j - u.length - 1, by omega⟩
      rw [hi, List.getElem?_cons_succ] at aS; have hr := List.mem_of_getElem? aS; rw [List.map_append, List.nodup_append, List.map_cons, List.nodup_cons] at hn; exact hn.2.1.1 (List.mem_map.2 ⟨_, hr, rfl⟩)
   subst bW; rw [List.set_append_right _ _ (lR _)]; simp
def Gk (l : List Qa) : List (Value × Value) := l.map fun s => (vs s, .bool true)
def KS (w : World) (b : Nat) (l : List Qa) : Prop := W6 Tryz.prog 9 w b (Gk l)
theorem Vt : Keyed Tryz.prog 9 := Go.Maps.string_keyed Tryz.underlying9
theorem Hm {s : Qa} (h : s.length <= 1000000) : ∃ l, keyOf Tryz.prog 9 (vs s) = some l := by
 refine ⟨.string s, ?_⟩; unfold keyOf mapKey; rw [Tryz.underlying9]
 have : ({ data := s.toArray } : ByteArray).size <= maxLen := by
  show s.toArray.size <= maxLen
  unfold maxLen; simp; omega
 simp [this]
theorem qep {a b : Qa} (h : vs a = vs b) : a = b := by
 simp only [vs, Value.string.injEq, ByteArray.mk.injEq] at h; simpa using h
theorem KS.lt {w : World} {b : Nat} {l : List Qa} (h : KS w b l) : b < w.heap.size := W6.lt h
theorem KS.keep {w w' : World} {b : Nat} {l : List Qa} (h : KS w b l) (hb : w'.heap[b]? = w.heap[b]?) : KS w' b l := W6.keep h hb
theorem KS.made (w : World) : KS (w.alloc (.map #[] 0)) w.heap.size [] := W6.made w 0
theorem qcd (w : World) : (zeroValue 4).run Tryz.prog w = .ok (.bool false) w := by kernel_rfl
theorem qf0 {l : List Qa} {s : Qa} : (vs s, Value.bool true) ∈ Gk l ↔ s ∈ l := by
 unfold Gk; rw [List.mem_map]; constructor
 · rintro ⟨x, hx, e⟩; simp only [Prod.mk.injEq, and_true] at e; rw [<- qep e]; exact hx
 · intro h; exact ⟨s, h, rfl⟩
theorem qfm {l : List Qa} {s : Qa} (h : s ∉ l) : ∀ p ∈ Gk l, p.1 ≠ vs s := by
 intro p hp e; unfold Gk at hp; rw [List.mem_map] at hp; obtain ⟨x, hx, rfl⟩ := hp; exact h (by rw [<- qep e]; exact hx)
theorem KS.look {w : World} {b : Nat} {l : List Qa} (h : KS w b l) {s : Qa} (hs : s.length <= 1000000) : (Instr.lookup 65 (.map (some b)) (vs s) false).run Tryz.prog w = .ok (.bool (l.contains s)) w := by
 obtain ⟨kl, hk⟩ := Hm hs; cases hc : l.contains s with
 | true => exact W6.hit Vt Tryz.underlying65 h hk (qf0.2 (by simpa using hc)) false
 | false => exact W6.miss Vt Tryz.underlying65 h hk (qfm (by simpa using hc)) (qcd w) false
def Sj (l : List Qa) (s : Qa) : List Qa := if l.contains s then l else l ++ [s]
theorem KS.store {w : World} {b : Nat} {l : List Qa} (h : KS w b l) {s : Qa} (hs : s.length <= 1000000) : ∃ o, (Instr.mapUpdate 65 (.map (some b)) (vs s) (.bool true)).run Tryz.prog w = .ok () (setBlock w b o) /\ KS (setBlock w b o) b (Sj l s) := by
 obtain ⟨kl, hk⟩ := Hm hs; unfold Sj; cases hc : l.contains s with
 | true =>
   have hm : s ∈ l := by simpa using hc
   obtain ⟨o, h1, kv', h2, h3⟩ := W6.put_old Vt Tryz.underlying65 h (.bool true) hk (qf0.2 hm); refine ⟨o, h1, ?_⟩; obtain ⟨u, r, e⟩ := List.append_of_mem hm; have := h3 (Gk u) (Gk r) (by rw [e]; simp [Gk]); rw [if_pos rfl]; unfold KS; rw [this] at h2; rw [e]; simpa [Gk] using h2
 | false =>
   obtain ⟨o, h1, h2⟩ := W6.put_new Vt Tryz.underlying65 h (.bool true) hk (qfm (by simpa using hc)); refine ⟨o, h1, ?_⟩; rw [if_neg (by simp)]; unfold KS; simpa [Gk] using h2
theorem On {w w' : World} {B b : Nat} {o : Obj} (h : Below B w w') (hb : B <= b) : Below B w (setBlock w' b o) := by
 refine ⟨h.os, h.tape, h.output, by have := h.size; simpa [setBlock] using this, fun k hk => ?_⟩; rw [<- h.block k hk]; simp only [setBlock, Array.getElem?_setIfInBounds]; rw [if_neg (by omega)]
theorem Yl {P : Program} {ops : Array Oper} {rest : List Oper} {o : Oper} {a : Act} {w w' : World} {Q : Exit -> Act -> World -> Prop} (aX : o.guard = none) (t : TypeId) (m x v : Operand) (aW : o.op = Op.mapUpdate t m x v) (v1 v2 v3 : Value) (hm : a.eval m = v1) (hx : a.eval x = v2) (hv : a.eval v = v3)
 (aU : (Instr.mapUpdate t v1 v2 v3).run P w = .ok () w') (h : wpList P ops Q rest (a.put o.dst undef) w') : wpList P ops Q (o :: rest) a w := by
 refine wpList_plain aX fun K hK => ?_; unfold Oper.wp; simp [execOp, aW, hm, hx, hv, aU, Result.andThen]; exact hK _ _ h
end
set_option maxRecDepth 20000
set_option maxHeartbeats 1000000
section
open Go.RowKit
open Go.ChangeMaps (setBlock)
structure Xp (W : World) : Prop where
 sp : ∀ w, Below W.heap.size W w -> Lib.TabIs Tryz.prog w "strings.asciiSpace" .u8 Lib.asciiSpaceTab
 pw : ∀ w, Below W.heap.size W w -> Lib.TabIs Tryz.prog w "internal/strconv.uint64pow10" .u64 Lib.pow10Tab
theorem Dk {P : Program} {W w : World} {n : String} {k : IntKind} {zs : List Int} (h : Lib.TabIs P W n k zs) (hb : Below W.heap.size W w) : Lib.TabIs P w n k zs := by
 unfold Lib.TabIs World.var? at *; cases hg : P.globalNamed n with
 | none => rw [hg] at h; cases h
 | some g =>
   rw [hg] at h; simp only [Option.bind_some] at h ⊢
   have aG : g < W.heap.size := by
    rcases Nat.lt_or_ge g W.heap.size with h' | h'
    · exact h'
    · rw [Array.getElem?_eq_none h'] at h; cases h
   rw [hb.block g aG]; exact h
theorem Xp.mk' {W : World} (h1 : Lib.TabIs Tryz.prog W "strings.asciiSpace" .u8 Lib.asciiSpaceTab) (h2 : Lib.TabIs Tryz.prog W "internal/strconv.uint64pow10" .u64 Lib.pow10Tab) : Xp W :=
 ⟨fun w hb => Dk h1 hb, fun w hb => Dk h2 hb⟩
theorem Xp.below {W w : World} (h : Xp W) (hb : Below W.heap.size W w) : Xp w := Xp.mk' (h.sp w hb) (h.pw w hb)
def Vc (l : List Qa) : List Qa := l.foldl Sj []
theorem qhi {l : List Qa} {s x : Qa} : x ∈ Sj l s ↔ x ∈ l \/ x = s := by
 unfold Sj
 split
 · rename_i h; have : s ∈ l := by simpa using h
   constructor
   · exact Or.inl
   · rintro (h | rfl)
     · exact h
     · exact this
 · simp
theorem qdp {l a : List Qa} {x : Qa} : x ∈ l.foldl Sj a ↔ x ∈ a \/ x ∈ l := by
 induction l generalizing a with
 | nil => simp
 | cons y r ih =>
   rw [List.foldl_cons, ih, qhi]; simp [or_assoc]
theorem Gl (l : List Qa) (s : Qa) : (Vc l).contains s = l.contains s := by
 rw [Bool.eq_iff_iff]; simp [Vc, qdp]
theorem qco {l : List Qa} {k : Nat} {x : Qa} (h : l[k]? = some x) : Vc (l.take (k + 1)) = Sj (Vc (l.take k)) x := by
 unfold Vc; rw [List.take_add_one, h, Option.toList_some, List.foldl_append]; rfl
theorem qe0 {w : World} {b : Nat} {l : List Qa} {T : TypeId} (h : w.heap[b]? = some (.cells (l.map fun l => Value.string ⟨l.toArray⟩).toArray T (0, 0))) {k : Nat} {x : Qa} (hx : l[k]? = some x) : w.cell? ⟨b, k, none⟩ = some (vs x) := by
 refine cOb h ?_; simp [hx]
theorem qhy (W w : World) (s : ByteArray) (l : List Qa) (hl : Lib.fields s.data.toList = l) (aB : l.length <= 1000) (bE : ∀ x ∈ l, x.length <= 1000) (hs : s.size < 4294967281) (aE : ∀ (j : Nat) b, s.data.toList[j]? = some b -> b.toNat < 128) (ht : Xp W) (hb : Below W.heap.size W w) :
 Calls Tryz.prog 34 #[.string s] w fun e w' => ∃ mb, e = .returned (.map (some mb)) /\ KS w' mb (Vc l) /\ w.heap.size <= mb /\ Below w.heap.size w w' := by
 have cI := @run_makeMap Tryz.prog; have HT := Hi (ht.sp (w.alloc (.map #[] 0)) (hb.alloc hb.size _)); have HA := Hi aE; have HL := Hi hl; have cC := Hi bE; clear ht hb aE hl bE; go_enter Tryz.func34, Tryz.ntmps34
 go_wp2_with fail; refine (Tryz.strings_Fields s _ hs HA.out HT.out).mono ?_; rintro e w1 ⟨rfl, aI⟩; rw [HL.out] at aI ⊢
 have h1 : w1.heap[w.heap.size + 1]? = some (.cells (l.map fun l => Value.string ⟨l.toArray⟩).toArray 9 (0, 0)) := by
  rw [aI]; exact J4 (by simp)
 have h2 : KS w1 w.heap.size (Vc (l.take 0)) := by
  rw [aI]; exact (KS.made w).keep (Below.heap_alloc _ _ _ (by simp))
 have h3 : Below w.heap.size w w1 := by
  rw [aI]; exact ((Below.refl _ _).alloc (lR _) _).alloc (by simp) _
 rw [World.size_alloc]; have H1 := Hi h1; have H2 := Hi h2; have H3 := Hi h3; clear h1 h2 h3 aI; go_wp2_with fail; go_loopw [10] (fun aT wr => ∃ k : Nat, k <= l.length /\ aT = .int .i64 k /\ KS wr w.heap.size (Vc (l.take k)) /\ Below w.heap.size w wr /\ wr.heap[w.heap.size + 1]? = some (.cells (l.map fun l => Value.string ⟨l.toArray⟩).toArray 9 (0, 0))) (fun aT _ => l.length - (intOf aT).toNat)
 case atStart => exact ⟨0, Nat.zero_le _, rfl, H2.out, H3.out, H1.out⟩
 case round =>
  obtain ⟨k, hk, rfl, bG, bO, hh⟩ := hrel; have HK := Hi bG; have HB := Hi bO; have HH := Hi hh; clear bG bO hh
  by_cases aG : k < l.length
  · obtain ⟨x, hx⟩ := gLt aG; have c0 := qe0 HH.out hx; have bT := cC.out x (List.mem_of_getElem? hx); obtain ⟨o, ho, bH⟩ := HK.out.store (s := x) (by omega); have HO := Hi ho; have cD : Hid (KS (setBlock wr w.heap.size o) w.heap.size (Vc (l.take (k + 1)))) := Hi (by rw [qco hx]; exact bH); have bI : (k : Int) < l.length := by omega
    have bJ : (0 : Int) <= k := by omega
    have cH : w.heap.size + 1 < wr.heap.size := lHp HH.out; clear ho bH hx bT; go_wp2_with (refine Yl rfl 65 (.tmp 14) (.tmp 15) _ rfl (.map (some w.heap.size)) (vs x) (.bool true) rfl rfl rfl HO.out ?_)
    exact ⟨⟨k + 1, by omega, by go_num, cD.out, On HB.out (lR _), by rw [<- HH.out]; simp only [setBlock, Array.getElem?_setIfInBounds]; rw [if_neg (by omega)]⟩, by simp [intOf]; omega⟩
  · have aR : k = l.length := by omega
    subst aR; have aN : ¬ ((l.length : Nat) : Int) < l.length := by omega
    go_wp2_with fail; go_ret; exact ⟨w.heap.size, rfl, by have := HK.out; rwa [List.take_length] at this, lR _, HB.out⟩
end
section
namespace So
end So
mutual
def TreeI.size : TreeI -> Nat
 | .mk _ _ _ _ ks => 1 + Kb ks
def Kb : List TreeI -> Nat
 | [] => 0
 | t :: r => t.size + Kb r
end
mutual
theorem Oz : ∀ t : Qb, (up t).size = t.size
 | .mk _ _ _ _ ks => by rw [up, TreeI.size, Qb.size, Du ks]
theorem Du : ∀ ks : List Qb, Kb (ups ks) = sizes ks
 | [] => by rw [ups, Kb, sizes]
 | k :: r => by rw [ups, Kb, sizes, Oz k, Du r]
end
mutual
def nmF : TreeI -> List Qa
 | .mk op name _ _ ks => (if op = 3 \/ op = 4 then [name] else []) ++ qfq ks
def qfq : List TreeI -> List Qa
 | [] => []
 | k :: r => nmF k ++ qfq r
end
mutual
def nmS : TreeI -> List Qa
 | .mk op name _ _ ks => (if 4 <= op /\ op <= 7 then [name] else []) ++ qfo ks
def qfo : List TreeI -> List Qa
 | [] => []
 | k :: r => nmS k ++ qfo r
end
mutual
theorem qfr : ∀ t : Qb, nmF (up t) = Ql t
 | .mk op name c n ks => by
   rw [up, nmF, Ql, qbi ks]
   by_cases h : op = 3 \/ op = 4
   · rw [if_pos h, if_pos (by omega)]
   · rw [if_neg h, if_neg (by omega)]
theorem qbi : ∀ ks : List Qb, qfq (ups ks) = Qy ks
 | [] => by rw [ups, qfq, Qy]
 | k :: r => by rw [ups, qfq, Qy, qfr k, qbi r]
end
mutual
theorem qfp : ∀ t : Qb, nmS (up t) = Qo t
 | .mk op name c n ks => by
   rw [up, nmS, Qo, qbh ks]
   by_cases h : op = 4 \/ op = 5 \/ op = 6 \/ op = 7
   · rw [if_pos h, if_pos (by omega)]
   · rw [if_neg h, if_neg (by omega)]
theorem qbh : ∀ ks : List Qb, qfo (ups ks) = Qz ks
 | [] => by rw [ups, qfo, Qz]
 | k :: r => by rw [ups, qfo, Qz, qfp k, qbh r]
end
def Mf (p : Zt) : List Qa := p.id :: p.name :: (p.exc ++ (nmF p.cond ++ (nmS p.beg ++ (nmS p.fin ++ nmS p.aga))))
theorem R6 (p : Qf) : Mf (upP p) = Q7 p := by
 unfold Mf Q7 upP; simp only [qfr, qfp]
structure qat (p : Zt) : Prop where
 cond : p.cond.size <= 300
 beg : p.beg.size <= 300
 fin : p.fin.size <= 300
 aga : p.aga.size <= 300
 exc : p.exc.length <= 30
 names : ∀ s ∈ Mf p, s.length <= 60
end
set_option maxRecDepth 20000
set_option maxHeartbeats 1000000
section
open Go.RowKit
mutual
theorem Ia : ∀ (t : TreeI) (l d : Int), (Jg t l d).1 = true -> 0 <= (Jg t l d).2 /\ (Jg t l d).2 <= l
 | .mk op name cmp n ks, l, d, h => by
   rw [Jg] at h ⊢
   by_cases h0 : l - 1 < 0 \/ d = 0 \/ Nw op name cmp n = true
   · rw [if_pos h0] at h; cases h
   · rw [if_neg h0] at h ⊢; have hl : 0 <= l - 1 := (by omega)
     split at h
     · rename_i h1; rw [if_pos h1]; exact ⟨hl, by show l - 1 <= l; omega⟩
     · rename_i h1; rw [if_neg h1]
       split at h
       · rename_i h2; rw [if_pos h2]; have := Pu ks (l - 1) (d - 1) hl h; omega
       · cases h
theorem Pu : ∀ (ks : List TreeI) (l d : Int), 0 <= l -> (J6 ks l d).1 = true -> 0 <= (J6 ks l d).2 /\ (J6 ks l d).2 <= l
 | [], l, d, hl, h => by rw [J6]; exact ⟨hl, Int.le_refl _⟩
 | k :: r, l, d, hl, h => by
   rw [J6] at h ⊢
   by_cases hk : (Jg k l d).1 = true
   · rw [if_pos hk] at h ⊢; have h1 := Ia k l d hk; have h2 := Pu r _ d h1.1 h; omega
   · rw [if_neg hk] at h; cases h
end
mutual
theorem Iw : ∀ (t : TreeI) (l d : Int), (Q0 t l d).1 = true -> 0 <= (Q0 t l d).2 /\ (Q0 t l d).2 <= l
 | .mk op name cmp n ks, l, d, h => by
   rw [Q0] at h ⊢
   by_cases h0 : l - 1 < 0 \/ d = 0 \/ Nv op name n = true
   · rw [if_pos h0] at h; cases h
   · rw [if_neg h0] at h ⊢; have hl : 0 <= l - 1 := (by omega)
     split at h
     · rename_i h1; rw [if_pos h1]
       split at h
       · rename_i h2; rw [if_pos h2]; have := Hr ks (l - 1) (d - 1) hl h; omega
       · cases h
     · rename_i h1; rw [if_neg h1]
       split at h
       · rename_i h2; rw [if_pos h2]; exact ⟨hl, by show l - 1 <= l; omega⟩
       · cases h
theorem Hr : ∀ (ks : List TreeI) (l d : Int), 0 <= l -> (Jr ks l d).1 = true -> 0 <= (Jr ks l d).2 /\ (Jr ks l d).2 <= l
 | [], l, d, hl, h => by rw [Jr]; exact ⟨hl, Int.le_refl _⟩
 | k :: r, l, d, hl, h => by
   rw [Jr] at h ⊢
   by_cases hk : (Q0 k l d).1 = true
   · rw [if_pos hk] at h ⊢; have h1 := Iw k l d hk; have h2 := Hr r _ d h1.1 h; omega
   · rw [if_neg hk] at h; cases h
end
def Kq (w : World) (b : Nat) (n : Int) : Prop := ∃ T, w.heap[b]? = some (.cells #[.int .i64 n] T (0, 0))
theorem Kq.lt {w : World} {b : Nat} {n : Int} (h : Kq w b n) : b < w.heap.size := by obtain ⟨T, h⟩ := h; exact lHp h
theorem Kq.keep {w w' : World} {b : Nat} {n : Int} (h : Kq w b n) (hk : w'.heap[b]? = w.heap[b]?) : Kq w' b n := by obtain ⟨T, h⟩ := h; exact ⟨T, hk.trans h⟩
theorem Kq.cell {w : World} {b : Nat} {n : Int} (h : Kq w b n) : w.cell? ⟨b, 0, none⟩ = some (.int .i64 n) /\ w.frozen? ⟨b, 0, none⟩ = false := by obtain ⟨T, h⟩ := h; exact ⟨cOb h rfl, fOb h⟩
theorem Kq.set {w : World} {b : Nat} {n : Int} (h : Kq w b n) (m : Int) : Kq (w.setCell ⟨b, 0, none⟩ (.int .i64 m)) b m := by
 obtain ⟨T, h⟩ := h; exact ⟨T, by simp [World.setCell, Array.getElem?_modify, h]⟩
theorem Eff.below {p B : Nat} {w w' : World} (h : Eff p w w') (hp : B <= p) (hs : B <= w.heap.size) : Below B w w' := ⟨h.os, h.tape, h.output, h.size, fun k hk => h.block k (by omega) (by omega)⟩
theorem W5 {P : Program} {f : FuncId} {fn : Func} {c : Code} (hf : P.funcs[f]? = some fn) (aM : (fn.name == "runtime.NumGoroutine") = false) (hb : fn.body = some c) (us : Array Value) (w : World) :
 (callFunc f us).run P w = .ok (.enter f us) w := by
 have aK : ¬ fn.name = "runtime.NumGoroutine" := by simpa using aM
 simp [callFunc, hf, aK, hb]
def Ro (w : World) (lb : Nat) (r : Bool × Int) (e : Ending) (w' : World) : Prop := e = .returned (.bool r.1) /\ Kq w' lb r.2 /\ Eff lb w w'
def qb7 (R : Nat -> World -> Prop) (E : World -> Prop) (k : Nat) (e : Ending) (w' : World) : Prop := (e = .returned (.bool false) /\ R (k + 1) w') \/ (e = .returned (.bool true) /\ E w')
def IxR (R : Nat -> World -> Prop) (E : World -> Prop) (n : Nat) (e : Ending) (w' : World) : Prop := (e = .returned (.int .i64 (-1)) /\ R n w') \/ ∃ i : Nat, e = .returned (.int .i64 (i : Int)) /\ E w'
def CoR (R : Nat -> World -> Prop) (E : World -> Prop) (n : Nat) (e : Ending) (w' : World) : Prop := (e = .returned (.bool false) /\ R n w') \/ (e = .returned (.bool true) /\ E w')
def qcc (W0 : World) (R : Nat -> World -> Prop) (E : World -> Prop) (g : FuncId) (caps : Array Value) (ks : List TreeI) : Prop := ∀ (k : Nat) (o1 : Int) (n1 : List UInt8) (d1 m1 : Int) (aC : List TreeI) (A1 : Option Addr) (p1 : Nat) (wr : World), ks[k]? = some (.mk o1 n1 d1 m1 aC) ->
 RdX true W0 [.int .i64 o1, vs n1, .int .i64 d1, .int .i64 m1, .slice A1 aC.length p1] (.mk o1 n1 d1 m1 aC) -> R k wr -> Calls Tryz.prog g (#[.agg #[.int .i64 o1, vs n1, .int .i64 d1, .int .i64 m1, .slice A1 aC.length p1]] ++ caps) wr (qb7 R E k)
theorem ix_f (W0 : World) (ks : List TreeI) (A : Option Addr) (c : Nat) (g : FuncId) (caps : Array Value) (w : World) (R : Nat -> World -> Prop) (E : World -> Prop)
 (aA : ks = [] \/ ∃ b o, A = some ⟨b, o, none⟩ /\ b < W0.heap.size /\ Wb true W0 b o ks) (hl : ks.length <= 1000000) (aH : ∀ us W, (callFunc g us).run Tryz.prog W = .ok (.enter g us) W)
 (hB : ∀ k wr, R k wr -> Below W0.heap.size W0 wr) (hg : qcc W0 R E g caps ks) (h0 : R 0 w) :
 Calls Tryz.prog 147 #[.slice A ks.length c, .func (.func g) #[] caps] w (IxR R E ks.length) := by
 have HG := Hi hg; have HK := Hi aA; have bB := Hi hB; have H0 := Hi h0; clear hg aA hB h0; go_enter Tryz.func147, Tryz.ntmps147
 go_wp2_with fail; go_loopw [8] (fun i wr => ∃ k : Nat, k <= ks.length /\ i = .int .i64 k /\ R k wr) (fun i _ => ks.length - (intOf i).toNat)
 case atStart => exact ⟨0, Nat.zero_le _, rfl, H0.out⟩
 case round =>
  obtain ⟨k, hk, rfl, hr⟩ := hrel; have HR := Hi hr; have HB := Hi (bB.out k wr hr); clear hr
  by_cases aG : k < ks.length
  · obtain ⟨x, hx⟩ := gLt aG; have HX := Hi hx; have aJ : ks ≠ [] := by rintro rfl; simp at aG
    obtain ⟨b, o, rfl, aF, aQ⟩ := HK.out.resolve_left aJ; obtain ⟨cs, hc, aL⟩ := aQ.get hx; have bA := Hi aL; obtain ⟨o1, n1, d1, m1, aC⟩ := x; obtain ⟨A1, p1, rfl, -, -⟩ := aL; have z0 : wr.cell? ⟨b, o + k * 5, none⟩ = some (.int .i64 o1) := (HB.out.cell (p := ⟨b, o + k * 5, none⟩) aF).trans (hc 0 _ rfl); have z1 : wr.cell? ⟨b, o + k * 5 + 1, none⟩ = some (vs n1) := (HB.out.cell (p := ⟨b, o + k * 5 + 1, none⟩) aF).trans (hc 1 _ rfl); have z2 : wr.cell? ⟨b, o + k * 5 + 2, none⟩ = some (.int .i64 d1) := (HB.out.cell (p := ⟨b, o + k * 5 + 2, none⟩) aF).trans (hc 2 _ rfl); have z3 : wr.cell? ⟨b, o + k * 5 + 3, none⟩ = some (.int .i64 m1) := (HB.out.cell (p := ⟨b, o + k * 5 + 3, none⟩) aF).trans (hc 3 _ rfl); have z4 : wr.cell? ⟨b, o + k * 5 + 4, none⟩ = some (.slice A1 aC.length p1) := (HB.out.cell (p := ⟨b, o + k * 5 + 4, none⟩) aF).trans (hc 4 _ rfl); have bI : (k : Int) < ks.length := by omega
    have bJ : (0 : Int) <= k := by omega
    have aY : b < wr.heap.size := by have := HB.out.size; omega
    have HC : Hid (Calls Tryz.prog g (#[.agg #[.int .i64 o1, vs n1, .int .i64 d1, .int .i64 m1, .slice A1 aC.length p1]] ++ caps) wr (qb7 R E k)) := Hi (HG.out k o1 n1 d1 m1 aC A1 p1 wr HX.out bA.out HR.out); clear hc aQ hx aJ; go_wp2_with fail; refine HC.out.mono ?_; rintro e w1 (⟨rfl, h1⟩ | ⟨rfl, h1⟩)
    · have H1 := Hi h1; clear h1; go_wp2_with fail; exact ⟨⟨k + 1, by omega, by go_num, H1.out⟩, by simp [intOf]; omega⟩
    · have H1 := Hi h1; clear h1; go_wp2_with fail; go_ret; exact Or.inr ⟨k, rfl, H1.out⟩
  · have aR : k = ks.length := by omega
    subst aR; have aN : ¬ ((ks.length : Nat) : Int) < ks.length := by omega
    go_wp2_with fail; go_ret; exact Or.inl ⟨rfl, HR.out⟩
theorem co_f (W0 : World) (ks : List TreeI) (A : Option Addr) (c : Nat) (g : FuncId) (caps : Array Value) (w : World) (R : Nat -> World -> Prop) (E : World -> Prop)
 (aA : ks = [] \/ ∃ b o, A = some ⟨b, o, none⟩ /\ b < W0.heap.size /\ Wb true W0 b o ks) (hl : ks.length <= 1000000) (aH : ∀ us W, (callFunc g us).run Tryz.prog W = .ok (.enter g us) W)
 (hB : ∀ k wr, R k wr -> Below W0.heap.size W0 wr) (hg : qcc W0 R E g caps ks) (h0 : R 0 w) :
 Calls Tryz.prog 97 #[.slice A ks.length c, .func (.func g) #[] caps] w (CoR R E ks.length) := by
 have HI : Hid (Calls Tryz.prog 147 #[.slice A ks.length c, .func (.func g) #[] caps] w (IxR R E ks.length)) := Hi (ix_f W0 ks A c g caps w R E aA hl aH hB hg h0); clear aA aH hB hg h0; go_enter Tryz.func97, Tryz.ntmps97
 go_wp2_with fail; refine HI.out.mono ?_; rintro e w1 (⟨rfl, h1⟩ | ⟨i, rfl, h1⟩)
 · have H1 := Hi h1; clear h1; go_wp2_with fail; go_ret; exact Or.inl ⟨rfl, H1.out⟩
 · have H1 := Hi h1; have hi : (0 : Int) <= i := by omega
   clear h1; go_wp2_with fail; go_ret; exact Or.inr ⟨rfl, H1.out⟩
def qcb (W0 : World) (R : Nat -> World -> Prop) (E : World -> Prop) (g : FuncId) (caps : Array Value) (ks : List TreeI) : Prop := ∀ (k : Nat) (o1 : Int) (n1 : List UInt8) (d1 m1 : Int) (aC : List TreeI) (A1 : Option Addr) (p1 : Nat) (wr : World), ks[k]? = some (.mk o1 n1 d1 m1 aC) ->
 RdX false W0 [.int .i64 o1, vs n1, .int .i64 m1, .slice A1 aC.length p1] (.mk o1 n1 d1 m1 aC) -> R k wr -> Calls Tryz.prog g (#[.agg #[.int .i64 o1, vs n1, .int .i64 m1, .slice A1 aC.length p1]] ++ caps) wr (qb7 R E k)
theorem ix_s (W0 : World) (ks : List TreeI) (A : Option Addr) (c : Nat) (g : FuncId) (caps : Array Value) (w : World) (R : Nat -> World -> Prop) (E : World -> Prop)
 (aA : ks = [] \/ ∃ b o, A = some ⟨b, o, none⟩ /\ b < W0.heap.size /\ Wb false W0 b o ks) (hl : ks.length <= 1000000) (aH : ∀ us W, (callFunc g us).run Tryz.prog W = .ok (.enter g us) W)
 (hB : ∀ k wr, R k wr -> Below W0.heap.size W0 wr) (hg : qcb W0 R E g caps ks) (h0 : R 0 w) :
 Calls Tryz.prog 148 #[.slice A ks.length c, .func (.func g) #[] caps] w (IxR R E ks.length) := by
 have HG := Hi hg; have HK := Hi aA; have bB := Hi hB; have H0 := Hi h0; clear hg aA hB h0; go_enter Tryz.func148, Tryz.ntmps148
 go_wp2_with fail; go_loopw [8] (fun i wr => ∃ k : Nat, k <= ks.length /\ i = .int .i64 k /\ R k wr) (fun i _ => ks.length - (intOf i).toNat)
 case atStart => exact ⟨0, Nat.zero_le _, rfl, H0.out⟩
 case round =>
  obtain ⟨k, hk, rfl, hr⟩ := hrel; have HR := Hi hr; have HB := Hi (bB.out k wr hr); clear hr
  by_cases aG : k < ks.length
  · obtain ⟨x, hx⟩ := gLt aG; have HX := Hi hx; have aJ : ks ≠ [] := by rintro rfl; simp at aG
    obtain ⟨b, o, rfl, aF, aQ⟩ := HK.out.resolve_left aJ; obtain ⟨cs, hc, aL⟩ := aQ.get hx; have bA := Hi aL; obtain ⟨o1, n1, d1, m1, aC⟩ := x; obtain ⟨A1, p1, rfl, -, -⟩ := aL; have z0 : wr.cell? ⟨b, o + k * 4, none⟩ = some (.int .i64 o1) := (HB.out.cell (p := ⟨b, o + k * 4, none⟩) aF).trans (hc 0 _ rfl); have z1 : wr.cell? ⟨b, o + k * 4 + 1, none⟩ = some (vs n1) := (HB.out.cell (p := ⟨b, o + k * 4 + 1, none⟩) aF).trans (hc 1 _ rfl); have z2 : wr.cell? ⟨b, o + k * 4 + 2, none⟩ = some (.int .i64 m1) := (HB.out.cell (p := ⟨b, o + k * 4 + 2, none⟩) aF).trans (hc 2 _ rfl); have z3 : wr.cell? ⟨b, o + k * 4 + 3, none⟩ = some (.slice A1 aC.length p1) := (HB.out.cell (p := ⟨b, o + k * 4 + 3, none⟩) aF).trans (hc 3 _ rfl); have bI : (k : Int) < ks.length := by omega
    have bJ : (0 : Int) <= k := by omega
    have aY : b < wr.heap.size := by have := HB.out.size; omega
    have HC : Hid (Calls Tryz.prog g (#[.agg #[.int .i64 o1, vs n1, .int .i64 m1, .slice A1 aC.length p1]] ++ caps) wr (qb7 R E k)) := Hi (HG.out k o1 n1 d1 m1 aC A1 p1 wr HX.out bA.out HR.out); clear hc aQ hx aJ; go_wp2_with fail; refine HC.out.mono ?_; rintro e w1 (⟨rfl, h1⟩ | ⟨rfl, h1⟩)
    · have H1 := Hi h1; clear h1; go_wp2_with fail; exact ⟨⟨k + 1, by omega, by go_num, H1.out⟩, by simp [intOf]; omega⟩
    · have H1 := Hi h1; clear h1; go_wp2_with fail; go_ret; exact Or.inr ⟨k, rfl, H1.out⟩
  · have aR : k = ks.length := by omega
    subst aR; have aN : ¬ ((ks.length : Nat) : Int) < ks.length := by omega
    go_wp2_with fail; go_ret; exact Or.inl ⟨rfl, HR.out⟩
theorem co_s (W0 : World) (ks : List TreeI) (A : Option Addr) (c : Nat) (g : FuncId) (caps : Array Value) (w : World) (R : Nat -> World -> Prop) (E : World -> Prop)
 (aA : ks = [] \/ ∃ b o, A = some ⟨b, o, none⟩ /\ b < W0.heap.size /\ Wb false W0 b o ks) (hl : ks.length <= 1000000) (aH : ∀ us W, (callFunc g us).run Tryz.prog W = .ok (.enter g us) W)
 (hB : ∀ k wr, R k wr -> Below W0.heap.size W0 wr) (hg : qcb W0 R E g caps ks) (h0 : R 0 w) :
 Calls Tryz.prog 99 #[.slice A ks.length c, .func (.func g) #[] caps] w (CoR R E ks.length) := by
 have HI : Hid (Calls Tryz.prog 148 #[.slice A ks.length c, .func (.func g) #[] caps] w (IxR R E ks.length)) := Hi (ix_s W0 ks A c g caps w R E aA hl aH hB hg h0); clear aA aH hB hg h0; go_enter Tryz.func99, Tryz.ntmps99
 go_wp2_with fail; refine HI.out.mono ?_; rintro e w1 (⟨rfl, h1⟩ | ⟨i, rfl, h1⟩)
 · have H1 := Hi h1; clear h1; go_wp2_with fail; go_ret; exact Or.inl ⟨rfl, H1.out⟩
 · have H1 := Hi h1; have hi : (0 : Int) <= i := by omega
   clear h1; go_wp2_with fail; go_ret; exact Or.inr ⟨rfl, H1.out⟩
end
set_option maxRecDepth 20000
set_option maxHeartbeats 1000000
section
open Go.RowKit
theorem qal (w : World) (k : Nat) (os : Array Obj) : Below w.heap.size w (Go.Sort.grow (w.drewN k) os) :=
 ⟨rfl, rfl, rfl, by simp [Go.Sort.grow], fun i hi => by simp [Go.Sort.grow, Array.getElem?_append_left hi]⟩
theorem qgd (W w : World) (n : Nat) (hn : n <= 10000000) (ht : Xp W) (hb : Below W.heap.size W w) : Calls Tryz.prog 62 #[.int .i64 (n : Int)] w fun e w' => e = .returned (vs (dec n)) /\ Below w.heap.size w w' := by
 refine (Tryz.strconv_Itoa n (by omega) (by omega) w (ht.pw w hb)).mono ?_; rintro e w' ⟨rfl, k, os, rfl⟩; rw [Lib.itoa_nonneg]; exact ⟨rfl, qal w k os⟩
theorem Ul (W w : World) (p : Nat) (T : TypeId) (S : Nat -> Prop) (L N : List (List UInt8)) (n : Nat) (h : Wr W w p T S L N) (hn : n <= 10000000) (aB : L.length + 1 <= 1000000) (ht : Xp W) :
 Calls Tryz.prog 29 #[.pointer (some ⟨p, 0, none⟩), .int .i64 (n : Int)] w (Zy W w p T S (L ++ [dec n]) N) := by
 have HI := Hi (qgd W w n hn ht h.below); have H := Hi h; clear h ht; go_enter Tryz.func29, Tryz.ntmps29
 go_wp2_with fail; refine HI.out.mono ?_; rintro e w1 ⟨rfl, aZ⟩; have cG := Hi aZ; have H1 := Hi ((H.out.keep aZ).alloc (.cells #[vs (dec n)] 9)); clear aZ; go_wp2_with fail; refine (Z9 W _ p T S L N [dec n] _ 1 H1.out Uq (by simpa using aB)).mono ?_; rintro e w3 ⟨rfl, S', hw, hf⟩; have HW := Hi hw; have HF := Hi hf; clear hw hf; go_wp2_with fail; go_end0; exact ⟨rfl, S', HW.out, ((J8.of_below S cG.out).alloc _).trans HF.out⟩
theorem Xy (W w : World) (p : Nat) (T : TypeId) (S : Nat -> Prop) (L N : List (List UInt8)) (s : List UInt8) (g : Nat) (hg : g = w.heap.size) (h : Wr W w p T S L N) (aB : L.length + 1 <= 1000000) :
 Calls Tryz.prog 27 #[.pointer (some ⟨p, 0, none⟩), .slice (some ⟨g, 0, none⟩) 1 1] (w.alloc (.cells #[vs s] 9)) (Zy W w p T S (L ++ [s]) N) := by
 subst hg; refine (Z9 W _ p T S L N [s] _ 1 (h.alloc _) Uq (by simpa using aB)).mono ?_; rintro e w3 ⟨rfl, S', hw, hf⟩; exact ⟨rfl, S', hw, ((J8.refl S w).alloc _).trans hf⟩
theorem qax (W w : World) (p : Nat) (T : TypeId) (S : Nat -> Prop) (L N : List (List UInt8)) (s u : List UInt8) (g : Nat) (hg : g = w.heap.size) (h : Wr W w p T S L N) (aB : L.length + 2 <= 1000000) :
 Calls Tryz.prog 27 #[.pointer (some ⟨p, 0, none⟩), .slice (some ⟨g, 0, none⟩) 2 2] (w.alloc (.cells #[vs s, vs u] 9)) (Zy W w p T S (L ++ [s, u]) N) := by
 subst hg; refine (Z9 W _ p T S L N [s, u] _ 2 (h.alloc _) ?_ (by simpa using aB)).mono ?_
 · intro j x hx
   match j, hx with
   | 0, hx => cases hx; exact cOb (J4 rfl) rfl
   | 1, hx => cases hx; exact cOb (J4 rfl) rfl
   | j + 2, hx => simp at hx
 rintro e w3 ⟨rfl, S', hw, hf⟩; exact ⟨rfl, S', hw, ((J8.refl S w).alloc _).trans hf⟩
structure NB (W w0 wc : World) (p : Nat) (T : TypeId) (S0 S : Nat -> Prop) (L N : List (List UInt8)) (bw bf : Nat) (Tp Tf : TypeId) (C : Array Value) : Prop where
 wr : Wr W wc p T S L N
 fr : J8 S0 S w0 wc
 bx1 : wc.heap[bw]? = some (.cells #[.pointer (some ⟨p, 0, none⟩)] Tp (0, 0))
 bx2 : wc.heap[bf]? = some (.cells C Tf (0, 0))
 n1 : ¬ S bw
 n2 : ¬ S bf
theorem NB.step {W w0 wc w' : World} {p : Nat} {T : TypeId} {S0 S S' : Nat -> Prop} {L N L' N' : List (List UInt8)} {bw bf : Nat} {Tp Tf : TypeId} {C : Array Value} (h : NB W w0 wc p T S0 S L N bw bf Tp Tf C) (hw : Wr W w' p T S' L' N') (hf : J8 S S' wc w') : NB W w0 w' p T S0 S' L' N' bw bf Tp Tf C :=
 ⟨hw, h.fr.trans hf, (hf.box h.bx1 h.n1).1, (hf.box h.bx2 h.n2).1, (hf.box h.bx1 h.n1).2, (hf.box h.bx2 h.n2).2⟩
theorem NB.below {W w0 wc w' : World} {p : Nat} {T : TypeId} {S0 S : Nat -> Prop} {L N : List (List UInt8)} {bw bf : Nat} {Tp Tf : TypeId} {C : Array Value} (h : NB W w0 wc p T S0 S L N bw bf Tp Tf C) (hb : Below wc.heap.size wc w') : NB W w0 w' p T S0 S L N bw bf Tp Tf C :=
 h.step (h.wr.keep hb) (J8.of_below _ hb)
theorem NB.alloc {W w0 wc : World} {p : Nat} {T : TypeId} {S0 S : Nat -> Prop} {L N : List (List UInt8)} {bw bf : Nat} {Tp Tf : TypeId} {C : Array Value} (h : NB W w0 wc p T S0 S L N bw bf Tp Tf C) (o : Obj) : NB W w0 (wc.alloc o) p T S0 S L N bw bf Tp Tf C :=
 h.below ((Below.refl _ _).alloc (lR _) _)
theorem NB.start {W w : World} {p : Nat} {T : TypeId} {S : Nat -> Prop} {L N : List (List UInt8)} {Tp Tf : TypeId} {C : Array Value} (h : Wr W w p T S L N) :
 NB W w ((w.alloc (.cells #[.pointer (some ⟨p, 0, none⟩)] Tp)).alloc (.cells C Tf)) p T S S L N w.heap.size (w.heap.size + 1) Tp Tf C :=
 ⟨(h.alloc _).alloc _, ((J8.refl S w).alloc _).alloc _, Z8 (J4 rfl), J4 (by simp), h.fresh, fun hs => by have := h.lt _ hs; omega⟩
theorem NB.lts {W w0 wc : World} {p : Nat} {T : TypeId} {S0 S : Nat -> Prop} {L N : List (List UInt8)} {bw bf : Nat} {Tp Tf : TypeId} {C : Array Value} (h : NB W w0 wc p T S0 S L N bw bf Tp Tf C) : bw < wc.heap.size /\ bf < wc.heap.size /\ wc.cell? ⟨bw, 0, none⟩ = some (.pointer (some ⟨p, 0, none⟩)) :=
 ⟨lHp h.bx1, lHp h.bx2, cOb h.bx1 rfl⟩
theorem NB.post {W w0 wc : World} {p : Nat} {T : TypeId} {S0 S : Nat -> Prop} {L N L' N' : List (List UInt8)} {bw bf : Nat} {Tp Tf : TypeId} {C : Array Value} (h : NB W w0 wc p T S0 S L N bw bf Tp Tf C) (hl : L = L') (hn : N = N') : Zy W w0 p T S0 L' N' (.returned (.tuple #[])) wc := by
 subst hl hn; exact ⟨rfl, S, h.wr, h.fr⟩
theorem Rg (W w : World) (p : Nat) (T : TypeId) (S : Nat -> Prop) (L N X Y : List (List UInt8)) (g : FuncId) (caps : Array Value) (aH : ∀ us W, (callFunc g us).run Tryz.prog W = .ok (.enter g us) W)
 (hg : Calls Tryz.prog g caps w (Zy W w p T S (L ++ X) (N ++ Y))) : Calls Tryz.prog 63 #[.pointer (some ⟨p, 0, none⟩), .bool false, .func (.func g) #[] caps] w (Zy W w p T S (L ++ X) (N ++ Y)) := by
 have HG := Hi hg; clear hg; go_enter Tryz.func63, Tryz.ntmps63
 go_wp2_with fail; refine HG.out.mono ?_; rintro e w3 ⟨rfl, S', hw, hf⟩; have HW := Hi hw; have HF := Hi hf; clear hw hf; go_wp2_with fail; go_end0; exact ⟨rfl, S', HW.out, HF.out⟩
theorem Rf (W w : World) (p : Nat) (T : TypeId) (S : Nat -> Prop) (L N X Y : List (List UInt8)) (g : FuncId) (caps : Array Value) (h : Wr W w p T S L N) (aB : L.length + X.length + 2 <= 1000000) (aH : ∀ us W, (callFunc g us).run Tryz.prog W = .ok (.enter g us) W)
 (hg : ∀ w1 S1, Wr W w1 p T S1 (L ++ [wLp]) N -> J8 S S1 w w1 -> Calls Tryz.prog g caps w1 (Zy W w1 p T S1 (L ++ [wLp] ++ X) (N ++ Y))) : Calls Tryz.prog 63 #[.pointer (some ⟨p, 0, none⟩), .bool true, .func (.func g) #[] caps] w (Zy W w p T S (L ++ wLp :: (X ++ [wRp])) (N ++ Y)) := by
 have HG := Hi hg; have H := Hi h; clear hg h; go_enter Tryz.func63, Tryz.ntmps63
 go_wp2_with fail; refine (Xy W _ p T S L N [40] _ rfl H.out (by omega)).mono ?_; rintro e w1 ⟨rfl, S1, aI, bM⟩; have cA := Hi aI; have bP := Hi bM; clear aI bM; go_wp2_with fail; refine (HG.out _ S1 cA.out bP.out).mono ?_; rintro e w2 ⟨rfl, S2, bD, bL⟩; have bZ := Hi bD; have cF := Hi bL; clear bD bL; go_wp2_with fail; refine (Xy W _ p T S2 (L ++ [wLp] ++ X) (N ++ Y) [41] _ rfl bZ.out (by simp; omega)).mono ?_; rintro e w3 ⟨rfl, S3, bC, bK⟩; have bY := Hi bC; have cE := Hi bK; clear bC bK; go_wp2_with fail; go_end0; refine ⟨rfl, S3, ?_, (bP.out.trans cF.out).trans cE.out⟩; have := bY.out; simpa using this
end
section
theorem O1 (w : Qa) (x : List Qa) : ∀ xs : List (List Qa), J1 w (xs ++ [x]) = J1 w xs ++ ((if xs = [] then [] else [w]) ++ x)
 | [] => by simp [J1]
 | [a] => by simp [J1]
 | a :: b :: r => by
   have := O1 w x (b :: r); simp only [List.cons_append, J1] at this ⊢; rw [this]; simp
theorem Hv (w : Qa) : ∀ xs : List (List Qa), (J1 w xs).length <= xs.flatten.length + xs.length
 | [] => by simp [J1]
 | [a] => by simp [J1]
 | a :: b :: r => by
   have := Hv w (b :: r); simp only [J1, List.length_append, List.length_cons, List.flatten_cons] at this ⊢; omega
theorem qaw (b : Bool) (k : Qb) (oa oo : Nat) (l : List Qa) : (Jt b k oa oo l).length <= l.length + 2 := by
 unfold Jt
 split <;> simp
theorem Dv (ks : List Qb) (k : Nat) : sizes (ks.take k) <= sizes ks := by
 induction ks generalizing k with
 | nil => simp
 | cons a r ih =>
   cases k with
   | zero => simp [sizes]
   | succ k =>
     have := ih k; rw [List.take_succ_cons, sizes, sizes]; omega
theorem S9 {ks : List Qb} {k : Nat} {t : Qb} (h : ks[k]? = some t) : sizes (ks.take (k + 1)) = sizes (ks.take k) + t.size := by
 induction ks generalizing k with
 | nil => simp at h
 | cons a r ih =>
   cases k with
   | zero =>
     simp at h; subst h; simp [sizes]
   | succ k =>
     have := ih (k := k) (by simpa using h); rw [List.take_succ_cons, List.take_succ_cons, sizes, sizes, this]; omega
mutual
theorem Pg : ∀ t : Qb, (wF t).length + 3 <= 6 * t.size
 | .mk op name cmp n ks => by
   have h0 := fun b => Ir b ks; have h1 := h0 false; have h2 := h0 true; have h3 := fun w b => Hv w (wFs b ks); have h4 := h3 wAnd false; have h5 := h3 wOr true; rw [wF, Qb.size]
   repeat' split
   all_goals first | (simp only [List.length_cons, List.length_nil]; omega) | omega
theorem Ir (b : Bool) : ∀ ks : List Qb, (wFs b ks).flatten.length + (wFs b ks).length <= 6 * sizes ks
 | [] => by rw [wFs, sizes]; simp
 | k :: r => by
   have h1 := Pg k; have h2 := Ir b r; have h3 := qaw b k 6 7 (wF k); rw [wFs, sizes]; simp only [List.flatten_cons, List.length_append, List.length_cons]; omega
end
theorem Hf (b : Bool) {ks : List Qb} {k : Nat} {t : Qb} (h : ks[k]? = some t) : wFs b (ks.take (k + 1)) = wFs b (ks.take k) ++ [Jt b t 6 7 (wF t)] := by
 rw [Wg, Wg, List.take_add_one, h, List.map_append]; rfl
theorem qhq (b : Bool) (ks : List Qb) : (wFs b ks).length = ks.length := by rw [Wg, List.length_map]
theorem qjt (b : Bool) (w : Qa) (ks : List Qb) : (J1 w (wFs b ks)).length <= 6 * sizes ks := Nat.le_trans (Hv _ _) (Ir b ks)
mutual
theorem Wf : ∀ t : Qb, (wS t).length + 3 <= 6 * t.size
 | .mk op name cmp n ks => by
   have h0 := fun b => Ip b ks; have h1 := h0 false; have h2 := h0 true; have h3 := fun w b => Hv w (wSs b ks); have h4 := h3 wAnd false; have h5 := h3 wOr true; rw [wS, Qb.size]
   repeat' split
   all_goals first | (simp only [List.length_cons, List.length_nil]; omega) | omega
theorem Ip (b : Bool) : ∀ ks : List Qb, (wSs b ks).flatten.length + (wSs b ks).length <= 6 * sizes ks
 | [] => by rw [wSs, sizes]; simp
 | k :: r => by
   have h1 := Wf k; have h2 := Ip b r; have h3 := qaw b k 8 9 (wS k); rw [wSs, sizes]; simp only [List.flatten_cons, List.length_append, List.length_cons]; omega
end
theorem Hd (b : Bool) {ks : List Qb} {k : Nat} {t : Qb} (h : ks[k]? = some t) : wSs b (ks.take (k + 1)) = wSs b (ks.take k) ++ [Jt b t 8 9 (wS t)] := by
 rw [We, We, List.take_add_one, h, List.map_append]; rfl
theorem qho (b : Bool) (ks : List Qb) : (wSs b ks).length = ks.length := by rw [We, List.length_map]
theorem qjs (b : Bool) (w : Qa) (ks : List Qb) : (J1 w (wSs b ks)).length <= 6 * sizes ks := Nat.le_trans (Hv _ _) (Ip b ks)
namespace So
mutual
theorem Pg : ∀ t : Qb, (wF t).length <= 3 * t.size
 | .mk op name cmp n ks => by
   have h1 := Ir ks; rw [wF, Qb.size, List.length_append]
   repeat' split
   all_goals first | (simp only [List.length_cons, List.length_nil]; omega) | omega
theorem Ir : ∀ ks : List Qb, (wFs ks).length <= 3 * sizes ks
 | [] => by rw [wFs, sizes]; simp
 | k :: r => by
   have h1 := Pg k; have h2 := Ir r; rw [wFs, sizes, List.length_append]; omega
end
theorem Hf : ∀ {ks : List Qb} {k : Nat} {t : Qb}, ks[k]? = some t -> wFs (ks.take (k + 1)) = wFs (ks.take k) ++ wF t
 | [], k, t, h => by simp at h
 | a :: r, 0, t, h => by
   simp at h; subst h; simp [wFs]
 | a :: r, k + 1, t, h => by
   have := Hf (ks := r) (k := k) (by simpa using h); rw [List.take_succ_cons, List.take_succ_cons, wFs, wFs, this, List.append_assoc]
mutual
theorem Wf : ∀ t : Qb, (wS t).length <= 3 * t.size
 | .mk op name cmp n ks => by
   have h1 := Ip ks; rw [wS, Qb.size, List.length_append]
   repeat' split
   all_goals first | (simp only [List.length_cons, List.length_nil]; omega) | omega
theorem Ip : ∀ ks : List Qb, (wSs ks).length <= 3 * sizes ks
 | [] => by rw [wSs, sizes]; simp
 | k :: r => by
   have h1 := Wf k; have h2 := Ip r; rw [wSs, sizes, List.length_append]; omega
end
theorem Hd : ∀ {ks : List Qb} {k : Nat} {t : Qb}, ks[k]? = some t -> wSs (ks.take (k + 1)) = wSs (ks.take k) ++ wS t
 | [], k, t, h => by simp at h
 | a :: r, 0, t, h => by
   simp at h; subst h; simp [wSs]
 | a :: r, k + 1, t, h => by
   have := Hd (ks := r) (k := k) (by simpa using h); rw [List.take_succ_cons, List.take_succ_cons, wSs, wSs, this, List.append_assoc]
end So
theorem U0 : ∀ {ks : List Qb} {k : Nat} {t : Qb}, ks[k]? = some t -> Qy (ks.take (k + 1)) = Qy (ks.take k) ++ Ql t
 | [], k, t, h => by simp at h
 | a :: r, 0, t, h => by
   simp at h; subst h; simp [Qy]
 | a :: r, k + 1, t, h => by
   have := U0 (ks := r) (k := k) (by simpa using h); rw [List.take_succ_cons, List.take_succ_cons, Qy, Qy, this, List.append_assoc]
theorem Uz : ∀ {ks : List Qb} {k : Nat} {t : Qb}, ks[k]? = some t -> Qz (ks.take (k + 1)) = Qz (ks.take k) ++ Qo t
 | [], k, t, h => by simp at h
 | a :: r, 0, t, h => by
   simp at h; subst h; simp [Qz]
 | a :: r, k + 1, t, h => by
   have := Uz (ks := r) (k := k) (by simpa using h); rw [List.take_succ_cons, List.take_succ_cons, Qz, Qz, this, List.append_assoc]
mutual
theorem Um : ∀ t : Qb, (Ql t).length <= t.size
 | .mk op name cmp n ks => by
   have h1 := Yb ks; rw [Ql, Qb.size, List.length_append]
   split <;> simp <;> omega
theorem Yb : ∀ ks : List Qb, (Qy ks).length <= sizes ks
 | [] => by rw [Qy, sizes]; simp
 | k :: r => by
   have h1 := Um k; have h2 := Yb r; rw [Qy, sizes, List.length_append]; omega
end
mutual
theorem Z5 : ∀ t : Qb, (Qo t).length <= t.size
 | .mk op name cmp n ks => by
   have h1 := Ya ks; rw [Qo, Qb.size, List.length_append]
   split <;> simp <;> omega
theorem Ya : ∀ ks : List Qb, (Qz ks).length <= sizes ks
 | [] => by rw [Qz, sizes]; simp
 | k :: r => by
   have h1 := Z5 k; have h2 := Ya r; rw [Qz, sizes, List.length_append]; omega
end
theorem I1 : ∀ {ks : List Qb} {k : Nat} {t : Qb}, Ze ks = true -> ks[k]? = some t -> Jn t = true
 | [], k, t, _, h => by simp at h
 | a :: r, 0, t, hs, h => by
   simp at h; subst h; rw [Ze, Bool.and_eq_true] at hs; exact hs.1
 | a :: r, k + 1, t, hs, h => by
   rw [Ze, Bool.and_eq_true] at hs; exact I1 hs.2 (by simpa using h)
theorem Iz : ∀ {ks : List Qb} {k : Nat} {t : Qb}, Jz ks = true -> ks[k]? = some t -> Ja t = true
 | [], k, t, _, h => by simp at h
 | a :: r, 0, t, hs, h => by
   simp at h; subst h; rw [Jz, Bool.and_eq_true] at hs; exact hs.1
 | a :: r, k + 1, t, hs, h => by
   rw [Jz, Bool.and_eq_true] at hs; exact Iz hs.2 (by simpa using h)
theorem qay : ∀ {ks : List Qb} {k : Nat} {t : Qb}, ks[k]? = some t -> (ups ks)[k]? = some (up t)
 | [], k, t, h => by simp at h
 | a :: r, 0, t, h => by
   simp at h; subst h; rw [ups]; rfl
 | a :: r, k + 1, t, h => by
   rw [ups]; simpa using qay (ks := r) (k := k) (by simpa using h)
