/- Names put behind a row that the call owns. A map as the list of its entries; a set of words: a map to true. printer.set: the set of a text's words; the library's tables. -/
import Derived.Test.YtbicmjmcdnkjhaaGreatDoorJMM1
import Derived.Test.YtbicmjmcdnkjhaaGreatDoorJMM4
import Derived.Test.YtbicmjmcdnkjhaaGreatDoorJMM6
import Derived.Laws.OwnMore
import Derived.Deep.RegionHeld3
import Derived.Maps.RangeRun
import Derived.Maps.Keyed
import Derived.Maps.OwnOps
import Derived.Test.YtbicmjmcdnkjhaaGreatDoorShelf
import Derived.Carry
import Derived.Lib.LaidTab
set_option linter.unusedVariables false
set_option linter.unusedSimpArgs false
namespace Go.Proofs.YtbicmjmcdnkjhaaGreatDoor
open Go.RowKit
theorem loadCells_zero (a : Addr) (w : World) : (loadCells a 0).run Tryz.prog w = .ok #[] w := rfl
theorem run_append_zero (w : World) (base : Nat) (t ty e : TypeId) (i : TypeInfo) (size : Nat) (ht : Tryz.prog.underlying t = some (.slice e)) (hi : Tryz.prog.info? e = some i) (v : Value) (n : Nat) (xs : List Value) (hown : w.ownsRow base e size v n xs) (A : Option Addr) (c : Nat) :
 (Builtin.append_ #[t, t] ty #[v, .slice A 0 c]).run Tryz.prog w = .ok v w := by
 cases A with
 | none =>
   rcases hown.2 with ⟨rfl, rfl⟩ | ⟨g, cap, cur, rfl, _, _, hnc, _⟩
   · simp [Builtin.append_, run_underlying ht, sizeOf, typeInfo, hi, Builtin.lenOf, Builtin.firstCells]
   · simp [Builtin.append_, run_underlying ht, sizeOf, typeInfo, hi, Builtin.lenOf, Builtin.firstCells, hnc, storeCells]
 | some a =>
   rcases hown.2 with ⟨rfl, rfl⟩ | ⟨g, cap, cur, rfl, _, _, hnc, _⟩
   · simp [Builtin.append_, run_underlying ht, sizeOf, typeInfo, hi, Builtin.lenOf, Builtin.firstCells, loadCells_zero]
   · simp [Builtin.append_, run_underlying ht, sizeOf, typeInfo, hi, Builtin.lenOf, Builtin.firstCells, hnc, storeCells, loadCells_zero]
theorem wpList_append_src {ops : Array Oper} {rest : List Oper} {o : Oper} {a : Act} {w : World} {Q : Exit → Act → World → Prop} (hgd : o.guard = none) (s x : Operand) (hop : o.op = Op.call { callee := Callee.builtin Builtin.append, args := #[s, x], argTypes := #[25, 25] })
 (base : Nat) (v : Value) (l X : List Bytes) (A : Option Addr) (c : Nat) (hs : a.eval s = v) (hx : a.eval x = .slice A X.length c) (hown : OwnS w base v l) (hr : RdS w A X)
 (hlen : l.length + X.length ≤ 1000000) (hb : base ≤ w.heap.size) (h : ∀ v' w', OwnS w' base v' (l ++ X) → w.grownBy w' v.ownBlock → (v'.ownBlock = v.ownBlock ∨ v'.ownBlock = some w.heap.size) → wpList Tryz.prog ops Q rest (a.put o.dst v') w') : wpList Tryz.prog ops Q (o :: rest) a w := by
 obtain ⟨i0, hi0, hz0, hz1, hz2⟩ := info_parts info_str
 by_cases hX : X = []
 · subst hX
   refine wpList_plain hgd fun K hK => ?_
   have hrun := run_append_zero w base 25 o.type 9 i0 1 Tryz.underlying25 hi0 v _ _ hown A c
   unfold Oper.wp
   simp [execOp, hop, resolve, invoke, builtin, hs, hx, hrun, Result.andThen]
   exact hK _ _ (h v w (by rw [List.append_nil]; exact hown) ⟨rfl, rfl, rfl, lR _, fun _ _ _ => rfl⟩ (Or.inl rfl))
 · obtain ⟨b0, o0, rfl, hb0, hc⟩ := hr hX
   refine wpList_append_own_at _ hgd s x _ hop base 9 i0 (.string ⟨#[]⟩) 1 16 Tryz.underlying25 hi0 hz0 hz1 hz2 rfl (by decide) v l.length (l.map vs) hs hown ⟨b0, o0, none⟩ X.length c (X.map vs) hx (by simp) (fun j u hu => ?_) (fun u hu => ?_) (by unfold maxLen; omega) (by omega) hb ?_
   · rw [List.getElem?_map] at hu
     cases hj : X[j]? with
     | none => rw [hj] at hu; cases hu
     | some x =>
       rw [hj] at hu
       cases hu
       rw [Addr.add_lit]
       have := hc j x hj 0 _ rfl
       simpa using this
   · rw [List.mem_map] at hu
     obtain ⟨x, -, rfl⟩ := hu
     rfl
   · intro v' w' ho hg _ hb
     exact h v' w' (by unfold OwnS; simpa using ho) hg hb
/- a row handed on: what has become of it, and of the memory -/
structure NmOut (W w w' : World) (v v' : Value) (l : List Bytes) : Prop where
 own : OwnS w' W.heap.size v' l
 gr : w.grownBy w' v.ownBlock
 at' : v'.ownBlock = v.ownBlock ∨ ∃ b, v'.ownBlock = some b ∧ w.heap.size ≤ b
section
variable {W w w1 w2 : World} {v v1 v2 : Value} {l l1 l2 : List Bytes}
theorem NmOut.refl (h : OwnS w W.heap.size v l) : NmOut W w w v v l := ⟨h, ⟨rfl, rfl, rfl, lR _, fun _ _ _ => rfl⟩, Or.inl rfl⟩
theorem NmOut.trans (h : NmOut W w w1 v v1 l1) (k : NmOut W w1 w2 v1 v2 l2) : NmOut W w w2 v v2 l2 := by
 refine ⟨k.own, ⟨k.gr.os.trans h.gr.os, k.gr.tape.trans h.gr.tape, k.gr.output.trans h.gr.output, Nat.le_trans h.gr.size k.gr.size, fun i hi hne => ?_⟩, ?_⟩
 · refine (k.gr.block i (Nat.lt_of_lt_of_le hi h.gr.size) (fun e => ?_)).trans (h.gr.block i hi hne)
   rcases h.at' with h' | ⟨b, h', hb⟩
   · exact hne (e.trans h')
   · rw [h'] at e
     injection e with e
     omega
 · rcases k.at' with k' | ⟨b, k', hb⟩
   · rcases h.at' with h' | ⟨b, h', hb⟩
     · exact Or.inl (k'.trans h')
     · exact Or.inr ⟨b, k'.trans h', hb⟩
   · exact Or.inr ⟨b, k', Nat.le_trans h.gr.size hb⟩
theorem NmOut.below (h : NmOut W w w1 v v1 l1) (hv : OwnS w W.heap.size v l) (hb : Below W.heap.size W w) : Below W.heap.size W w1 :=
 hb.trans ⟨h.gr.os, h.gr.tape, h.gr.output, h.gr.size, fun i hi => h.gr.block i (Nat.lt_of_lt_of_le hi hb.size) (fun e => by have := (hv.own i e.symm).1; omega)⟩
theorem OwnS.grown {base : Nat} (h : OwnS w base v l) (hb : Below w.heap.size w w1) : OwnS w1 base v l := h.keep (fun b _ hlt => hb.block b hlt)
/- from a world with new blocks -/
theorem NmOut.of_new (hb : Below w.heap.size w w1) (h : NmOut W w1 w2 v v1 l1) : NmOut W w w2 v v1 l1 :=
 ⟨h.own, ⟨h.gr.os.trans hb.os, h.gr.tape.trans hb.tape, h.gr.output.trans hb.output, Nat.le_trans hb.size h.gr.size, fun i hi hne => (h.gr.block i (Nat.lt_of_lt_of_le hi hb.size) hne).trans (hb.block i hi)⟩,
   h.at'.imp id (fun ⟨b, e, hh⟩ => ⟨b, e, Nat.le_trans hb.size hh⟩)⟩
theorem NmOut.blk (h : NmOut W w w1 v v1 l1) {b : Nat} {O : Obj} (hb : w.heap[b]? = some O) (hne : v.ownBlock ≠ some b) : w1.heap[b]? = some O := (h.gr.block b (lHp hb) (fun e => hne e.symm)).trans hb
end
theorem nmFs_snoc {ks : List TreeI} {k : Nat} {t : TreeI} (h : ks[k]? = some t) : nmFs (ks.take (k + 1)) = nmFs (ks.take k) ++ nmF t := by
 induction ks generalizing k with
 | nil => simp at h
 | cons a r ih =>
   cases k with
   | zero => simp at h; subst h; simp [nmFs]
   | succ k =>
     rw [List.take_succ_cons, List.take_succ_cons, nmFs, nmFs, ih (by simpa using h), List.append_assoc]
theorem nmSs_snoc {ks : List TreeI} {k : Nat} {t : TreeI} (h : ks[k]? = some t) : nmSs (ks.take (k + 1)) = nmSs (ks.take k) ++ nmS t := by
 induction ks generalizing k with
 | nil => simp at h
 | cons a r ih =>
   cases k with
   | zero => simp at h; subst h; simp [nmSs]
   | succ k =>
     rw [List.take_succ_cons, List.take_succ_cons, nmSs, nmSs, ih (by simpa using h), List.append_assoc]
theorem sizesI_take {ks : List TreeI} : ∀ k, sizesI (ks.take k) ≤ sizesI ks := by
 induction ks with
 | nil => intro k; simp [sizesI]
 | cons a r ih =>
   intro k
   cases k with
   | zero => simp [sizesI]
   | succ k =>
     rw [List.take_succ_cons, sizesI, sizesI]
     have := ih k
     omega
theorem sizesI_snoc {ks : List TreeI} {k : Nat} {t : TreeI} (h : ks[k]? = some t) : sizesI (ks.take k) + t.size ≤ sizesI ks := by
 induction ks generalizing k with
 | nil => simp at h
 | cons a r ih =>
   cases k with
   | zero => simp at h; subst h; simp [sizesI]
   | succ k =>
     have := ih (k := k) (by simpa using h)
     rw [List.take_succ_cons, sizesI, sizesI]
     omega
open Go.ChangeMaps (setBlock modify_eq_set)
open Go.MapKept (Stamped stamped_iff stamped_push stamped_modify stamped_empty)
open Go.Maps (Keyed)
variable {P : Program} {k t e : TypeId}
structure KMap (P : Program) (k : TypeId) (w : World) (b : Nat) (kv : List (Value × Value)) : Prop where
 is : ∃ es clock, w.heap[b]? = some (.map es clock) ∧ es.toList.map (fun e => (e.key, e.val)) = kv ∧ Stamped es clock
 keys : ∀ p ∈ kv, ∃ l, keyOf P k p.1 = some l
theorem KMap.lt {w : World} {b : Nat} {kv : List (Value × Value)} (h : KMap P k w b kv) : b < w.heap.size := by
 obtain ⟨es, clock, hh, _⟩ := h.is
 exact (Array.getElem?_eq_some_iff.1 hh).1
theorem KMap.keep {w w' : World} {b : Nat} {kv : List (Value × Value)} (h : KMap P k w b kv) (hk : w'.heap[b]? = w.heap[b]?) : KMap P k w' b kv := by
 obtain ⟨es, clock, hh, he⟩ := h.is
 exact ⟨⟨es, clock, hk.trans hh, he⟩, h.keys⟩
theorem KMap.made (w : World) (c : Nat) : KMap P k (w.alloc (.map #[] c)) w.heap.size [] := ⟨⟨#[], c, heap_alloc_new w _, rfl, stamped_empty c⟩, by simp⟩
theorem kv_one {kv : List (Value × Value)} (h : (kv.map (·.1)).Nodup) {x v v' : Value} (h1 : (x, v) ∈ kv) (h2 : (x, v') ∈ kv) : v = v' := by
 induction kv with
 | nil => cases h1
 | cons a r ih =>
   simp only [List.map_cons, List.nodup_cons, List.mem_map, not_exists, not_and] at h
   rcases List.mem_cons.1 h1 with e1 | e1
   · rcases List.mem_cons.1 h2 with e2 | e2
     · rw [← e1] at e2; cases e2; rfl
     · exact absurd (by rw [← e1]) (h.1 _ e2)
   · rcases List.mem_cons.1 h2 with e2 | e2
     · exact absurd (by rw [← e2]) (h.1 _ e1)
     · exact ih h.2 e1 e2
theorem KMap.nodup {w : World} {b : Nat} {kv : List (Value × Value)} (h : KMap P k w b kv) : (kv.map (·.1)).Nodup := by
 obtain ⟨es, clock, hh, rfl, hs⟩ := h.is
 rw [List.map_map]
 exact hs.2.2
theorem find_hit (K : Keyed P k) {w : World} {es : List MapEntry} {kv : List (Value × Value)} (he : es.map (fun e => (e.key, e.val)) = kv) (hkeys : ∀ p ∈ kv, ∃ l, keyOf P k p.1 = some l) (hn : (kv.map (·.1)).Nodup) {key v : Value} {l : Lit} (hk : keyOf P k key = some l) (hm : (key, v) ∈ kv) :
 ∃ j e0, (Instr.findKey k key es).run P w = .ok (some (j, v)) w ∧ es[j]? = some e0 ∧ e0.key = key ∧ e0.val = v := by
 subst he
 rcases K.find w hk es (fun x hx => hkeys (x.key, x.val) (List.mem_map.2 ⟨x, hx, rfl⟩)) with ⟨h1, h2⟩ | ⟨j, e0, h1, h2, h3⟩
 · obtain ⟨x, hx, hxe⟩ := List.mem_map.1 hm
   exact absurd (congrArg Prod.fst hxe) (h2 x hx)
 · have hv : e0.val = v := kv_one hn (List.mem_map.2 ⟨e0, List.mem_of_getElem? h2, by rw [← h3]⟩) hm
   exact ⟨j, e0, by rw [h1, hv], h2, h3, hv⟩
theorem find_miss (K : Keyed P k) {w : World} {es : List MapEntry} {kv : List (Value × Value)} (he : es.map (fun e => (e.key, e.val)) = kv) (hkeys : ∀ p ∈ kv, ∃ l, keyOf P k p.1 = some l) {key : Value} {l : Lit} (hk : keyOf P k key = some l) (hm : ∀ p ∈ kv, p.1 ≠ key) :
 (Instr.findKey k key es).run P w = .ok none w := by
 subst he
 rcases K.find w hk es (fun x hx => hkeys (x.key, x.val) (List.mem_map.2 ⟨x, hx, rfl⟩)) with ⟨h1, h2⟩ | ⟨j, e0, h1, h2, h3⟩
 · exact h1
 · exact absurd h3 (hm (e0.key, e0.val) (List.mem_map.2 ⟨e0, List.mem_of_getElem? h2, rfl⟩))
theorem KMap.hit (K : Keyed P k) (ht : P.underlying t = some (.map k e)) {w : World} {b : Nat} {kv : List (Value × Value)} (h : KMap P k w b kv) {key v : Value} {l : Lit} (hk : keyOf P k key = some l) (hm : (key, v) ∈ kv) (ok : Bool) :
 (Instr.lookup t (.map (some b)) key ok).run P w = .ok (if ok then .tuple #[v, .bool true] else v) w := by
 have hn := h.nodup
 obtain ⟨es, clock, hb, he, hs⟩ := h.is
 obtain ⟨j, e0, h1, _, _, _⟩ := find_hit K (w := w) he h.keys hn hk hm
 simp [Instr.lookup, run_underlying ht, MapKept.run_getObj_map hb, K.check w _ hk, h1, Result.andThen]
theorem KMap.miss (K : Keyed P k) (ht : P.underlying t = some (.map k e)) {w : World} {b : Nat} {kv : List (Value × Value)} (h : KMap P k w b kv) {key z : Value} {l : Lit} (hk : keyOf P k key = some l) (hm : ∀ p ∈ kv, p.1 ≠ key) (hz : (zeroValue e).run P w = .ok z w) (ok : Bool) :
 (Instr.lookup t (.map (some b)) key ok).run P w = .ok (if ok then .tuple #[z, .bool false] else z) w := by
 obtain ⟨es, clock, hb, he, hs⟩ := h.is
 have h1 := find_miss K (w := w) he h.keys hk hm
 simp [Instr.lookup, run_underlying ht, MapKept.run_getObj_map hb, K.check w _ hk, h1, hz, Result.andThen]
theorem KMap.put_new (K : Keyed P k) (ht : P.underlying t = some (.map k e)) {w : World} {b : Nat} {kv : List (Value × Value)} (h : KMap P k w b kv) {key : Value} (v : Value) {l : Lit} (hk : keyOf P k key = some l) (hm : ∀ p ∈ kv, p.1 ≠ key) :
 ∃ o, (Instr.mapUpdate t (.map (some b)) key v).run P w = .ok () (setBlock w b o) ∧ KMap P k (setBlock w b o) b (kv ++ [(key, v)]) := by
 obtain ⟨es, clock, hb, he, hs⟩ := h.is
 have h1 := find_miss K (w := w) he h.keys hk hm
 refine ⟨.map (es.push ⟨key, v, clock⟩) (clock + 1), ?_, ⟨⟨_, _, ChangeMaps.heap_setBlock_same hb _, by simp [he], stamped_push hs (fun x hx e1 => hm (x.key, x.val) (by rw [← he]; exact List.mem_map.2 ⟨x, hx, rfl⟩) e1)⟩, ?_⟩⟩
 · simp [Instr.mapUpdate, run_underlying ht, MapKept.run_getObj_map hb, K.check w false hk, h1, MapKept.run_setObj_map _ hb, Result.andThen, setBlock]
 · intro p hp
   rcases List.mem_append.1 hp with hp | hp
   · exact h.keys p hp
   · obtain rfl : p = (key, v) := by simpa using hp
     exact ⟨l, hk⟩
theorem KMap.put_old (K : Keyed P k) (ht : P.underlying t = some (.map k e)) {w : World} {b : Nat} {kv : List (Value × Value)} (h : KMap P k w b kv) {key v0 : Value} (v : Value) {l : Lit} (hk : keyOf P k key = some l) (hm : (key, v0) ∈ kv) :
 ∃ o, (Instr.mapUpdate t (.map (some b)) key v).run P w = .ok () (setBlock w b o) ∧ ∃ kv', KMap P k (setBlock w b o) b kv' ∧ ∀ u r, kv = u ++ (key, v0) :: r → kv' = u ++ (key, v) :: r := by
 have hn := h.nodup
 obtain ⟨es, clock, hb, he, hs⟩ := h.is
 obtain ⟨j, e0, h1, h2, h3, h4⟩ := find_hit K (w := w) he h.keys hn hk hm
 have hj : es[j]? = some e0 := by simpa using h2
 have hlist : (es.modify j (fun e' => { e' with key := key, val := v })).toList = es.toList.set j { e0 with key := key, val := v } := by rw [Array.toList_modify, modify_eq_set _ _ _ _ h2]
 have hjk : kv[j]? = some (key, v0) := by rw [← he, List.getElem?_map, h2]; simp [h3, h4]
 have hkv : (es.toList.set j { e0 with key := key, val := v }).map (fun e => (e.key, e.val)) = kv.set j (key, v) := by rw [List.map_set, he]
 refine ⟨.map (es.modify j fun e' => { e' with key := key, val := v }) clock, ?_, kv.set j (key, v), ⟨⟨_, _, ChangeMaps.heap_setBlock_same hb _, by rw [hlist, hkv], stamped_modify hs _ _ (fun _ _ => rfl) (fun e' _ he' => by rw [hj] at he'; cases he'; exact h3.symm)⟩, ?_⟩, ?_⟩
 · simp [Instr.mapUpdate, run_underlying ht, MapKept.run_getObj_map hb, K.check w false hk, h1, hj, h3, K.stays w hk, MapKept.run_setObj_map _ hb, Result.andThen, setBlock]
 · intro p hp
   rcases List.mem_or_eq_of_mem_set hp with hp | rfl
   · exact h.keys p hp
   · exact ⟨l, hk⟩
 · rintro u r rfl
   have hju : j = u.length := by
    rcases Nat.lt_trichotomy j u.length with h5 | h5 | h5
    · exfalso
      rw [List.getElem?_append_left h5] at hjk
      have hu := List.mem_of_getElem? hjk
      rw [List.map_append, List.nodup_append] at hn
      exact hn.2.2 key (List.mem_map.2 ⟨_, hu, rfl⟩) key (by simp) rfl
    · exact h5
    · exfalso
      rw [List.getElem?_append_right (by omega)] at hjk
      obtain ⟨i, hi⟩ : ∃ i, j - u.length = i + 1 := ⟨j - u.length - 1, by omega⟩
      rw [hi, List.getElem?_cons_succ] at hjk
      have hr := List.mem_of_getElem? hjk
      rw [List.map_append, List.nodup_append, List.map_cons, List.nodup_cons] at hn
      exact hn.2.1.1 (List.mem_map.2 ⟨_, hr, rfl⟩)
   subst hju
   rw [List.set_append_right _ _ (lR _)]
   simp
/- a set of words -/
def setKV (l : List Bytes) : List (Value × Value) := l.map fun s => (vs s, .bool true)
def KS (w : World) (b : Nat) (l : List Bytes) : Prop := KMap Tryz.prog 9 w b (setKV l)
theorem str_law : Keyed Tryz.prog 9 := Go.Maps.string_keyed Tryz.underlying9
theorem str_key {s : Bytes} (h : s.length ≤ 1000000) : ∃ l, keyOf Tryz.prog 9 (vs s) = some l := by
 refine ⟨.string s, ?_⟩
 unfold keyOf mapKey
 rw [Tryz.underlying9]
 have : ({ data := s.toArray } : ByteArray).size ≤ maxLen := by
  show s.toArray.size ≤ maxLen
  unfold maxLen
  simp
  omega
 simp [this]
theorem vs_inj {a b : Bytes} (h : vs a = vs b) : a = b := by
 simp only [vs, Value.string.injEq, ByteArray.mk.injEq] at h
 simpa using h
theorem KS.lt {w : World} {b : Nat} {l : List Bytes} (h : KS w b l) : b < w.heap.size := KMap.lt h
theorem KS.keep {w w' : World} {b : Nat} {l : List Bytes} (h : KS w b l) (hb : w'.heap[b]? = w.heap[b]?) : KS w' b l := KMap.keep h hb
theorem KS.made (w : World) : KS (w.alloc (.map #[] 0)) w.heap.size [] := KMap.made w 0
theorem zero_bool (w : World) : (zeroValue 4).run Tryz.prog w = .ok (.bool false) w := by kernel_rfl
theorem mem_kv {l : List Bytes} {s : Bytes} : (vs s, Value.bool true) ∈ setKV l ↔ s ∈ l := by
 unfold setKV
 rw [List.mem_map]
 constructor
 · rintro ⟨x, hx, e⟩
   simp only [Prod.mk.injEq, and_true] at e
   rw [← vs_inj e]; exact hx
 · intro h
   exact ⟨s, h, rfl⟩
theorem not_kv {l : List Bytes} {s : Bytes} (h : s ∉ l) : ∀ p ∈ setKV l, p.1 ≠ vs s := by
 intro p hp e
 unfold setKV at hp
 rw [List.mem_map] at hp
 obtain ⟨x, hx, rfl⟩ := hp
 exact h (by rw [← vs_inj e]; exact hx)
theorem KS.look {w : World} {b : Nat} {l : List Bytes} (h : KS w b l) {s : Bytes} (hs : s.length ≤ 1000000) : (Instr.lookup 65 (.map (some b)) (vs s) false).run Tryz.prog w = .ok (.bool (l.contains s)) w := by
 obtain ⟨kl, hk⟩ := str_key hs
 cases hc : l.contains s with
 | true => exact KMap.hit str_law Tryz.underlying65 h hk (mem_kv.2 (by simpa using hc)) false
 | false => exact KMap.miss str_law Tryz.underlying65 h hk (not_kv (by simpa using hc)) (zero_bool w) false
def addW (l : List Bytes) (s : Bytes) : List Bytes := if l.contains s then l else l ++ [s]
theorem KS.store {w : World} {b : Nat} {l : List Bytes} (h : KS w b l) {s : Bytes} (hs : s.length ≤ 1000000) : ∃ o, (Instr.mapUpdate 65 (.map (some b)) (vs s) (.bool true)).run Tryz.prog w = .ok () (setBlock w b o) ∧ KS (setBlock w b o) b (addW l s) := by
 obtain ⟨kl, hk⟩ := str_key hs
 unfold addW
 cases hc : l.contains s with
 | true =>
   have hm : s ∈ l := by simpa using hc
   obtain ⟨o, h1, kv', h2, h3⟩ := KMap.put_old str_law Tryz.underlying65 h (.bool true) hk (mem_kv.2 hm)
   refine ⟨o, h1, ?_⟩
   obtain ⟨u, r, e⟩ := List.append_of_mem hm
   have := h3 (setKV u) (setKV r) (by rw [e]; simp [setKV])
   rw [if_pos rfl]
   unfold KS
   rw [this] at h2
   rw [e]
   simpa [setKV] using h2
 | false =>
   obtain ⟨o, h1, h2⟩ := KMap.put_new str_law Tryz.underlying65 h (.bool true) hk (not_kv (by simpa using hc))
   refine ⟨o, h1, ?_⟩
   rw [if_neg (by simp)]
   unfold KS
   simpa [setKV] using h2
theorem below_setBlock {w w' : World} {B b : Nat} {o : Obj} (h : Below B w w') (hb : B ≤ b) : Below B w (setBlock w' b o) := by
 refine ⟨h.os, h.tape, h.output, by have := h.size; simpa [setBlock] using this, fun k hk => ?_⟩
 rw [← h.block k hk]
 simp only [setBlock, Array.getElem?_setIfInBounds]
 rw [if_neg (by omega)]
theorem wpList_update_run {P : Program} {ops : Array Oper} {rest : List Oper} {o : Oper} {a : Act} {w w' : World} {Q : Exit → Act → World → Prop} (hgd : o.guard = none) (t : TypeId) (m x v : Operand) (hop : o.op = Op.mapUpdate t m x v) (v1 v2 v3 : Value) (hm : a.eval m = v1) (hx : a.eval x = v2) (hv : a.eval v = v3)
 (hrun : (Instr.mapUpdate t v1 v2 v3).run P w = .ok () w') (h : wpList P ops Q rest (a.put o.dst undef) w') : wpList P ops Q (o :: rest) a w := by
 refine wpList_plain hgd fun K hK => ?_
 unfold Oper.wp
 simp [execOp, hop, hm, hx, hv, hrun, Result.andThen]
 exact hK _ _ h
end Go.Proofs.YtbicmjmcdnkjhaaGreatDoor
set_option maxRecDepth 20000
set_option maxHeartbeats 1000000
namespace Go.Proofs.YtbicmjmcdnkjhaaGreatDoor
open Go.RowKit
open Go.ChangeMaps (setBlock)
/- the tables that the library reads -/
structure Tabs (W : World) : Prop where
 sp : ∀ w, Below W.heap.size W w → Lib.TabIs Tryz.prog w "strings.asciiSpace" .u8 Lib.asciiSpaceTab
 pw : ∀ w, Below W.heap.size W w → Lib.TabIs Tryz.prog w "internal/strconv.uint64pow10" .u64 Lib.pow10Tab
theorem tab_keep {P : Program} {W w : World} {n : String} {k : IntKind} {zs : List Int} (h : Lib.TabIs P W n k zs) (hb : Below W.heap.size W w) : Lib.TabIs P w n k zs := by
 unfold Lib.TabIs World.var? at *
 cases hg : P.globalNamed n with
 | none => rw [hg] at h; cases h
 | some g =>
   rw [hg] at h
   simp only [Option.bind_some] at h ⊢
   have hlt : g < W.heap.size := by
    rcases Nat.lt_or_ge g W.heap.size with h' | h'
    · exact h'
    · rw [Array.getElem?_eq_none h'] at h; cases h
   rw [hb.block g hlt]
   exact h
theorem Tabs.mk' {W : World} (h1 : Lib.TabIs Tryz.prog W "strings.asciiSpace" .u8 Lib.asciiSpaceTab) (h2 : Lib.TabIs Tryz.prog W "internal/strconv.uint64pow10" .u64 Lib.pow10Tab) : Tabs W :=
 ⟨fun w hb => tab_keep h1 hb, fun w hb => tab_keep h2 hb⟩
theorem Tabs.below {W w : World} (h : Tabs W) (hb : Below W.heap.size W w) : Tabs w := Tabs.mk' (h.sp w hb) (h.pw w hb)
def setF (l : List Bytes) : List Bytes := l.foldl addW []
theorem addW_mem {l : List Bytes} {s x : Bytes} : x ∈ addW l s ↔ x ∈ l ∨ x = s := by
 unfold addW
 split
 · rename_i h
   have : s ∈ l := by simpa using h
   constructor
   · exact Or.inl
   · rintro (h | rfl)
     · exact h
     · exact this
 · simp
theorem foldl_mem {l a : List Bytes} {x : Bytes} : x ∈ l.foldl addW a ↔ x ∈ a ∨ x ∈ l := by
 induction l generalizing a with
 | nil => simp
 | cons y r ih =>
   rw [List.foldl_cons, ih, addW_mem]
   simp [or_assoc]
theorem setF_contains (l : List Bytes) (s : Bytes) : (setF l).contains s = l.contains s := by
 rw [Bool.eq_iff_iff]
 simp [setF, foldl_mem]
theorem setF_snoc {l : List Bytes} {k : Nat} {x : Bytes} (h : l[k]? = some x) : setF (l.take (k + 1)) = addW (setF (l.take k)) x := by
 unfold setF
 rw [List.take_add_one, h, Option.toList_some, List.foldl_append]
 rfl
theorem strsCell {w : World} {b : Nat} {l : List Bytes} {T : TypeId} (h : w.heap[b]? = some (.cells (l.map fun l => Value.string ⟨l.toArray⟩).toArray T (0, 0))) {k : Nat} {x : Bytes} (hx : l[k]? = some x) : w.cell? ⟨b, k, none⟩ = some (vs x) := by
 refine cOb h ?_
 simp [hx]
theorem set_any (W w : World) (s : ByteArray) (l : List Bytes) (hl : Lib.fields s.data.toList = l) (hlen : l.length ≤ 1000) (hsh : ∀ x ∈ l, x.length ≤ 1000) (hs : s.size < 4294967281) (hascii : ∀ (j : Nat) b, s.data.toList[j]? = some b → b.toNat < 128) (ht : Tabs W) (hb : Below W.heap.size W w) :
 Calls Tryz.prog 34 #[.string s] w fun e w' => ∃ mb, e = .returned (.map (some mb)) ∧ KS w' mb (setF l) ∧ w.heap.size ≤ mb ∧ Below w.heap.size w w' := by
 have hmm := @run_makeMap Tryz.prog
 have HT := Hi (ht.sp (w.alloc (.map #[] 0)) (hb.alloc hb.size _))
 have HA := Hi hascii
 have HL := Hi hl
 have HSH := Hi hsh
 clear ht hb hascii hl hsh
 go_enter Tryz.func34, Tryz.ntmps34
 go_wp2_with fail
 refine (Tryz.strings_Fields s _ hs HA.out HT.out).mono ?_
 rintro e w1 ⟨rfl, hw1⟩
 rw [HL.out] at hw1 ⊢
 have h1 : w1.heap[w.heap.size + 1]? = some (.cells (l.map fun l => Value.string ⟨l.toArray⟩).toArray 9 (0, 0)) := by
  rw [hw1]
  exact new_at (by simp)
 have h2 : KS w1 w.heap.size (setF (l.take 0)) := by
  rw [hw1]
  exact (KS.made w).keep (Below.heap_alloc _ _ _ (by simp))
 have h3 : Below w.heap.size w w1 := by
  rw [hw1]
  exact ((Below.refl _ _).alloc (lR _) _).alloc (by simp) _
 rw [World.size_alloc]
 have H1 := Hi h1
 have H2 := Hi h2
 have H3 := Hi h3
 clear h1 h2 h3 hw1
 go_wp2_with fail
 go_loopw [10] (fun v10 wr => ∃ k : Nat, k ≤ l.length ∧ v10 = .int .i64 k ∧ KS wr w.heap.size (setF (l.take k)) ∧ Below w.heap.size w wr ∧ wr.heap[w.heap.size + 1]? = some (.cells (l.map fun l => Value.string ⟨l.toArray⟩).toArray 9 (0, 0))) (fun v10 _ => l.length - (intOf v10).toNat)
 case atStart => exact ⟨0, Nat.zero_le _, rfl, H2.out, H3.out, H1.out⟩
 case round =>
  obtain ⟨k, hk, rfl, hks, hbw, hh⟩ := hrel
  have HK := Hi hks
  have HB := Hi hbw
  have HH := Hi hh
  clear hks hbw hh
  by_cases hlt : k < l.length
  · obtain ⟨x, hx⟩ := gLt hlt
    have c0 := strsCell HH.out hx
    have hxl := HSH.out x (List.mem_of_getElem? hx)
    obtain ⟨o, ho, hk2⟩ := HK.out.store (s := x) (by omega)
    have HO := Hi ho
    have HK2 : Hid (KS (setBlock wr w.heap.size o) w.heap.size (setF (l.take (k + 1)))) := Hi (by rw [setF_snoc hx]; exact hk2)
    have hk1 : (k : Int) < l.length := by omega
    have hk0 : (0 : Int) ≤ k := by omega
    have hsz : w.heap.size + 1 < wr.heap.size := lHp HH.out
    clear ho hk2 hx hxl
    go_wp2_with (refine wpList_update_run rfl 65 (.tmp 14) (.tmp 15) _ rfl (.map (some w.heap.size)) (vs x) (.bool true) rfl rfl rfl HO.out ?_)
    exact ⟨⟨k + 1, by omega, by go_num, HK2.out, below_setBlock HB.out (lR _), by rw [← HH.out]; simp only [setBlock, Array.getElem?_setIfInBounds]; rw [if_neg (by omega)]⟩, by simp [intOf]; omega⟩
  · have hk' : k = l.length := by omega
    subst hk'
    have hlt2 : ¬ ((l.length : Nat) : Int) < l.length := by omega
    go_wp2_with fail
    go_ret
    exact ⟨w.heap.size, rfl, by have := HK.out; rwa [List.take_length] at this, lR _, HB.out⟩
end Go.Proofs.YtbicmjmcdnkjhaaGreatDoor
