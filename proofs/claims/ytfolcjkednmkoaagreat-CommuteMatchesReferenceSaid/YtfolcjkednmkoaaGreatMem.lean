/- Memory: what a visitor may change; a map from strings that the call made; a slice cut by s[:k:k]. -/
import Derived.Test.YtfolcjkednmkoaaGreatStrs
set_option linter.unusedVariables false
set_option linter.unusedSimpArgs false
namespace Go.Proofs.YtfolcjkednmkoaaGreat
open Go.RowKit
/- w' is w with new blocks, and with changes in the blocks F alone -/
structure VEff (F : List Nat) (w w' : World) : Prop where
 os : w'.os = w.os
 tape : w'.tape = w.tape
 output : w'.output = w.output
 size : w.heap.size ≤ w'.heap.size
 block : ∀ k, k < w.heap.size → k ∉ F → w'.heap[k]? = w.heap[k]?
theorem VEff.refl (F : List Nat) (w : World) : VEff F w w := ⟨rfl, rfl, rfl, Nat.le_refl _, fun _ _ _ => rfl⟩
theorem VEff.of_below {F : List Nat} {w w' : World} (h : Below w.heap.size w w') : VEff F w w' := ⟨h.os, h.tape, h.output, h.size, fun k hk _ => h.block k hk⟩
theorem VEff.to_below {w w' : World} (h : VEff [] w w') : Below w.heap.size w w' := ⟨h.os, h.tape, h.output, h.size, fun k hk => h.block k hk (by simp)⟩
theorem VEff.trans {F F' : List Nat} {a b c : World} (h : VEff F a b) (k : VEff F' b c) (hF : ∀ x ∈ F', x ∈ F ∨ a.heap.size ≤ x) : VEff F a c :=
 ⟨k.os.trans h.os, k.tape.trans h.tape, k.output.trans h.output, Nat.le_trans h.size k.size, fun i hi hn => (k.block i (Nat.lt_of_lt_of_le hi h.size) (fun hx => (hF i hx).elim hn (fun h => absurd hi (by omega)))).trans (h.block i hi hn)⟩
theorem cell_of_heap {w w' : World} {b : Nat} (h : w'.heap[b]? = w.heap[b]?) (o : Nat) : w'.cell? ⟨b, o, none⟩ = w.cell? ⟨b, o, none⟩ := World.cell?_of_block (a := ⟨b, o, none⟩) h
theorem Sl.keep {α : Type} {cs : α → List Value} {s : Nat} {w w' : World} {A : Option Addr} {l : List α} (h : Sl cs s w A l) (hs : w.heap.size ≤ w'.heap.size)
 (hk : ∀ b o, A = some ⟨b, o, none⟩ → b < w.heap.size → w'.heap[b]? = w.heap[b]?) : Sl cs s w' A l := by
 intro hl
 obtain ⟨b, o, hA, hlt, hc⟩ := h hl
 exact ⟨b, o, hA, Nat.lt_of_lt_of_le hlt hs, fun k x hx j v hv => (cell_of_heap (hk b o hA hlt) _).trans (hc k x hx j v hv)⟩
theorem Sl.take {α : Type} {cs : α → List Value} {s : Nat} {w : World} {A : Option Addr} {l : List α} (h : Sl cs s w A l) (n : Nat) : Sl cs s w A (l.take n) := by
 intro hl
 have hl' : l ≠ [] := by rintro rfl; simp at hl
 obtain ⟨b, o, hA, hlt, hc⟩ := h hl'
 refine ⟨b, o, hA, hlt, fun k x hx => hc k x ?_⟩
 rw [List.getElem?_take] at hx
 split at hx
 · exact hx
 · cases hx
theorem Sl.nil {α : Type} {cs : α → List Value} {s : Nat} {w : World} {A : Option Addr} : Sl cs s w A [] := fun h => absurd rfl h
/- s[:k:k] -/
theorem run_cut {P : Program} {t e : TypeId} (ht : P.underlying t = some (.slice e)) (he : ∃ i, P.info? e = some i) (O : Option Addr) (n c k : Nat) (z : Int) (hz : z = k) (hk : k ≤ c) (W : World) :
 (Instr.slice t (.slice O n c) none (some (.int .i64 z)) (some (.int .i64 z))).run P W = .ok (.slice O k k) W := by
 subst hz
 obtain ⟨i, hi⟩ := he
 have h1 : (0 : Int) ≤ k ∧ (k : Int) ≤ c := by omega
 have h2 : (0 : Int) ≤ k ∧ (k : Int) ≤ k := by omega
 have b1 : ∀ code, (Instr.sliceBound (.int .i64 k) c code).run P W = .ok k W := fun code => by
  simp [Instr.sliceBound, asIntOf, hk]
 have b2 : ∀ code, (Instr.sliceBound (.int .i64 k) k code).run P W = .ok k W := fun code => by
  simp [Instr.sliceBound, asIntOf]
 simp [Instr.slice, run_underlying ht, Instr.sliceBounds, b1, b2, sizeOf, typeInfo, hi, Addr.add]
theorem heap_new_at {w : World} {o : Obj} {k : Nat} (h : k = w.heap.size) : (w.alloc o).heap[k]? = some o := by
 subst h; exact heap_alloc_new w o
theorem heap_old_at {w : World} {o : Obj} {k : Nat} {x : Option Obj} (h : k < w.heap.size) (hx : w.heap[k]? = x) : (w.alloc o).heap[k]? = x := (Below.heap_alloc w o k h).trans hx
/- a map from strings -/
def World.putObj (w : World) (b : Nat) (o : Obj) : World := { w with heap := w.heap.setIfInBounds b o }
theorem heap_putObj_same {w : World} {b : Nat} {o : Obj} (h : b < w.heap.size) : (World.putObj w b o).heap[b]? = some o := by
 simp [World.putObj, Array.getElem?_setIfInBounds, h]
theorem heap_putObj_other {w : World} {b k : Nat} {o : Obj} (h : k ≠ b) : (World.putObj w b o).heap[k]? = w.heap[k]? := by
 simp only [World.putObj, Array.getElem?_setIfInBounds]
 rw [if_neg (fun e => h e.symm)]
@[simp] theorem size_putObj {w : World} {b : Nat} {o : Obj} : (World.putObj w b o).heap.size = w.heap.size := by simp [World.putObj]
def ents (kv : List (Str × Value)) : List (Value × Value) := kv.map fun x => (vs x.1, x.2)
structure SMap (w : World) (b : Nat) (kv : List (Str × Value)) : Prop where
 is : ∃ es clock, w.heap[b]? = some (.map es clock) ∧ es.toList.map (fun e => (e.key, e.val)) = ents kv
theorem SMap.lt {w : World} {b : Nat} {kv : List (Str × Value)} (h : SMap w b kv) : b < w.heap.size := by
 obtain ⟨es, clock, hh, _⟩ := h.is
 rcases Nat.lt_or_ge b w.heap.size with h' | h'
 · exact h'
 · rw [Array.getElem?_eq_none h'] at hh; cases hh
theorem SMap.keep {w w' : World} {b : Nat} {kv : List (Str × Value)} (h : SMap w b kv) (hk : w'.heap[b]? = w.heap[b]?) : SMap w' b kv := by
 obtain ⟨es, clock, hh, he⟩ := h.is
 exact ⟨es, clock, hk.trans hh, he⟩
theorem str_inj {a b : Str} : ((⟨a.toArray⟩ : ByteArray) == ⟨b.toArray⟩) = (a == b) := by
 show ((a.toArray) == b.toArray) = _
 simp
theorem findNow_ents (k : Str) : ∀ (es : List MapEntry) (kv : List (Str × Value)) (i : Nat), es.map (fun e => (e.key, e.val)) = ents kv →
 Instr.findNow .string (vs k) es i = some ((kv.findIdx? fun x => k == x.1).map fun j => (i + j, ((kv[j]?).map (·.2)).getD undef))
 | [], kv, i, h => by
   cases kv with
   | nil => simp [Instr.findNow]
   | cons a r => simp [ents] at h
 | e :: es, kv, i, h => by
   cases kv with
   | nil => simp [ents] at h
   | cons a r =>
     simp only [ents, List.map_cons, List.cons.injEq, Prod.mk.injEq] at h
     obtain ⟨⟨h1, h2⟩, h3⟩ := h
     have ih := findNow_ents k es r (i + 1) h3
     simp only [Instr.findNow, h1, Instr.sameNow, str_inj]
     cases hk : (k == a.1) with
     | true => simp [List.findIdx?_cons, hk, h2]
     | false =>
       simp only [ih, List.findIdx?_cons, hk]
       cases hf : r.findIdx? fun x => k == x.1 with
       | none => simp
       | some j => simp; omega
def mget (kv : List (Str × Value)) (k : Str) : Option Value := (kv.find? fun x => k == x.1).map (·.2)
theorem mget_idx (kv : List (Str × Value)) (k : Str) : mget kv k = (kv.findIdx? fun x => k == x.1).map fun j => ((kv[j]?).map (·.2)).getD undef := by
 unfold mget
 induction kv with
 | nil => simp
 | cons a r ih =>
   rw [List.findIdx?_cons, List.find?_cons]
   cases hk : (k == a.1) with
   | true => simp
   | false =>
     simp only [ih]
     cases hf : r.findIdx? fun x => k == x.1 with
     | none => simp
     | some j => simp
theorem run_checkKey {P : Program} {kt : TypeId} (hk : P.underlying kt = some .string) (e : Bool) (k : Str) (W : World) : (Instr.checkKey e 10000 kt (vs k)).run P W = .ok () W := by
 show (Instr.checkKey e (9999 + 1) kt (vs k)).run P W = .ok () W
 unfold Instr.checkKey
 simp [run_underlying hk]
theorem run_mlookup {P : Program} {t kt et : TypeId} (ht : P.underlying t = some (.map kt et)) (hk : P.underlying kt = some .string) {W : World} {b : Nat} {kv : List (Str × Value)} (hm : SMap W b kv) {z : Value}
 (hz : (zeroValue et).run P W = .ok z W) (k : Str) :
 (Instr.lookup t (.map (some b)) (vs k) false).run P W = .ok ((mget kv k).getD z) W := by
 obtain ⟨es, clock, hh, he⟩ := hm.is
 have hf := findNow_ents k es.toList kv 0 he
 rw [mget_idx]
 cases hx : kv.findIdx? fun x => k == x.1 with
 | none =>
   rw [hx] at hf
   simp only [Option.map_none] at hf
   simp [Instr.lookup, run_underlying ht, getObj, Sem.run, hh, run_checkKey hk, run_underlying hk, Instr.findKey, hf, hz]
 | some j =>
   rw [hx] at hf
   simp only [Option.map_some] at hf
   simp [Instr.lookup, run_underlying ht, getObj, Sem.run, hh, run_checkKey hk, run_underlying hk, Instr.findKey, hf]
theorem run_mput_new {P : Program} {t kt et : TypeId} (ht : P.underlying t = some (.map kt et)) (hk : P.underlying kt = some .string) {W : World} {b : Nat} {kv : List (Str × Value)} (hm : SMap W b kv) (k : Str) (v : Value)
 (hnew : mget kv k = none) : ∃ W', (Instr.mapUpdate t (.map (some b)) (vs k) v).run P W = .ok () W' ∧ SMap W' b (kv ++ [(k, v)]) ∧ VEff [b] W W' := by
 obtain ⟨es, clock, hh, he⟩ := hm.is
 have hf := findNow_ents k es.toList kv 0 he
 have hx : (kv.findIdx? fun x => k == x.1) = none := by
  rw [mget_idx] at hnew
  simpa using hnew
 rw [hx] at hf
 simp only [Option.map_none] at hf
 refine ⟨World.putObj W b (.map (es.push { key := vs k, val := v, born := clock }) (clock + 1)), ?_, ⟨_, _, heap_putObj_same hm.lt, ?_⟩, ⟨rfl, rfl, rfl, by simp, fun i _ hi => heap_putObj_other (by simpa using hi)⟩⟩
 · simp [Instr.mapUpdate, run_underlying ht, getObj, setObj, Sem.run, hh, run_checkKey hk, run_underlying hk, Instr.findKey, hf]
   rfl
 · simp only [Array.toList_push, List.map_append, he]
   simp [ents]
theorem SMap.made (w : World) (c : Nat) : SMap (w.alloc (.map #[] c)) w.heap.size [] := ⟨#[], c, heap_alloc_new w _, by simp [ents]⟩
end Go.Proofs.YtfolcjkednmkoaaGreat
