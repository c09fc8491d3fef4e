/- What the making of a replacer reckons: which bytes its keys hold, and in which place. A replacer made: its keys' bytes counted, its tree laid. The library's lock and its word 'done', in one goroutine. sync.Once of a replacer, not yet done: doSlow, Do. -/
import Derived.Test.YtbicmjmcdnkjhaaGreatDoorJMM1
import Derived.Test.YtbicmjmcdnkjhaaGreatDoorJMM14
import Derived.Test.YtbicmjmcdnkjhaaGreatDoorJMM15
import Derived.Deep.MidRow
import Derived.StillTailTactics
import Derived.Defers
import Derived.Laws.Pointers
import Derived.Laws.LoneSync
import Derived.RegionTactic
import Derived.RegionCalls
set_option linter.unusedVariables false
set_option linter.unusedSimpArgs false
namespace Go.Proofs.YtbicmjmcdnkjhaaGreatDoor
open Go.RowKit
def markF (l : List UInt8) (k : Nat) : Nat := if l.any (fun b => b.toNat == k) then 1 else 0
def sumF (f : Nat → Nat) : Nat → Nat
 | 0 => 0
 | n + 1 => sumF f n + f n
def mpF (f : Nat → Nat) (ts : Nat) (k : Nat) : Nat := if f k = 0 then ts else sumF f k
theorem markF_le (l : List UInt8) (k : Nat) : markF l k ≤ 1 := by unfold markF; split <;> omega
theorem markF_lt {l : List UInt8} {k : Nat} (h : markF l k ≠ 0) : k < 256 := by
 unfold markF at h
 split at h
 · rename_i h1
   rw [List.any_eq_true] at h1
   obtain ⟨b, -, hb⟩ := h1
   have := UInt8.toNat_lt b
   simp at hb
   omega
 · exact absurd rfl h
theorem markF_snoc (l : List UInt8) (b : UInt8) (k : Nat) : markF (l ++ [b]) k = if k = b.toNat then 1 else markF l k := by
 unfold markF
 rw [List.any_append]
 by_cases h : k = b.toNat
 · subst h; simp
 · rw [if_neg h]
   have : ¬ b.toNat = k := fun e => h e.symm
   simp [this]
theorem sumF_le {f : Nat → Nat} (h : ∀ k, f k ≤ 1) (k : Nat) : sumF f k ≤ k := by
 induction k with
 | zero => exact lR _
 | succ k ih => have := h k; simp only [sumF]; omega
theorem sumF_mono (f : Nat → Nat) {i j : Nat} (h : i ≤ j) : sumF f i ≤ sumF f j := by
 induction h with
 | refl => exact lR _
 | step h ih => simp only [sumF]; omega
theorem mpF_le {l : List UInt8} {ts : Nat} (hts : ts = sumF (markF l) 256) (k : Nat) : mpF (markF l) ts k ≤ ts := by
 unfold mpF
 split
 · exact lR _
 · rename_i h
   rw [hts]
   exact sumF_mono _ (Nat.le_of_lt (markF_lt h))
theorem mpF_inj {l : List UInt8} {ts : Nat} (hts : ts = sumF (markF l) 256) (a b : Nat) (ha : mpF (markF l) ts a < ts) (hab : mpF (markF l) ts a = mpF (markF l) ts b) : a = b := by
 have fa : markF l a ≠ 0 := fun e => by unfold mpF at ha; rw [if_pos e] at ha; omega
 have fb : markF l b ≠ 0 := fun e => by rw [hab] at ha; unfold mpF at ha; rw [if_pos e] at ha; omega
 unfold mpF at hab
 rw [if_neg fa, if_neg fb] at hab
 rcases Nat.lt_trichotomy a b with h | h | h
 · have := sumF_mono (markF l) (show a + 1 ≤ b from h)
   simp only [sumF] at this
   omega
 · exact h
 · have := sumF_mono (markF l) (show b + 1 ≤ a from h)
   simp only [sumF] at this
   omega
/- the replacer's block while it is made -/
structure Mk (W : World) (r : Nat) (tab : Value) (ts : Nat) (f : Nat → Nat) : Prop where
 is : ∃ C : Array Value, W.heap[r]? = some (.cells C 254 (0, 0)) ∧ C.size = 262 ∧ C[0]? = some (vs []) ∧ C[1]? = some (.int .i64 0) ∧ C[2]? = some (vs []) ∧ C[3]? = some nilP ∧
  C[4]? = some tab ∧ C[5]? = some (.int .i64 ts) ∧ ∀ k, k < 256 → C[6 + k]? = some (.int .u8 (f k))
theorem Mk.lt {W : World} {r : Nat} {tab : Value} {ts : Nat} {f : Nat → Nat} (h : Mk W r tab ts f) : r < W.heap.size := by
 obtain ⟨C, h0, -⟩ := h.is
 exact lHp h0
theorem Mk.cells {W : World} {r : Nat} {tab : Value} {ts : Nat} {f : Nat → Nat} (h : Mk W r tab ts f) : W.cell? ⟨r, 4, none⟩ = some tab ∧ W.cell? ⟨r, 5, none⟩ = some (.int .i64 ts) ∧ (∀ o, W.frozen? ⟨r, o, none⟩ = false) ∧ ∀ k, k < 256 → W.cell? ⟨r, 6 + k, none⟩ = some (.int .u8 (f k)) := by
 obtain ⟨C, h0, -, h1, h2, h3, h4, h5, h6, h7⟩ := h.is
 exact ⟨cOb h0 h5, cOb h0 h6, fun o => fOb h0, fun k hk => cOb h0 (h7 k hk)⟩
theorem Mk.set {W : World} {r : Nat} {tab : Value} {ts : Nat} {f g : Nat → Nat} (h : Mk W r tab ts f) (k v : Nat) (hk : k < 256) (hg : ∀ j, j < 256 → g j = if j = k then v else f j) : Mk (W.setCell ⟨r, 6 + k, none⟩ (.int .u8 v)) r tab ts g := by
 obtain ⟨C, h0, hs, h1, h2, h3, h4, h5, h6, h7⟩ := h.is
 refine ⟨C.setIfInBounds (6 + k) (.int .u8 v), by rw [rSc h0], by simpa using hs, ?_, ?_, ?_, ?_, ?_, ?_, fun j hj => ?_⟩
 any_goals
  rw [Array.getElem?_setIfInBounds, if_neg (by omega)]
  assumption
 rw [Array.getElem?_setIfInBounds, hg j hj]
 by_cases e : j = k
 · subst e; rw [if_pos rfl, if_pos (by omega), if_pos rfl]
 · rw [if_neg (by omega), if_neg e]; exact h7 j hj
theorem Mk.sum {W : World} {r : Nat} {tab : Value} {ts ts' : Nat} {f : Nat → Nat} (h : Mk W r tab ts f) : Mk (W.setCell ⟨r, 5, none⟩ (.int .i64 ts')) r tab ts' f := by
 obtain ⟨C, h0, hs, h1, h2, h3, h4, h5, h6, h7⟩ := h.is
 refine ⟨C.setIfInBounds 5 (.int .i64 ts'), by rw [rSc h0], by simpa using hs, ?_, ?_, ?_, ?_, ?_, ?_, fun j hj => ?_⟩
 any_goals
  rw [Array.getElem?_setIfInBounds, if_neg (by omega)]
  first | assumption | exact h7 j hj
 rw [Array.getElem?_setIfInBounds, if_pos rfl, if_pos (by omega)]
theorem Mk.tabs {W : World} {r : Nat} {tab tab' : Value} {ts : Nat} {f : Nat → Nat} (h : Mk W r tab ts f) : Mk (W.setCell ⟨r, 4, none⟩ tab') r tab' ts f := by
 obtain ⟨C, h0, hs, h1, h2, h3, h4, h5, h6, h7⟩ := h.is
 refine ⟨C.setIfInBounds 4 tab', by rw [rSc h0], by simpa using hs, ?_, ?_, ?_, ?_, ?_, ?_, fun j hj => ?_⟩
 any_goals
  rw [Array.getElem?_setIfInBounds, if_neg (by omega)]
  first | assumption | exact h7 j hj
 rw [Array.getElem?_setIfInBounds, if_pos rfl, if_pos (by omega)]
theorem Mk.keep {W W' : World} {r : Nat} {tab : Value} {ts : Nat} {f : Nat → Nat} (h : Mk W r tab ts f) (hk : W'.heap[r]? = W.heap[r]?) : Mk W' r tab ts f := by
 obtain ⟨C, h0, h1⟩ := h.is
 exact ⟨C, hk.trans h0, h1⟩
theorem Mk.same {W : World} {r : Nat} {tab : Value} {ts : Nat} {f g : Nat → Nat} (h : Mk W r tab ts f) (hg : ∀ k, k < 256 → g k = f k) : Mk W r tab ts g := by
 obtain ⟨C, h0, hs, h1, h2, h3, h4, h5, h6, h7⟩ := h.is
 exact ⟨C, h0, hs, h1, h2, h3, h4, h5, h6, fun k hk => by rw [hg k hk]; exact h7 k hk⟩
structure MkI (w W : World) (ts : Nat) (f : Nat → Nat) : Prop where
 blk : Mk W w.heap.size (.slice none 0 0) ts f
 sz : W.heap.size = w.heap.size + 1
 bel : Below w.heap.size w W
theorem MkI.set {w W : World} {ts : Nat} {f g : Nat → Nat} (h : MkI w W ts f) (k v : Nat) (hk : k < 256) (hg : ∀ j, j < 256 → g j = if j = k then v else f j) : MkI w (W.setCell ⟨w.heap.size, 6 + k, none⟩ (.int .u8 v)) ts g :=
 ⟨h.blk.set k v hk hg, by simp [h.sz], h.bel.setCell (lR _) _⟩
theorem MkI.sum {w W : World} {ts ts' : Nat} {f : Nat → Nat} (h : MkI w W ts f) : MkI w (W.setCell ⟨w.heap.size, 5, none⟩ (.int .i64 ts')) ts' f :=
 ⟨h.blk.sum, by simp [h.sz], h.bel.setCell (lR _) _⟩
theorem MkI.drew {w W : World} {ts : Nat} {f : Nat → Nat} (h : MkI w W ts f) : MkI w W.drew ts f := ⟨h.blk.keep rfl, h.sz, h.bel.drew⟩
theorem MkI.same {w W : World} {ts : Nat} {f g : Nat → Nat} (h : MkI w W ts f) (hg : ∀ k, k < 256 → g k = f k) : MkI w W ts g := ⟨h.blk.same hg, h.sz, h.bel⟩
/- the keys and what they stand for -/
abbrev Pr := UInt8 × UInt8 × Bytes
def bytesP : List Pr → List UInt8
 | [] => []
 | (x, y, _) :: r => x :: y :: bytesP r
theorem bytesP_snoc (P : List Pr) (x y : UInt8) (v : Bytes) : bytesP (P ++ [(x, y, v)]) = bytesP P ++ [x, y] := by
 induction P with
 | nil => rfl
 | cons p P ih => obtain ⟨a, b, c⟩ := p; simp [bytesP, ih]
/- the tree, its keys added one after the other; n words in all -/
def stP (mp : Nat → Nat) (n : Nat) : Nat → (Nat → Sub) → List Pr → Nat → Sub
 | _, st, [] => st
 | i, st, (x, y, v) :: r => stP mp n (i + 2) (setAt st (mp x.toNat) (addSub (st (mp x.toNat)) y v ((n : Int) - i))) r
def st0 : Nat → Sub := fun _ => .no
theorem stP_snoc (mp : Nat → Nat) (n : Nat) (P : List Pr) (x y : UInt8) (v : Bytes) : ∀ i st, stP mp n i st (P ++ [(x, y, v)]) = setAt (stP mp n i st P) (mp x.toNat) (addSub (stP mp n i st P (mp x.toNat)) y v ((n : Int) - (i + 2 * P.length))) := by
 induction P with
 | nil => intro i st; simp [stP]
 | cons p P ih =>
   intro i st
   obtain ⟨a, b, c⟩ := p
   simp only [List.cons_append, stP, ih, List.length_cons]
   congr 2
   push_cast
   omega
theorem MkI.fin {w W : World} {ts : Nat} {mp : Nat → Nat} (h : MkI w W ts mp) (hmp : ∀ k, mp k ≤ ts) (hsm : ts ≤ 10) :
 Trie mp ts w.heap.size ((W.setCell ⟨w.heap.size, 4, none⟩ (.slice (some ⟨w.heap.size + 1, 0, none⟩) ts ts)).alloc (.cells (Array.replicate ts nilP) 249)) w.heap.size (w.heap.size + 1) st0 ∧
 Below w.heap.size w ((W.setCell ⟨w.heap.size, 4, none⟩ (.slice (some ⟨w.heap.size + 1, 0, none⟩) ts ts)).alloc (.cells (Array.replicate ts nilP) 249)) := by
 have h4 := h.blk.tabs (tab' := .slice (some ⟨w.heap.size + 1, 0, none⟩) ts ts)
 have hb := (h.bel.setCell (p := ⟨w.heap.size, 4, none⟩) (lR _) (.slice (some ⟨w.heap.size + 1, 0, none⟩) ts ts)).alloc (by simp [h.sz]) (.cells (Array.replicate ts nilP) 249)
 have hs : (W.setCell ⟨w.heap.size, 4, none⟩ (.slice (some ⟨w.heap.size + 1, 0, none⟩) ts ts)).heap.size = w.heap.size + 1 := by simp [h.sz]
 have hn := heap_alloc_new (W.setCell ⟨w.heap.size, 4, none⟩ (.slice (some ⟨w.heap.size + 1, 0, none⟩) ts ts)) (.cells (Array.replicate ts nilP) 249)
 rw [hs] at hn
 refine ⟨⟨⟨(h4.keep (Below.heap_alloc _ _ _ h4.lt)).is, hsm, hmp⟩, ⟨_, hn, by simp, fun _ _ => False, fun _ _ h => h.elim, fun _ _ _ h => h.elim, fun m hm => ⟨nilP, by simp [hm], rfl⟩⟩, by omega⟩, hb⟩
/- each key may be added -/
def okP (mp : Nat → Nat) (ts n : Nat) (P : List Pr) : Prop := ∀ i x y v, P[i]? = some (x, y, v) → mp x.toNat < ts ∧ mp y.toNat < ts ∧ freshSub mp (stP mp n 0 st0 (P.take i) (mp x.toNat)) y ∧ ∀ y0 v0 q0, stP mp n 0 st0 (P.take i) (mp x.toNat) = .pre y0 v0 q0 → mp y0.toNat < ts
end Go.Proofs.YtbicmjmcdnkjhaaGreatDoor
set_option maxRecDepth 100000
set_option maxHeartbeats 16000000
namespace Go.Proofs.YtbicmjmcdnkjhaaGreatDoor
open Go.RowKit
attribute [local go_sem ↓] Go.wp_at_zero Go.wp_at_succ
def loadMap (a : Addr) : Sem Value := loadVar 157 a
@[local go_sem ↓ high] theorem loadVar_map_fold (a : Addr) : loadVar 157 a = loadMap a := by rw [loadMap]
theorem loadMap_run (W : World) (b : Nat) (f : Nat → Nat) (h : ∀ k, k < 256 → W.cell? ⟨b, 6 + k, none⟩ = some (.int .u8 (f k))) : ∃ C : Array Value, (∀ k, k < 256 → C[k]? = some (.int .u8 (f k))) ∧ (loadMap ⟨b, 6, none⟩).run Tryz.prog W = .ok (.agg C) W :=
 ⟨((List.range 256).map fun k => .int .u8 (f k)).toArray, fun k hk => by simp [hk], run_loadVar_mid (P := Tryz.prog) W b 6 157 _ _ (fun j v hv => by
   rw [List.getElem?_map] at hv
   by_cases hj : j < 256
   · rw [List.getElem?_range hj] at hv
     injection hv with hv
     rw [← hv]
     exact h j hj
   · rw [List.getElem?_eq_none (by simpa using hj)] at hv
     cases hv) Tryz.underlying157 rfl (by rw [List.length_map, List.length_range]; kernel_rfl)⟩
theorem index_map (C : Array Value) (k v : Nat) (hk : k < 256) (h : C[k]? = some (.int .u8 v)) (w : World) : (Instr.index 157 (.agg C) (.int .i64 k)).run Tryz.prog w = .ok (.int .u8 v) w := by
 have : (k : Int) < 256 := by omega
 simp [Instr.index, run_underlying Tryz.underlying157, asIntOf, part, this, h, go_sem]
 intro h'
 omega
theorem zg : Tryz.zeroCells254 = #[vs [], .int .i64 0, vs [], nilP, .slice none 0 0, .int .i64 0] ++ Array.replicate 256 (.int .u8 0) := by kernel_rfl
theorem z1 (k : Nat) (hk : k < 6) : Tryz.zeroCells254[k]? = #[vs [], .int .i64 0, vs [], nilP, .slice none 0 0, .int .i64 0][k]? := by
 rw [zg, Array.getElem?_append_left (by simpa using hk)]
theorem mk_start (w : World) : MkI w (w.alloc (.cells Tryz.zeroCells254 254)) 0 (markF []) :=
 ⟨⟨_, heap_alloc_new w _, by rw [zg]; simp, z1 0 (by omega), z1 1 (by omega), z1 2 (by omega), z1 3 (by omega), z1 4 (by omega), z1 5 (by omega), fun k hk => by
   rw [zg, Array.getElem?_append_right (by simp), Array.getElem?_replicate]
   simp [hk, markF]⟩, by simp, (Below.refl _ _).alloc (lR _) _⟩
theorem map_step {f : Nat → Nat} {ts k v : Nat} (hv : mpF f ts k = v) : ∀ j, j < 256 → (if j < k + 1 then mpF f ts j else f j) = if j = k then v else if j < k then mpF f ts j else f j := by
 intro j _
 by_cases h : j = k
 · subst h; rw [if_pos (by omega), if_pos rfl, hv]
 · rw [if_neg h]
   by_cases h2 : j < k
   · rw [if_pos (by omega), if_pos h2]
   · rw [if_neg (by omega), if_neg h2]
theorem make_any (w : World) (kb c : Nat) (P : List Pr) (hP : P.length ≤ 100) (hK : ∀ (i : Nat) x y v, P[i]? = some (x, y, v) → w.cell? ⟨kb, 2 * i, none⟩ = some (vs [x, y]) ∧ w.cell? ⟨kb, 2 * i + 1, none⟩ = some (vs v)) (ts : Nat) (hts : ts = sumF (markF (bytesP P)) 256) (hsm : ts ≤ 10) (hok : okP (mpF (markF (bytesP P)) ts) ts (2 * P.length) P) (hkb : kb < w.heap.size) :
 Calls Tryz.prog 156 #[.slice (some ⟨kb, 0, none⟩) (2 * P.length) c] w fun e w' => e = .returned (ptrB w.heap.size) ∧ Trie (mpF (markF (bytesP P)) ts) ts w.heap.size w' w.heap.size (w.heap.size + 1) (stP (mpF (markF (bytesP P)) ts) (2 * P.length) 0 st0 P) ∧ Below w.heap.size w w' := by
 obtain ⟨f, hf⟩ : ∃ f, markF (bytesP P) = f := ⟨_, rfl⟩
 have HF := Hi hf
 rw [hf] at hts hok ⊢
 clear hf
 have HK := Hi hK
 have HTS := Hi hts
 have HOK := Hi hok
 have HKB := Hi hkb
 obtain ⟨n, hn⟩ : ∃ n, n = 2 * P.length := ⟨_, rfl⟩
 rw [← hn]
 have HN := Hi hn
 clear hK hts hok hkb hn
 go_enter Tryz.func156, Tryz.ntmps156
 go_wp2_with fail
 go_loopw [4, 5, 6] (fun v4 v5 v6 wr => ∃ i m : Nat, Hid (m = 2 * i) ∧ i ≤ P.length ∧ v4 = .int .i64 m ∧ MkI w wr 0 (markF (bytesP (P.take i)))) (fun v4 _ _ _ => n - (intOf v4).toNat)
 case atStart => exact ⟨0, 0, Hi rfl, by omega, rfl, mk_start w⟩
 case round =>
  obtain ⟨i, m, HM, hi, rfl, hI⟩ := hrel
  have HI := Hi hI
  clear hI
  by_cases hip : i = P.length
  · subst hip
    have ht : ¬ ((m : Int) < (n : Int)) := by have := HM.out; have := HN.out; omega
    rw [List.take_length, HF.out] at HI
    have HF1 : Hid (∀ k, f k ≤ 1) := Hi (fun k => by rw [← HF.out]; exact markF_le _ k)
    obtain ⟨C, hC, hld⟩ := loadMap_run wr w.heap.size f HI.out.blk.cells.2.2.2
    have HC := Hi hC
    clear hC
    go_wp2_with fail
    go_loopw [8, 41] (fun v8 v41 w2 => ∃ j : Nat, j ≤ 256 ∧ v41 = .int .i64 j ∧ MkI w w2 (sumF f j) f) (fun _ v41 _ => 256 - (intOf v41).toNat)
    case atStart => exact ⟨0, by omega, rfl, HI.out⟩
    case round =>
     obtain ⟨j, hj, rfl, hI⟩ := hrel
     have HI2 := Hi hI
     clear hld
     obtain ⟨-, c5, fz, -⟩ := hI.blk.cells
     have f5 := fz 5
     have hsz := hI.blk.lt
     have hbd := sumF_le HF1.out j
     clear fz hI
     by_cases hj2 : j = 256
     · subst hj2
       rw [← HTS.out] at HI2 c5
       rw [show ((256 : Nat) : Int) = (256 : Int) from rfl]
       obtain ⟨C2, hC2, hld⟩ := loadMap_run wr w.heap.size f HI2.out.blk.cells.2.2.2
       have HC2 := Hi hC2
       clear hC2 hbd
       go_wp2_with fail
       go_loopw [9, 10, 11, 58] (fun v9 v10 v11 v58 w4 => ∃ k : Nat, k ≤ 256 ∧ v58 = .int .i64 k ∧ v9 = .int .u8 (sumF f k) ∧ MkI w w4 ts (fun j => if j < k then mpF f ts j else f j)) (fun _ _ _ v58 _ => 256 - (intOf v58).toNat)
       case atStart => exact ⟨0, by omega, rfl, rfl, HI2.out.same (fun j hj => by rw [if_neg (by omega)])⟩
       case round =>
        obtain ⟨k, hk, rfl, rfl, hI⟩ := hrel
        have HI3 := Hi hI
        clear hld c5 f5
        obtain ⟨c4, c5, fz, rm⟩ := hI.blk.cells
        have hsz := hI.blk.lt
        have hsz2 := hI.sz
        clear hI
        by_cases hk2 : k = 256
        · subst hk2
          rw [show ((256 : Nat) : Int) = (256 : Int) from rfl]
          have f4 := fz 4
          have hmk := run_mk ts hsm
          clear fz rm
          have hI4 : MkI w wr ts (mpF f ts) := HI3.out.same (fun j hj => by rw [if_pos hj])
          have HI4 := Hi hI4
          clear hI4
          have ht5 : Trie (mpF f ts) ts w.heap.size ((wr.setCell ⟨w.heap.size, 4, none⟩ (.slice (some ⟨w.heap.size + 1, 0, none⟩) ts ts)).alloc (.cells (Array.replicate ts nilP) 249)) w.heap.size (w.heap.size + 1) st0 ∧ Below w.heap.size w ((wr.setCell ⟨w.heap.size, 4, none⟩ (.slice (some ⟨w.heap.size + 1, 0, none⟩) ts ts)).alloc (.cells (Array.replicate ts nilP) 249)) :=
           HI4.out.fin (by rw [← HF.out]; exact mpF_le (by rw [HF.out]; exact HTS.out)) hsm
          go_wp2_with fail
          obtain ⟨X, hX⟩ : ∃ X, (wr.setCell ⟨w.heap.size, 4, none⟩ (.slice (some ⟨w.heap.size + 1, 0, none⟩) ts ts)).alloc (.cells (Array.replicate ts nilP) 249) = X := ⟨_, rfl⟩
          rw [hX] at ht5 ⊢
          have HT5 := Hi ht5
          clear ht5 hX hmk f4 c4 c5 hsz hsz2 HI4 HI3 HI2 HI
          go_loopw [12] (fun v12 w5 => ∃ i5 m5 : Nat, Hid (m5 = 2 * i5) ∧ i5 ≤ P.length ∧ v12 = .int .i64 m5 ∧ Trie (mpF f ts) ts w.heap.size w5 w.heap.size (w.heap.size + 1) (stP (mpF f ts) n 0 st0 (P.take i5)) ∧ Below w.heap.size w w5) (fun v12 _ => n - (intOf v12).toNat)
          case atStart => exact ⟨0, 0, Hi rfl, by omega, rfl, HT5.out⟩
          case round =>
           obtain ⟨i5, m5, HM5, hi5, rfl, hT, hB⟩ := hrel
           have HT := Hi hT
           have HB := Hi hB
           clear hT hB HT5
           by_cases hip : i5 = P.length
           · subst hip
             have ht : ¬ ((m5 : Int) < (n : Int)) := by have := HM5.out; have := HN.out; omega
             rw [List.take_length] at HT
             go_wp2_with fail
             exact bodyPost_ret (v := ptrB w.heap.size) (by simp [results, Tryz.results156, go_sem]) rfl ⟨rfl, HT.out, HB.out⟩
           · obtain ⟨p, hp⟩ : ∃ p, P[i5]? = some p := ⟨_, List.getElem?_eq_getElem (by omega)⟩
             obtain ⟨x, y, v⟩ := p
             have ht : (m5 : Int) < (n : Int) := by have := HM5.out; have := HN.out; omega
             obtain ⟨m6, hm6⟩ : ∃ m6, m6 = m5 + 1 := ⟨_, rfl⟩
             have ht1 : (m6 : Int) < (n : Int) := by have := HM5.out; have := HN.out; omega
             have hm0 : (0 : Int) ≤ (m5 : Int) := by omega
             have hm1 : (0 : Int) ≤ (m6 : Int) := by omega
             have HW3 : Hid (wrap64 ((m5 : Int) + 2) = ((m5 + 2 : Nat) : Int)) := Hi (by have := HM5.out; have := HN.out; unfold wrap64; omega)
             have HM2 : Hid (m5 + 2 = 2 * (i5 + 1)) := Hi (by have := HM5.out; omega)
             have HI3 : Hid (i5 + 1 ≤ P.length) := Hi (by omega)
             have HMS : Hid (n - (((m5 + 2 : Nat) : Int)).toNat < n - ((m5 : Nat) : Int).toNat) := Hi (by have := HM5.out; have := HN.out; omega)
             have HE : Hid ((n : Int) - (((0 : Nat) : Int) + 2 * (i5 : Int)) = (n : Int) - ((2 * i5 : Nat) : Int)) := Hi (by omega)
             have hw1 : wrap64 ((m5 : Int) + 1) = (m6 : Int) := by have := HM5.out; have := HN.out; unfold wrap64; omega
             have hw1' : IntKind.i64.wrap ((m5 : Int) + 1) = (m6 : Int) := by have := HM5.out; have := HN.out; rw [IntKind.wrap_i64]; omega
             have hw2 : wrap64 ((n : Int) - m5) = (n : Int) - m5 := by have := HM5.out; have := HN.out; unfold wrap64; omega
             have hw2' : IntKind.i64.wrap ((n : Int) - m5) = (n : Int) - m5 := by have := HM5.out; have := HN.out; rw [IntKind.wrap_i64]; omega
             have hc0 : wr.cell? ⟨kb, m5, none⟩ = some (vs [x, y]) := by rw [HB.out.cell (p := ⟨kb, m5, none⟩) HKB.out, HM5.out]; exact (HK.out i5 x y v hp).1
             have hc1 : wr.cell? ⟨kb, m6, none⟩ = some (vs v) := by rw [HB.out.cell (p := ⟨kb, m6, none⟩) HKB.out, hm6, HM5.out]; exact (HK.out i5 x y v hp).2
             have HP := Hi hp
             have HQ := Hi (HOK.out i5 x y v hp)
             have HM6 := Hi hm6
             clear hp hm6
             go_upto_region 28 with fail
             go_still_tail 17, (by kernel_rfl)
             change wpList _ _ _ _ _ wr.drew
             go_wp2_with fail
             have hTd : Trie (mpF f ts) ts w.heap.size wr.drew w.heap.size (w.heap.size + 1) (stP (mpF f ts) n 0 st0 (P.take i5)) := HT.out.keep (lR _) (fun _ _ _ => rfl)
             have HN2 : Hid (okP (mpF f ts) ts n P) := Hi (by rw [HN.out]; exact HOK.out)
             obtain ⟨o1, o2, o3, o4⟩ := HN2.out i5 x y v HP.out
             refine (root_add (mpF f ts) ts w.heap.size wr.drew w.heap.size (w.heap.size + 1) _ hTd x y v ((n : Int) - m5) o1 o2 o3 o4).mono ?_
             rintro e w2 ⟨rfl, hT2, hB2⟩
             have HT2 := Hi hT2
             have HB2 := Hi (HB.out.drew.trans hB2)
             clear hT2 hB2 hTd o1 o2 o3 o4
             go_wp2_with fail
             go_roundw
             case measure => rw [HW3.out]; exact HMS.out
             case rel =>
              have hst : stP (mpF f ts) n 0 st0 (P.take (i5 + 1)) = setAt (stP (mpF f ts) n 0 st0 (P.take i5)) (mpF f ts x.toNat) (addSub (stP (mpF f ts) n 0 st0 (P.take i5) (mpF f ts x.toNat)) y v ((n : Int) - m5)) := by
               rw [List.take_add_one, HP.out]
               simp only [Option.toList]
               rw [stP_snoc, List.length_take, Nat.min_eq_left hi5, HM5.out]
               rw [HE.out]
              exact ⟨i5 + 1, m5 + 2, HM2, HI3.out, by rw [HW3.out], by rw [hst]; exact HT2.out, HB2.out⟩
        · have ht : (k : Int) < 256 := by omega
          have k0 : (0 : Int) ≤ (k : Int) := by omega
          have hx := index_map C2 k (f k) (by omega) (HC2.out k (by omega))
          obtain ⟨b, hb⟩ : ∃ b, f k = b := ⟨_, rfl⟩
          rw [hb] at hx
          have hb1 := HF1.out k
          rw [hb] at hb1
          have hbs : sumF f k ≤ 10 := by
           have := sumF_mono f (show k ≤ 256 by omega)
           have := HTS.out
           omega
          have HS : Hid (((sumF f (k + 1) : Nat) : Int) = (sumF f k : Int) + b) := Hi (by simp only [sumF, hb]; omega)
          have r0 := rm k (by omega)
          have f6 := fz (6 + k)
          have HB : Hid (f k = b) := Hi hb
          clear fz rm hb
          have hb2 : b = 0 ∨ b = 1 := by omega
          rcases hb2 with rfl | rfl
          · have e : ((sumF f (k + 1) : Nat) : Int) = (sumF f k : Int) := by have := HS.out; omega
            have E := Hi e
            clear e
            go_upto_region 20 with fail
            go_still_tail 10, (by kernel_rfl)
            change wpList _ _ _ _ _ wr.drew
            go_wp2_with fail
            go_roundw
            case measure =>
             show 256 - ((k : Int) + 1).toNat < 256 - ((k : Nat) : Int).toNat
             omega
            case rel => exact ⟨k + 1, by omega, by go_num, by rw [E.out], HI3.out.drew.set k ts (by omega) (map_step (by unfold mpF; rw [if_pos HB.out]))⟩
          · have e : ((sumF f (k + 1) : Nat) : Int) = (sumF f k : Int) + 1 := by have := HS.out; omega
            have E := Hi e
            clear e
            go_wp2_with fail
            go_roundw
            case measure =>
             show 256 - ((k : Int) + 1).toNat < 256 - ((k : Nat) : Int).toNat
             omega
            case rel => exact ⟨k + 1, by omega, by go_num, by rw [E.out], HI3.out.set k (sumF f k) (by omega) (map_step (by unfold mpF; rw [if_neg (by rw [HB.out]; omega)]))⟩
     · have ht : (j : Int) < 256 := by omega
       have hx := index_map C j (f j) (by omega) (HC.out j (by omega))
       obtain ⟨b, hb⟩ : ∃ b, f j = b := ⟨_, rfl⟩
       rw [hb] at hx
       have hb1 := HF1.out j
       rw [hb] at hb1
       have hw : wrap64 ((sumF f j : Nat) + (b : Int)) = ((sumF f (j + 1) : Nat) : Int) := by simp only [sumF, hb]; unfold wrap64; omega
       have HS : Hid (((sumF f (j + 1) : Nat) : Int) = (sumF f j : Int) + b) := Hi (by simp only [sumF, hb]; omega)
       clear hb
       have hb2 : b = 0 ∨ b = 1 := by omega
       rcases hb2 with rfl | rfl
       · have e : ((sumF f (j + 1) : Nat) : Int) = (sumF f j : Int) := by have := HS.out; omega
         have E := Hi e
         clear hw e
         go_wp2_with fail
         go_roundw
         case measure =>
          show 256 - ((j : Int) + 1).toNat < 256 - ((j : Nat) : Int).toNat
          omega
         case rel =>
          have h := HI2.out.sum (ts' := sumF f (j + 1))
          rw [E.out] at h
          exact ⟨j + 1, by omega, by go_num, h⟩
       · have e : ((sumF f (j + 1) : Nat) : Int) = (sumF f j : Int) + 1 := by have := HS.out; omega
         have E := Hi e
         clear hw e
         go_wp2_with fail
         go_roundw
         case measure =>
          show 256 - ((j : Int) + 1).toNat < 256 - ((j : Nat) : Int).toNat
          omega
         case rel =>
          have h := HI2.out.sum (ts' := sumF f (j + 1))
          rw [E.out] at h
          exact ⟨j + 1, by omega, by go_num, h⟩
  · obtain ⟨p, hp⟩ : ∃ p, P[i]? = some p := ⟨_, List.getElem?_eq_getElem (by omega)⟩
    obtain ⟨x, y, v⟩ := p
    have ht : (m : Int) < (n : Int) := by have := HM.out; have := HN.out; omega
    have hm0 : (0 : Int) ≤ (m : Int) := by omega
    have hc0 : wr.cell? ⟨kb, m, none⟩ = some (vs [x, y]) := by rw [HI.out.bel.cell (p := ⟨kb, m, none⟩) HKB.out, HM.out]; exact (HK.out i x y v hp).1
    have HP := Hi hp
    clear hp
    go_wp2_with fail
    go_loopw [6] (fun v6 w2 => ∃ j : Nat, j ≤ 2 ∧ v6 = .int .i64 j ∧ MkI w w2 0 (markF (bytesP (P.take i) ++ [x, y].take j))) (fun v6 _ => 2 - (intOf v6).toNat)
    case atStart => exact ⟨0, by omega, rfl, by simpa using HI.out⟩
    case round =>
     obtain ⟨j, hj, rfl, hI2⟩ := hrel
     have HI2 := Hi hI2
     obtain ⟨-, -, fz, rm⟩ := hI2.blk.cells
     have hsz := hI2.blk.lt
     clear hI2
     have hj3 : j = 0 ∨ j = 1 ∨ j = 2 := by omega
     rcases hj3 with rfl | rfl | rfl
     · have hs0 : ∀ w, (Instr.index 9 (vs [x, y]) (.int .i64 0)).run Tryz.prog w = .ok (.int .u8 (x.toNat : Int)) w := fun _ => by kernel_rfl
       have j0 : (0 : Int) ≤ (x.toNat : Int) := by omega
       have j1 : (x.toNat : Int) < 256 := by have := UInt8.toNat_lt x; omega
       have r0 := rm x.toNat (UInt8.toNat_lt x)
       have f0 := fz (6 + x.toNat)
       clear fz rm
       go_upto_region 9 with fail
       go_still_tail 7, (by kernel_rfl)
       change wpList _ _ _ _ _ wr.drew
       go_wp2_with fail
       go_roundw
       case measure => simp [intOf]
       case rel => exact ⟨1, by omega, rfl, (HI2.out.drew.set x.toNat 1 (UInt8.toNat_lt x) (fun k hk => by rw [show [x, y].take 1 = [x] from rfl, markF_snoc]; simp))⟩
     · have hs0 : ∀ w, (Instr.index 9 (vs [x, y]) (.int .i64 1)).run Tryz.prog w = .ok (.int .u8 (y.toNat : Int)) w := fun _ => by kernel_rfl
       have j0 : (0 : Int) ≤ (y.toNat : Int) := by omega
       have j1 : (y.toNat : Int) < 256 := by have := UInt8.toNat_lt y; omega
       have r0 := rm y.toNat (UInt8.toNat_lt y)
       have f0 := fz (6 + y.toNat)
       clear fz rm
       go_upto_region 9 with fail
       go_still_tail 7, (by kernel_rfl)
       change wpList _ _ _ _ _ wr.drew
       go_wp2_with fail
       go_roundw
       case measure => simp [intOf]
       case rel => exact ⟨2, by omega, rfl, (HI2.out.drew.set y.toNat 1 (UInt8.toNat_lt y) (fun k hk => by rw [show [x, y].take 2 = [x] ++ [y] from rfl, ← List.append_assoc, markF_snoc]; rfl))⟩
     · clear fz rm
       go_wp2_with fail
       go_roundw
       case measure =>
        have h1 := HM.out
        have h2 := HN.out
        have hw : wrap64 ((m : Int) + 2) = ((m + 2 : Nat) : Int) := by unfold wrap64; omega
        rw [hw]
        show n - (((m + 2 : Nat) : Int)).toNat < n - ((m : Nat) : Int).toNat
        omega
       case rel =>
        have hw : wrap64 ((m : Int) + 2) = ((m + 2 : Nat) : Int) := by have := HM.out; have := HN.out; unfold wrap64; omega
        have hL : bytesP (P.take (i + 1)) = bytesP (P.take i) ++ [x, y].take 2 := by
         rw [List.take_add_one, HP.out]
         exact bytesP_snoc _ _ _ _
        have hm2 : m + 2 = 2 * (i + 1) := by have := HM.out; omega
        have hi2 : i + 1 ≤ P.length := by omega
        exact ⟨i + 1, m + 2, Hi hm2, hi2, by rw [hw], by rw [hL]; exact HI2.out⟩
end Go.Proofs.YtbicmjmcdnkjhaaGreatDoor
namespace Go.Proofs.YtbicmjmcdnkjhaaGreatDoor
open Go.RowKit
set_option maxRecDepth 100000
set_option maxHeartbeats 4000000
theorem disable (w : World) : (callFunc 196 #[]).run Tryz.prog w = .ok (.value (.tuple #[])) w := run_call_mark0 Tryz.func196 (by kernel_rfl) (by kernel_rfl) (by kernel_rfl) .disable (by kernel_rfl) w
theorem enable (w : World) : (callFunc 198 #[]).run Tryz.prog w = .ok (.value (.tuple #[])) w := run_call_mark0 Tryz.func198 (by kernel_rfl) (by kernel_rfl) (by kernel_rfl) .enable (by kernel_rfl) w
theorem acquire (a : Addr) (w : World) : (callFunc 199 #[.pointer (some a)]).run Tryz.prog w = .ok (.value (.tuple #[])) w := run_call_marked Tryz.func199 (by kernel_rfl) (by kernel_rfl) (by kernel_rfl) .acquire (by kernel_rfl) a w
theorem releaseMerge (a : Addr) (w : World) : (callFunc 201 #[.pointer (some a)]).run Tryz.prog w = .ok (.value (.tuple #[])) w := run_call_marked Tryz.func201 (by kernel_rfl) (by kernel_rfl) (by kernel_rfl) .releaseMerge (by kernel_rfl) a w
theorem load_any (a : Addr) (n : Int) (w : World) (hc : w.cell? a = some (.int .u32 n)) : Calls Tryz.prog 104 #[.pointer (some a)] w fun e w' => e = .returned (.bool (n != 0)) ∧ w' = w := by
 have hl := run_call_load (P := Tryz.prog) Tryz.func151 (by kernel_rfl) (by kernel_rfl) (by kernel_rfl) .u32 (by kernel_rfl) hc
 go_enter Tryz.func104, Tryz.ntmps104
 go_wp2_with fail
 exact bodyPost_ret (v := .bool (n != 0)) (by simp [results, Tryz.results104, go_sem]) rfl ⟨rfl, rfl⟩
theorem lock_in (a : Addr) (w : World) (hc : w.cell? a = some (.int .i32 0)) (hz : w.frozen? a = false) :
 Calls Tryz.prog 176 #[.pointer (some a)] w fun e w' => e = .returned (.tuple #[]) ∧ w' = w.setCell a (.int .i32 1) := by
 have hd := disable
 have he := enable
 have ha := acquire
 have hcas := run_call_cas_hit (P := Tryz.prog) Tryz.func197 (by kernel_rfl) (by kernel_rfl) (by kernel_rfl) .i32 (by kernel_rfl) (y := 1) hc hz
 have hc' : (w.setCell a (.int .i32 1)).cell? a = some (.int .i32 1) := World.cell?_setCell_same w a _ hc
 have hcv := run_convert_to_unsafe (P := Tryz.prog) (src := 271) (dst := 214) Tryz.underlying271 Tryz.underlying214 (by kernel_rfl) hc'
 go_enter Tryz.func176, Tryz.ntmps176
 go_wp2_with fail
 first | go_end0 | (simp only [Exit.inBlock, Exit.then]; refine bodyPost_ret (results_none rfl _ _ _) rfl ?_) | refine bodyPost_ret (results_none rfl _ _ _) rfl ?_
 exact ⟨rfl, rfl⟩
theorem unlock_in (a : Addr) (w : World) (hc : w.cell? a = some (.int .i32 1)) (hz : w.frozen? a = false) :
 Calls Tryz.prog 177 #[.pointer (some a)] w fun e w' => e = .returned (.tuple #[]) ∧ w' = w.setCell a (.int .i32 0) := by
 have hd := disable
 have he := enable
 have hr := releaseMerge
 have hadd := run_call_add (P := Tryz.prog) Tryz.func202 (by kernel_rfl) (by kernel_rfl) (by kernel_rfl) .i32 (by kernel_rfl) (y := -1) (s := 0) hc hz (by simp [go_sem]; rfl)
 have hcv := run_convert_to_unsafe (P := Tryz.prog) (src := 271) (dst := 214) Tryz.underlying271 Tryz.underlying214 (by kernel_rfl) hc
 go_enter Tryz.func177, Tryz.ntmps177
 go_wp2_with fail
 go_end0
 exact ⟨rfl, rfl⟩
theorem lock_free (b off : Nat) (w : World) (hc : w.cell? ⟨b, off, none⟩ = some (.int .i32 0)) (hz : w.frozen? ⟨b, off, none⟩ = false) :
 Calls Tryz.prog 152 #[.pointer (some ⟨b, off, none⟩)] w fun e w' => e = .returned (.tuple #[]) ∧ w' = w.setCell ⟨b, off, none⟩ (.int .i32 1) := by
 go_enter Tryz.func152, Tryz.ntmps152
 go_wp2_with (go_at_call 176; refine (lock_in ⟨b, off, none⟩ w hc hz).mono ?_; rintro e w' ⟨rfl, hw⟩; subst hw)
 go_end0
 exact ⟨rfl, rfl⟩
theorem unlock_deferred (b off : Nat) (u : FrameMode) (w : World) (hc : w.cell? ⟨b, off, none⟩ = some (.int .i32 1)) (hz : w.frozen? ⟨b, off, none⟩ = false) :
 CallsD Tryz.prog 153 #[.pointer (some ⟨b, off, none⟩)] u w fun e u' w' => u' = u ∧ (e = .returned (.tuple #[]) ∧ w' = w.setCell ⟨b, off, none⟩ (.int .i32 0)) := by
 go_enter_d Tryz.func153, Tryz.ntmps153
 go_wp2_with (go_at_call 177; refine (unlock_in ⟨b, off, none⟩ w hc hz).mono ?_; rintro e w' ⟨rfl, hw⟩; subst hw)
 go_end0
 exact ⟨rfl, rfl⟩
theorem store_deferred (b off : Nat) (x : Value) (u : FrameMode) (w : World) (hc : w.cell? ⟨b, off, none⟩ = some x) (hz : w.frozen? ⟨b, off, none⟩ = false) :
 CallsD Tryz.prog 154 #[.pointer (some ⟨b, off, none⟩), .bool true] u w fun e u' w' => u' = u ∧ (e = .returned (.tuple #[]) ∧ w' = w.drew.setCell ⟨b, off, none⟩ (.int .u32 1)) := by
 have hc' : w.drew.cell? ⟨b, off, none⟩ = some x := by go_simp
 have hz' : w.drew.frozen? ⟨b, off, none⟩ = false := by go_simp
 have hst := run_call_store (P := Tryz.prog) Tryz.func178 (by kernel_rfl) (by kernel_rfl) (by kernel_rfl) (by kernel_rfl) (k := .u32) (y := 1) hc' hz'
 go_enter_d Tryz.func154, Tryz.ntmps154
 go_wp2_with fail
 go_region_calls
 all_goals (go_end0; exact ⟨rfl, rfl⟩)
set_option maxRecDepth 100000
set_option maxHeartbeats 4000000
abbrev boF (rb : Nat) : Value := .func (.func 68) #[.pointer (some ⟨rb, 0, none⟩)] #[]
def OncePost (rb : Nat) (R : World → Prop) (e : Ending) (w' : World) : Prop := e = .returned (.tuple #[]) ∧ ∃ w1, R w1 ∧ w' = (w1.drew.setCell ⟨rb, 0, none⟩ (.int .u32 1)).setCell ⟨rb, 1, none⟩ (.int .i32 0)
def OnceIn (rb : Nat) (R : World → Prop) (e : Ending) (w' : World) : Prop := e = .returned (.tuple #[]) ∧ R w' ∧ w'.cell? ⟨rb, 0, none⟩ = some (.int .u32 0) ∧ w'.cell? ⟨rb, 1, none⟩ = some (.int .i32 1) ∧ w'.frozen? ⟨rb, 0, none⟩ = false ∧ w'.frozen? ⟨rb, 1, none⟩ = false
theorem slow_any (rb : Nat) (R : World → Prop) (w : World) (h0 : w.cell? ⟨rb, 0, none⟩ = some (.int .u32 0)) (h1 : w.cell? ⟨rb, 1, none⟩ = some (.int .i32 0)) (f0 : w.frozen? ⟨rb, 0, none⟩ = false) (f1 : w.frozen? ⟨rb, 1, none⟩ = false)
 (hf : Calls Tryz.prog 68 #[.pointer (some ⟨rb, 0, none⟩)] (w.setCell ⟨rb, 1, none⟩ (.int .i32 1)) (OnceIn rb R)) :
 Calls Tryz.prog 105 #[.pointer (some ⟨rb, 0, none⟩), boF rb] w (OncePost rb R) := by
 have hx : (w.setCell ⟨rb, 1, none⟩ (.int .i32 1)).cell? ⟨rb, 0, none⟩ = some (.int .u32 0) := (World.cell?_setCell_other _ ⟨rb, 1, none⟩ ⟨rb, 0, none⟩ _ (by simp)).trans h0
 have HF := Hi hf
 clear hf
 go_enter_defers Tryz.func105, Tryz.ntmps105
 go_wp2_with (first | (go_at_call 152; refine (lock_free rb 1 w h1 f1).mono ?_; rintro e w' ⟨rfl, hw⟩; subst hw) | (go_at_call 104; refine (load_any ⟨rb, 0, none⟩ 0 _ hx).mono ?_; rintro e w' ⟨rfl, hw⟩; subst hw) | (go_at_call 68; refine HF.out.mono ?_; rintro e w1 ⟨rfl, hR, k0, k1, z0, z1⟩))
 refine leaves_cons (f := 154) (args := #[.pointer (some ⟨rb, 0, none⟩), .bool true]) (by simp) (by simp [go_sem]) ?_
 refine (store_deferred rb 0 (.int .u32 0) .returning _ k0 z0).mono ?_
 rintro e u' w'' ⟨rfl, rfl, rfl⟩
 refine leaves_cons (f := 153) (args := #[.pointer (some ⟨rb, 1, none⟩)]) (by simp [settle]) (by simp [go_sem]) ?_
 refine (unlock_deferred rb 1 _ _ ?_ (by simp [z1])).mono ?_
 · refine (World.cell?_setCell_other _ ⟨rb, 0, none⟩ ⟨rb, 1, none⟩ _ (by simp)).trans ?_
   rw [World.cell?_drew]
   exact k1
 rintro e u' w'' ⟨rfl, rfl, rfl⟩
 exact ⟨.tuple #[], by simp [results, Tryz.results105], rfl, w1, hR, rfl⟩
theorem do_any (rb : Nat) (R : World → Prop) (w : World) (h0 : w.cell? ⟨rb, 0, none⟩ = some (.int .u32 0)) (h1 : w.cell? ⟨rb, 1, none⟩ = some (.int .i32 0)) (f0 : w.frozen? ⟨rb, 0, none⟩ = false) (f1 : w.frozen? ⟨rb, 1, none⟩ = false)
 (hf : Calls Tryz.prog 68 #[.pointer (some ⟨rb, 0, none⟩)] (w.setCell ⟨rb, 1, none⟩ (.int .i32 1)) (OnceIn rb R)) :
 Calls Tryz.prog 67 #[.pointer (some ⟨rb, 0, none⟩), boF rb] w (OncePost rb R) := by
 have HF := Hi hf
 clear hf
 go_enter Tryz.func67, Tryz.ntmps67
 go_wp2_with (first | (go_at_call 104; refine (load_any ⟨rb, 0, none⟩ 0 _ h0).mono ?_; rintro e w' ⟨rfl, hw⟩; subst hw) | (go_at_call 105; refine (slow_any rb R _ h0 h1 f0 f1 HF.out).mono ?_; rintro e w1 ⟨rfl, hR⟩; have HR := Hi hR; clear hR))
 go_end0
 exact ⟨rfl, HR.out⟩
end Go.Proofs.YtbicmjmcdnkjhaaGreatDoor
