/- code.walk: it calls a visitor for each item with its ancestors, and says whether the code is valid. code.Valid, code.Below, code.Under. -/
import Derived.Test.YtecnlfaholmpoaaGreatJC1
import Derived.Deep.RegionHeld3
import Derived.Deep.AppendLies
import Derived.Deep.QuietTactic
import Derived.BigQuiet
set_option linter.unusedVariables false
set_option linter.unusedSimpArgs false
set_option maxRecDepth 20000
set_option maxHeartbeats 1000000
namespace Go.Proofs.YtecnlfaholmpoaaGreat
open Go.RowKit
def openCut (opn : List Str) (par : Str) : Option (List Str) :=
 if par = [] then some [] else (ixS opn par).map fun i => opn.take (i + 1)
def walkF : List Item → List Str → List Str → List (Item × List Str) × Bool
 | [], _, _ => ([], true)
 | x :: r, seen, opn =>
   if !properB x || hasS seen x.id then ([], false) else
   match openCut opn x.par with
   | none => ([], false)
   | some o => ((x, o) :: (walkF r (seen ++ [x.id]) (if x.kind = 1 then o ++ [x.id] else o)).1, (walkF r (seen ++ [x.id]) (if x.kind = 1 then o ++ [x.id] else o)).2)
def walkL (l : List Item) : List (Item × List Str) := (walkF l [] []).1
def walkB (l : List Item) : Bool := (walkF l [] []).2 && decide ((l.length : Int) ≤ 2000)
/- what a visitor is asked to do -/
structure Visits (l : List Item) (B0 : Nat) (g : Nat) (caps : Array Value) (Inv : List (Item × List Str) → List Nat → World → Prop) : Prop where
 enters : ∀ us W, (callFunc g us).run Tryz.prog W = .ok (.enter g us) W
 bound : ∀ done F W, Inv done F W → ∀ b ∈ F, b < W.heap.size
 keep : ∀ done F W W', Inv done F W → W.heap.size ≤ W'.heap.size → (∀ b, b < B0 ∨ b ∈ F → W'.heap[b]? = W.heap[b]?) → Inv done F W'
 visit : ∀ done F W x o O, l[done.length]? = some x → Inv done F W → RdS W O o → o.length ≤ 1000000 →
  Calls Tryz.prog g (#[.int .i64 done.length, .slice O o.length o.length] ++ caps) W fun e W' => e = .returned (.tuple #[]) ∧ ∃ F', Inv (done ++ [(x, o)]) F' W' ∧ VEff F W W' ∧ ∀ b ∈ F', b ∈ F ∨ W.heap.size ≤ b
def seenKV (seen : List Str) : List (Str × Value) := seen.map fun s => (s, .bool true)
theorem mget_seen (seen : List Str) (s : Str) : (mget (seenKV seen) s).getD (.bool false) = .bool (hasS seen s) := by
 unfold mget seenKV hasS
 induction seen with
 | nil => rfl
 | cons a r ih =>
   simp only [List.map_cons, List.find?_cons, List.any_cons]
   cases h : (s == a) with
   | true => simp
   | false => simpa using ih
theorem mget_none {seen : List Str} {s : Str} (h : hasS seen s = false) : mget (seenKV seen) s = none := by
 unfold mget seenKV
 unfold hasS at h
 induction seen with
 | nil => rfl
 | cons a r ih =>
   simp only [List.any_cons, Bool.or_eq_false_iff] at h
   simp only [List.map_cons, List.find?_cons, h.1]
   exact ih h.2
/- the loop's relation -/
structure WRel (l : List Item) (A : Option Addr) (c : Nat) (F0 : List Nat) (w : World) (Inv : List (Item × List Str) → List Nat → World → Prop)
 (k : Nat) (done : List (Item × List Str)) (seen opn : List Str) (F : List Nat) (O : Option Addr) (oc : Nat) (wr : World) : Prop where
 kle : k ≤ l.length
 dk : done.length = k
 wf : walkF l [] [] = (done ++ (walkF (l.drop k) seen opn).1, (walkF (l.drop k) seen opn).2)
 ole : opn.length ≤ oc
 onone : O = none → oc = 0
 inv : Inv done F wr
 fs : ∀ b ∈ F, b ∈ F0 ∨ w.heap.size + 2 ≤ b
 start : ∀ b ∈ F0, b < w.heap.size
 eff : VEff F0 w wr
 size : w.heap.size + 2 ≤ wr.heap.size
 box : wr.heap[w.heap.size]? = some (.cells #[.slice A l.length c] 24 (0, 0))
 smap : SMap wr (w.heap.size + 1) (seenKV seen)
 rd : RdS wr O opn
 iso : ∀ b o, O = some ⟨b, o, none⟩ → b ∉ F ∧ w.heap.size + 2 ≤ b ∧ b < wr.heap.size
 olen : opn.length ≤ k
theorem info9 : (Tryz.prog.info? 9).map (fun i => (i.zero, i.size, i.bytes)) = some (some (.string ⟨#[]⟩), 1, 16) := by kernel_rfl
theorem zeroBool (w : World) : (zeroValue 4).run Tryz.prog w = .ok (.bool false) w := by kernel_rfl
theorem RdI.kept {w w' : World} {A : Option Addr} {l : List Item} {F0 : List Nat} (h : RdI w A l) (he : VEff F0 w w') (hsep : l ≠ [] → ∀ b o, A = some ⟨b, o, none⟩ → b ∉ F0) : RdI w' A l :=
 fun hne => Sl.keep h he.size (fun b o hA hlt => he.block b hlt (hsep hne b o hA)) hne
theorem drop_of_get {α : Type} {l : List α} {k : Nat} {x : α} (h : l[k]? = some x) : l.drop k = x :: l.drop (k + 1) := by
 obtain ⟨hk, rfl⟩ := List.getElem?_eq_some_iff.1 h
 exact List.drop_eq_getElem_cons hk
section
variable {l : List Item} {A : Option Addr} {c : Nat} {F0 : List Nat} {w : World} {Inv : List (Item × List Str) → List Nat → World → Prop}
 {k : Nat} {done : List (Item × List Str)} {seen opn : List Str} {F : List Nat} {O : Option Addr} {oc : Nat} {wr : World} {x : Item}
theorem walkB_no (h : WRel l A c F0 w Inv k done seen opn F O oc wr) (hx : l[k]? = some x) (hb : properB x = false ∨ hasS seen x.id = true) : walkB l = false := by
 unfold walkB
 rw [h.wf, drop_of_get hx, walkF]
 rcases hb with hb | hb <;> simp [hb]
theorem walkB_cut (h : WRel l A c F0 w Inv k done seen opn F O oc wr) (hx : l[k]? = some x) (hb : openCut opn x.par = none) : walkB l = false := by
 unfold walkB
 rw [h.wf, drop_of_get hx, walkF]
 split
 · rfl
 · simp [hb]
theorem walk_inv {w' : World} {g : Nat} {caps : Array Value} (h : WRel l A c F0 w Inv k done seen opn F O oc wr) (hv : Visits l w.heap.size g caps Inv) (hb : VEff [w.heap.size + 1] wr w') :
 Inv done F w' ∧ VEff F0 w w' ∧ (∀ b ∈ F, b ∈ F0 ∨ w.heap.size ≤ b) := by
 have hF : ∀ b ∈ F, b ∈ F0 ∨ w.heap.size ≤ b := fun b hB => (h.fs b hB).imp id fun h => by omega
 refine ⟨hv.keep _ _ _ _ h.inv hb.size (fun b hB => hb.block b ?_ ?_), h.eff.trans hb (fun x hx => .inr (by simp at hx; omega)), hF⟩
 · rcases hB with hB | hB
   · have := h.size; omega
   · exact hv.bound _ _ _ h.inv b hB
 · rcases hB with hB | hB
   · simp; omega
   · have h1 := h.fs b hB
     intro he
     simp at he
     subst he
     rcases h1 with h1 | h1
     · exact absurd (hv.bound _ _ _ h.inv _ hB) (by have := h.size; have := h.start _ h1; omega)
     · omega
theorem walk_stop {w' : World} {g : Nat} {caps : Array Value} (h : WRel l A c F0 w Inv k done seen opn F O oc wr) (hv : Visits l w.heap.size g caps Inv) (hb : VEff [w.heap.size + 1] wr w') (hn : walkB l = false) :
 ∃ done F, Inv done F w' ∧ VEff F0 w w' ∧ (∀ b ∈ F, b ∈ F0 ∨ w.heap.size ≤ b) ∧ (walkB l = true → done = walkL l) := by
 obtain ⟨h1, h2, h3⟩ := walk_inv h hv hb
 exact ⟨done, F, h1, h2, h3, by rw [hn]; simp⟩
theorem eff_of_two {w1 w2 : World} {o : Obj} {B : Nat} (hb1 : Below (wr.alloc o).heap.size (wr.alloc o) w1) (hv : VEff [B + 1] w1 w2) : VEff [B + 1] wr w2 :=
 (VEff.of_below (F := [B + 1]) (((Below.refl _ _).alloc (Nat.le_refl _) _).trans (hb1.mono (by simp)))).trans hv (fun _ hx => .inl hx)
theorem map_kept {w1 : World} {o : Obj} {B : Nat} (hb1 : Below (wr.alloc o).heap.size (wr.alloc o) w1) (hs : B + 2 ≤ wr.heap.size) : w1.heap[B + 1]? = wr.heap[B + 1]? := by
 rw [hb1.block _ (by simp; omega), Below.heap_alloc _ _ _ (by omega)]
theorem seen_look {b : Nat} (hm : SMap wr b (seenKV seen)) (s : Str) :
 (Instr.lookup 129 (.map (some b)) (vs s) false).run Tryz.prog wr = .ok (.bool (hasS seen s)) wr := by
 rw [← mget_seen]
 exact run_mlookup Tryz.underlying129 Tryz.underlying9 hm (zeroBool _) s
theorem seen_put {b : Nat} (hm : SMap wr b (seenKV seen)) {s : Str} (hs : hasS seen s = false) :
 ∃ W', (Instr.mapUpdate 129 (.map (some b)) (vs s) (.bool true)).run Tryz.prog wr = .ok () W' ∧ SMap W' b (seenKV (seen ++ [s])) ∧ VEff [b] wr W' := by
 have := run_mput_new (P := Tryz.prog) Tryz.underlying129 Tryz.underlying9 hm s (.bool true) (mget_none hs)
 simpa [seenKV] using this
theorem cut_none {par : Str} (h : openCut opn par = none) : (par == []) = false ∧ ixS opn par = none := by
 unfold openCut at h
 split at h
 · cases h
 · rename_i hp
   exact ⟨by simpa using hp, by simpa using h⟩
theorem cut_some {par : Str} {o : List Str} (h : openCut opn par = some o) : ((par == []) = true ∧ o = []) ∨ ∃ i, (par == []) = false ∧ ixS opn par = some i ∧ o = opn.take (i + 1) ∧ i < opn.length := by
 unfold openCut at h
 split at h
 · rename_i hp
   cases h
   exact .inl ⟨by simpa using hp, rfl⟩
 · rename_i hp
   right
   cases hi : ixS opn par with
   | none => rw [hi] at h; cases h
   | some i =>
     rw [hi] at h
     cases h
     refine ⟨i, by simpa using hp, rfl, rfl, ?_⟩
     unfold ixS at hi
     rw [List.findIdx?_eq_some_iff_getElem] at hi
     exact hi.1
/- behind the call of proper and the store into the map: the item's box, and what is open -/
theorem box_kept {w1 w2 : World} {cs : Array Value} {t : TypeId} {B : Nat} (hb1 : Below (wr.alloc (.cells cs t)).heap.size (wr.alloc (.cells cs t)) w1) (hv : VEff [B + 1] w1 w2) (hs : B + 2 ≤ wr.heap.size) :
 (∀ o, w2.cell? ⟨wr.heap.size, o, none⟩ = cs[o]?) ∧ w2.heap[wr.heap.size]? = some (.cells cs t (0, 0)) := by
 have h : w2.heap[wr.heap.size]? = some (.cells cs t (0, 0)) := by
  have h1 := hb1.size
  simp at h1
  rw [hv.block _ (by omega) (by simp; omega), hb1.block _ (by simp), heap_alloc_new]
 exact ⟨fun o => cell_of_row _ _ _ _ _ _ h, h⟩
theorem old_kept {w1 w2 : World} {o : Obj} {B : Nat} (hb1 : Below (wr.alloc o).heap.size (wr.alloc o) w1) (hv : VEff [B + 1] w1 w2) {b : Nat} (hb : b < wr.heap.size) (hne : b ≠ B + 1) :
 w2.heap[b]? = wr.heap[b]? := by
 have h1 := hb1.size
 simp at h1
 rw [hv.block _ (by omega) (by simpa using hne), hb1.block _ (by simp; omega), Below.heap_alloc _ _ _ hb]
theorem size_kept {w1 w2 : World} {o : Obj} {B : Nat} (hb1 : Below (wr.alloc o).heap.size (wr.alloc o) w1) (hv : VEff [B + 1] w1 w2) : wr.heap.size + 1 ≤ w2.heap.size := by
 have h1 := hb1.size
 have h2 := hv.size
 simp at h1
 omega
theorem open_kept {w1 w2 : World} {o : Obj} (h : WRel l A c F0 w Inv k done seen opn F O oc wr) (hb1 : Below (wr.alloc o).heap.size (wr.alloc o) w1) (hv : VEff [w.heap.size + 1] w1 w2) : RdS w2 O opn :=
 Sl.keep h.rd (by have := size_kept hb1 hv; omega) fun b o hA hlt => old_kept hb1 hv hlt (by have := (h.iso b o hA).2.1; omega)
theorem walk_next {g : Nat} {caps : Array Value} (h : WRel l A c F0 w Inv k done seen opn F O oc wr) (hv : Visits l w.heap.size g caps Inv) (hx : l[k]? = some x) (hp : properB x = true) (hs : hasS seen x.id = false)
 {o' : List Str} (hcut : openCut opn x.par = some o') {w2 w3 w4 : World} (he2 : VEff [w.heap.size + 1] wr w2) (hsm2 : SMap w2 (w.heap.size + 1) (seenKV (seen ++ [x.id]))) {F' : List Nat}
 (hi3 : Inv (done ++ [(x, o')]) F' w3) (hv3 : VEff F w2 w3) (hf3 : ∀ b ∈ F', b ∈ F ∨ w2.heap.size ≤ b) (hb4 : Below w3.heap.size w3 w4) {opn4 : List Str} (hopn4 : opn4 = if x.kind = 1 then o' ++ [x.id] else o')
 {O4 : Option Addr} {oc4 : Nat} (hole : opn4.length ≤ oc4) (hon : O4 = none → oc4 = 0) (hrd4 : RdS w4 O4 opn4) (hiso4 : O4 = O ∨ ∃ g, O4 = some ⟨g, 0, none⟩ ∧ w3.heap.size ≤ g ∧ g < w4.heap.size) (holen : o'.length ≤ k) :
 WRel l A c F0 w Inv (k + 1) (done ++ [(x, o')]) (seen ++ [x.id]) opn4 F' O4 oc4 w4 := by
 have hlt : k < l.length := (List.getElem?_eq_some_iff.1 hx).1
 have s0 := h.size
 have s2 := he2.size
 have s3 := hv3.size
 have s4 := hb4.size
 have hFlt := hv.bound _ _ _ h.inv
 have hF'lt := hv.bound _ _ _ hi3
 have hbox : ∀ b, b = w.heap.size ∨ b = w.heap.size + 1 → b ∉ F := by
  intro b hb hB
  rcases h.fs b hB with h1 | h1
  · have := h.start b h1; omega
  · omega
 refine ⟨by omega, by simp [h.dk], ?_, hole, hon, hv.keep _ _ _ _ hi3 s4 (fun b hb => hb4.block b ?_), fun b hb => ?_, h.start, ?_, by omega, ?_, hsm2.keep ?_, hrd4, ?_, ?_⟩
 · rw [h.wf, drop_of_get hx, walkF]
   simp [hp, hs, hcut, hopn4]
 · rcases hb with hb | hb
   · omega
   · exact hF'lt b hb
 · rcases hf3 b hb with h1 | h1
   · exact h.fs b h1
   · right; omega
 · refine ((h.eff.trans he2 (fun x hx => .inr (by simp at hx; omega))).trans hv3 (fun x hx => ?_)).trans (VEff.of_below (F := F0) hb4) (fun x hx => .inl hx)
   rcases h.fs x hx with h1 | h1
   · exact .inl h1
   · right; omega
 · rw [hb4.block _ (by omega), hv3.block _ (by omega) (hbox _ (.inl rfl)), he2.block _ (by omega) (by simp)]
   exact h.box
 · rw [hb4.block _ (by omega), hv3.block _ (by omega) (hbox _ (.inr rfl))]
 · intro b o hA
   rcases hiso4 with rfl | ⟨g, rfl, h1, h2⟩
   · obtain ⟨i1, i2, i3⟩ := h.iso b o hA
     refine ⟨fun hb => ?_, i2, by omega⟩
     rcases hf3 b hb with h1 | h1
     · exact i1 h1
     · omega
   · cases hA
     exact ⟨fun hb => by have := hF'lt _ hb; omega, by omega, h2⟩
 · subst hopn4
   split
   · simp; omega
   · omega
theorem info_some {P : Program} {t : TypeId} {x : Option Value × Nat × Nat} (h : (P.info? t).map (fun i => (i.zero, i.size, i.bytes)) = some x) : ∃ i, P.info? t = some i := by
 cases hi : P.info? t with
 | none => rw [hi] at h; cases h
 | some i => exact ⟨i, rfl⟩
theorem box_kept3 {w2 w3 : World} {g : Nat} {cs : Array Value} {t : TypeId} {F : List Nat} (hv : VEff F w2 w3) (hF : ∀ b ∈ F, b < g) (hb : w2.heap[g]? = some (.cells cs t (0, 0))) (hs : g + 1 ≤ w2.heap.size) :
 ∀ o, w3.cell? ⟨g, o, none⟩ = cs[o]? :=
 fun o => cell_of_row _ _ _ _ _ _ ((hv.block _ (by omega) (fun h => by have := hF _ h; omega)).trans hb)
theorem own_holds {w3 : World} {O : Option Addr} {o : List Str} {ad : Addr} {j : Nat} {u : Value} {ob : Obj} (h : RdS w3 O o) (hO : O = some ad) (hu : (o.map vs)[j]? = some u) : (w3.alloc ob).cell? (ad.add j) = some u := by
 rw [List.getElem?_map] at hu
 cases hx : o[j]? with
 | none => rw [hx] at hu; cases hu
 | some x =>
   rw [hx] at hu
   cases hu
   obtain ⟨b, of, rfl, hlt, hc⟩ := h.item hx
   cases hO
   have : (⟨b, of, none⟩ : Addr).add j = ⟨b, of + j, none⟩ := by
    unfold Addr.add; split
    · rename_i h0; subst h0; rfl
    · rfl
   rw [this, World.cell?_alloc_lt _ _ _ hlt, hc]
theorem one_cell {l : Str} : ∀ u ∈ [vs l], u.oneCell' = true := by simp [Value.oneCell']
theorem le_maxLen {n : Nat} (h : n ≤ 9223372036854775807) : n ≤ maxLen := h
theorem one_holds {w3 : World} {t : TypeId} {v u : Value} {j : Nat} (hu : [v][j]? = some u) : (w3.alloc (.cells #[v] t)).cell? ((⟨w3.heap.size, 0, none⟩ : Addr).add j) = some u := by
 cases j with
 | zero => simp at hu; subst hu; simp [Addr.add]
 | succ j => simp at hu
theorem own_reads {w4 : World} {base : Nat} {v : Value} {m : Nat} {o : List Str} (h : w4.ownsRow base 9 1 v m (o.map vs)) (hm : 0 < m) :
 ∃ g cap, v = .slice (some ⟨g, 0, none⟩) m cap ∧ m ≤ cap ∧ base ≤ g ∧ g < w4.heap.size ∧ RdS w4 (some ⟨g, 0, none⟩) o := by
 obtain ⟨g, cap, cur, hv, hg, hh, hcap, _⟩ : ∃ g cap cur, v = .slice (some ⟨g, 0, none⟩) m cap ∧ base ≤ g ∧ w4.heap[g]? = some (.cells cur 9) ∧ m ≤ cap ∧ cap ≤ maxLen := by
  rcases h.2 with ⟨_, h0, _⟩ | ⟨g, cap, cur, r1, r2, r3, r4, r5, _⟩
  · omega
  · exact ⟨g, cap, cur, r1, r2, r3, r4, r5⟩
 have hlt : g < w4.heap.size := by
  rcases Nat.lt_or_ge g w4.heap.size with h' | h'
  · exact h'
  · rw [Array.getElem?_eq_none h'] at hh; cases hh
 refine ⟨g, cap, hv, hcap, hg, hlt, fun _ => ⟨g, 0, rfl, hlt, fun k x hx j u hu => ?_⟩⟩
 have hc := World.ownsRow.cells h (g := g) (by rw [hv]; rfl)
 cases j with
 | zero =>
   simp at hu
   subst hu
   have := hc k (vs x) (by rw [List.getElem?_map, hx]; rfl)
   unfold Addr.add at this
   split at this
   · rename_i h0; subst h0; simpa using this
   · simpa using this
 | succ j => simp at hu
end
theorem walk_any (l : List Item) (A : Option Addr) (c : Nat) (g : Nat) (caps : Array Value) (Inv : List (Item × List Str) → List Nat → World → Prop) (F0 : List Nat) (w : World)
 (hr : RdI w A l) (hl : l.length ≤ 1000000) (hsh : ∀ x ∈ l, x.Short) (hsep : l ≠ [] → ∀ b o, A = some ⟨b, o, none⟩ → b ∉ F0) (hv : Visits l w.heap.size g caps Inv) (h0 : Inv [] F0 w) :
 Calls Tryz.prog 56 #[.agg #[.slice A l.length c], .func (.func g) #[] caps] w fun e w' => e = .returned (.bool (walkB l)) ∧
  ∃ done F, Inv done F w' ∧ VEff F0 w w' ∧ (∀ b ∈ F, b ∈ F0 ∨ w.heap.size ≤ b) ∧ (walkB l = true → done = walkL l) := by
 have hcf := hv.enters
 have HV := Lib.hid hv; clear hv
 have HSH := Lib.hid hsh; clear hsh
 have HSEP := Lib.hid hsep; clear hsep
 have HR := Lib.hid hr; clear hr
 have H0 := Lib.hid h0; clear h0
 have hmk := @run_makeMap Tryz.prog
 go_enter Tryz.func56, Tryz.ntmps56
 go_wp2
 go_loopw [14, 6] (fun i v wr => ∃ k done seen opn F O oc, i = .int .i64 (k : Nat) ∧ v = .slice O opn.length oc ∧ WRel l A c F0 w Inv k done seen opn F O oc wr) (fun i _ _ => l.length - (intOf i).toNat)
 case atStart =>
  refine ⟨0, [], [], [], F0, none, 0, rfl, rfl, ⟨Nat.zero_le _, rfl, by simp, Nat.le_refl _, fun _ => rfl, ?_, fun b hb => .inl hb, HV.out.bound _ _ _ H0.out, ?_, by simp, ?_, ?_, Sl.nil, by simp, by simp⟩⟩
  · have hbd := HV.out.bound _ _ _ H0.out
    refine HV.out.keep _ _ w _ H0.out (by simp; omega) (fun b hb => ?_)
    have hb' : b < w.heap.size := hb.elim id (hbd b)
    rw [Below.heap_alloc _ _ _ (by simp; omega), Below.heap_alloc _ _ _ hb']
  · exact VEff.of_below (((Below.refl _ _).alloc (Nat.le_refl _) _).alloc (by simp) _)
  · rw [Below.heap_alloc _ _ _ (by simp), heap_alloc_new]
  · have := SMap.made (w.alloc (.cells #[.slice A l.length c] 24)) 0
    simpa [seenKV] using this
 case round =>
  obtain ⟨k, done, seen, opn, F, O, oc, rfl, rfl, hR⟩ := hrel
  have HRel := Lib.hid hR
  by_cases hlt : k < l.length
  · obtain ⟨x, hx⟩ := get_of_lt hlt
    have hrr := HR.out.kept hR.eff HSEP.out
    obtain ⟨b, o, hA, hbs, c0, c1, c2, c3, c4, c5, c6⟩ := hrr.item hx
    have hxs := HSH.out x (List.mem_of_getElem? hx)
    have HXS := Lib.hid hxs
    have Hx := Lib.hid hx
    have hA' := Lib.hid hA
    subst hA
    clear hR hx hrr hxs
    cases hp : properB x with
    | false =>
      have Hp := Lib.hid hp
      clear hp
      go_wp2_with fail
      refine (proper_any x _ HXS.out).mono ?_
      rintro e w1 ⟨rfl, hb1⟩
      rw [Hp.out]
      have HB1 := Lib.hid hb1; clear hb1
      go_wp2_with fail
      go_ret
      refine ⟨ret_bool (walkB_no HRel.out Hx.out (.inl Hp.out)).symm, ?_⟩
      exact walk_stop HRel.out HV.out (VEff.of_below (((Below.refl _ _).alloc (Nat.le_refl _) _).trans (HB1.out.mono (by simp)))) (walkB_no HRel.out Hx.out (.inl Hp.out))
    | true =>
      have Hp := Lib.hid hp
      clear hp
      cases hs : hasS seen x.id with
      | true =>
        have Hs := Lib.hid hs
        clear hs
        go_wp2_with fail
        refine (proper_any x _ HXS.out).mono ?_
        rintro e w1 ⟨rfl, hb1⟩
        rw [Hp.out]
        obtain ⟨hc, hf⟩ := bcell hb1
        have hlk := seen_look (HRel.out.smap.keep (w' := w1) (map_kept hb1 HRel.out.size)) x.id
        rw [Hs.out] at hlk
        have HB1 := Lib.hid hb1; clear hb1
        go_wp2_with fail
        go_ret
        refine ⟨ret_bool (walkB_no HRel.out Hx.out (.inr Hs.out)).symm, ?_⟩
        exact walk_stop HRel.out HV.out (VEff.of_below (((Below.refl _ _).alloc (Nat.le_refl _) _).trans (HB1.out.mono (by simp)))) (walkB_no HRel.out Hx.out (.inr Hs.out))
      | false =>
        have Hs := Lib.hid hs
        clear hs
        cases hcut : openCut opn x.par with
        | none =>
          have Hcut := Lib.hid hcut
          have Hpar : Hid ((x.par == []) = false ∧ ixS opn x.par = none) := cut_none hcut
          clear hcut
          go_wp2_with fail
          refine (proper_any x _ HXS.out).mono ?_
          rintro e w1 ⟨rfl, hb1⟩
          rw [Hp.out]
          obtain ⟨hc, hf⟩ := bcell hb1
          have hsm := HRel.out.smap.keep (w' := w1) (map_kept hb1 HRel.out.size)
          have hlk := seen_look hsm x.id
          rw [Hs.out] at hlk
          obtain ⟨w2, hup, hsm2, hve2⟩ := seen_put hsm Hs.out
          have hbx := box_kept hb1 hve2 HRel.out.size
          have ho : RdS w2 O opn := open_kept HRel.out hb1 hve2
          have HB1 := Lib.hid hb1; clear hb1
          have Hsm := Lib.hid hsm; clear hsm
          have HSM := Lib.hid hsm2; clear hsm2
          have HVE := Lib.hid hve2; clear hve2
          have HO := Lib.hid ho; clear ho
          have hpar := Hpar.out.1
          go_wp2_with fail
          refine (indexS_any opn O oc x.par w2 HO.out ?_).mono ?_
          · have := HRel.out.olen; unfold maxLen; omega
          · rintro e w3 ⟨rfl, rfl⟩
            rw [Hpar.out.2]
            simp only [idx, Option.elim_none]
            go_wp2_with fail
            go_ret
            have hn := walkB_cut HRel.out Hx.out Hcut.out
            exact ⟨ret_bool hn.symm, walk_stop HRel.out HV.out (eff_of_two HB1.out HVE.out) hn⟩
        | some o' =>
          have Hcut := Lib.hid hcut
          have Hpar := Lib.hid (cut_some hcut)
          clear hcut
          have hlen' : o'.length ≤ opn.length := by
           rcases Hpar.out with ⟨_, rfl⟩ | ⟨i, _, _, rfl, _⟩
           · simp
           · simp; omega
          have HLEN := Lib.hid hlen'; clear hlen'
          have htk : o' = opn.take o'.length := by
           rcases Hpar.out with ⟨_, rfl⟩ | ⟨i, _, _, rfl, hi⟩
           · simp
           · simp [Nat.min_eq_left hi]
          have HTK := Lib.hid htk; clear htk
          go_wp2_with fail
          refine (proper_any x _ HXS.out).mono ?_
          rintro e w1 ⟨rfl, hb1⟩
          rw [Hp.out]
          obtain ⟨hc, hf⟩ := bcell hb1
          have hsm := HRel.out.smap.keep (w' := w1) (map_kept hb1 HRel.out.size)
          have hlk := seen_look hsm x.id
          rw [Hs.out] at hlk
          obtain ⟨w2, hup, hsm2, hve2⟩ := seen_put hsm Hs.out
          obtain ⟨hbx, hbxh⟩ := box_kept hb1 hve2 HRel.out.size
          have HBX := Lib.hid hbxh; clear hbxh
          have ho : RdS w2 O opn := open_kept HRel.out hb1 hve2
          have ho2 : RdS w2 O o' := by rw [HTK.out]; exact Sl.take ho _
          have HB1 := Lib.hid hb1; clear hb1
          have Hsm := Lib.hid hsm; clear hsm
          have HSM := Lib.hid hsm2; clear hsm2
          have HVE := Lib.hid hve2; clear hve2
          have HO := Lib.hid ho; clear ho
          have HO2 := Lib.hid ho2; clear ho2
          rcases Hpar.out with ⟨hpar, ho0⟩ | ⟨i, hpar, hix, hoi, hil⟩
          · have HKK := Lib.hid (show o'.length = 0 by rw [ho0]; rfl)
            clear ho0
            have hsl := run_cut (P := Tryz.prog) Tryz.underlying89 (info_some info9) O opn.length oc 0 0 rfl (Nat.zero_le _)
            go_wp2_with fail
            have hinv2 := (walk_inv HRel.out HV.out (eff_of_two HB1.out HVE.out)).1
            have hvis := HV.out.visit done F w2 x o' O (by rw [HRel.out.dk]; exact Hx.out) hinv2 HO2.out (by have := HRel.out.olen; have := HLEN.out; omega)
            rw [HRel.out.dk, HKK.out] at hvis
            have HVIS := Lib.hid hvis
            clear hvis hinv2
            refine HVIS.out.mono ?_
            rintro e w3 ⟨rfl, F', hi3, hv3, hf3⟩
            have hbx3 := box_kept3 hv3 (HV.out.bound _ _ _ HRel.out.inv) HBX.out (size_kept HB1.out HVE.out)
            have HI3 := Lib.hid hi3; clear hi3
            have HV3 := Lib.hid hv3; clear hv3
            have HF3 := Lib.hid hf3; clear hf3
            clear hbx hc hf
            cases hkd : (x.kind == 1) with
            | false =>
              have Hkd := Lib.hid (show ¬ x.kind = 1 by simpa using hkd)
              go_wp2_with fail
              go_roundw
              case rel =>
               refine ⟨k + 1, done ++ [(x, o')], seen ++ [x.id], o', F', O, 0, by go_num, by rw [HKK.out], ?_⟩
               exact walk_next HRel.out HV.out Hx.out Hp.out Hs.out Hcut.out (eff_of_two HB1.out HVE.out) HSM.out HI3.out HV3.out HF3.out (Below.refl _ _) (by rw [if_neg Hkd.out]) (by rw [HKK.out]; exact Nat.le_refl _) (fun hO => by have := HRel.out.onone hO; have := HRel.out.ole; have := HLEN.out; have := HKK.out; omega) (Sl.keep HO2.out HV3.out.size (fun b o hA hlt => HV3.out.block _ hlt (HRel.out.iso b o hA).1)) (.inl rfl) (by have := HRel.out.olen; have := HLEN.out; omega)
              case measure => simp [intOf]; omega
            | true =>
              have Hkd := Lib.hid (show x.kind = 1 by simpa using hkd)
              have HO3 := Lib.hid (Sl.keep HO2.out HV3.out.size (fun b o hA hlt => HV3.out.block _ hlt (HRel.out.iso b o hA).1))
              obtain ⟨i0, hi0, hz0, hz1, hz2⟩ := info_parts info9
              have Hi0 := Lib.hid hi0; clear hi0
              have Hz0 := Lib.hid hz0; clear hz0
              have Hz1 := Lib.hid hz1; clear hz1
              have Hz2 := Lib.hid hz2; clear hz2
              go_wp2_with (at_builtin; refine wpList_append_grows _ rfl (.tmp 52) (.tmp 55) _ rfl 9 i0 (.string ⟨#[]⟩) 1 16 Tryz.underlying89 Hi0.out Hz0.out Hz1.out Hz2.out rfl (by decide) O 0 0 (o'.map vs) rfl (fun _ => ⟨rfl, rfl⟩) (by rw [List.length_map, HKK.out]) (fun ad hO j u hu => own_holds HO3.out hO hu) ⟨w3.heap.size, 0, none⟩ 1 1 [vs x.id] rfl rfl (fun j u hu => one_holds hu) one_cell (by omega) (le_maxLen (by omega)) (by omega) ?_; intro v4 w4 hown hgr)
              have hown' := own_reads (o := o' ++ [x.id]) (by simpa using hown) (by omega)
              obtain ⟨gg, cap, rfl, hcap, hgg1, hgg2, hgrd⟩ := hown'
              have HGR := Lib.hid hgr; clear hgr hown
              have HGRD := Lib.hid hgrd; clear hgrd
              have HV4 := Lib.hid (((Below.refl _ _).alloc (Nat.le_refl _) _).grown HGR.out (by simp) (by simp))
              go_roundw
              case rel =>
               refine ⟨k + 1, done ++ [(x, o')], seen ++ [x.id], o' ++ [x.id], F', some ⟨gg, 0, none⟩, cap, by go_num, by rw [List.length_append, HKK.out]; rfl, ?_⟩
               exact walk_next HRel.out HV.out Hx.out Hp.out Hs.out Hcut.out (eff_of_two HB1.out HVE.out) HSM.out HI3.out HV3.out HF3.out HV4.out (by rw [if_pos Hkd.out]) (by rw [List.length_append, HKK.out]; exact hcap) (fun hO => by cases hO) HGRD.out (.inr ⟨gg, rfl, Nat.le_of_succ_le hgg1, hgg2⟩) (by have := HRel.out.olen; have := HLEN.out; omega)
              case measure => simp [intOf]; omega
          · have HKK := Lib.hid (show o'.length = i + 1 by rw [hoi]; simp; omega)
            clear hoi
            have hsl := run_cut (P := Tryz.prog) Tryz.underlying89 (info_some info9) O opn.length oc (i + 1) ((i : Int) + 1) (by omega) (by have := HRel.out.ole; omega)
            have Hix := Lib.hid hix; clear hix
            have hne : (((i : Int) + 1) == 0) = false := by simp; omega
            have hib : i ≤ 1000000 := by have := HRel.out.olen; omega
            have HON := Lib.hid (show O ≠ none from fun hO => by have := HRel.out.onone hO; have := HRel.out.ole; omega)
            go_wp2_with fail
            refine (indexS_any opn O oc x.par w2 HO.out (by have := HRel.out.olen; unfold maxLen; omega)).mono ?_
            rintro e wi ⟨rfl, rfl⟩
            rw [Hix.out]
            simp only [idx, Option.elim_some]
            go_wp2_with fail
            have hinv2 := (walk_inv HRel.out HV.out (eff_of_two HB1.out HVE.out)).1
            have hvis := HV.out.visit done F w2 x o' O (by rw [HRel.out.dk]; exact Hx.out) hinv2 HO2.out (by have := HRel.out.olen; have := HLEN.out; omega)
            rw [HRel.out.dk, HKK.out] at hvis
            have HVIS := Lib.hid hvis
            clear hvis hinv2
            refine HVIS.out.mono ?_
            rintro e w3 ⟨rfl, F', hi3, hv3, hf3⟩
            have hbx3 := box_kept3 hv3 (HV.out.bound _ _ _ HRel.out.inv) HBX.out (size_kept HB1.out HVE.out)
            have HI3 := Lib.hid hi3; clear hi3
            have HV3 := Lib.hid hv3; clear hv3
            have HF3 := Lib.hid hf3; clear hf3
            clear hbx hc hf
            cases hkd : (x.kind == 1) with
            | false =>
              have Hkd := Lib.hid (show ¬ x.kind = 1 by simpa using hkd)
              go_wp2_with fail
              go_roundw
              case rel =>
               refine ⟨k + 1, done ++ [(x, o')], seen ++ [x.id], o', F', O, i + 1, by go_num, by rw [HKK.out], ?_⟩
               exact walk_next HRel.out HV.out Hx.out Hp.out Hs.out Hcut.out (eff_of_two HB1.out HVE.out) HSM.out HI3.out HV3.out HF3.out (Below.refl _ _) (by rw [if_neg Hkd.out]) (by rw [HKK.out]; exact Nat.le_refl _) (fun hO => by have := HRel.out.onone hO; have := HRel.out.ole; have := HLEN.out; have := HKK.out; omega) (Sl.keep HO2.out HV3.out.size (fun b o hA hlt => HV3.out.block _ hlt (HRel.out.iso b o hA).1)) (.inl rfl) (by have := HRel.out.olen; have := HLEN.out; omega)
              case measure => simp [intOf]; omega
            | true =>
              have Hkd := Lib.hid (show x.kind = 1 by simpa using hkd)
              have HO3 := Lib.hid (Sl.keep HO2.out HV3.out.size (fun b o hA hlt => HV3.out.block _ hlt (HRel.out.iso b o hA).1))
              obtain ⟨i0, hi0, hz0, hz1, hz2⟩ := info_parts info9
              have Hi0 := Lib.hid hi0; clear hi0
              have Hz0 := Lib.hid hz0; clear hz0
              have Hz1 := Lib.hid hz1; clear hz1
              have Hz2 := Lib.hid hz2; clear hz2
              go_wp2_with (at_builtin; refine wpList_append_grows _ rfl (.tmp 52) (.tmp 55) _ rfl 9 i0 (.string ⟨#[]⟩) 1 16 Tryz.underlying89 Hi0.out Hz0.out Hz1.out Hz2.out rfl (by decide) O (i + 1) (i + 1) (o'.map vs) rfl (fun hO => absurd hO HON.out) (by rw [List.length_map, HKK.out]; simp) (fun ad hO j u hu => own_holds HO3.out hO hu) ⟨w3.heap.size, 0, none⟩ 1 1 [vs x.id] rfl rfl (fun j u hu => one_holds hu) one_cell (by omega) (le_maxLen (by omega)) (by omega) ?_; intro v4 w4 hown hgr)
              have hown' := own_reads (o := o' ++ [x.id]) (by simpa using hown) (by omega)
              obtain ⟨gg, cap, rfl, hcap, hgg1, hgg2, hgrd⟩ := hown'
              have HGR := Lib.hid hgr; clear hgr hown
              have HGRD := Lib.hid hgrd; clear hgrd
              have HV4 := Lib.hid (((Below.refl _ _).alloc (Nat.le_refl _) _).grown HGR.out (by simp) (by simp))
              go_roundw
              case rel =>
               refine ⟨k + 1, done ++ [(x, o')], seen ++ [x.id], o' ++ [x.id], F', some ⟨gg, 0, none⟩, cap, by go_num, by rw [List.length_append, HKK.out]; rfl, ?_⟩
               exact walk_next HRel.out HV.out Hx.out Hp.out Hs.out Hcut.out (eff_of_two HB1.out HVE.out) HSM.out HI3.out HV3.out HF3.out HV4.out (by rw [if_pos Hkd.out]) (by rw [List.length_append, HKK.out]; exact hcap) (fun hO => by cases hO) HGRD.out (.inr ⟨gg, rfl, Nat.le_of_succ_le hgg1, hgg2⟩) (by have := HRel.out.olen; have := HLEN.out; omega)
              case measure => simp [intOf]; omega
  · have hkk : k = l.length := by have := HRel.out.kle; omega
    subst hkk
    have hbx := cell_of_row wr w.heap.size 0 _ _ _ HRel.out.box
    simp only [List.getElem?_toArray, List.getElem?_cons_zero] at hbx
    clear hR
    obtain ⟨h1, h2, h3⟩ := walk_inv HRel.out HV.out (VEff.refl _ wr)
    have H1 := Lib.hid h1; clear h1
    have H2 := Lib.hid h2; clear h2
    have H3 := Lib.hid h3; clear h3
    have hwf := HRel.out.wf
    rw [List.drop_length] at hwf
    simp only [walkF, List.append_nil] at hwf
    have HWF := Lib.hid hwf; clear hwf
    go_wp2_with fail
    go_ret
    exact ⟨ret_bool (by unfold walkB; rw [HWF.out]; rfl), done, F, H1.out, H2.out, H3.out, fun _ => by unfold walkL; rw [HWF.out]⟩
end Go.Proofs.YtecnlfaholmpoaaGreat
set_option maxRecDepth 20000
set_option maxHeartbeats 1000000
namespace Go.Proofs.YtecnlfaholmpoaaGreat
open Go.RowKit
theorem valid1_any (k : Int) (v : Value) (w : World) : Calls Tryz.prog 57 #[.int .i64 k, v] w fun e w' => e = .returned (.tuple #[]) ∧ w = w' := by
 go_enter Tryz.func57, Tryz.ntmps57
 go_wp2
 go_end0
 exact ⟨rfl, rfl⟩
theorem valid_visits (l : List Item) (B0 : Nat) : Visits l B0 57 #[] (fun _ F _ => F = []) where
 enters := enters Tryz.func57 (by kernel_rfl) rfl
 bound := by rintro done F W rfl b hb; simp at hb
 keep := fun done F W W' h _ _ => h
 visit := by
  rintro done F W x o O hx rfl hr hl
  refine (valid1_any _ _ W).mono ?_
  rintro e w' ⟨rfl, rfl⟩
  exact ⟨rfl, [], rfl, VEff.refl _ _, by simp⟩
theorem valid_any (l : List Item) (A : Option Addr) (c : Nat) (w : World) (hr : RdI w A l) (hl : l.length ≤ 1000000) (hsh : ∀ x ∈ l, x.Short) :
 Calls Tryz.prog 26 #[.agg #[.slice A l.length c]] w fun e w' => e = .returned (.bool (walkB l)) ∧ Below w.heap.size w w' := by
 have HSH := Lib.hid hsh; clear hsh
 go_enter Tryz.func26, Tryz.ntmps26
 go_wp2_with fail
 refine (walk_any l A c 57 #[] (fun _ F _ => F = []) [] _ (hr.below ((Below.refl _ _).alloc (Nat.le_refl _) _)) hl HSH.out (by simp) (valid_visits l _) rfl).mono ?_
 rintro e w1 ⟨rfl, done, F, hF, hv, _, _⟩
 have HV := Lib.hid hv; clear hv
 clear hF
 go_wp2_with fail
 go_ret
 exact ⟨rfl, ((Below.refl _ _).alloc (Nat.le_refl _) _).trans ((VEff.to_below HV.out).mono (by simp))⟩
end Go.Proofs.YtecnlfaholmpoaaGreat
