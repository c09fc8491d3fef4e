/- What came in as data: a code, a patch. -/
import Derived.Test.YtfolcjkednmkoaaGreatJKit
import Derived.ProofKit
import Derived.HandedShaped
import Derived.Deep.Slices
import Derived.Deep.Fields
import Derived.ChangeSame
import Derived.Shelf.Vars
set_option linter.unusedVariables false
set_option linter.unusedSimpArgs false
set_option maxRecDepth 100000
namespace Go.Proofs.YtfolcjkednmkoaaGreat
open Go.RowKit Go.ChangeShapes Go.WideShapes Go.Deep
theorem cells_item : Tryz.prog.cellsOf 27 = 7 := by kernel_rfl
theorem cells_patch : Tryz.prog.cellsOf 29 = 15 := by kernel_rfl
theorem cells_code : Tryz.prog.cellsOf 24 = 1 := by kernel_rfl
theorem cells_1 : Tryz.prog.cellsOf 9 = 1 ∧ Tryz.prog.cellsOf 3 = 1 ∧ Tryz.prog.cellsOf 4 = 1 ∧ Tryz.prog.cellsOf 22 = 1 := ⟨by kernel_rfl, by kernel_rfl, by kernel_rfl, by kernel_rfl⟩
section
variable {H : Type} {enc : TypeId × Value → H} {w : World} {base : Nat} {spare : Nat → Bool} {held : Bool}
def itemD (x : Item) : DataW H := .agg [.lit (.int .i64 x.kind), .lit (.string x.id), .lit (.string x.par), .lit (.string x.num), .lit (.string x.no), .lit (.string x.so), .lit (.bool x.gone)]
def patD (p : Patch) : DataW H := .agg [.lit (.int .i64 p.kind), .lit (.string p.id), .lit (.string p.par), .lit (.string p.aft), .lit (.string p.num), itemD p.item, .lit (.int .i64 p.lang), .lit (.string p.fr), .lit (.string p.to)]
theorem open_item {fuel : Nat} {cs : List Value} {x : DataW H × List MemPlace} (h : DataW.trod enc Tryz.prog w base spare held fuel 27 cs = some x) : ∃ it : Item, cs = it.cells ∧ x.1 = itemD it := by
 obtain ⟨xs, n, rfl, hx, hlen, hxl, hf⟩ := DataW.trod_struct Tryz.underlying27 h
 rw [cells_item] at hlen
 obtain ⟨c9, c3, c4, _⟩ := cells_1
 match cs, hlen, xs, hxl with
 | [v0, v1, v2, v3, v4, v5, v6], _, [x0, x1, x2, x3, x4, x5, x6], _ =>
   have f0 := hf 0 _ rfl
   have f1 := hf 1 _ rfl
   have f2 := hf 2 _ rfl
   have f3 := hf 3 _ rfl
   have f4 := hf 4 _ rfl
   have f5 := hf 5 _ rfl
   have f6 := hf 6 _ rfl
   simp [c9, c3, c4] at f0 f1 f2 f3 f4 f5 f6
   obtain ⟨k, e0, g0, _⟩ := DataW.trod_int Tryz.underlying3 f0
   obtain ⟨s1, e1, g1, _⟩ := DataW.trod_string Tryz.underlying9 f1
   obtain ⟨s2, e2, g2, _⟩ := DataW.trod_string Tryz.underlying9 f2
   obtain ⟨s3, e3, g3, _⟩ := DataW.trod_string Tryz.underlying9 f3
   obtain ⟨s4, e4, g4, _⟩ := DataW.trod_string Tryz.underlying9 f4
   obtain ⟨s5, e5, g5, _⟩ := DataW.trod_string Tryz.underlying9 f5
   obtain ⟨b, e6, g6⟩ := DataW.trod_bool Tryz.underlying4 f6
   simp only [List.cons.injEq, and_true] at e0 e1 e2 e3 e4 e5 e6
   subst e0 e1 e2 e3 e4 e5 e6 g0 g1 g2 g3 g4 g5 g6
   refine ⟨⟨k, s1.data.toList, s2.data.toList, s3.data.toList, s4.data.toList, s5.data.toList, b⟩, by simp [Item.cells], ?_⟩
   rw [hx]
   rfl
theorem weightsAll_mem {P : Program} {e : TypeId} {d : DataW H} {n : Nat} : ∀ {ds : List (DataW H)}, d ∈ ds → n ∈ d.weights P e → n ∈ DataW.weightsAll P e ds
 | [], h, _ => by simp at h
 | a :: r, h, hn => by
   rw [DataW.weightsAll, List.mem_append]
   rcases List.mem_cons.1 h with rfl | h
   · exact .inl hn
   · exact .inr (weightsAll_mem h hn)
theorem item_weights (x : Item) : (itemD (H := H) x).weights Tryz.prog 27 = [x.id.length, x.par.length, x.num.length, x.no.length, x.so.length] := by
 unfold itemD
 simp [DataW.weights, Tryz.underlying27, DataW.weightsEach]
theorem pat_weights (p : Patch) : (patD (H := H) p).weights Tryz.prog 29 = [p.id.length, p.par.length, p.aft.length, p.num.length, p.item.id.length, p.item.par.length, p.item.num.length, p.item.no.length, p.item.so.length, p.fr.length, p.to.length] := by
 unfold patD
 simp [DataW.weights, Tryz.underlying29, DataW.weightsEach, item_weights]
theorem reach_le {n : Nat} (h : n ≤ reachBytes) : n ≤ 140737488355328 := by
 have := reachBytes_lt
 omega
theorem fits_item {x : Item} (h : ∀ n ∈ (itemD (H := H) x).weights Tryz.prog 27, n ≤ reachBytes) : x.Fits := by
 rw [item_weights] at h
 simp only [List.mem_cons, List.not_mem_nil, or_false, forall_eq_or_imp, forall_eq] at h
 obtain ⟨h1, h2, h3, h4, h5⟩ := h
 exact ⟨reach_le h1, reach_le h2, reach_le h3, reach_le h4, reach_le h5⟩
theorem fits_pat {p : Patch} (h : ∀ n ∈ (patD (H := H) p).weights Tryz.prog 29, n ≤ reachBytes) : p.Fits := by
 rw [pat_weights] at h
 simp only [List.mem_cons, List.not_mem_nil, or_false, forall_eq_or_imp, forall_eq] at h
 obtain ⟨h1, h2, h3, h4, h5, h6, h7, h8, h9, h10, h11⟩ := h
 exact ⟨reach_le h1, reach_le h2, reach_le h3, reach_le h4, ⟨reach_le h5, reach_le h6, reach_le h7, reach_le h8, reach_le h9⟩, reach_le h10, reach_le h11⟩
theorem choose_fun {α : Type} [Inhabited α] {n : Nat} {Q : Nat → α → Prop} (h : ∀ i, i < n → ∃ a, Q i a) : ∃ f : Nat → α, ∀ i, i < n → Q i (f i) := by
 refine ⟨fun i => if hi : i < n then Classical.choose (h i hi) else default, fun i hi => ?_⟩
 simp only [dif_pos hi]
 exact Classical.choose_spec (h i hi)
instance : Inhabited Item := ⟨noItem⟩
instance : Inhabited Patch := ⟨⟨0, [], [], [], [], noItem, 0, [], []⟩⟩
theorem range_map_get {α : Type} {n k : Nat} {f : Nat → α} {x : α} (h : ((List.range n).map f)[k]? = some x) : k < n ∧ x = f k := by
 rw [List.getElem?_map] at h
 by_cases hk : k < n
 · rw [List.getElem?_range hk] at h
   simp at h
   exact ⟨hk, h.symm⟩
 · rw [List.getElem?_eq_none (by simpa using hk)] at h
   simp at h
/- a slice of structs that came in, as a list -/
theorem open_list {α : Type} [Inhabited α] {cs : α → List Value} {D : α → DataW H} {t e : TypeId} {s : Nat} (hs : 0 < s) (ht : Tryz.prog.underlying t = some (.slice e)) (he : Tryz.prog.cellsOf e = s)
 (hcl : ∀ x, (cs x).length = s) (ho : ∀ {fuel : Nat} {vs' : List Value} {x : DataW H × List MemPlace}, DataW.trod enc Tryz.prog w base spare held fuel e vs' = some x → ∃ a, vs' = cs a ∧ x.1 = D a)
 {fuel : Nat} {v : Value} {x : DataW H × List MemPlace} (h : DataW.trod enc Tryz.prog w base spare held fuel t [v] = some x) :
 ∃ (l : List α) (A : Option Addr) (c : Nat), v = .slice A l.length c ∧ Sl cs s w A l ∧ l.length ≤ c ∧ c ≤ maxLen ∧ ((l = [] ∧ x.1 = .nil) ∨ ∃ sp, x.1 = .slice (l.map D) sp) := by
 rcases open_slice ht h with ⟨h1, h2⟩ | ⟨a, len, cap, m, n, Dd, Pl, h1, hb, hlc, hcm, hm, hx, hi⟩
 · refine ⟨[], none, 0, by simpa using h1, Sl.nil, Nat.le_refl _, by simp, .inl ⟨rfl, by rw [h2]⟩⟩
 · have hlm : len ≤ m := by rw [hm]; split <;> omega
   rw [he] at hi
   have hex : ∀ i, i < len → ∃ it : α, w.cells? base (a.add (i * s)) s = some (cs it) ∧ Dd i = D it := by
    intro i hil
    obtain ⟨cs', hc, ht'⟩ := hi i (by omega)
    obtain ⟨it, e1, e2⟩ := ho ht'
    exact ⟨it, by rw [← e1]; exact hc, e2⟩
   obtain ⟨f, hf⟩ := choose_fun hex
   refine ⟨(List.range len).map f, some a, cap, by simpa using h1, ?_, by simpa using hlc, hcm, .inr ⟨(List.range (m - len)).map fun j => Dd (len + j), ?_⟩⟩
   · intro hne
     have hpos : 0 < len := by
      cases len with
      | zero => simp at hne
      | succ k => omega
     obtain ⟨b, off, spot⟩ := a
     have h0 := (World.cells?_some (hf 0 hpos).1).2.2 0 hs
     have hv0 : ∃ v0, (cs (f 0))[0]? = some v0 := get_of_lt (by rw [hcl]; exact hs)
     obtain ⟨v0, hv0⟩ := hv0
     rw [hv0] at h0
     have hspot : spot = none := by simpa [Addr.add] using World.cell?_spot h0
     subst hspot
     refine ⟨b, off, rfl, ?_, ?_⟩
     · have := World.block_lt_of_cell? w _ h0
       simpa [Addr.add] using this
     · intro k x hx j v hv
       obtain ⟨hk, rfl⟩ := range_map_get hx
       have hc := (World.cells?_some (hf k hk).1).2.2 j (by have := (List.getElem?_eq_some_iff.1 hv).1; rw [hcl] at this; exact this)
       rw [hv] at hc
       rw [← hc]
       congr 1
       rw [Go.WideShapes.add_plain, Go.WideShapes.add_plain]
   · rw [hx]
     simp only [List.map_map]
     congr 1
     apply List.map_congr_left
     intro i hir
     simp at hir
     simpa using (hf i hir).2
def codeD (l : List Item) (d : DataW H) : Prop := (l = [] ∧ d = .agg [.nil]) ∨ ∃ sp, d = .agg [.slice (l.map itemD) sp]
theorem open_code {b0 : Nat} {v : Value} {d : DataW H} {p : List MemPlace} (hv : Value.okWide Tryz.prog w .any b0 24 v) (h : DataW.Trod enc Tryz.prog w base spare held 24 v d p) :
 ∃ (l : List Item) (A : Option Addr) (c : Nat), v = .agg #[.slice A l.length c] ∧ RdI w A l ∧ l.length ≤ c ∧ l.length ≤ maxLen ∧ codeD l d := by
 obtain ⟨cs, rfl, hsz⟩ := okWide_struct Tryz.underlying24 hv
 obtain ⟨l0⟩ := cs
 rw [cells_code] at hsz
 match l0, hsz with
 | [c0], _ =>
   obtain ⟨fuel, hf⟩ := h
   obtain ⟨xs, n, _, hx, _, hlen, hg⟩ := DataW.trod_struct Tryz.underlying24 hf
   match xs, hlen with
   | [x0], _ =>
     have g0 := hg 0 _ rfl
     obtain ⟨_, _, _, c22⟩ := cells_1
     simp [Value.cells, c22] at g0
     obtain ⟨l, A, c, rfl, hr, hlc, hcm, hd⟩ := open_list (cs := Item.cells) (D := itemD) (s := 7) (by omega) Tryz.underlying22 cells_item (fun x => rfl) open_item g0
     refine ⟨l, A, c, rfl, hr, hlc, by omega, ?_⟩
     simp only [Prod.mk.injEq] at hx
     rcases hd with ⟨h1, h2⟩ | ⟨sp, h2⟩
     · exact .inl ⟨h1, by rw [hx.1, ← h2]; rfl⟩
     · exact .inr ⟨sp, by rw [hx.1, ← h2]; rfl⟩
theorem open_patC {fuel : Nat} {cs : List Value} {x : DataW H × List MemPlace} (h : DataW.trod enc Tryz.prog w base spare held fuel 29 cs = some x) : ∃ pt : Patch, cs = pt.cells ∧ x.1 = patD pt := by
 obtain ⟨xs, n, rfl, hx, hlen, hxl, hf⟩ := DataW.trod_struct Tryz.underlying29 h
 rw [cells_patch] at hlen
 obtain ⟨c9, c3, c4, _⟩ := cells_1
 match cs, hlen, xs, hxl with
 | [v0, v1, v2, v3, v4, v5, v6, v7, v8, v9, v10, v11, v12, v13, v14], _, [x0, x1, x2, x3, x4, x5, x6, x7, x8], _ =>
   have f0 := hf 0 _ rfl
   have f1 := hf 1 _ rfl
   have f2 := hf 2 _ rfl
   have f3 := hf 3 _ rfl
   have f4 := hf 4 _ rfl
   have f5 := hf 5 _ rfl
   have f6 := hf 6 _ rfl
   have f7 := hf 7 _ rfl
   have f8 := hf 8 _ rfl
   simp [c9, c3, cells_item] at f0 f1 f2 f3 f4 f5 f6 f7 f8
   obtain ⟨k, e0, g0, _⟩ := DataW.trod_int Tryz.underlying3 f0
   obtain ⟨s1, e1, g1, _⟩ := DataW.trod_string Tryz.underlying9 f1
   obtain ⟨s2, e2, g2, _⟩ := DataW.trod_string Tryz.underlying9 f2
   obtain ⟨s3, e3, g3, _⟩ := DataW.trod_string Tryz.underlying9 f3
   obtain ⟨s4, e4, g4, _⟩ := DataW.trod_string Tryz.underlying9 f4
   obtain ⟨it, e5, g5⟩ := open_item f5
   obtain ⟨k6, e6, g6, _⟩ := DataW.trod_int Tryz.underlying3 f6
   obtain ⟨s7, e7, g7, _⟩ := DataW.trod_string Tryz.underlying9 f7
   obtain ⟨s8, e8, g8, _⟩ := DataW.trod_string Tryz.underlying9 f8
   simp only [List.cons.injEq, and_true] at e0 e1 e2 e3 e4 e5 e6 e7 e8
   obtain ⟨e50, e51, e52, e53, e54, e55, e56⟩ := e5
   subst e0 e1 e2 e3 e4 e6 e7 e8 g0 g1 g2 g3 g4 g6 g7 g8 e50 e51 e52 e53 e54 e55 e56
   refine ⟨⟨k, s1.data.toList, s2.data.toList, s3.data.toList, s4.data.toList, it, k6, s7.data.toList, s8.data.toList⟩, by simp [Patch.cells], ?_⟩
   rw [hx]
   simp [patD, g5]
theorem open_patch {b0 : Nat} {v : Value} {d : DataW H} {p : List MemPlace} (hv : Value.okWide Tryz.prog w .any b0 29 v) (h : DataW.Trod enc Tryz.prog w base spare held 29 v d p) :
 ∃ pt : Patch, v = pt.agg ∧ d = patD pt := by
 obtain ⟨cs, rfl, hsz⟩ := okWide_struct Tryz.underlying29 hv
 obtain ⟨fuel, hf⟩ := h
 obtain ⟨pt, e1, e2⟩ := open_patC hf
 refine ⟨pt, ?_, e2⟩
 have e3 : cs.toList = pt.cells := e1
 have e4 : cs = pt.cells.toArray := by rw [← e3, Array.toArray_toList]
 rw [e4]
theorem code_fits {ts : List TypeId} {ds : List (DataW H)} (hsz : (DataW.weightsEach Tryz.prog ts ds).all (· ≤ reachBytes) = true) {j : Nat} {d : DataW H} {l : List Item} (ht : ts[j]? = some 24) (hd : ds[j]? = some d) (hc : codeD l d) : ∀ x ∈ l, x.Fits := by
 intro x hx
 rcases hc with ⟨h1, _⟩ | ⟨sp, rfl⟩
 · subst h1; simp at hx
 refine fits_item (H := H) (fun n hn => ?_)
 have := List.all_eq_true.1 hsz n (DataW.weights_mem_each ht hd n ?_)
 · simpa using this
 · simp only [DataW.weights, Tryz.underlying24, DataW.weightsEach, List.map_cons, List.map_nil, Tryz.underlying22, List.append_nil]
   refine List.mem_cons_of_mem _ (List.mem_append_left _ (weightsAll_mem (List.mem_map_of_mem hx) hn))
theorem patch_fits {ts : List TypeId} {ds : List (DataW H)} (hsz : (DataW.weightsEach Tryz.prog ts ds).all (· ≤ reachBytes) = true) {j : Nat} {p : Patch} (ht : ts[j]? = some 29) (hd : ds[j]? = some (patD p)) : p.Fits := by
 refine fits_pat (H := H) (fun n hn => ?_)
 have := List.all_eq_true.1 hsz n (DataW.weights_mem_each ht hd n hn)
 simpa using this
end
end Go.Proofs.YtfolcjkednmkoaaGreat
