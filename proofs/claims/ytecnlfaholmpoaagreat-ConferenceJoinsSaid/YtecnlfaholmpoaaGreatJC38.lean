/- What came in as data: a code, a patch. What came in as data: lists of patches, of small numbers; the cell of MaxLen. What came in as data: a list of clauses. pandectlaw38.turned: a list of clauses, in the opposite order. Clauses that all commute, in the opposite order: plain words. -/
import Derived.Test.YtecnlfaholmpoaaGreatJC17
import Derived.ProofKit
import Derived.HandedShaped
import Derived.Deep.Slices
import Derived.Deep.Fields
import Derived.ChangeSame
import Derived.Shelf.Vars
import Derived.ChangeSlices
import Derived.Test.YtecnlfaholmpoaaGreatJC27
import Derived.Test.YtecnlfaholmpoaaGreatJC22
import Derived.Test.YtecnlfaholmpoaaGreatJC37
set_option linter.unusedVariables false
set_option linter.unusedSimpArgs false
set_option maxRecDepth 100000
namespace Go.Proofs.YtecnlfaholmpoaaGreat
open Go.RowKit Go.ChangeShapes Go.WideShapes Go.Deep
theorem cells_item : Tryz.prog.cellsOf 47 = 7 := by kernel_rfl
theorem cells_patch : Tryz.prog.cellsOf 49 = 15 := by kernel_rfl
theorem cells_code : Tryz.prog.cellsOf 24 = 1 := by kernel_rfl
theorem cells_1 : Tryz.prog.cellsOf 9 = 1 ∧ Tryz.prog.cellsOf 3 = 1 ∧ Tryz.prog.cellsOf 4 = 1 ∧ Tryz.prog.cellsOf 22 = 1 := ⟨by kernel_rfl, by kernel_rfl, by kernel_rfl, by kernel_rfl⟩
section
variable {H : Type} {enc : TypeId × Value → H} {w : World} {base : Nat} {spare : Nat → Bool} {held : Bool}
def itemD (x : Item) : DataW H := .agg [.lit (.int .i64 x.kind), .lit (.string x.id), .lit (.string x.par), .lit (.string x.num), .lit (.string x.no), .lit (.string x.so), .lit (.bool x.gone)]
def patD (p : Patch) : DataW H := .agg [.lit (.int .i64 p.kind), .lit (.string p.id), .lit (.string p.par), .lit (.string p.aft), .lit (.string p.num), itemD p.item, .lit (.int .i64 p.lang), .lit (.string p.fr), .lit (.string p.to)]
theorem open_item {fuel : Nat} {cs : List Value} {x : DataW H × List MemPlace} (h : DataW.trod enc Tryz.prog w base spare held fuel 47 cs = some x) : ∃ it : Item, cs = it.cells ∧ x.1 = itemD it := by
 obtain ⟨xs, n, rfl, hx, hlen, hxl, hf⟩ := DataW.trod_struct Tryz.underlying47 h
 rw [cells_item] at hlen
 obtain ⟨c9, c3, c4, _⟩ := cells_1
 match cs, hlen, xs, hxl with
 | [v0, v1, v2, v3, v4, v5, v6], _, [x0, x1, x2, x3, x4, x5, x6], _ =>
   have f0 := hf 0 _ rfl
   have f1 := hf 1 _ rfl
   have f2 := hf 2 _ rfl
   have f3 := hf 3 _ rfl
   have f4 := hf 4 _ rfl
   have f5 := hf 5 _ rfl
   have f6 := hf 6 _ rfl
   simp [c9, c3, c4] at f0 f1 f2 f3 f4 f5 f6
   obtain ⟨k, e0, g0, _⟩ := DataW.trod_int Tryz.underlying3 f0
   obtain ⟨s1, e1, g1, _⟩ := DataW.trod_string Tryz.underlying9 f1
   obtain ⟨s2, e2, g2, _⟩ := DataW.trod_string Tryz.underlying9 f2
   obtain ⟨s3, e3, g3, _⟩ := DataW.trod_string Tryz.underlying9 f3
   obtain ⟨s4, e4, g4, _⟩ := DataW.trod_string Tryz.underlying9 f4
   obtain ⟨s5, e5, g5, _⟩ := DataW.trod_string Tryz.underlying9 f5
   obtain ⟨b, e6, g6⟩ := DataW.trod_bool Tryz.underlying4 f6
   simp only [List.cons.injEq, and_true] at e0 e1 e2 e3 e4 e5 e6
   subst e0 e1 e2 e3 e4 e5 e6 g0 g1 g2 g3 g4 g5 g6
   refine ⟨⟨k, s1.data.toList, s2.data.toList, s3.data.toList, s4.data.toList, s5.data.toList, b⟩, by simp [Item.cells], ?_⟩
   rw [hx]
   rfl
theorem weightsAll_mem {P : Program} {e : TypeId} {d : DataW H} {n : Nat} : ∀ {ds : List (DataW H)}, d ∈ ds → n ∈ d.weights P e → n ∈ DataW.weightsAll P e ds
 | [], h, _ => by simp at h
 | a :: r, h, hn => by
   rw [DataW.weightsAll, List.mem_append]
   rcases List.mem_cons.1 h with rfl | h
   · exact .inl hn
   · exact .inr (weightsAll_mem h hn)
theorem item_weights (x : Item) : (itemD (H := H) x).weights Tryz.prog 47 = [x.id.length, x.par.length, x.num.length, x.no.length, x.so.length] := by
 unfold itemD
 simp [DataW.weights, Tryz.underlying47, DataW.weightsEach]
theorem pat_weights (p : Patch) : (patD (H := H) p).weights Tryz.prog 49 = [p.id.length, p.par.length, p.aft.length, p.num.length, p.item.id.length, p.item.par.length, p.item.num.length, p.item.no.length, p.item.so.length, p.fr.length, p.to.length] := by
 unfold patD
 simp [DataW.weights, Tryz.underlying49, DataW.weightsEach, item_weights]
theorem reach_le {n : Nat} (h : n ≤ reachBytes) : n ≤ 140737488355328 := by
 have := reachBytes_lt
 omega
theorem fits_item {x : Item} (h : ∀ n ∈ (itemD (H := H) x).weights Tryz.prog 47, n ≤ reachBytes) : x.Fits := by
 rw [item_weights] at h
 simp only [List.mem_cons, List.not_mem_nil, or_false, forall_eq_or_imp, forall_eq] at h
 obtain ⟨h1, h2, h3, h4, h5⟩ := h
 exact ⟨reach_le h1, reach_le h2, reach_le h3, reach_le h4, reach_le h5⟩
theorem fits_pat {p : Patch} (h : ∀ n ∈ (patD (H := H) p).weights Tryz.prog 49, n ≤ reachBytes) : p.Fits := by
 rw [pat_weights] at h
 simp only [List.mem_cons, List.not_mem_nil, or_false, forall_eq_or_imp, forall_eq] at h
 obtain ⟨h1, h2, h3, h4, h5, h6, h7, h8, h9, h10, h11⟩ := h
 exact ⟨reach_le h1, reach_le h2, reach_le h3, reach_le h4, ⟨reach_le h5, reach_le h6, reach_le h7, reach_le h8, reach_le h9⟩, reach_le h10, reach_le h11⟩
theorem choose_fun {α : Type} [Inhabited α] {n : Nat} {Q : Nat → α → Prop} (h : ∀ i, i < n → ∃ a, Q i a) : ∃ f : Nat → α, ∀ i, i < n → Q i (f i) := by
 refine ⟨fun i => if hi : i < n then Classical.choose (h i hi) else default, fun i hi => ?_⟩
 simp only [dif_pos hi]
 exact Classical.choose_spec (h i hi)
instance : Inhabited Item := ⟨noItem⟩
instance : Inhabited Patch := ⟨⟨0, [], [], [], [], noItem, 0, [], []⟩⟩
theorem range_map_get {α : Type} {n k : Nat} {f : Nat → α} {x : α} (h : ((List.range n).map f)[k]? = some x) : k < n ∧ x = f k := by
 rw [List.getElem?_map] at h
 by_cases hk : k < n
 · rw [List.getElem?_range hk] at h
   simp at h
   exact ⟨hk, h.symm⟩
 · rw [List.getElem?_eq_none (by simpa using hk)] at h
   simp at h
/- a slice of structs that came in, as a list -/
theorem open_list {α : Type} [Inhabited α] {cs : α → List Value} {D : α → DataW H} {t e : TypeId} {s : Nat} (hs : 0 < s) (ht : Tryz.prog.underlying t = some (.slice e)) (he : Tryz.prog.cellsOf e = s)
 (hcl : ∀ x, (cs x).length = s) (ho : ∀ {fuel : Nat} {vs' : List Value} {x : DataW H × List MemPlace}, DataW.trod enc Tryz.prog w base spare held fuel e vs' = some x → ∃ a, vs' = cs a ∧ x.1 = D a)
 {fuel : Nat} {v : Value} {x : DataW H × List MemPlace} (h : DataW.trod enc Tryz.prog w base spare held fuel t [v] = some x) :
 ∃ (l : List α) (A : Option Addr) (c : Nat), v = .slice A l.length c ∧ Sl cs s w A l ∧ l.length ≤ c ∧ c ≤ maxLen ∧ ((l = [] ∧ x.1 = .nil) ∨ ∃ sp, x.1 = .slice (l.map D) sp) := by
 rcases open_slice ht h with ⟨h1, h2⟩ | ⟨a, len, cap, m, n, Dd, Pl, h1, hb, hlc, hcm, hm, hx, hi⟩
 · refine ⟨[], none, 0, by simpa using h1, Sl.nil, Nat.le_refl _, by simp, .inl ⟨rfl, by rw [h2]⟩⟩
 · have hlm : len ≤ m := by rw [hm]; split <;> omega
   rw [he] at hi
   have hex : ∀ i, i < len → ∃ it : α, w.cells? base (a.add (i * s)) s = some (cs it) ∧ Dd i = D it := by
    intro i hil
    obtain ⟨cs', hc, ht'⟩ := hi i (by omega)
    obtain ⟨it, e1, e2⟩ := ho ht'
    exact ⟨it, by rw [← e1]; exact hc, e2⟩
   obtain ⟨f, hf⟩ := choose_fun hex
   refine ⟨(List.range len).map f, some a, cap, by simpa using h1, ?_, by simpa using hlc, hcm, .inr ⟨(List.range (m - len)).map fun j => Dd (len + j), ?_⟩⟩
   · intro hne
     have hpos : 0 < len := by
      cases len with
      | zero => simp at hne
      | succ k => omega
     obtain ⟨b, off, spot⟩ := a
     have h0 := (World.cells?_some (hf 0 hpos).1).2.2 0 hs
     have hv0 : ∃ v0, (cs (f 0))[0]? = some v0 := get_of_lt (by rw [hcl]; exact hs)
     obtain ⟨v0, hv0⟩ := hv0
     rw [hv0] at h0
     have hspot : spot = none := by simpa [Addr.add] using World.cell?_spot h0
     subst hspot
     refine ⟨b, off, rfl, ?_, ?_⟩
     · have := World.block_lt_of_cell? w _ h0
       simpa [Addr.add] using this
     · intro k x hx j v hv
       obtain ⟨hk, rfl⟩ := range_map_get hx
       have hc := (World.cells?_some (hf k hk).1).2.2 j (by have := (List.getElem?_eq_some_iff.1 hv).1; rw [hcl] at this; exact this)
       rw [hv] at hc
       rw [← hc]
       congr 1
       rw [Go.WideShapes.add_plain, Go.WideShapes.add_plain]
   · rw [hx]
     simp only [List.map_map]
     congr 1
     apply List.map_congr_left
     intro i hir
     simp at hir
     simpa using (hf i hir).2
def codeD (l : List Item) (d : DataW H) : Prop := (l = [] ∧ d = .agg [.nil]) ∨ ∃ sp, d = .agg [.slice (l.map itemD) sp]
theorem open_code {b0 : Nat} {v : Value} {d : DataW H} {p : List MemPlace} (hv : Value.okWide Tryz.prog w .any b0 24 v) (h : DataW.Trod enc Tryz.prog w base spare held 24 v d p) :
 ∃ (l : List Item) (A : Option Addr) (c : Nat), v = .agg #[.slice A l.length c] ∧ RdI w A l ∧ l.length ≤ c ∧ l.length ≤ maxLen ∧ codeD l d := by
 obtain ⟨cs, rfl, hsz⟩ := okWide_struct Tryz.underlying24 hv
 obtain ⟨l0⟩ := cs
 rw [cells_code] at hsz
 match l0, hsz with
 | [c0], _ =>
   obtain ⟨fuel, hf⟩ := h
   obtain ⟨xs, n, _, hx, _, hlen, hg⟩ := DataW.trod_struct Tryz.underlying24 hf
   match xs, hlen with
   | [x0], _ =>
     have g0 := hg 0 _ rfl
     obtain ⟨_, _, _, c22⟩ := cells_1
     simp [Value.cells, c22] at g0
     obtain ⟨l, A, c, rfl, hr, hlc, hcm, hd⟩ := open_list (cs := Item.cells) (D := itemD) (s := 7) (by omega) Tryz.underlying22 cells_item (fun x => rfl) open_item g0
     refine ⟨l, A, c, rfl, hr, hlc, by omega, ?_⟩
     simp only [Prod.mk.injEq] at hx
     rcases hd with ⟨h1, h2⟩ | ⟨sp, h2⟩
     · exact .inl ⟨h1, by rw [hx.1, ← h2]; rfl⟩
     · exact .inr ⟨sp, by rw [hx.1, ← h2]; rfl⟩
theorem open_patC {fuel : Nat} {cs : List Value} {x : DataW H × List MemPlace} (h : DataW.trod enc Tryz.prog w base spare held fuel 49 cs = some x) : ∃ pt : Patch, cs = pt.cells ∧ x.1 = patD pt := by
 obtain ⟨xs, n, rfl, hx, hlen, hxl, hf⟩ := DataW.trod_struct Tryz.underlying49 h
 rw [cells_patch] at hlen
 obtain ⟨c9, c3, c4, _⟩ := cells_1
 match cs, hlen, xs, hxl with
 | [v0, v1, v2, v3, v4, v5, v6, v7, v8, v9, v10, v11, v12, v13, v14], _, [x0, x1, x2, x3, x4, x5, x6, x7, x8], _ =>
   have f0 := hf 0 _ rfl
   have f1 := hf 1 _ rfl
   have f2 := hf 2 _ rfl
   have f3 := hf 3 _ rfl
   have f4 := hf 4 _ rfl
   have f5 := hf 5 _ rfl
   have f6 := hf 6 _ rfl
   have f7 := hf 7 _ rfl
   have f8 := hf 8 _ rfl
   simp [c9, c3, cells_item] at f0 f1 f2 f3 f4 f5 f6 f7 f8
   obtain ⟨k, e0, g0, _⟩ := DataW.trod_int Tryz.underlying3 f0
   obtain ⟨s1, e1, g1, _⟩ := DataW.trod_string Tryz.underlying9 f1
   obtain ⟨s2, e2, g2, _⟩ := DataW.trod_string Tryz.underlying9 f2
   obtain ⟨s3, e3, g3, _⟩ := DataW.trod_string Tryz.underlying9 f3
   obtain ⟨s4, e4, g4, _⟩ := DataW.trod_string Tryz.underlying9 f4
   obtain ⟨it, e5, g5⟩ := open_item f5
   obtain ⟨k6, e6, g6, _⟩ := DataW.trod_int Tryz.underlying3 f6
   obtain ⟨s7, e7, g7, _⟩ := DataW.trod_string Tryz.underlying9 f7
   obtain ⟨s8, e8, g8, _⟩ := DataW.trod_string Tryz.underlying9 f8
   simp only [List.cons.injEq, and_true] at e0 e1 e2 e3 e4 e5 e6 e7 e8
   obtain ⟨e50, e51, e52, e53, e54, e55, e56⟩ := e5
   subst e0 e1 e2 e3 e4 e6 e7 e8 g0 g1 g2 g3 g4 g6 g7 g8 e50 e51 e52 e53 e54 e55 e56
   refine ⟨⟨k, s1.data.toList, s2.data.toList, s3.data.toList, s4.data.toList, it, k6, s7.data.toList, s8.data.toList⟩, by simp [Patch.cells], ?_⟩
   rw [hx]
   simp [patD, g5]
theorem code_fits {ts : List TypeId} {ds : List (DataW H)} (hsz : (DataW.weightsEach Tryz.prog ts ds).all (· ≤ reachBytes) = true) {j : Nat} {d : DataW H} {l : List Item} (ht : ts[j]? = some 24) (hd : ds[j]? = some d) (hc : codeD l d) : ∀ x ∈ l, x.Fits := by
 intro x hx
 rcases hc with ⟨h1, _⟩ | ⟨sp, rfl⟩
 · subst h1; simp at hx
 refine fits_item (H := H) (fun n hn => ?_)
 have := List.all_eq_true.1 hsz n (DataW.weights_mem_each ht hd n ?_)
 · simpa using this
 · simp only [DataW.weights, Tryz.underlying24, DataW.weightsEach, List.map_cons, List.map_nil, Tryz.underlying22, List.append_nil]
   refine List.mem_cons_of_mem _ (List.mem_append_left _ (weightsAll_mem (List.mem_map_of_mem hx) hn))
end
end Go.Proofs.YtecnlfaholmpoaaGreat
namespace Go.Proofs.YtecnlfaholmpoaaGreat
open Go.ChangeShapes Go.WideShapes Go.ChangeAt Go.RowKit
theorem Tryz.own : ownKnob Tryz.prog.godebug = none := by kernel_rfl
theorem Tryz.laidOut : laidOutB Tryz.prog = true := by kernel_rfl
theorem maxLen_cell (W : World) (h : W.ShapedOpen Tryz.prog) : ∃ m, W.cell? ⟨0, 0, none⟩ = some (.int .i64 m) :=
 cell_of_shapedOpen_int (t := 3) (zero := #[.int .i64 0]) h (of_decide_eq_true (by kernel_rfl)) (by kernel_rfl) rfl (by kernel_rfl) (by kernel_rfl) Tryz.underlying3
section
variable {H : Type} {enc : TypeId × Value → H} {w : World} {base : Nat} {spare : Nat → Bool} {held : Bool}
end
end Go.Proofs.YtecnlfaholmpoaaGreat
set_option maxRecDepth 100000
namespace Go.Proofs.YtecnlfaholmpoaaGreat
open Go.RowKit Go.ChangeShapes Go.WideShapes Go.Deep
theorem cells_stamp : Tryz.prog.cellsOf 45 = 2 := by kernel_rfl
theorem cells_clause : Tryz.prog.cellsOf 51 = 20 := by kernel_rfl
section
variable {H : Type} {enc : TypeId × Value → H} {w : World} {base : Nat} {spare : Nat → Bool} {held : Bool}
def stampD (s : Stamp) : DataW H := .agg [.lit (.int .i64 s.seat), .lit (.int .i64 s.count)]
def claD (c : Clause) : DataW H := .agg [stampD c.id, stampD c.after, patD c.patch, .lit (.bool c.gone)]
theorem open_stamp {fuel : Nat} {cs : List Value} {x : DataW H × List MemPlace} (h : DataW.trod enc Tryz.prog w base spare held fuel 45 cs = some x) : ∃ s : Stamp, cs = [.int .i64 s.seat, .int .i64 s.count] ∧ x.1 = stampD s := by
 obtain ⟨xs, n, rfl, hx, hlen, hxl, hf⟩ := DataW.trod_struct Tryz.underlying45 h
 rw [cells_stamp] at hlen
 obtain ⟨_, c3, _, _⟩ := cells_1
 match cs, hlen, xs, hxl with
 | [v0, v1], _, [x0, x1], _ =>
   have f0 := hf 0 _ rfl
   have f1 := hf 1 _ rfl
   simp [c3] at f0 f1
   obtain ⟨k, e0, g0, _⟩ := DataW.trod_int Tryz.underlying3 f0
   obtain ⟨k2, e1, g1, _⟩ := DataW.trod_int Tryz.underlying3 f1
   simp only [List.cons.injEq, and_true] at e0 e1
   subst e0 e1 g0 g1
   refine ⟨⟨k, k2⟩, rfl, ?_⟩
   rw [hx]
   rfl
theorem open_clauseC {fuel : Nat} {cs : List Value} {x : DataW H × List MemPlace} (h : DataW.trod enc Tryz.prog w base spare held fuel 51 cs = some x) : ∃ c : Clause, cs = c.cells ∧ x.1 = claD c := by
 obtain ⟨xs, n, rfl, hx, hlen, hxl, hf⟩ := DataW.trod_struct Tryz.underlying51 h
 rw [cells_clause] at hlen
 obtain ⟨c9, c3, c4, _⟩ := cells_1
 match cs, hlen, xs, hxl with
 | [v0, v1, v2, v3, v4, v5, v6, v7, v8, v9, v10, v11, v12, v13, v14, v15, v16, v17, v18, v19], _, [x0, x1, x2, x3], _ =>
   have f0 := hf 0 _ rfl
   have f1 := hf 1 _ rfl
   have f2 := hf 2 _ rfl
   have f3 := hf 3 _ rfl
   simp [c4, cells_stamp, cells_patch] at f0 f1 f2 f3
   obtain ⟨s0, e0, g0⟩ := open_stamp f0
   obtain ⟨s1, e1, g1⟩ := open_stamp f1
   obtain ⟨pt, e2, g2⟩ := open_patC f2
   obtain ⟨b, e3, g3⟩ := DataW.trod_bool Tryz.underlying4 f3
   simp only [List.cons.injEq, and_true] at e0 e1 e2 e3
   obtain ⟨e00, e01⟩ := e0
   obtain ⟨e10, e11⟩ := e1
   obtain ⟨e20, e21, e22, e23, e24, e25, e26, e27, e28, e29, e2a, e2b, e2c, e2d, e2e⟩ := e2
   subst e00 e01 e10 e11 e20 e21 e22 e23 e24 e25 e26 e27 e28 e29 e2a e2b e2c e2d e2e e3
   refine ⟨⟨s0, s1, pt, b⟩, rfl, ?_⟩
   rw [hx]
   simp [claD, g0, g1, g2, g3]
theorem cla_weights (c : Clause) : (claD (H := H) c).weights Tryz.prog 51 = (patD (H := H) c.patch).weights Tryz.prog 49 := by
 unfold claD stampD
 simp [DataW.weights, Tryz.underlying51, Tryz.underlying45, DataW.weightsEach]
theorem open_clas {v : Value} {b0 : Nat} {d : DataW H} {p : List MemPlace} (hv : Value.okWide Tryz.prog w .any b0 25 v) (h : DataW.Trod enc Tryz.prog w base spare held 25 v d p) :
 ∃ (l : List Clause) (A : Option Addr) (c : Nat), v = .slice A l.length c ∧ RdC w A l ∧ l.length ≤ c ∧ c ≤ maxLen ∧ ((l = [] ∧ d = .nil) ∨ ∃ sp, d = .slice (l.map claD) sp) := by
 obtain ⟨a, n, m, rfl⟩ := okWide_slice Tryz.underlying25 hv
 obtain ⟨fuel, hf⟩ := h
 exact open_list (cs := Clause.cells) (D := claD) (s := 20) (by omega) Tryz.underlying25 cells_clause (fun x => rfl) open_clauseC hf
theorem clas_fits {ts : List TypeId} {ds : List (DataW H)} (hsz : (DataW.weightsEach Tryz.prog ts ds).all (· ≤ reachBytes) = true) {j : Nat} {d : DataW H} {l : List Clause} (ht : ts[j]? = some 25) (hd : ds[j]? = some d) (hc : (l = [] ∧ d = .nil) ∨ ∃ sp, d = .slice (l.map claD) sp) : ∀ x ∈ l, x.patch.Fits := by
 intro x hx
 rcases hc with ⟨h1, _⟩ | ⟨sp, rfl⟩
 · subst h1; simp at hx
 refine fits_pat (H := H) (fun n hn => ?_)
 have := List.all_eq_true.1 hsz n (DataW.weights_mem_each ht hd n ?_)
 · simpa using this
 · simp only [DataW.weights, Tryz.underlying25]
   refine List.mem_cons_of_mem _ (List.mem_append_left _ (weightsAll_mem (List.mem_map_of_mem hx) ?_))
   rw [cla_weights]
   exact hn
end
end Go.Proofs.YtecnlfaholmpoaaGreat
set_option maxRecDepth 20000
set_option maxHeartbeats 2000000
namespace Go.Proofs.YtecnlfaholmpoaaGreat
open Go.RowKit
theorem drop_rev {α : Type} {l : List α} {k : Nat} {x : α} (hx : l[k]? = some x) : (l.drop k).reverse = (l.drop (k + 1)).reverse ++ [x] := by
 obtain ⟨hk, rfl⟩ := List.getElem?_eq_some_iff.1 hx
 rw [List.drop_eq_getElem_cons hk, List.reverse_cons]
theorem turned_any (l : List Clause) (A : Option Addr) (c : Nat) (w : World) (hr : RdC w A l) (hl : l.length ≤ 1000) :
 Calls Tryz.prog 23 #[.slice A l.length c] w fun e w' => ∃ v, e = .returned v ∧ OwnCs w' w.heap.size v l.reverse ∧ Below w.heap.size w w' := by
 have HR := Lib.hid hr; clear hr
 go_enter Tryz.func23, Tryz.ntmps23
 go_wp2_with fail
 go_loopw [3, 4] (fun v i wr => ∃ (k : Nat) (z : Int), k ≤ l.length ∧ i = .int .i64 z ∧ z = k - 1 ∧ OwnCs wr w.heap.size v ((l.drop k).reverse) ∧ Below w.heap.size w wr) (fun _ i _ => (intOf i + 1).toNat)
 case atStart => exact ⟨l.length, _, Nat.le_refl _, rfl, by go_num, by rw [List.drop_length]; exact OwnCs.nil _ _, Below.refl _ _⟩
 case round =>
  obtain ⟨k, z, hk, rfl, hz, ho, hb⟩ := hrel
  have hlen : ((l.drop k).reverse).length ≤ 1000 := by simp; omega
  have HO := Lib.hid ho; clear ho
  have HB := Lib.hid hb; clear hb
  cases k with
  | succ n =>
    obtain ⟨x, hx⟩ := get_of_lt (show n < l.length by omega)
    have hzn : z = (n : Int) := by omega
    subst hzn
    have hi1 : (0 : Int) ≤ n := by omega
    have hi2 : (n : Int) < l.length := by omega
    obtain ⟨b, o, rfl, hbl, q1, q2, c0, c1, c2⟩ := (HR.out.below HB.out).at hx
    have HMT := Lib.hid (drop_rev hx)
    have hb1 : Below wr.heap.size wr (wr.alloc (.cells (claCs x) 51)) := (Below.refl _ _).alloc (Nat.le_refl _) _
    have HB1 := Lib.hid hb1; clear hb1
    clear hx q2 c0 c1 hz
    obtain ⟨xi, xa, xp, xg⟩ := x
    go_wp2_with (at_builtin; refine wpList_append_cla1 rfl (.tmp 12) (.tmp 17) rfl rfl w.heap.size u3 ((l.drop (n + 1)).reverse) ⟨xi, xa, xp, xg⟩ wr.heap.size 1 rfl rfl (HO.out.below HB1.out) (heap_alloc_new _ _) (by omega) (Nat.le_trans HB.out.size HB1.out.size) ?_; intro v' w3 ho3 hg3 hat3; have hb3 := (HB.out.trans (HB1.out.mono HB.out.size)).grown hg3 (Nat.le_trans HB.out.size HB1.out.size) HO.out.ge; have HO3 := Lib.hid ho3; clear ho3; have HB3 := Lib.hid hb3; clear hb3 hg3 hat3)
    refine ⟨⟨n, (n : Int) - 1, by omega, ?_, rfl, by rw [HMT.out]; exact HO3.out, HB3.out⟩, ?_⟩
    · go_num
    · simp [intOf]
  | zero =>
    have hi1 : ¬ (0 : Int) ≤ z := by omega
    clear hz
    go_wp2_with fail
    go_ret
    exact ⟨_, rfl, HO.out, HB.out⟩
end Go.Proofs.YtecnlfaholmpoaaGreat
namespace Go.Proofs.YtecnlfaholmpoaaGreat
theorem run_all {l d : List Item} {ps : List Patch} {i : Nat} (h : Run l ps d) : allF l ps i = (d, -1, 0) := by
 induction ps generalizing l i with
 | nil => rw [Run] at h; rw [allF, h]
 | cons p r ih => rw [allF, if_pos h.1, ih h.2]
theorem res_of_run : ∀ (cs : List Clause) {s : ResS} {d : List Item}, Run s.1 (cs.map (·.patch)) d → cs.foldl resStep s = (d, s.2.1 ++ cs.map (·.patch), s.2.2)
 | [], (a, b, c), d, h => by simp [Run] at h; simp [h]
 | x :: r, (a, b, c), d, h => by
   rw [List.map_cons, Run] at h
   rw [List.foldl_cons]
   have e : resStep (a, b, c) x = ((applyF a x.patch).1, b ++ [x.patch], c) := by unfold resStep; rw [if_pos h.1]
   rw [e, res_of_run r (s := ((applyF a x.patch).1, b ++ [x.patch], c)) h.2]
   simp
theorem run_of_res : ∀ (cs : List Clause) {s : ResS}, (cs.foldl resStep s).2.2 = s.2.2 → Run s.1 (cs.map (·.patch)) (cs.foldl resStep s).1
 | [], s, _ => by simp [Run]
 | x :: r, (a, b, c), h => by
   rw [List.foldl_cons] at h ⊢
   rw [List.map_cons, Run]
   by_cases hc : (applyF a x.patch).2 = 0
   · have e : resStep (a, b, c) x = ((applyF a x.patch).1, b ++ [x.patch], c) := by unfold resStep; rw [if_pos hc]
     rw [e] at h ⊢
     exact ⟨hc, run_of_res r (s := ((applyF a x.patch).1, b ++ [x.patch], c)) h⟩
   · have e : resStep (a, b, c) x = (a, b, c ++ [x.id]) := by unfold resStep; rw [if_neg hc]
     rw [e] at h
     obtain ⟨_, t, ht⟩ := res_fold (a, b, c ++ [x.id]) r
     rw [ht] at h
     simp at h
def Commutes (O : List Clause) (i : Nat) : Prop := ∀ a b x y, b < a → a < i → O[a]? = some x → O[b]? = some y → commF x.patch y.patch = true
theorem Commutes.pairs {O : List Clause} (h : Commutes O O.length) : (O.map (·.patch)).Pairwise (fun a b => commF a b = true) := by
 rw [List.pairwise_iff_getElem]
 intro i j hi hj hij
 simp at hi hj
 have := h j i O[j] O[i] hij hj (List.getElem?_eq_getElem hj) (List.getElem?_eq_getElem hi)
 rw [commF_symm] at this
 simpa using this
theorem agr_law {l : List Item} {O : List Clause} (hw : walkB l = true) (hc : Commutes O O.length) (hl : (resS l O).2.2 = []) :
 ∃ d, walkB d = true ∧ (resS l O.reverse).2.2 = [] ∧ (resS l O).2.1 = O.map (·.patch) ∧ (resS l O.reverse).2.1 = O.reverse.map (·.patch) ∧ allR l (resS l O).2.1 = (d, -1, 0) ∧ allR l (resS l O.reverse).2.1 = (d, -1, 0) := by
 have h1 := run_of_res O (s := (l, [], [])) hl
 generalize (O.foldl resStep (l, [], [])).1 = d at h1
 have h2 := run_rev _ hw hc.pairs h1
 rw [← List.map_reverse] at h2
 have e1 : resS l O = (d, O.map (·.patch), []) := res_of_run O (s := (l, [], [])) h1
 have e2 : resS l O.reverse = (d, O.reverse.map (·.patch), []) := res_of_run O.reverse (s := (l, [], [])) h2
 refine ⟨d, run_good hw h1, ?_, ?_, ?_, ?_, ?_⟩
 · rw [e2]
 · rw [e1]
 · rw [e2]
 · rw [e1]; unfold allR; rw [if_pos hw]; exact run_all h1
 · rw [e2]; unfold allR; rw [if_pos hw]; exact run_all h2
theorem openL_rev (cs : List Clause) : openL cs.reverse = (openL cs).reverse := by
 unfold openL
 rw [List.filter_reverse]
end Go.Proofs.YtecnlfaholmpoaaGreat
