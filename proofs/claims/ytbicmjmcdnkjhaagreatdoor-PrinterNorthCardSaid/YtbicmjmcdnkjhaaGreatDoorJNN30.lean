/- A provision that came in as data. -/
import Derived.Test.YtbicmjmcdnkjhaaGreatDoorJNN7
import Derived.ProofKit
import Derived.HandedShaped
import Derived.Deep.Slices
import Derived.Deep.Fields
import Derived.ChangeSame
import Derived.Shelf.Vars
set_option linter.unusedVariables false
set_option linter.unusedSimpArgs false
set_option maxRecDepth 100000
set_option maxHeartbeats 1000000
namespace Go.Proofs.YtbicmjmcdnkjhaaGreatDoor
open Go.RowKit Go.ChangeShapes Go.WideShapes Go.Deep
theorem cells_form : Tryz.prog.cellsOf 24 = 5 := by kernel_rfl
theorem cells_start : Tryz.prog.cellsOf 28 = 4 := by kernel_rfl
theorem cells_prov : Tryz.prog.cellsOf 30 = 23 := by kernel_rfl
theorem cells_ones : Tryz.prog.cellsOf 9 = 1 ∧ Tryz.prog.cellsOf 3 = 1 ∧ Tryz.prog.cellsOf 22 = 1 ∧ Tryz.prog.cellsOf 26 = 1 ∧ Tryz.prog.cellsOf 25 = 1 := ⟨by kernel_rfl, by kernel_rfl, by kernel_rfl, by kernel_rfl, by kernel_rfl⟩
section
variable {H : Type} {enc : TypeId × Value → H} {w : World} {base : Nat} {spare : Nat → Bool} {held : Bool}
theorem str_etaX (s : ByteArray) : Value.string s = vs s.data.toList := by
 show Value.string s = Value.string ⟨s.data.toList.toArray⟩
 rw [Array.toArray_toList]
theorem choose_lt' {α : Type} [Inhabited α] {n : Nat} {Q : Nat → α → Prop} (h : ∀ i, i < n → ∃ a, Q i a) : ∃ f : Nat → α, ∀ i, i < n → Q i (f i) := by
 refine ⟨fun i => if hi : i < n then Classical.choose (h i hi) else default, fun i hi => ?_⟩
 simp only [dif_pos hi]
 exact Classical.choose_spec (h i hi)
instance : Inhabited TreeI := ⟨.mk 0 [] 0 0 []⟩
theorem range_get {α : Type} {n k : Nat} {f : Nat → α} {x : α} (h : ((List.range n).map f)[k]? = some x) : k < n ∧ x = f k := by
 rw [List.getElem?_map] at h
 by_cases hk : k < n
 · rw [List.getElem?_range hk] at h
   simp at h
   exact ⟨hk, h.symm⟩
 · rw [List.getElem?_eq_none (by simpa using hk)] at h
   simp at h
/- kids that came in -/
theorem kids_open {fm : Bool} {t e : TypeId} (ht : Tryz.prog.underlying t = some (.slice e)) (he : Tryz.prog.cellsOf e = tszX fm) {fuel : Nat}
 (ho : ∀ {n : Nat} {cs : List Value} {x : DataW H × List MemPlace}, n < fuel → DataW.trod enc Tryz.prog w base spare held n e cs = some x → ∃ a, RdX fm w cs a)
 {v : Value} {x : DataW H × List MemPlace} (h : DataW.trod enc Tryz.prog w base spare held fuel t [v] = some x) :
 ∃ (l : List TreeI) (A : Option Addr) (c : Nat), v = .slice A l.length c ∧ l.length ≤ c ∧ (l = [] ∨ ∃ b o, A = some ⟨b, o, none⟩ ∧ b < w.heap.size ∧ RdXs fm w b o l) := by
 have hs : 0 < tszX fm := by cases fm <;> decide
 rcases DataW.trod_slice ht h with ⟨h1, h2⟩ | ⟨a, len, cap, elems, rest, n, hfu, h1, -, hb, hlc, hcm, hel, hi, -, -⟩
 · exact ⟨[], none, 0, by simpa using h1, Nat.le_refl _, .inl rfl⟩
 · rw [he] at hi
   have hex : ∀ i, i < len → ∃ it : TreeI, ∃ cs, w.cells? base (a.add (i * tszX fm)) (tszX fm) = some cs ∧ RdX fm w cs it := by
    intro i hil
    have hx := hi i hil
    obtain ⟨y, hy⟩ : ∃ y, elems[i]? = some y := ⟨_, List.getElem?_eq_getElem (by omega)⟩
    rw [hy, Option.bind_eq_some_iff] at hx
    obtain ⟨cs', hc, ht'⟩ := hx
    obtain ⟨it, e1⟩ := ho (by omega) ht'
    exact ⟨it, cs', hc, e1⟩
   obtain ⟨f, hf⟩ := choose_lt' hex
   refine ⟨(List.range len).map f, some a, cap, by simpa using h1, by simpa using hlc, ?_⟩
   by_cases hne : len = 0
   · subst hne; exact .inl rfl
   right
   have hpos : 0 < len := by omega
   obtain ⟨b, off, spot⟩ := a
   obtain ⟨c0, hc0, hr0⟩ := hf 0 hpos
   have h0 := (World.cells?_some hc0).2.2 0 hs
   have hv0 : ∃ v0, c0[0]? = some v0 := ⟨_, List.getElem?_eq_getElem (by rw [hr0.len]; exact hs)⟩
   obtain ⟨v0, hv0⟩ := hv0
   rw [hv0] at h0
   have hspot : spot = none := by simpa [Addr.add] using World.cell?_spot h0
   subst hspot
   refine ⟨b, off, rfl, ?_, RdXs.mk fun k x hx => ?_⟩
   · have := World.block_lt_of_cell? w _ h0
     simpa [Addr.add] using this
   · obtain ⟨hk, rfl⟩ := range_get hx
     obtain ⟨ck, hck, hrk⟩ := hf k hk
     refine ⟨ck, fun j v hv => ?_, hrk⟩
     have hj := (List.getElem?_eq_some_iff.1 hv).1
     rw [hrk.len] at hj
     have hc := (World.cells?_some hck).2.2 j hj
     rw [hv] at hc
     rw [← hc]
     congr 1
     rw [Go.WideShapes.add_plain, Go.WideShapes.add_plain]
theorem open_form : ∀ (fuel : Nat) {cs : List Value} {x : DataW H × List MemPlace}, DataW.trod enc Tryz.prog w base spare held fuel 24 cs = some x → ∃ t, RdX true w cs t := by
 intro fuel
 induction fuel using Nat.strongRecOn with
 | ind fuel ih =>
   intro cs x h
   obtain ⟨xs, n, rfl, hx, hlen, hxl, hf⟩ := DataW.trod_struct Tryz.underlying24 h
   rw [cells_form] at hlen
   obtain ⟨c1, c2, c3, c4, c5⟩ := cells_ones
   match cs, hlen, xs, hxl with
   | [v0, v1, v2, v3, v4], _, [x0, x1, x2, x3, x4], _ =>
     have f0 := hf 0 _ rfl
     have f1 := hf 1 _ rfl
     have f2 := hf 2 _ rfl
     have f3 := hf 3 _ rfl
     have f4 := hf 4 _ rfl
     simp [c1, c2, c3] at f0 f1 f2 f3 f4
     obtain ⟨k0, e0, g0, _⟩ := DataW.trod_int Tryz.underlying3 f0
     obtain ⟨s1, e1, g1, _⟩ := DataW.trod_string Tryz.underlying9 f1
     obtain ⟨k2, e2, g2, _⟩ := DataW.trod_int Tryz.underlying3 f2
     obtain ⟨k3, e3, g3, _⟩ := DataW.trod_int Tryz.underlying3 f3
     obtain ⟨l, A, c, rfl, hlc, hr⟩ := kids_open (fm := true) Tryz.underlying22 cells_form (fun {m} {cs} {x} hm h => ih m (by omega) h) f4
     simp only [List.cons.injEq, and_true] at e0 e1 e2 e3
     subst e0 e1 e2 e3
     refine ⟨.mk k0 s1.data.toList k2 k3 l, A, c, ?_, hlc, hr⟩
     simp only [tcX, str_etaX]
theorem open_start : ∀ (fuel : Nat) {cs : List Value} {x : DataW H × List MemPlace}, DataW.trod enc Tryz.prog w base spare held fuel 28 cs = some x → ∃ t, RdX false w cs t := by
 intro fuel
 induction fuel using Nat.strongRecOn with
 | ind fuel ih =>
   intro cs x h
   obtain ⟨xs, n, rfl, hx, hlen, hxl, hf⟩ := DataW.trod_struct Tryz.underlying28 h
   rw [cells_start] at hlen
   obtain ⟨c1, c2, c3, c4, c5⟩ := cells_ones
   match cs, hlen, xs, hxl with
   | [v0, v1, v2, v3], _, [x0, x1, x2, x3], _ =>
     have f0 := hf 0 _ rfl
     have f1 := hf 1 _ rfl
     have f2 := hf 2 _ rfl
     have f3 := hf 3 _ rfl
     simp [c1, c2, c4] at f0 f1 f2 f3
     obtain ⟨k0, e0, g0, _⟩ := DataW.trod_int Tryz.underlying3 f0
     obtain ⟨s1, e1, g1, _⟩ := DataW.trod_string Tryz.underlying9 f1
     obtain ⟨k2, e2, g2, _⟩ := DataW.trod_int Tryz.underlying3 f2
     obtain ⟨l, A, c, rfl, hlc, hr⟩ := kids_open (fm := false) Tryz.underlying26 cells_start (fun {m} {cs} {x} hm h => ih m (by omega) h) f3
     simp only [List.cons.injEq, and_true] at e0 e1 e2
     subst e0 e1 e2
     refine ⟨.mk k0 s1.data.toList 0 k2 l, A, c, ?_, hlc, hr⟩
     simp only [tcX, str_etaX]
mutual
/- a start's tree without signs -/
def flat : TreeI → TreeI
 | .mk op name _ n ks => .mk op name 0 n (flats ks)
def flats : List TreeI → List TreeI
 | [] => []
 | k :: r => flat k :: flats r
end
theorem flats_len : ∀ ks : List TreeI, (flats ks).length = ks.length
 | [] => by rw [flats]
 | k :: r => by rw [flats, List.length_cons, List.length_cons, flats_len r]
mutual
theorem plain_flat : ∀ t : TreeI, plainS (flat t)
 | .mk _ _ _ _ ks => by rw [flat, plainS]; exact ⟨rfl, plain_flats ks⟩
theorem plain_flats : ∀ ks : List TreeI, plainSs (flats ks)
 | [] => by rw [flats, plainSs]; trivial
 | k :: r => by rw [flats, plainSs]; exact ⟨plain_flat k, plain_flats r⟩
end
mutual
theorem RdX.flat {w : World} : ∀ {cs : List Value} {t : TreeI}, RdX false w cs t → RdX false w cs (flat t)
 | cs, .mk op name cmp n ks, h => by
   obtain ⟨A, cap, h1, h2, h3⟩ := h
   rw [Go.Proofs.YtbicmjmcdnkjhaaGreatDoor.flat]
   refine ⟨A, cap, by rw [h1, flats_len]; rfl, by rw [flats_len]; exact h2, ?_⟩
   rcases h3 with h3 | ⟨b, o, hA, hlt, h3⟩
   · subst h3; left; rw [flats]
   · exact .inr ⟨b, o, hA, hlt, RdXs.flat h3⟩
theorem RdXs.flat {w : World} {b : Nat} : ∀ {o : Nat} {ks : List TreeI}, RdXs false w b o ks → RdXs false w b o (flats ks)
 | o, [], h => by rw [flats, RdXs]; trivial
 | o, t :: r, h => by
   rw [RdXs] at h
   rw [flats, RdXs]
   obtain ⟨⟨cs, h1, h2⟩, h3⟩ := h
   exact ⟨⟨cs, h1, RdX.flat h2⟩, RdXs.flat h3⟩
end
theorem open_strs' {fuel : Nat} {v : Value} {x : DataW H × List MemPlace} (h : DataW.trod enc Tryz.prog w base spare held fuel 25 [v] = some x) :
 ∃ (l : List (List UInt8)) (A : Option Addr) (c : Nat), v = .slice A l.length c ∧ l.length ≤ c ∧ c ≤ maxLen ∧ RdS w A l := by
 rcases open_slice Tryz.underlying25 h with ⟨h1, h2⟩ | ⟨a, len, cap, m, n, Dd, Pl, h1, hb, hlc, hcm, hm, hx, hi⟩
 · exact ⟨[], none, 0, by simpa using h1, Nat.le_refl _, by simp, Sl.nil⟩
 · have hlm : len ≤ m := by rw [hm]; split <;> omega
   rw [cells_ones.1] at hi
   have hex : ∀ i, i < len → ∃ s : List UInt8, w.cells? base (a.add (i * 1)) 1 = some [vs s] := by
    intro i hil
    obtain ⟨cs', hc, ht'⟩ := hi i (by omega)
    obtain ⟨s, e1, -, _⟩ := DataW.trod_string Tryz.underlying9 ht'
    exact ⟨s.data.toList, by rw [hc, e1, str_etaX]⟩
   obtain ⟨f, hf⟩ := choose_lt' hex
   refine ⟨(List.range len).map f, some a, cap, by simpa using h1, by simpa using hlc, hcm, ?_⟩
   intro hne
   have hpos : 0 < len := by
    cases len with
    | zero => simp at hne
    | succ k => omega
   obtain ⟨b, off, spot⟩ := a
   have h0 := (World.cells?_some (hf 0 hpos)).2.2 0 (by omega)
   have hspot : spot = none := by simpa [Addr.add] using World.cell?_spot h0
   subst hspot
   refine ⟨b, off, rfl, ?_, ?_⟩
   · have := World.block_lt_of_cell? w _ h0
     simpa [Addr.add] using this
   · intro k x hx j v hv
     obtain ⟨hk, rfl⟩ := range_get hx
     have hj : j = 0 := by
      have := (List.getElem?_eq_some_iff.1 hv).1
      simpa using this
     subst hj
     have hc := (World.cells?_some (hf k hk)).2.2 0 (by omega)
     rw [hv] at hc
     rw [← hc]
     congr 1
     rw [Go.WideShapes.add_plain, Go.WideShapes.add_plain]
theorem open_prov {b0 : Nat} {v : Value} {d : DataW H} {p : List MemPlace} (hv : Value.okWide Tryz.prog w .any b0 30 v) (h : DataW.Trod enc Tryz.prog w base spare held 30 v d p) :
 ∃ (cs : List Value) (q : ProvI), v = .agg cs.toArray ∧ RdPX w cs q ∧ plainP q ∧ q.exc.length ≤ maxLen := by
 obtain ⟨cs, rfl, hsz⟩ := okWide_struct Tryz.underlying30 hv
 obtain ⟨l0⟩ := cs
 rw [cells_prov] at hsz
 obtain ⟨fuel, hfu⟩ := h
 obtain ⟨xs, n, _, hx, _, hlen, hf⟩ := DataW.trod_struct Tryz.underlying30 hfu
 obtain ⟨c1, c2, c3, c4, c5⟩ := cells_ones
 match l0, hsz, xs, hlen with
 | [v0, v1, v2, v3, v4, v5, v6, v7, v8, v9, v10, v11, v12, v13, v14, v15, v16, v17, v18, v19, v20, v21, v22], _, [x0, x1, x2, x3, x4, x5, x6, x7, x8, x9], _ =>
   have f0 := hf 0 _ rfl
   have f1 := hf 1 _ rfl
   have f2 := hf 2 _ rfl
   have f3 := hf 3 _ rfl
   have f4 := hf 4 _ rfl
   have f5 := hf 5 _ rfl
   have f6 := hf 6 _ rfl
   have f7 := hf 7 _ rfl
   have f8 := hf 8 _ rfl
   have f9 := hf 9 _ rfl
   simp [Value.cells, c1, c2, c5, cells_form, cells_start] at f0 f1 f2 f3 f4 f5 f6 f7 f8 f9
   obtain ⟨s0, e0, g0, _⟩ := DataW.trod_string Tryz.underlying9 f0
   obtain ⟨k1, e1, g1, _⟩ := DataW.trod_int Tryz.underlying3 f1
   obtain ⟨k2, e2, g2, _⟩ := DataW.trod_int Tryz.underlying3 f2
   obtain ⟨s3, e3, g3, _⟩ := DataW.trod_string Tryz.underlying9 f3
   obtain ⟨k4, e4, g4, _⟩ := DataW.trod_int Tryz.underlying3 f4
   obtain ⟨t5, r5⟩ := open_form _ f5
   obtain ⟨l6, A6, c6, rfl, hlc, hcm, r6⟩ := open_strs' f6
   obtain ⟨t7, r7⟩ := open_start _ f7
   obtain ⟨t8, r8⟩ := open_start _ f8
   obtain ⟨t9, r9⟩ := open_start _ f9
   simp only [List.cons.injEq, and_true] at e0 e1 e2 e3 e4
   subst e0 e1 e2 e3 e4
   refine ⟨_, ⟨s0.data.toList, k1, k2, s3.data.toList, k4, t5, l6, flat t7, flat t8, flat t9⟩, rfl, ⟨[v5, v6, v7, v8, v9], A6, c6, [v11, v12, v13, v14], [v15, v16, v17, v18], [v19, v20, v21, v22], ?_, hlc, r5, r6, r7.flat, r8.flat, r9.flat⟩, ⟨plain_flat _, plain_flat _, plain_flat _⟩, by show l6.length ≤ _; omega⟩
   simp only [str_etaX]
   rfl
end
end Go.Proofs.YtbicmjmcdnkjhaaGreatDoor
