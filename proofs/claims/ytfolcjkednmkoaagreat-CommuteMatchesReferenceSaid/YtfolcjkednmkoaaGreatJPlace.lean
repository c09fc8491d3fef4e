/- The reference's Chain and place, in plain words. The reference's place. The reference's place in a code whose first items are well-formed. The reference's Valid. The reference's Below. The reference's Under. -/
import Derived.Test.YtfolcjkednmkoaaGreatJFind
import Derived.Test.YtfolcjkednmkoaaGreatLaw
set_option linter.unusedVariables false
set_option linter.unusedSimpArgs false
namespace Go.Proofs.YtfolcjkednmkoaaGreat
theorem findI_prefix {u v : List Item} {s : Str} {k : Nat} (h : findI u s = k) : findI (u ++ v) s = k := by
 unfold findI at h ⊢
 rw [List.findIdx?_append]
 cases hf : u.findIdx? (fun x => x.id == s) with
 | none => rw [hf] at h; simp [idx] at h
 | some j => rw [hf] at h; exact h
theorem ChainOk.app {u v : List Item} : ∀ {L : List Str} {id : Str}, ChainOk u id L → ChainOk (u ++ v) id L
 | [], _, h => h
 | t :: r, id, ⟨h1, h2, k, y, h3, h4, h5⟩ => ⟨h1, h2, k, y, findI_prefix h3, by rw [List.getElem?_append_left (List.getElem?_eq_some_iff.1 h4).1]; exact h4, h5.app⟩
theorem Good.chainOk {l : List Item} {d : List Row} (hg : Good l d) : ∀ (n : Nat) (y : Row), y ∈ d → y.2.length = n → ChainOk l y.1.par y.2.reverse
 | 0, y, hy, hn => by
   have h0 : y.2 = [] := List.eq_nil_of_length_eq_zero hn
   obtain ⟨h1, _⟩ := hg.par_last hy
   rw [h0] at h1 ⊢
   exact h1.symm
 | n + 1, y, hy, hn => by
   have hne : y.2 ≠ [] := by intro h; rw [h] at hn; simp at hn
   obtain ⟨h1, _⟩ := hg.par_last hy
   obtain ⟨u, z, he⟩ : ∃ u z, y.2 = u ++ [z] := ⟨y.2.dropLast, y.2.getLast hne, (List.dropLast_concat_getLast hne).symm⟩
   rw [he, lastS_snoc] at h1
   obtain ⟨r, hr, hid, hop, hk⟩ := hg.anc y hy u z [] he
   rw [he, List.reverse_append]
   have hpn := hg.par_ne hy hne
   obtain ⟨a, c, hac⟩ := List.append_of_mem hr
   obtain ⟨f1, f2⟩ := hg.find (a := a) (c := c) (x := r.1) (o := r.2) hac
   refine ⟨hpn, h1, a.length, r.1, by rw [← h1, ← hid]; exact f1, ?_, ?_⟩
   · rw [hg.items (a := a) (c := c) (x := r.1) (o := r.2) hac]
     simp
   · rw [← hop]
     refine hg.chainOk n r hr ?_
     rw [hop]
     rw [he] at hn
     simpa using hn
theorem Good.at {l : List Item} {d : List Row} (hg : Good l d) {i : Nat} {x : Item} (hx : l[i]? = some x) : ∃ o, d[i]? = some (x, o) := by
 rw [← hg.fst, List.getElem?_map] at hx
 obtain ⟨y, hy, rfl⟩ := Option.map_eq_some_iff.1 hx
 exact ⟨y.2, hy⟩
/- the first k items are well-formed, R says what is open at each -/
theorem Good.chain_at {l : List Item} {k : Nat} {d : List Row} (hg : Good (l.take k) d) {i : Nat} {x : Item} {o : List Str} (hx : d[i]? = some (x, o)) : l[i]? = some x ∧ ChainOk l x.par o.reverse := by
 have h1 : (l.take k)[i]? = some x := by rw [← hg.fst, List.getElem?_map, hx]; rfl
 refine ⟨?_, ?_⟩
 · rw [List.getElem?_take] at h1
   split at h1
   · exact h1
   · cases h1
 · have := (hg.chainOk o.length (x, o) (List.mem_of_getElem? hx) rfl).app (v := l.drop k)
   rwa [List.take_append_drop] at this
theorem Good.nil : Good [] [] := ⟨rfl, trivial, List.nodup_nil, by simp, by simp⟩
theorem stk_last {s : List Str} {d : List Row} {y : Row} : stk s (d ++ [y]) = push y.2 y.1 := by
 rw [stk_append]; rfl
/- a further item -/
theorem Good.step {l : List Item} {k : Nat} {d : List Row} {x : Item} {o : List Str} (hg : Good (l.take k) d) (hx : l[k]? = some x) (hp : properB x = true) (hs : x.id ∉ idsR d) (ho : openCut (stk [] d) x.par = some o) (hk : k < 2000) : Good (l.take (k + 1)) (d ++ [(x, o)]) := by
 obtain ⟨hlt, rfl⟩ := List.getElem?_eq_some_iff.1 hx
 obtain ⟨h1, h2, h3⟩ := openCut_chain ho
 refine ⟨by rw [List.map_append, hg.fst, List.take_succ_eq_append_getElem hlt]; rfl, chain_append.2 ⟨hg.chain, h1, h2, h3, trivial⟩, ?_, ?_, by rw [List.length_take]; omega⟩
 · rw [idsR_append, List.nodup_append]
   refine ⟨hg.nd, by simp [idsR], fun a ha b hb => ?_⟩
   simp [idsR] at hb
   subst hb
   rintro rfl
   exact hs ha
 · intro z hz
   rw [List.take_succ_eq_append_getElem hlt, List.mem_append] at hz
   rcases hz with hz | hz
   · exact hg.pr z hz
   · simp at hz; subst hz; exact hp
/- what the walk over the whole list says of an item that does not serve -/
theorem walk_bad {l : List Item} {k : Nat} {d : List Row} {x : Item} (hg : Good (l.take k) d) (hx : l[k]? = some x) (hb : properB x = false ∨ x.id ∈ idsR d ∨ openCut (stk [] d) x.par = none) : walkB l = false := by
 cases hw : walkB l with
 | false => rfl
 | true =>
   exfalso
   have hG := good_of hw
   obtain ⟨o, ho⟩ := hG.at hx
   obtain ⟨hlt, hxx⟩ := List.getElem?_eq_some_iff.1 hx
   generalize walkL l = D at hG ho
   obtain ⟨hkd, hdx⟩ := List.getElem?_eq_some_iff.1 ho
   have hsp : D = D.take k ++ (x, o) :: D.drop (k + 1) := by rw [← hdx, ← List.drop_eq_getElem_cons hkd, List.take_append_drop]
   have hsame : D.take k = d := by
    have hch := hG.chain
    have hnd := hG.nd
    rw [hsp] at hch hnd
    have g2 : Good (l.take k) (D.take k) := ⟨by rw [List.map_take, hG.fst], (chain_append.1 hch).1, (nodup_parts hnd).2.2.1, fun z hz => hG.pr z (List.mem_of_mem_take hz), by have := hG.le; rw [List.length_take]; omega⟩
    have e1 := hg.walk
    rw [g2.walk] at e1
    exact (Prod.mk.inj e1).1
   rw [hsame] at hsp
   have hnd := hG.nd
   rw [hsp] at hnd
   have hch := hG.chain
   rw [hsp] at hch
   have hst := stk_nodup hg.chain List.nodup_nil (by simp) hg.nd
   rcases hb with hb | hb | hb
   · rw [hG.pr x (by rw [← hxx]; exact List.getElem_mem hlt)] at hb
     cases hb
   · exact (nodup_parts hnd).1 hb
   · obtain ⟨h1, h2, h3, _⟩ := chain_mid hch
     rw [openCut_of hst h1 h2 h3] at hb
     cases hb
/- the reference's place -/
def placeB (d : List Row) (par : Str) : Bool := par == [] || hasS (stk [] d) par
theorem place_cut (d : List Row) (par : Str) : placeB d par = (openCut (stk [] d) par).isSome := by
 unfold placeB openCut
 by_cases h : par = []
 · subst h; rfl
 · rw [if_neg h]
   have : (par == []) = false := by simpa using h
   rw [this, Bool.false_or, Option.isSome_map]
   unfold hasS ixS
   rw [List.findIdx?_isSome]
theorem cut_of_place {d : List Row} {par : Str} (h : placeB d par = true) : ∃ o, openCut (stk [] d) par = some o := by
 rw [place_cut] at h
 exact Option.isSome_iff_exists.1 h
theorem cut_none_of {d : List Row} {par : Str} (h : placeB d par = false) : openCut (stk [] d) par = none := by
 rw [place_cut] at h
 simpa using h
theorem placeB_last {d : List Row} {b : Item} {o : List Str} {par : Str} : placeB (d ++ [(b, o)]) par = (par == [] || hasS (push o b) par) := by
 unfold placeB
 rw [stk_last]
end Go.Proofs.YtfolcjkednmkoaaGreat
set_option maxRecDepth 20000
set_option maxHeartbeats 2000000
namespace Go.Proofs.YtfolcjkednmkoaaGreat
open Go.RowKit
theorem hasS_rev (o : List Str) (s : Str) : hasS o.reverse s = hasS o s := by unfold hasS; rw [List.any_reverse]
theorem str_tests {s : Str} (h : s ≠ []) : (s == []) = false ∧ (s != []) = true ∧ s.isEmpty = false := ⟨by simpa using h, by simpa using h, by simpa using h⟩
/- the last test: the division that the item names -/
theorem rplace_b (l : List Item) (A : Option Addr) (c j m : Nat) (x b z : Item) (L : List Str) (q r : Bool) (w : World) (hr : RdI w A l) (hl : l.length ≤ 1000000) (hx : l[j + 1]? = some x) (hb : l[j]? = some b) (hp : x.par ≠ []) (hL : ChainOk l b.par L) (hn : L.length ≤ 1000000)
 (hq : (b.id == x.par || hasS L x.par) = q) (hm : q = true → findI l x.par = m ∧ l[m]? = some z ∧ (z.kind == 1) = r) :
 Calls Tryz.prog 57 #[.agg #[.slice A l.length c], .int .i64 ((j + 1 : Nat) : Int)] w fun e w' => e = .returned (.bool (q && r)) ∧ Below w.heap.size w w' := by
 obtain ⟨n1, n2, n3⟩ := str_tests hp
 clear hp
 have hb0 := (Below.refl w.heap.size w).alloc (Nat.le_refl _) (.cells #[.slice A l.length c] 24)
 have HB0 := Lib.hid hb0; clear hb0
 have HR := Lib.hid (hr.below HB0.out)
 have HR0 := Lib.hid hr; clear hr
 obtain ⟨b1, o1, rfl, hbs1, c0, c1, c2, c3, c4, c5, c6⟩ := HR0.out.item hx
 obtain ⟨b2, o2, hA2, hbs2, d0, d1, d2, d3, d4, d5, d6⟩ := HR0.out.item hb
 cases hA2
 have hi : j + 1 < l.length := (List.getElem?_eq_some_iff.1 hx).1
 have hi1 : (j : Int) + 1 < l.length := by omega
 have hi2 : (0 : Int) ≤ (j : Int) + 1 := by omega
 have hi3 : (0 : Int) ≤ (j : Int) := by omega
 have hi4 : (j : Int) < l.length := by omega
 have hi5 : ((j : Int) + 1 == 0) = false := by simp; omega
 have hi6 : (j : Int) + 1 - 1 = j := by omega
 have HX := Lib.hid hx; clear hx
 have HB := Lib.hid hb; clear hb
 have HL := Lib.hid hL; clear hL
 have HM := Lib.hid hm; clear hm
 have hlm : (l.length : Int) ≤ 1000000 := by omega
 have q1 : b1 < w.heap.size + 1 := by omega
 have q2 : b1 < w.heap.size + 1 + 1 := by omega
 cases hbp : (b.id == x.par) with
 | true =>
   have hbp2 : (b.id != x.par) = false := by simp [bne, hbp]
   rw [hbp, Bool.true_or] at hq
   subst hq
   obtain ⟨m1, m2, m3⟩ := HM.out (by simp)
   obtain ⟨b3, o3, hA3, hbs3, e0, e1, e2, e3, e4, e5, e6⟩ := HR0.out.item m2
   cases hA3
   have hmm : m < l.length := (List.getElem?_eq_some_iff.1 m2).1
   have hm1 : (m : Int) < l.length := by omega
   have hm2 : (0 : Int) ≤ m := by omega
   have M1 := Lib.hid m1; clear m1 m2
   have HP := Lib.hid hbp
   have HRA := Lib.hid (HR.out.below ((Below.refl _ _).alloc (Nat.le_refl _) (.cells b.cells.toArray 27)))
   go_enter Tryz.func57, Tryz.ntmps57
   go_wp2_with fail
   refine wp_region_grew (by kernel_rfl) (by as_aux_lemma => kernel_rfl) ?_
   repeat (go_big_quiet_step ((exact Calls_grew (rfind_at M1.out _ _ _ ((HR.out.below ((Below.refl _ _).alloc (Nat.le_refl _) _)).below (grew_below _ _)) (le_maxLen (by omega))))))
   refine wpQuiet_nil ?_
   rintro _ ⟨W, rfl⟩
   go_wp2_with fail
   go_ret
   exact ⟨rfl, HB0.out.trans ((((Below.refl _ _).alloc (Nat.le_refl _) _).trans ((grew_below _ _).mono (by simp))).mono HB0.out.size)⟩
 | false =>
   have hbp2 : (b.id != x.par) = true := by simp [bne, hbp]
   rw [hbp, Bool.false_or] at hq
   have HP := Lib.hid hbp
   have HRA := Lib.hid (HR.out.below ((Below.refl _ _).alloc (Nat.le_refl _) (.cells b.cells.toArray 27)))
   cases q with
   | false =>
     have HQ := Lib.hid hq; clear hq
     go_enter Tryz.func57, Tryz.ntmps57
     go_wp2_with fail
     refine (rchain_any l _ c j b L _ HRA.out hl HB.out HL.out hn).mono ?_
     rintro e w1 ⟨O, cc, rfl, hrs, hb1⟩
     obtain ⟨hc, hf⟩ := bcell hb1
     simp at hc hf
     have HB1 := Lib.hid hb1; clear hb1
     have hz1 := HB1.out.size
     simp at hz1
     go_wp2_with fail
     refine (rin_any L O cc x.par _ hrs (le_maxLen (by omega))).mono ?_
     rintro e w2 ⟨rfl, rfl⟩
     rw [HQ.out]
     have HBW : Hid (Below w.heap.size w w1) := Lib.hid (HB0.out.trans ((((Below.refl _ _).alloc (Nat.le_refl _) _).trans (HB1.out.mono (by simp))).mono HB0.out.size))
     go_wp2_with fail
     go_ret
     exact ⟨rfl, HBW.out⟩
   | true =>
     have HQ := Lib.hid hq; clear hq
     go_enter Tryz.func57, Tryz.ntmps57
     go_wp2_with fail
     refine (rchain_any l _ c j b L _ HRA.out hl HB.out HL.out hn).mono ?_
     rintro e w1 ⟨O, cc, rfl, hrs, hb1⟩
     obtain ⟨hc, hf⟩ := bcell hb1
     simp at hc hf
     have HB1 := Lib.hid hb1; clear hb1
     have hz1 := HB1.out.size
     simp at hz1
     go_wp2_with fail
     refine (rin_any L O cc x.par _ hrs (le_maxLen (by omega))).mono ?_
     rintro e w2 ⟨rfl, rfl⟩
     rw [HQ.out]
     have HBW : Hid (Below w.heap.size w w1) := Lib.hid (HB0.out.trans ((((Below.refl _ _).alloc (Nat.le_refl _) _).trans (HB1.out.mono (by simp))).mono HB0.out.size))
     obtain ⟨m1, m2, m3⟩ := HM.out (by simp)
     have HR1 := Lib.hid (HRA.out.below HB1.out)
     obtain ⟨b3, o3, hA3, hbs3, e0, e1, e2, e3, e4, e5, e6⟩ := HR1.out.item m2
     cases hA3
     have hmm : m < l.length := (List.getElem?_eq_some_iff.1 m2).1
     have hm1 : (m : Int) < l.length := by omega
     have hm2 : (0 : Int) ≤ m := by omega
     have M1 := Lib.hid m1; clear m1 m2
     have hc0 : w1.cell? ⟨w.heap.size, 0, none⟩ = some (.slice (some ⟨b1, o1, none⟩) l.length c) := (HB1.out.cell (p := ⟨w.heap.size, 0, none⟩) (by simp; omega)).trans (by simp [go_sem])
     have z1 : w.heap.size < w1.heap.size := World.block_lt_of_cell? _ _ hc0
     clear hc hf c0 c1 c2 c3 c4 c5 c6 d0 d1 d2 d3 d4 d5 d6
     go_wp2_with fail
     refine wp_region_grew (by kernel_rfl) (by as_aux_lemma => kernel_rfl) ?_
     repeat (go_big_quiet_step ((exact Calls_grew (rfind_at M1.out _ _ _ (HR1.out.below (grew_below _ _)) (le_maxLen (by omega))))))
     refine wpQuiet_nil ?_
     rintro _ ⟨W, rfl⟩
     go_wp2_with fail
     go_ret
     exact ⟨rfl, HBW.out.trans ((grew_below _ _).mono HBW.out.size)⟩
end Go.Proofs.YtfolcjkednmkoaaGreat
set_option maxRecDepth 20000
set_option maxHeartbeats 1000000
namespace Go.Proofs.YtfolcjkednmkoaaGreat
open Go.RowKit
theorem rplace_e (l : List Item) (A : Option Addr) (c k : Nat) (x : Item) (w : World) (hr : RdI w A l) (hl : l.length ≤ 1000000) (hx : l[k]? = some x) (hp : x.par = []) :
 Calls Tryz.prog 57 #[.agg #[.slice A l.length c], .int .i64 k] w fun e w' => e = .returned (.bool true) ∧ Below w.heap.size w w' := by
 have n1 : (x.par == []) = true := by rw [hp]; rfl
 have n2 : (x.par != []) = false := by rw [hp]; rfl
 have n3 : x.par.isEmpty = true := by rw [hp]; rfl
 obtain ⟨b1, o1, rfl, hbs1, c0, c1, c2, c3, c4, c5, c6⟩ := hr.item hx
 have hi : k < l.length := (List.getElem?_eq_some_iff.1 hx).1
 have hi1 : (k : Int) < l.length := by omega
 have hi3 : (0 : Int) ≤ (k : Int) := by omega
 clear hr hx
 go_enter Tryz.func57, Tryz.ntmps57
 go_wp2_with fail
 go_ret
 exact ⟨rfl, (Below.refl _ _).alloc (Nat.le_refl _) _⟩
theorem rplace_0 (l : List Item) (A : Option Addr) (c : Nat) (x : Item) (w : World) (hr : RdI w A l) (hl : l.length ≤ 1000000) (hx : l[0]? = some x) (hp : x.par ≠ []) :
 Calls Tryz.prog 57 #[.agg #[.slice A l.length c], .int .i64 0] w fun e w' => e = .returned (.bool false) ∧ Below w.heap.size w w' := by
 obtain ⟨n1, n2, n3⟩ := str_tests hp
 clear hp
 obtain ⟨b1, o1, rfl, hbs1, c0, c1, c2, c3, c4, c5, c6⟩ := hr.item hx
 have hi : 0 < l.length := (List.getElem?_eq_some_iff.1 hx).1
 have hi1 : (0 : Int) < l.length := by omega
 simp only [Nat.zero_mul, Nat.add_zero] at c0 c1 c2 c3 c4 c5 c6
 clear hr hx
 go_enter Tryz.func57, Tryz.ntmps57
 go_wp2_with fail
 go_ret
 exact ⟨rfl, (Below.refl _ _).alloc (Nat.le_refl _) _⟩
theorem idsR_mem {d : List Row} {s : Str} (h : s ∈ idsR d) : ∃ y ∈ d, y.1.id = s := by
 unfold idsR at h
 obtain ⟨y, hy, e⟩ := List.mem_map.1 h
 exact ⟨y, hy, e⟩
theorem Good.row_at {l : List Item} {k : Nat} {d : List Row} (hg : Good (l.take k) d) {y : Row} (hy : y ∈ d) : ∃ m : Nat, findI l y.1.id = m ∧ l[m]? = some y.1 := by
 obtain ⟨a, c, hac⟩ := List.append_of_mem hy
 obtain ⟨f1, _⟩ := hg.find (a := a) (c := c) (x := y.1) (o := y.2) hac
 refine ⟨a.length, ?_, ?_⟩
 · have := findI_prefix (v := l.drop k) f1
   rwa [List.take_append_drop] at this
 · refine (hg.chain_at (i := a.length) (x := y.1) (o := y.2) ?_).1
   rw [hac]; simp
theorem Good.count {l : List Item} {k : Nat} {d : List Row} (hg : Good (l.take k) d) (hk : k ≤ l.length) : d.length = k := by
 have := hg.len
 rw [List.length_take] at this
 omega
theorem stk_len {s : List Str} {a : List Row} (h : Chain s a) : (stk s a).length ≤ s.length + a.length := by
 induction a generalizing s with
 | nil => simp [stk]
 | cons y r ih =>
   obtain ⟨h1, _, _, h4⟩ := h
   have := ih h4
   have h5 : (push y.2 y.1).length ≤ y.2.length + 1 := by unfold push; split <;> simp
   have h6 := h1.length_le
   simp only [stk, List.length_cons]
   omega
theorem open_le {l : List Item} {d : List Row} (hg : Good l d) {y : Row} (hy : y ∈ d) : y.2.length ≤ l.length := by
 obtain ⟨a, c, hac⟩ := List.append_of_mem hy
 have hc := hg.chain
 rw [hac] at hc
 have h1 := (chain_mid (x := y.1) (o := y.2) hc).1.length_le
 have h2 := stk_len (chain_append.1 hc).1
 rw [hg.len, hac]
 simp at h2 ⊢
 omega
theorem rplace_good (l : List Item) (A : Option Addr) (c k : Nat) (x : Item) (d : List Row) (w : World) (hr : RdI w A l) (hl : l.length ≤ 1000000) (hx : l[k]? = some x) (hg : Good (l.take k) d) :
 Calls Tryz.prog 57 #[.agg #[.slice A l.length c], .int .i64 k] w fun e w' => e = .returned (.bool (placeB d x.par)) ∧ Below w.heap.size w w' := by
 have hk : k < l.length := (List.getElem?_eq_some_iff.1 hx).1
 have hcnt := hg.count (by omega)
 by_cases hp : x.par = []
 · have : placeB d x.par = true := by unfold placeB; rw [hp]; rfl
   rw [this]
   exact rplace_e l A c k x w hr hl hx hp
 · have hp1 : (x.par == []) = false := by simpa using hp
   cases k with
   | zero =>
     have : d = [] := List.eq_nil_of_length_eq_zero hcnt
     subst this
     have : placeB [] x.par = false := by unfold placeB; rw [hp1]; rfl
     rw [this]
     exact rplace_0 l A c x w hr hl hx hp
   | succ j =>
     have hj : j < d.length := by omega
     obtain ⟨⟨b, o⟩, hd⟩ := get_of_lt hj
     obtain ⟨hb, hch⟩ := hg.chain_at hd
     have hsp : d = d.take j ++ [(b, o)] := by
      have h1 : d.take (j + 1) = d.take j ++ [(b, o)] := by
       rw [List.take_succ_eq_append_getElem hj, (List.getElem?_eq_some_iff.1 hd).2]
      rw [List.take_of_length_le (by omega)] at h1
      exact h1
     have hpl : placeB d x.par = hasS (push o b) x.par := by rw [hsp, placeB_last, hp1, Bool.false_or]
     have hmem : (b, o) ∈ d := List.mem_of_getElem? hd
     have hol : o.length ≤ 2000 := Nat.le_trans (open_le hg hmem) hg.le
     have hbo : b.id ∉ o := by
      have hn := hg.nd
      have hc := hg.chain
      rw [hsp] at hn hc
      intro hm
      have hc2 := chain_mid hc
      have := chain_sub0 (chain_append.1 hc).1 (pre_sub hc2.1 hm)
      exact (nodup_parts hn).1 this
     obtain ⟨q, hq⟩ : ∃ q, (b.id == x.par || hasS o.reverse x.par) = q := ⟨_, rfl⟩
     cases q with
     | false =>
       have hf : placeB d x.par = (false && true) := by
        rw [hpl, Bool.false_and, hasS_false]
        rw [hasS_rev] at hq
        simp only [Bool.or_eq_false_iff, hasS_false] at hq
        intro hm
        rcases mem_push hm with h | h
        · exact hq.2 h
        · rw [h] at hq; simp at hq
       rw [hf]
       exact rplace_b l A c j 0 x b x o.reverse false true w hr hl hx hb hp hch (by rw [List.length_reverse]; omega) hq (by simp)
     | true =>
       rw [hasS_rev] at hq
       have hrow : ∃ y ∈ d, y.1.id = x.par ∧ hasS (push o b) x.par = (y.1.kind == 1) := by
        by_cases he : b.id = x.par
        · refine ⟨(b, o), hmem, he, ?_⟩
          by_cases hk1 : b.kind = 1
          · have h1 : (b.kind == 1) = true := by simpa using hk1
            show _ = (b.kind == 1)
            rw [h1, hasS_iff]
            unfold push
            rw [if_pos hk1, ← he]
            simp
          · have h1 : (b.kind == 1) = false := by simpa using hk1
            show _ = (b.kind == 1)
            rw [h1, hasS_false]
            unfold push
            rw [if_neg hk1, ← he]
            exact hbo
        · have hb1 : (b.id == x.par) = false := by simpa using he
          rw [hb1, Bool.false_or, hasS_iff] at hq
          obtain ⟨u, v, huv⟩ := List.append_of_mem hq
          obtain ⟨r, hr1, hr2, hr3, hr4⟩ := hg.anc _ hmem u x.par v huv
          refine ⟨r, hr1, hr2, ?_⟩
          have h1 : (r.1.kind == 1) = true := by simpa using hr4
          rw [h1, hasS_iff]
          exact pre_sub (push_pre o b) hq
       obtain ⟨y, hy, hid, hkd⟩ := hrow
       obtain ⟨m, hm1, hm2⟩ := hg.row_at hy
       rw [hpl, hkd]
       have := rplace_b l A c j m x b y.1 o.reverse true (y.1.kind == 1) w hr hl hx hb hp hch (by rw [List.length_reverse]; omega) (by rw [hasS_rev]; exact hq) (fun _ => ⟨by rw [← hid]; exact hm1, hm2, rfl⟩)
       rw [Bool.true_and] at this
       exact this
end Go.Proofs.YtfolcjkednmkoaaGreat
set_option maxRecDepth 20000
set_option maxHeartbeats 8000000
namespace Go.Proofs.YtfolcjkednmkoaaGreat
open Go.RowKit
theorem keepw {wp wn : World} {b o : Nat} {v : Value} (hb : Below wp.heap.size wp wn) (h : wp.cell? ⟨b, o, none⟩ = some v) : wn.cell? ⟨b, o, none⟩ = some v := (hb.cell (p := ⟨b, o, none⟩) (World.block_lt_of_cell? _ _ h)).trans h
theorem emp_tests {s : Str} (h : s = []) : (s == []) = true ∧ (s != []) = false ∧ s.isEmpty = true := by subst h; exact ⟨rfl, rfl, rfl⟩
theorem not_seen {l : List Item} {k : Nat} {d : List Row} {x : Item} (hg : Good (l.take k) d) (hx : l[k]? = some x) : (findI l x.id = k ∧ x.id ∉ idsR d) ∨ (findI l x.id ≠ k ∧ x.id ∈ idsR d) := by
 obtain ⟨hlt, hxx⟩ := List.getElem?_eq_some_iff.1 hx
 by_cases h : x.id ∈ idsR d
 · obtain ⟨y, hy, he⟩ := idsR_mem h
   obtain ⟨m, h1, h2⟩ := hg.row_at hy
   refine .inr ⟨?_, h⟩
   rw [← he, h1]
   obtain ⟨a, c, hac⟩ := List.append_of_mem hy
   have hcnt := hg.count (by omega)
   obtain ⟨f1, _⟩ := hg.find (a := a) (c := c) (x := y.1) (o := y.2) hac
   have f2 := findI_prefix (v := l.drop k) f1
   rw [List.take_append_drop, h1] at f2
   have hl : a.length < d.length := by rw [hac]; simp
   omega
 · refine .inl ⟨?_, h⟩
   have hsp : l = l.take k ++ x :: l.drop (k + 1) := by rw [← hxx, ← List.drop_eq_getElem_cons hlt, List.take_append_drop]
   have := (find_mid (u := l.take k) (v := l.drop (k + 1)) (x := x) (fun y hy he => h (by
    rw [← hg.fst] at hy
    obtain ⟨z, hz, rfl⟩ := List.mem_map.1 hy
    rw [← he]
    exact List.mem_map_of_mem (f := fun y : Row => y.1.id) hz))).1
   rw [← hsp, List.length_take, Nat.min_eq_left (by omega)] at this
   exact this
theorem rvalid_any (l : List Item) (A : Option Addr) (c : Nat) (w : World) (hr : RdI w A l) (hl : l.length ≤ 1000000) (hsh : ∀ x ∈ l, x.Short) :
 Calls Tryz.prog 37 #[.agg #[.slice A l.length c]] w fun e w' => e = .returned (.bool (walkB l)) ∧ Below w.heap.size w w' := by
 have hb0 := (Below.refl w.heap.size w).alloc (Nat.le_refl _) (.cells #[.slice A l.length c] 24)
 have HB0 := Lib.hid hb0; clear hb0
 have HR := Lib.hid hr; clear hr
 have HSH := Lib.hid hsh; clear hsh
 by_cases h2 : l.length ≤ 2000
 · have hd2 : decide ((2000 : Int) < l.length) = false := by simp; omega
   go_enter Tryz.func37, Tryz.ntmps37
   go_wp2_with fail
   go_loopw [3] (fun i wr => ∃ (k : Nat) (d : List Row), k ≤ l.length ∧ i = .int .i64 k ∧ Good (l.take k) d ∧ Below w.heap.size w wr ∧ wr.cell? ⟨w.heap.size, 0, none⟩ = some (.slice A l.length c)) (fun i _ => l.length - (intOf i).toNat)
   case atStart => exact ⟨0, [], Nat.zero_le _, rfl, Good.nil, HB0.out, by simp [go_sem]⟩
   case round =>
    obtain ⟨k, d, hk, rfl, hg, hb, K1⟩ := hrel
    have z1 : w.heap.size < wr.heap.size := World.block_lt_of_cell? _ _ K1
    have HG := Lib.hid hg; clear hg
    have HB := Lib.hid hb; clear hb
    have HRw := Lib.hid (HR.out.below HB.out)
    by_cases hlt : k < l.length
    · obtain ⟨x, hx⟩ := get_of_lt hlt
      have hi1 : (k : Int) < l.length := by omega
      have hi0 : (0 : Int) ≤ k := by omega
      obtain ⟨b1, o1, rfl, hbs1, c0, c1, c2, c3, c4, c5, c6⟩ := HRw.out.item hx
      have q1 : b1 < wr.heap.size + 1 := by omega
      have q2 : w.heap.size < wr.heap.size + 1 := by omega
      have HS := Lib.hid (HSH.out x (List.mem_of_getElem? hx))
      have hns := not_seen HG.out hx
      have HX := Lib.hid hx; clear hx
      cases hn : isNameB x.id with
      | false =>
        have HN := Lib.hid hn; clear hn hns
        have HPB : Hid (properB x = false) := Lib.hid (by unfold properB; simp [HN.out])
        go_wp2_with fail
        refine (rname_any x.id _ HS.out.id).mono ?_
        rintro e w1 ⟨rfl, rfl⟩
        rw [HN.out]
        go_wp2_with fail
        go_ret
        exact ⟨ret_bool (walk_bad HG.out HX.out (.inl HPB.out)).symm, HB.out.alloc HB.out.size _⟩
      | true =>
        have HN := Lib.hid hn; clear hn
        rcases hns with ⟨hf, hns⟩ | ⟨hf, hns⟩
        · have HF := Lib.hid hf; clear hf
          have HNS := Lib.hid hns; clear hns
          cases hnu : numOk x.num with
          | false =>
            have HNU := Lib.hid hnu; clear hnu
            have HPB : Hid (properB x = false) := Lib.hid (by unfold properB; simp [HNU.out])
            go_wp2_with fail
            refine (rname_any x.id _ HS.out.id).mono ?_
            rintro e w1 ⟨rfl, rfl⟩
            rw [HN.out]
            go_wp2_with fail
            refine (rfind_any l _ c x.id _ (HRw.out.below ((Below.refl _ _).alloc (Nat.le_refl _) _)) (le_maxLen (by omega))).mono ?_
            rintro e w2 ⟨rfl, hb2⟩
            rw [HF.out]
            obtain ⟨hc, hf⟩ := bcell hb2
            simp at hc hf
            have HB2 : Hid (Below wr.heap.size wr w2) := Lib.hid (((Below.refl _ _).alloc (Nat.le_refl _) _).trans (hb2.mono (by simp)))
            have hz2 := HB2.out.size
            have HR2 := Lib.hid (HRw.out.below HB2.out)
            have K2 := keepw HB2.out K1
            have z2 : w.heap.size < w2.heap.size := by omega
            have z3 : b1 < w2.heap.size := by omega
            clear hb2
            go_wp2_with fail
            refine (rnumber_any x.num _ HS.out.num).mono ?_
            rintro e w3 ⟨rfl, rfl⟩
            rw [HNU.out]
            go_wp2_with fail
            go_ret
            exact ⟨ret_bool (walk_bad HG.out HX.out (.inl HPB.out)).symm, HB.out.trans (HB2.out.mono HB.out.size)⟩
          | true =>
            have HNU := Lib.hid hnu; clear hnu
            go_wp2_with fail
            refine (rname_any x.id _ HS.out.id).mono ?_
            rintro e w1 ⟨rfl, rfl⟩
            rw [HN.out]
            go_wp2_with fail
            refine (rfind_any l _ c x.id _ (HRw.out.below ((Below.refl _ _).alloc (Nat.le_refl _) _)) (le_maxLen (by omega))).mono ?_
            rintro e w2 ⟨rfl, hb2⟩
            rw [HF.out]
            obtain ⟨hc, hf⟩ := bcell hb2
            simp at hc hf
            have HB2 : Hid (Below wr.heap.size wr w2) := Lib.hid (((Below.refl _ _).alloc (Nat.le_refl _) _).trans (hb2.mono (by simp)))
            have hz2 := HB2.out.size
            have HR2 := Lib.hid (HRw.out.below HB2.out)
            have K2 := keepw HB2.out K1
            have z2 : w.heap.size < w2.heap.size := by omega
            have z3 : b1 < w2.heap.size := by omega
            clear hb2
            go_wp2_with fail
            refine (rnumber_any x.num _ HS.out.num).mono ?_
            rintro e w3 ⟨rfl, rfl⟩
            rw [HNU.out]
            by_cases hk1 : x.kind = 1
            · have k1 : (x.kind == 1) = true := by simpa using hk1
              have k2 : (x.kind != 1) = false := by simpa using hk1
              by_cases hno : x.no = []
              · by_cases hso : x.so = []
                · cases hgo : x.gone with
                  | true =>
                    have HPB : Hid (properB x = false) := Lib.hid (by unfold properB; simp [hk1, hgo])
                    obtain ⟨e1, e2, e3⟩ := emp_tests hno
                    obtain ⟨f1, f2, f3⟩ := emp_tests hso
                    clear hno hso hk1
                    go_wp2_with fail
                    go_ret
                    exact ⟨ret_bool (walk_bad HG.out HX.out (.inl HPB.out)).symm, HB.out.trans (HB2.out.mono HB.out.size)⟩
                  | false =>
                    have HPB : Hid (properB x = true) := Lib.hid (by unfold properB; simp [hk1, hgo, hno, hso, HNU.out, HN.out])
                    have l1 : decide ((400 : Int) < x.no.length) = false := by rw [hno]; rfl
                    have l2 : decide ((400 : Int) < x.so.length) = false := by rw [hso]; rfl
                    obtain ⟨e1, e2, e3⟩ := emp_tests hno
                    obtain ⟨f1, f2, f3⟩ := emp_tests hso
                    clear hno hso hk1
                    cases hpl : placeB d x.par with
                    | false =>
                      have HPL := Lib.hid hpl; clear hpl
                      go_wp2_with fail
                      refine (rplace_good l _ c k x d _ HR2.out hl HX.out HG.out).mono ?_
                      rintro e w4 ⟨rfl, hb4⟩
                      rw [HPL.out]
                      have HB4 := Lib.hid (HB2.out.trans (hb4.mono HB2.out.size))
                      have K4 := keepw hb4 K2
                      clear hb4 hc hf
                      go_wp2_with fail
                      go_ret
                      exact ⟨ret_bool (walk_bad HG.out HX.out (.inr (.inr (cut_none_of HPL.out)))).symm, HB.out.trans (HB4.out.mono HB.out.size)⟩
                    | true =>
                      have HPL := Lib.hid hpl; clear hpl
                      go_wp2_with fail
                      refine (rplace_good l _ c k x d _ HR2.out hl HX.out HG.out).mono ?_
                      rintro e w4 ⟨rfl, hb4⟩
                      rw [HPL.out]
                      have HB4 := Lib.hid (HB2.out.trans (hb4.mono HB2.out.size))
                      have K4 := keepw hb4 K2
                      clear hb4 hc hf
                      go_wp2_with fail
                      obtain ⟨o, ho⟩ := cut_of_place HPL.out
                      exact ⟨⟨k + 1, d ++ [(x, o)], by omega, by go_num, HG.out.step HX.out HPB.out HNS.out ho (by omega), HB.out.trans (HB4.out.mono HB.out.size), K4⟩, by simp [intOf]; omega⟩
                · have HPB : Hid (properB x = false) := Lib.hid (by unfold properB; simp [hk1, hso])
                  obtain ⟨e1, e2, e3⟩ := emp_tests hno
                  obtain ⟨f1, f2, f3⟩ := str_tests hso
                  clear hno hso hk1
                  go_wp2_with fail
                  go_ret
                  exact ⟨ret_bool (walk_bad HG.out HX.out (.inl HPB.out)).symm, HB.out.trans (HB2.out.mono HB.out.size)⟩
              · have HPB : Hid (properB x = false) := Lib.hid (by unfold properB; simp [hk1, hno])
                obtain ⟨e1, e2, e3⟩ := str_tests hno
                clear hno hk1
                go_wp2_with fail
                go_ret
                exact ⟨ret_bool (walk_bad HG.out HX.out (.inl HPB.out)).symm, HB.out.trans (HB2.out.mono HB.out.size)⟩
            · have k1 : (x.kind == 1) = false := by simpa using hk1
              have k2 : (x.kind != 1) = true := by simpa using hk1
              by_cases hk2 : x.kind = 2
              · have k3 : (x.kind == 2) = true := by simpa using hk2
                have k4 : (x.kind != 2) = false := by simpa using hk2
                by_cases hno : x.no.length ≤ 400
                · have l1 : decide ((400 : Int) < x.no.length) = false := by simp; omega
                  by_cases hso : x.so.length ≤ 400
                  · have l2 : decide ((400 : Int) < x.so.length) = false := by simp; omega
                    have HPB : Hid (properB x = true) := Lib.hid (by unfold properB; simp [hk2, HNU.out, HN.out]; omega)
                    clear hk1 hk2 k1
                    have k1 : (x.kind == 1) = false := by rw [eq_of_beq k3]; rfl
                    cases hpl : placeB d x.par with
                    | false =>
                      have HPL := Lib.hid hpl; clear hpl
                      go_wp2_with fail
                      refine (rplace_good l _ c k x d _ HR2.out hl HX.out HG.out).mono ?_
                      rintro e w4 ⟨rfl, hb4⟩
                      rw [HPL.out]
                      have HB4 := Lib.hid (HB2.out.trans (hb4.mono HB2.out.size))
                      have K4 := keepw hb4 K2
                      clear hb4 hc hf
                      go_wp2_with fail
                      go_ret
                      exact ⟨ret_bool (walk_bad HG.out HX.out (.inr (.inr (cut_none_of HPL.out)))).symm, HB.out.trans (HB4.out.mono HB.out.size)⟩
                    | true =>
                      have HPL := Lib.hid hpl; clear hpl
                      go_wp2_with fail
                      refine (rplace_good l _ c k x d _ HR2.out hl HX.out HG.out).mono ?_
                      rintro e w4 ⟨rfl, hb4⟩
                      rw [HPL.out]
                      have HB4 := Lib.hid (HB2.out.trans (hb4.mono HB2.out.size))
                      have K4 := keepw hb4 K2
                      clear hb4 hc hf
                      go_wp2_with fail
                      obtain ⟨o, ho⟩ := cut_of_place HPL.out
                      exact ⟨⟨k + 1, d ++ [(x, o)], by omega, by go_num, HG.out.step HX.out HPB.out HNS.out ho (by omega), HB.out.trans (HB4.out.mono HB.out.size), K4⟩, by simp [intOf]; omega⟩
                  · have l2 : decide ((400 : Int) < x.so.length) = true := by simp; omega
                    have HPB : Hid (properB x = false) := Lib.hid (by unfold properB; simp [hk2]; omega)
                    clear hk1 hk2 hso
                    go_wp2_with fail
                    go_ret
                    exact ⟨ret_bool (walk_bad HG.out HX.out (.inl HPB.out)).symm, HB.out.trans (HB2.out.mono HB.out.size)⟩
                · have l1 : decide ((400 : Int) < x.no.length) = true := by simp; omega
                  have HPB : Hid (properB x = false) := Lib.hid (by unfold properB; simp [hk2]; omega)
                  clear hk1 hk2 hno
                  go_wp2_with fail
                  go_ret
                  exact ⟨ret_bool (walk_bad HG.out HX.out (.inl HPB.out)).symm, HB.out.trans (HB2.out.mono HB.out.size)⟩
              · have k3 : (x.kind == 2) = false := by simpa using hk2
                have k4 : (x.kind != 2) = true := by simpa using hk2
                have HPB : Hid (properB x = false) := Lib.hid (by unfold properB; simp [hk1, hk2])
                clear hk1 hk2
                go_wp2_with fail
                go_ret
                exact ⟨ret_bool (walk_bad HG.out HX.out (.inl HPB.out)).symm, HB.out.trans (HB2.out.mono HB.out.size)⟩
        · have n1 : (findI l x.id == (k : Int)) = false := by simpa using hf
          have n2 : (findI l x.id != (k : Int)) = true := by simpa using hf
          have HNS := Lib.hid hns; clear hns hf
          go_wp2_with fail
          refine (rname_any x.id _ HS.out.id).mono ?_
          rintro e w1 ⟨rfl, rfl⟩
          rw [HN.out]
          go_wp2_with fail
          refine (rfind_any l _ c x.id _ (HRw.out.below ((Below.refl _ _).alloc (Nat.le_refl _) _)) (le_maxLen (by omega))).mono ?_
          rintro e w2 ⟨rfl, hb2⟩
          obtain ⟨hc, hf⟩ := bcell hb2
          simp at hc hf
          have HB2 : Hid (Below wr.heap.size wr w2) := Lib.hid (((Below.refl _ _).alloc (Nat.le_refl _) _).trans (hb2.mono (by simp)))
          have hz2 := HB2.out.size
          have HR2 := Lib.hid (HRw.out.below HB2.out)
          have K2 := keepw HB2.out K1
          have z2 : w.heap.size < w2.heap.size := by omega
          have z3 : b1 < w2.heap.size := by omega
          clear hb2
          go_wp2_with fail
          go_ret
          exact ⟨ret_bool (walk_bad HG.out HX.out (.inr (.inl HNS.out))).symm, HB.out.trans (HB2.out.mono HB.out.size)⟩
    · obtain rfl : l.length = k := by omega
      have hw : walkB l = true := by
       have := HG.out.wB
       rwa [List.take_of_length_le (Nat.le_refl _)] at this
      have HW := Lib.hid hw; clear hw
      go_wp2_with fail
      go_ret
      exact ⟨ret_bool HW.out.symm, HB.out⟩
 · have hd2 : decide ((2000 : Int) < l.length) = true := by simp; omega
   have hw : walkB l = false := by
    unfold walkB
    have : decide ((l.length : Int) ≤ 2000) = false := by simp; omega
    rw [this, Bool.and_false]
   have HW := Lib.hid hw; clear hw
   go_enter Tryz.func37, Tryz.ntmps37
   go_wp2_with fail
   go_ret
   exact ⟨ret_bool HW.out.symm, HB0.out⟩
end Go.Proofs.YtfolcjkednmkoaaGreat
set_option maxRecDepth 20000
set_option maxHeartbeats 4000000
namespace Go.Proofs.YtfolcjkednmkoaaGreat
open Go.RowKit
theorem find_neg {l : List Item} {d : List Row} (hg : Good l d) {id : Str} (h : findI l id < 0) : id ∉ idsR d := by
 intro hm
 obtain ⟨y, hy, rfl⟩ := idsR_mem hm
 obtain ⟨a, c, hac⟩ := List.append_of_mem hy
 have := (hg.find (x := y.1) (o := y.2) hac).1
 omega
theorem below_absent {l : List Item} {id : Str} (h : walkB l = true) (hf : findI l id < 0) : belowL l id = [] := by
 have hg := good_of h
 unfold belowL
 rw [h, if_pos rfl]
 refine filterMap_none fun y hy hm => ?_
 rcases open_sub hg.chain y hy id hm with h1 | h1
 · simp at h1
 · exact find_neg hg hf h1
theorem find_row {l : List Item} {d : List Row} (hg : Good l d) {id : Str} (h : ¬ findI l id < 0) : ∃ (m : Nat) (x : Item) (o : List Str), findI l id = m ∧ l[m]? = some x ∧ d[m]? = some (x, o) ∧ x.id = id := by
 rcases hg.look id with ⟨h1, _⟩ | ⟨a, x, o, r, b, h1, h2, h3, h4, h5⟩
 · rw [h1] at h; omega
 · have he := h2.eq
   refine ⟨a.length, x, o, h3, ?_, ?_, h1⟩
   · rw [hg.items he]; simp
   · rw [he]; simp
theorem take_row {d : List Row} {k : Nat} {y : Row} (h : d[k]? = some y) : d.take (k + 1) = d.take k ++ [y] := by
 obtain ⟨hk, rfl⟩ := List.getElem?_eq_some_iff.1 h
 exact List.take_succ_eq_append_getElem hk
theorem rchain_rev (l : List Item) (A : Option Addr) (c i : Nat) (x : Item) (o : List Str) (w : World) (hr : RdI w A l) (hl : l.length ≤ 1000000) (hx : l[i]? = some x) (hL : ChainOk l x.par o.reverse) (hn : o.length ≤ 1000000) :
 Calls Tryz.prog 89 #[.agg #[.slice A l.length c], .int .i64 i] w fun e w' => ∃ O cc, e = .returned (.slice O o.length cc) ∧ RdS w' O o.reverse ∧ Below w.heap.size w w' := by
 have := rchain_any l A c i x o.reverse w hr hl hx hL (by rw [List.length_reverse]; exact hn)
 rw [List.length_reverse] at this
 exact this
theorem rin_rev (o : List Str) (A : Option Addr) (c : Nat) (s : Str) (w : World) (hr : RdS w A o.reverse) (hl : o.length ≤ maxLen) :
 Calls Tryz.prog 88 #[.slice A o.length c, vs s] w fun e w' => e = .returned (.bool (hasS o s)) ∧ w = w' := by
 have := rin_any o.reverse A c s w hr (by rw [List.length_reverse]; exact hl)
 rw [List.length_reverse, hasS_rev] at this
 exact this
theorem rbelow_any (l : List Item) (A : Option Addr) (c : Nat) (id : Str) (w : World) (hr : RdI w A l) (hl : l.length ≤ 1000000) (hsh : ∀ x ∈ l, x.Short) :
 Calls Tryz.prog 94 #[.agg #[.slice A l.length c], vs id] w fun e w' => ∃ O cc, e = .returned (.slice O (belowL l id).length cc) ∧ RdS w' O (belowL l id) ∧ (∀ b f, O = some ⟨b, f, none⟩ → w.heap.size ≤ b) ∧ Below w.heap.size w w' := by
 have hb0 := (Below.refl w.heap.size w).alloc (Nat.le_refl _) (.cells #[.slice A l.length c] 24)
 have HB0 := Lib.hid hb0; clear hb0
 have HR := Lib.hid hr; clear hr
 have HSH := Lib.hid hsh; clear hsh
 cases hv : walkB l with
 | false =>
   have hbe : belowL l id = [] := by unfold belowL; rw [hv]; rfl
   have HBE := Lib.hid hbe; clear hbe
   have HV := Lib.hid hv; clear hv
   go_enter Tryz.func94, Tryz.ntmps94
   go_wp2_with fail
   refine (rvalid_any l A c _ (HR.out.below HB0.out) hl HSH.out).mono ?_
   rintro e w1 ⟨rfl, hb1⟩
   rw [HV.out]
   have HB1 := Lib.hid hb1; clear hb1
   go_wp2_with fail
   go_ret
   rw [HBE.out]
   exact ⟨none, 0, rfl, Sl.nil, (fun _ _ h => by cases h), HB0.out.trans (HB1.out.mono HB0.out.size)⟩
 | true =>
   have HG := Lib.hid (good_of hv)
   have HV := Lib.hid hv
   by_cases hf : findI l id < 0
   · have hbe := below_absent hv hf
     have HBE := Lib.hid hbe; clear hbe hv
     have hfd : decide (findI l id < 0) = true := by simpa using hf
     clear hf
     go_enter Tryz.func94, Tryz.ntmps94
     go_wp2_with fail
     refine (rvalid_any l A c _ (HR.out.below HB0.out) hl HSH.out).mono ?_
     rintro e w1 ⟨rfl, hb1⟩
     rw [HV.out]
     obtain ⟨hc, hf⟩ := bcell hb1
     have HB1 := Lib.hid hb1; clear hb1
     go_wp2_with fail
     refine (rfind_any l A c id _ ((HR.out.below HB0.out).below HB1.out) (le_maxLen (by omega))).mono ?_
     rintro e w2 ⟨rfl, hb2⟩
     have HB2 := Lib.hid (HB1.out.trans (hb2.mono HB1.out.size)); clear hb2
     go_wp2_with fail
     go_ret
     rw [HBE.out]
     exact ⟨none, 0, rfl, Sl.nil, (fun _ _ h => by cases h), HB0.out.trans (HB2.out.mono HB0.out.size)⟩
   · have hfd : decide (findI l id < 0) = false := by simpa using hf
     clear hf
     have hbe : belowL l id = belowF id (walkL l) := by unfold belowL; rw [hv]; rfl
     have HBE := Lib.hid hbe; clear hbe hv
     generalize walkL l = d at HG HBE
     have hdl : d.length = l.length := HG.out.len.symm
     have HDL := Lib.hid hdl; clear hdl
     obtain ⟨i0, hi0, hz0, hz1, hz2⟩ := info_parts info9
     have Hi0 := Lib.hid hi0; clear hi0
     have Hz0 := Lib.hid hz0; clear hz0
     have Hz1 := Lib.hid hz1; clear hz1
     have Hz2 := Lib.hid hz2; clear hz2
     go_enter Tryz.func94, Tryz.ntmps94
     go_wp2_with fail
     refine (rvalid_any l A c _ (HR.out.below HB0.out) hl HSH.out).mono ?_
     rintro e w1 ⟨rfl, hb1⟩
     rw [HV.out]
     obtain ⟨hc, hf⟩ := bcell hb1
     have K1 := keepw hb1 (show (w.alloc (.cells #[.slice A l.length c] 24)).cell? ⟨w.heap.size, 0, none⟩ = some (.slice A l.length c) by simp [go_sem])
     have HB1 := Lib.hid (HB0.out.trans (hb1.mono HB0.out.size)); clear hb1
     go_wp2_with fail
     refine (rfind_any l A c id _ (HR.out.below HB1.out) (le_maxLen (by omega))).mono ?_
     rintro e w2 ⟨rfl, hb2⟩
     have K2 := keepw hb2 K1
     have HB2 := Lib.hid (HB1.out.trans (hb2.mono HB1.out.size)); clear hb2 hc hf
     have HR2 := Lib.hid (HR.out.below HB2.out)
     clear K1
     go_wp2_with fail
     go_loopw [5, 6] (fun v i wr => ∃ k : Nat, k ≤ l.length ∧ i = .int .i64 k ∧ wr.ownsRow w2.heap.size 9 1 v (belowF id (d.take k)).length ((belowF id (d.take k)).map vs) ∧ Below w2.heap.size w2 wr) (fun _ i _ => l.length - (intOf i).toNat)
     case atStart => exact ⟨0, Nat.zero_le _, rfl, World.ownsRow_nil _ _ _ _, Below.refl _ _⟩
     case round =>
      obtain ⟨k, hk, rfl, hown, hb⟩ := hrel
      have K3 := keepw hb K2
      have z3 : w.heap.size < wr.heap.size := World.block_lt_of_cell? _ _ K3
      have HBr := Lib.hid hb; clear hb
      have HOWN := Lib.hid hown; clear hown
      have HRr := Lib.hid (HR2.out.below HBr.out)
      have hzr := HBr.out.size
      by_cases hlt : k < l.length
      · obtain ⟨x, hx⟩ := get_of_lt hlt
        obtain ⟨o, ho⟩ := HG.out.at hx
        have hch : ChainOk l x.par o.reverse := (HG.out.chainOk o.length (x, o) (List.mem_of_getElem? ho) rfl)
        have hol : o.length ≤ 2000 := Nat.le_trans (open_le HG.out (List.mem_of_getElem? ho)) HG.out.le
        have HCH := Lib.hid hch; clear hch
        have HT := Lib.hid (take_row ho); clear ho
        have hi1 : (k : Int) < l.length := by omega
        have hi0 : (0 : Int) ≤ k := by omega
        obtain ⟨b1, o1, rfl, hbs1, c0, c1, c2, c3, c4, c5, c6⟩ := HRr.out.item hx
        have HX := Lib.hid hx; clear hx
        have hbl : (belowF id (d.take k)).length ≤ l.length := by
         have h1 := belowF_len id (d.take k)
         rw [List.length_take] at h1
         have := HDL.out
         omega
        cases hin : hasS o id
        all_goals
         have HIN := Lib.hid hin; clear hin
         go_wp2_with fail
         refine (rchain_rev l _ c k x o _ HRr.out hl HX.out HCH.out (by omega)).mono ?_
         rintro e w3 ⟨O, cc, rfl, hrs, hb3⟩
         obtain ⟨hc, hf⟩ := bcell hb3
         have HB3 := Lib.hid (HBr.out.trans (hb3.mono HBr.out.size))
         have HO3 := Lib.hid (own_keep HOWN.out (fun b hb => hb3.block b (own_ge HOWN.out b hb).2))
         have hz3 := hb3.size
         have z4 : w.heap.size < w3.heap.size := by omega
         clear hb3
         go_wp2_with fail
         refine (rin_rev o O cc id _ hrs (le_maxLen (by omega))).mono ?_
         rintro e w4 ⟨rfl, rfl⟩
         rw [HIN.out]
        · go_wp2_with fail
          refine ⟨⟨k + 1, by omega, by go_num, ?_, HB3.out⟩, by simp [intOf]; omega⟩
          rw [HT.out, belowF_snoc, HIN.out]
          exact HO3.out
        · go_wp2_with (at_builtin; refine wpList_append_own _ rfl (.tmp 28) (.tmp 35) _ rfl w2.heap.size 9 i0 (.string ⟨#[]⟩) 1 16 Tryz.underlying61 Hi0.out Hz0.out Hz1.out Hz2.out rfl (by decide) u5 (belowF id (d.take k)).length ((belowF id (d.take k)).map vs) rfl (HO3.out.alloc _) ⟨w3.heap.size, 0, none⟩ 1 1 [vs x.id] rfl rfl (World.news_of_block (cs := #[vs x.id]) (t := 9) (fr := (0, 0)) (heap_alloc_new w3 _)) one_cell (le_maxLen (by omega)) (by omega) (by simp; omega) ?_; intro v' w5 hown1 hgr _)
          refine ⟨⟨k + 1, by omega, by go_num, ?_, ?_⟩, by simp [intOf]; omega⟩
          · rw [HT.out, belowF_snoc, HIN.out, if_pos rfl, List.length_append, List.map_append]
            exact hown1
          · exact (HB3.out.alloc (by omega) _).grown hgr (by simp; omega) (fun b hb => (own_ge HO3.out b hb).1)
      · obtain rfl : l.length = k := by omega
        go_wp2_with fail
        go_ret
        have e1 : d.take l.length = d := List.take_of_length_le (by rw [HDL.out]; exact Nat.le_refl _)
        have ho := HOWN.out
        rw [e1] at ho
        obtain ⟨O, cc, hvv, hrd, hge⟩ := own_slice ho
        rw [HBE.out]
        exact ⟨O, cc, by rw [← hvv]; rfl, hrd, (fun b f hA => by have := hge b f hA; have := HB2.out.size; omega), HB2.out.trans (HBr.out.mono HB2.out.size)⟩
end Go.Proofs.YtfolcjkednmkoaaGreat
set_option maxRecDepth 20000
set_option maxHeartbeats 4000000
namespace Go.Proofs.YtfolcjkednmkoaaGreat
open Go.RowKit
theorem underF_absent {d : List Row} {id div : Str} (h : id ∉ idsR d) : underF id div d = false := by
 unfold underF
 have : ∀ (d : List Row) (f : Bool), id ∉ idsR d → d.foldl (fun f xo => if xo.1.id == id then (div == [] || hasS xo.2 div) else f) f = f := by
  intro d
  induction d with
  | nil => intro f _; rfl
  | cons y r ih =>
    intro f hm
    have h1 : y.1.id ≠ id := fun he => hm (by rw [← he]; simp [idsR])
    have h2 : (y.1.id == id) = false := by simpa using h1
    rw [List.foldl_cons, h2]
    exact ih _ (fun hm2 => hm (by simp [idsR] at hm2 ⊢; exact .inr hm2))
 exact this d false h
theorem runder_any (l : List Item) (A : Option Addr) (c : Nat) (id div : Str) (w : World) (hr : RdI w A l) (hl : l.length ≤ 1000000) (hsh : ∀ x ∈ l, x.Short) :
 Calls Tryz.prog 91 #[.agg #[.slice A l.length c], vs id, vs div] w fun e w' => e = .returned (.bool (underB l id div)) ∧ Below w.heap.size w w' := by
 have hb0 := (Below.refl w.heap.size w).alloc (Nat.le_refl _) (.cells #[.slice A l.length c] 24)
 have HB0 := Lib.hid hb0; clear hb0
 have HR := Lib.hid hr; clear hr
 have HSH := Lib.hid hsh; clear hsh
 cases hv : walkB l with
 | false =>
   have hbe : underB l id div = false := by unfold underB; rw [hv]; rfl
   have HBE := Lib.hid hbe; clear hbe
   have HV := Lib.hid hv; clear hv
   go_enter Tryz.func91, Tryz.ntmps91
   go_wp2_with fail
   refine (rfind_any l A c id _ (HR.out.below HB0.out) (le_maxLen (by omega))).mono ?_
   rintro e w1 ⟨rfl, hb1⟩
   obtain ⟨hc, hf⟩ := bcell hb1
   have HB1 := Lib.hid hb1; clear hb1
   go_wp2_with fail
   refine (rvalid_any l A c _ ((HR.out.below HB0.out).below HB1.out) hl HSH.out).mono ?_
   rintro e w2 ⟨rfl, hb2⟩
   rw [HV.out]
   have HB2 := Lib.hid (HB1.out.trans (hb2.mono HB1.out.size)); clear hb2
   go_wp2_with fail
   go_ret
   rw [HBE.out]
   exact ⟨rfl, HB0.out.trans (HB2.out.mono HB0.out.size)⟩
 | true =>
   have HG := Lib.hid (good_of hv)
   have HV := Lib.hid hv
   have hu : underB l id div = underF id div (walkL l) := by unfold underB; rw [hv]; rfl
   clear hv
   generalize walkL l = d at HG hu
   by_cases hf : findI l id < 0
   · have hbe : underB l id div = false := by rw [hu]; exact underF_absent (find_neg HG.out hf)
     have HBE := Lib.hid hbe; clear hbe hu
     have hfd : decide (findI l id < 0) = true := by simpa using hf
     clear hf
     go_enter Tryz.func91, Tryz.ntmps91
     go_wp2_with fail
     refine (rfind_any l A c id _ (HR.out.below HB0.out) (le_maxLen (by omega))).mono ?_
     rintro e w1 ⟨rfl, hb1⟩
     obtain ⟨hc, hf⟩ := bcell hb1
     have HB1 := Lib.hid hb1; clear hb1
     go_wp2_with fail
     refine (rvalid_any l A c _ ((HR.out.below HB0.out).below HB1.out) hl HSH.out).mono ?_
     rintro e w2 ⟨rfl, hb2⟩
     rw [HV.out]
     have HB2 := Lib.hid (HB1.out.trans (hb2.mono HB1.out.size)); clear hb2
     go_wp2_with fail
     go_ret
     rw [HBE.out]
     exact ⟨rfl, HB0.out.trans (HB2.out.mono HB0.out.size)⟩
   · obtain ⟨m, x, o, hm, hx, hd, hid⟩ := find_row HG.out hf
     clear hf
     have hch : ChainOk l x.par o.reverse := (HG.out.chainOk o.length (x, o) (List.mem_of_getElem? hd) rfl)
     have hol : o.length ≤ 2000 := Nat.le_trans (open_le HG.out (List.mem_of_getElem? hd)) HG.out.le
     have HCH := Lib.hid hch; clear hch
     have hsp : d = d.take m ++ (x, o) :: d.drop (m + 1) := by
      obtain ⟨h1, h2⟩ := List.getElem?_eq_some_iff.1 hd
      rw [← h2, ← List.drop_eq_getElem_cons h1, List.take_append_drop]
     have hua := underF_at HG.out.nd hsp div
     rw [hid, ← hu] at hua
     clear hsp hu hd hid
     have HM := Lib.hid hm; clear hm
     have HX := Lib.hid hx; clear hx
     have hm0 : decide ((m : Int) < 0) = false := by simp
     by_cases hdv : div = []
     · have hbe : underB l id div = true := by rw [hua, hdv]; rfl
       have HBE := Lib.hid hbe; clear hbe hua
       obtain ⟨n1, n2, n3⟩ := emp_tests hdv
       clear hdv
       go_enter Tryz.func91, Tryz.ntmps91
       go_wp2_with fail
       refine (rfind_any l A c id _ (HR.out.below HB0.out) (le_maxLen (by omega))).mono ?_
       rintro e w1 ⟨rfl, hb1⟩
       rw [HM.out]
       obtain ⟨hc, hf⟩ := bcell hb1
       have HB1 := Lib.hid hb1; clear hb1
       go_wp2_with fail
       refine (rvalid_any l A c _ ((HR.out.below HB0.out).below HB1.out) hl HSH.out).mono ?_
       rintro e w2 ⟨rfl, hb2⟩
       rw [HV.out]
       have HB2 := Lib.hid (HB1.out.trans (hb2.mono HB1.out.size)); clear hb2
       go_wp2_with fail
       go_ret
       rw [HBE.out]
       exact ⟨rfl, HB0.out.trans (HB2.out.mono HB0.out.size)⟩
     · obtain ⟨n1, n2, n3⟩ := str_tests hdv
       have hbe : underB l id div = hasS o div := by rw [hua, n1]; rfl
       have HBE := Lib.hid hbe; clear hbe hua hdv
       go_enter Tryz.func91, Tryz.ntmps91
       go_wp2_with fail
       refine (rfind_any l A c id _ (HR.out.below HB0.out) (le_maxLen (by omega))).mono ?_
       rintro e w1 ⟨rfl, hb1⟩
       rw [HM.out]
       obtain ⟨hc, hf⟩ := bcell hb1
       have HB1 := Lib.hid hb1; clear hb1
       go_wp2_with fail
       refine (rvalid_any l A c _ ((HR.out.below HB0.out).below HB1.out) hl HSH.out).mono ?_
       rintro e w2 ⟨rfl, hb2⟩
       rw [HV.out]
       have hbb := HB1.out.trans (hb2.mono HB1.out.size)
       clear hb2 hc hf
       obtain ⟨hc, hf⟩ := bcell hbb
       have HB2 := Lib.hid hbb; clear hbb
       go_wp2_with fail
       refine (rchain_rev l A c m x o _ ((HR.out.below HB0.out).below HB2.out) hl HX.out HCH.out (by omega)).mono ?_
       rintro e w3 ⟨O, cc, rfl, hrs, hb3⟩
       have HB3 := Lib.hid (HB2.out.trans (hb3.mono HB2.out.size))
       clear hb3 hc hf
       go_wp2_with fail
       refine (rin_rev o O cc div _ hrs (le_maxLen (by omega))).mono ?_
       rintro e w4 ⟨rfl, rfl⟩
       go_wp2_with fail
       go_ret
       rw [HBE.out]
       exact ⟨rfl, HB0.out.trans (HB3.out.mono HB0.out.size)⟩
end Go.Proofs.YtfolcjkednmkoaaGreat
