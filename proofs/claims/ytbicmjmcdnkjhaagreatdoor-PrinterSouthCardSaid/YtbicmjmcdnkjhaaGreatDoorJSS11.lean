/- The writer's number; a word and a number; something in brackets; the boxes of a call that writes. How many words a condition has; words put together kid by kid: plain words. -/
import Derived.Test.YtbicmjmcdnkjhaaGreatDoorJSS1
import Derived.Test.YtbicmjmcdnkjhaaGreatDoorJSS6
import Derived.Test.YtbicmjmcdnkjhaaGreatDoorJSS10
import Derived.Lib.ItoaMem
import Derived.Test.YtbicmjmcdnkjhaaGreatDoorJSS8
set_option linter.unusedVariables false
set_option linter.unusedSimpArgs false
set_option maxRecDepth 20000
set_option maxHeartbeats 1000000
namespace Go.Proofs.YtbicmjmcdnkjhaaGreatDoor
open Go.RowKit
theorem below_grew (w : World) (k : Nat) (os : Array Obj) : Below w.heap.size w (Go.Sort.grow (w.drewN k) os) :=
 ⟨rfl, rfl, rfl, by simp [Go.Sort.grow], fun i hi => by simp [Go.Sort.grow, Array.getElem?_append_left hi]⟩
theorem itoa_nat (W w : World) (n : Nat) (hn : n ≤ 10000000) (ht : Tabs W) (hb : Below W.heap.size W w) : Calls Tryz.prog 62 #[.int .i64 (n : Int)] w fun e w' => e = .returned (vs (dec n)) ∧ Below w.heap.size w w' := by
 refine (Tryz.strconv_Itoa n (by omega) (by omega) w (ht.pw w hb)).mono ?_
 rintro e w' ⟨rfl, k, os, rfl⟩
 rw [Lib.itoa_nonneg]
 exact ⟨rfl, below_grew w k os⟩
theorem number_w (W w : World) (p : Nat) (T : TypeId) (S : Nat → Prop) (L N : List (List UInt8)) (n : Nat) (h : Wr W w p T S L N) (hn : n ≤ 10000000) (hlen : L.length + 1 ≤ 1000000) (ht : Tabs W) :
 Calls Tryz.prog 29 #[.pointer (some ⟨p, 0, none⟩), .int .i64 (n : Int)] w (WrPost W w p T S (L ++ [dec n]) N) := by
 have HI := Hi (itoa_nat W w n hn ht h.below)
 have H := Hi h
 clear h ht
 go_enter Tryz.func29, Tryz.ntmps29
 go_wp2_with fail
 refine HI.out.mono ?_
 rintro e w1 ⟨rfl, hb1⟩
 have HB1 := Hi hb1
 have H1 := Hi ((H.out.keep hb1).alloc (.cells #[vs (dec n)] 9))
 clear hb1
 go_wp2_with fail
 refine (add_any W _ p T S L N [dec n] _ 1 H1.out cells_one (by simpa using hlen)).mono ?_
 rintro e w3 ⟨rfl, S', hw, hf⟩
 have HW := Hi hw
 have HF := Hi hf
 clear hw hf
 go_wp2_with fail
 go_end0
 exact ⟨rfl, S', HW.out, ((WrFr.of_below S HB1.out).alloc _).trans HF.out⟩
/- one word -/
theorem word_w (W w : World) (p : Nat) (T : TypeId) (S : Nat → Prop) (L N : List (List UInt8)) (s : List UInt8) (g : Nat) (hg : g = w.heap.size) (h : Wr W w p T S L N) (hlen : L.length + 1 ≤ 1000000) :
 Calls Tryz.prog 27 #[.pointer (some ⟨p, 0, none⟩), .slice (some ⟨g, 0, none⟩) 1 1] (w.alloc (.cells #[vs s] 9)) (WrPost W w p T S (L ++ [s]) N) := by
 subst hg
 refine (add_any W _ p T S L N [s] _ 1 (h.alloc _) cells_one (by simpa using hlen)).mono ?_
 rintro e w3 ⟨rfl, S', hw, hf⟩
 exact ⟨rfl, S', hw, ((WrFr.refl S w).alloc _).trans hf⟩
/- two words -/
theorem word2_w (W w : World) (p : Nat) (T : TypeId) (S : Nat → Prop) (L N : List (List UInt8)) (s u : List UInt8) (g : Nat) (hg : g = w.heap.size) (h : Wr W w p T S L N) (hlen : L.length + 2 ≤ 1000000) :
 Calls Tryz.prog 27 #[.pointer (some ⟨p, 0, none⟩), .slice (some ⟨g, 0, none⟩) 2 2] (w.alloc (.cells #[vs s, vs u] 9)) (WrPost W w p T S (L ++ [s, u]) N) := by
 subst hg
 refine (add_any W _ p T S L N [s, u] _ 2 (h.alloc _) ?_ (by simpa using hlen)).mono ?_
 · intro j x hx
   match j, hx with
   | 0, hx => cases hx; exact cOb (new_at rfl) rfl
   | 1, hx => cases hx; exact cOb (new_at rfl) rfl
   | j + 2, hx => simp at hx
 rintro e w3 ⟨rfl, S', hw, hf⟩
 exact ⟨rfl, S', hw, ((WrFr.refl S w).alloc _).trans hf⟩
/- the boxes of a call that writes: the writer's address, and what is written -/
structure NB (W w0 wc : World) (p : Nat) (T : TypeId) (S0 S : Nat → Prop) (L N : List (List UInt8)) (bw bf : Nat) (Tp Tf : TypeId) (C : Array Value) : Prop where
 wr : Wr W wc p T S L N
 fr : WrFr S0 S w0 wc
 bx1 : wc.heap[bw]? = some (.cells #[.pointer (some ⟨p, 0, none⟩)] Tp (0, 0))
 bx2 : wc.heap[bf]? = some (.cells C Tf (0, 0))
 n1 : ¬ S bw
 n2 : ¬ S bf
theorem NB.step {W w0 wc w' : World} {p : Nat} {T : TypeId} {S0 S S' : Nat → Prop} {L N L' N' : List (List UInt8)} {bw bf : Nat} {Tp Tf : TypeId} {C : Array Value} (h : NB W w0 wc p T S0 S L N bw bf Tp Tf C) (hw : Wr W w' p T S' L' N') (hf : WrFr S S' wc w') : NB W w0 w' p T S0 S' L' N' bw bf Tp Tf C :=
 ⟨hw, h.fr.trans hf, (hf.box h.bx1 h.n1).1, (hf.box h.bx2 h.n2).1, (hf.box h.bx1 h.n1).2, (hf.box h.bx2 h.n2).2⟩
theorem NB.below {W w0 wc w' : World} {p : Nat} {T : TypeId} {S0 S : Nat → Prop} {L N : List (List UInt8)} {bw bf : Nat} {Tp Tf : TypeId} {C : Array Value} (h : NB W w0 wc p T S0 S L N bw bf Tp Tf C) (hb : Below wc.heap.size wc w') : NB W w0 w' p T S0 S L N bw bf Tp Tf C :=
 h.step (h.wr.keep hb) (WrFr.of_below _ hb)
theorem NB.alloc {W w0 wc : World} {p : Nat} {T : TypeId} {S0 S : Nat → Prop} {L N : List (List UInt8)} {bw bf : Nat} {Tp Tf : TypeId} {C : Array Value} (h : NB W w0 wc p T S0 S L N bw bf Tp Tf C) (o : Obj) : NB W w0 (wc.alloc o) p T S0 S L N bw bf Tp Tf C :=
 h.below ((Below.refl _ _).alloc (lR _) _)
theorem NB.start {W w : World} {p : Nat} {T : TypeId} {S : Nat → Prop} {L N : List (List UInt8)} {Tp Tf : TypeId} {C : Array Value} (h : Wr W w p T S L N) :
 NB W w ((w.alloc (.cells #[.pointer (some ⟨p, 0, none⟩)] Tp)).alloc (.cells C Tf)) p T S S L N w.heap.size (w.heap.size + 1) Tp Tf C :=
 ⟨(h.alloc _).alloc _, ((WrFr.refl S w).alloc _).alloc _, kept_at (new_at rfl), new_at (by simp), h.fresh, fun hs => by have := h.lt _ hs; omega⟩
theorem NB.lts {W w0 wc : World} {p : Nat} {T : TypeId} {S0 S : Nat → Prop} {L N : List (List UInt8)} {bw bf : Nat} {Tp Tf : TypeId} {C : Array Value} (h : NB W w0 wc p T S0 S L N bw bf Tp Tf C) : bw < wc.heap.size ∧ bf < wc.heap.size ∧ wc.cell? ⟨bw, 0, none⟩ = some (.pointer (some ⟨p, 0, none⟩)) :=
 ⟨lHp h.bx1, lHp h.bx2, cOb h.bx1 rfl⟩
theorem NB.post {W w0 wc : World} {p : Nat} {T : TypeId} {S0 S : Nat → Prop} {L N L' N' : List (List UInt8)} {bw bf : Nat} {Tp Tf : TypeId} {C : Array Value} (h : NB W w0 wc p T S0 S L N bw bf Tp Tf C) (hl : L = L') (hn : N = N') : WrPost W w0 p T S0 L' N' (.returned (.tuple #[])) wc := by
 subst hl hn
 exact ⟨rfl, S, h.wr, h.fr⟩
theorem inside_f (W w : World) (p : Nat) (T : TypeId) (S : Nat → Prop) (L N X Y : List (List UInt8)) (g : FuncId) (caps : Array Value) (hcf : ∀ us W, (callFunc g us).run Tryz.prog W = .ok (.enter g us) W)
 (hg : Calls Tryz.prog g caps w (WrPost W w p T S (L ++ X) (N ++ Y))) : Calls Tryz.prog 63 #[.pointer (some ⟨p, 0, none⟩), .bool false, .func (.func g) #[] caps] w (WrPost W w p T S (L ++ X) (N ++ Y)) := by
 have HG := Hi hg
 clear hg
 go_enter Tryz.func63, Tryz.ntmps63
 go_wp2_with fail
 refine HG.out.mono ?_
 rintro e w3 ⟨rfl, S', hw, hf⟩
 have HW := Hi hw
 have HF := Hi hf
 clear hw hf
 go_wp2_with fail
 go_end0
 exact ⟨rfl, S', HW.out, HF.out⟩
theorem inside_t (W w : World) (p : Nat) (T : TypeId) (S : Nat → Prop) (L N X Y : List (List UInt8)) (g : FuncId) (caps : Array Value) (h : Wr W w p T S L N) (hlen : L.length + X.length + 2 ≤ 1000000) (hcf : ∀ us W, (callFunc g us).run Tryz.prog W = .ok (.enter g us) W)
 (hg : ∀ w1 S1, Wr W w1 p T S1 (L ++ [wLp]) N → WrFr S S1 w w1 → Calls Tryz.prog g caps w1 (WrPost W w1 p T S1 (L ++ [wLp] ++ X) (N ++ Y))) : Calls Tryz.prog 63 #[.pointer (some ⟨p, 0, none⟩), .bool true, .func (.func g) #[] caps] w (WrPost W w p T S (L ++ wLp :: (X ++ [wRp])) (N ++ Y)) := by
 have HG := Hi hg
 have H := Hi h
 clear hg h
 go_enter Tryz.func63, Tryz.ntmps63
 go_wp2_with fail
 refine (word_w W _ p T S L N [40] _ rfl H.out (by omega)).mono ?_
 rintro e w1 ⟨rfl, S1, hw1, hf1⟩
 have HW1 := Hi hw1
 have HF1 := Hi hf1
 clear hw1 hf1
 go_wp2_with fail
 refine (HG.out _ S1 HW1.out HF1.out).mono ?_
 rintro e w2 ⟨rfl, S2, hw2, hf2⟩
 have HW2 := Hi hw2
 have HF2 := Hi hf2
 clear hw2 hf2
 go_wp2_with fail
 refine (word_w W _ p T S2 (L ++ [wLp] ++ X) (N ++ Y) [41] _ rfl HW2.out (by simp; omega)).mono ?_
 rintro e w3 ⟨rfl, S3, hw3, hf3⟩
 have HW3 := Hi hw3
 have HF3 := Hi hf3
 clear hw3 hf3
 go_wp2_with fail
 go_end0
 refine ⟨rfl, S3, ?_, (HF1.out.trans HF2.out).trans HF3.out⟩
 have := HW3.out
 simpa using this
end Go.Proofs.YtbicmjmcdnkjhaaGreatDoor
namespace Go.Proofs.YtbicmjmcdnkjhaaGreatDoor
theorem sepW_snoc (w : Bytes) (x : List Bytes) : ∀ xs : List (List Bytes), sepW w (xs ++ [x]) = sepW w xs ++ ((if xs = [] then [] else [w]) ++ x)
 | [] => by simp [sepW]
 | [a] => by simp [sepW]
 | a :: b :: r => by
   have := sepW_snoc w x (b :: r)
   simp only [List.cons_append, sepW] at this ⊢
   rw [this]
   simp
theorem sepW_le (w : Bytes) : ∀ xs : List (List Bytes), (sepW w xs).length ≤ xs.flatten.length + xs.length
 | [] => by simp [sepW]
 | [a] => by simp [sepW]
 | a :: b :: r => by
   have := sepW_le w (b :: r)
   simp only [sepW, List.length_append, List.length_cons, List.flatten_cons] at this ⊢
   omega
theorem wrap_le (b : Bool) (k : Tree) (oa oo : Nat) (l : List Bytes) : (wrapW b k oa oo l).length ≤ l.length + 2 := by
 unfold wrapW
 split <;> simp
theorem sizes_split (ks : List Tree) (k : Nat) : sizes (ks.take k) ≤ sizes ks := by
 induction ks generalizing k with
 | nil => simp
 | cons a r ih =>
   cases k with
   | zero => simp [sizes]
   | succ k =>
     have := ih k
     rw [List.take_succ_cons, sizes, sizes]
     omega
theorem sizes_snoc {ks : List Tree} {k : Nat} {t : Tree} (h : ks[k]? = some t) : sizes (ks.take (k + 1)) = sizes (ks.take k) + t.size := by
 induction ks generalizing k with
 | nil => simp at h
 | cons a r ih =>
   cases k with
   | zero =>
     simp at h
     subst h
     simp [sizes]
   | succ k =>
     have := ih (k := k) (by simpa using h)
     rw [List.take_succ_cons, List.take_succ_cons, sizes, sizes, this]
     omega
mutual
theorem wF_le : ∀ t : Tree, (wF t).length + 3 ≤ 6 * t.size
 | .mk op name cmp n ks => by
   have h0 := fun b => wFs_le b ks
   have h1 := h0 false
   have h2 := h0 true
   have h3 := fun w b => sepW_le w (wFs b ks)
   have h4 := h3 wAnd false
   have h5 := h3 wOr true
   rw [wF, Tree.size]
   repeat' split
   all_goals first | (simp only [List.length_cons, List.length_nil]; omega) | omega
theorem wFs_le (b : Bool) : ∀ ks : List Tree, (wFs b ks).flatten.length + (wFs b ks).length ≤ 6 * sizes ks
 | [] => by rw [wFs, sizes]; simp
 | k :: r => by
   have h1 := wF_le k
   have h2 := wFs_le b r
   have h3 := wrap_le b k 6 7 (wF k)
   rw [wFs, sizes]
   simp only [List.flatten_cons, List.length_append, List.length_cons]
   omega
end
theorem wFs_snoc (b : Bool) {ks : List Tree} {k : Nat} {t : Tree} (h : ks[k]? = some t) : wFs b (ks.take (k + 1)) = wFs b (ks.take k) ++ [wrapW b t 6 7 (wF t)] := by
 rw [wFs_map, wFs_map, List.take_add_one, h, List.map_append]
 rfl
theorem wFs_len (b : Bool) (ks : List Tree) : (wFs b ks).length = ks.length := by rw [wFs_map, List.length_map]
theorem sep_wF (b : Bool) (w : Bytes) (ks : List Tree) : (sepW w (wFs b ks)).length ≤ 6 * sizes ks := Nat.le_trans (sepW_le _ _) (wFs_le b ks)
mutual
theorem wS_le : ∀ t : Tree, (wS t).length + 3 ≤ 6 * t.size
 | .mk op name cmp n ks => by
   have h0 := fun b => wSs_le b ks
   have h1 := h0 false
   have h2 := h0 true
   have h3 := fun w b => sepW_le w (wSs b ks)
   have h4 := h3 wAnd false
   have h5 := h3 wOr true
   rw [wS, Tree.size]
   repeat' split
   all_goals first | (simp only [List.length_cons, List.length_nil]; omega) | omega
theorem wSs_le (b : Bool) : ∀ ks : List Tree, (wSs b ks).flatten.length + (wSs b ks).length ≤ 6 * sizes ks
 | [] => by rw [wSs, sizes]; simp
 | k :: r => by
   have h1 := wS_le k
   have h2 := wSs_le b r
   have h3 := wrap_le b k 8 9 (wS k)
   rw [wSs, sizes]
   simp only [List.flatten_cons, List.length_append, List.length_cons]
   omega
end
theorem wSs_snoc (b : Bool) {ks : List Tree} {k : Nat} {t : Tree} (h : ks[k]? = some t) : wSs b (ks.take (k + 1)) = wSs b (ks.take k) ++ [wrapW b t 8 9 (wS t)] := by
 rw [wSs_map, wSs_map, List.take_add_one, h, List.map_append]
 rfl
theorem wSs_len (b : Bool) (ks : List Tree) : (wSs b ks).length = ks.length := by rw [wSs_map, List.length_map]
theorem sep_wS (b : Bool) (w : Bytes) (ks : List Tree) : (sepW w (wSs b ks)).length ≤ 6 * sizes ks := Nat.le_trans (sepW_le _ _) (wSs_le b ks)
namespace So
mutual
theorem wF_le : ∀ t : Tree, (wF t).length ≤ 3 * t.size
 | .mk op name cmp n ks => by
   have h1 := wFs_le ks
   rw [wF, Tree.size, List.length_append]
   repeat' split
   all_goals first | (simp only [List.length_cons, List.length_nil]; omega) | omega
theorem wFs_le : ∀ ks : List Tree, (wFs ks).length ≤ 3 * sizes ks
 | [] => by rw [wFs, sizes]; simp
 | k :: r => by
   have h1 := wF_le k
   have h2 := wFs_le r
   rw [wFs, sizes, List.length_append]
   omega
end
theorem wFs_snoc : ∀ {ks : List Tree} {k : Nat} {t : Tree}, ks[k]? = some t → wFs (ks.take (k + 1)) = wFs (ks.take k) ++ wF t
 | [], k, t, h => by simp at h
 | a :: r, 0, t, h => by
   simp at h
   subst h
   simp [wFs]
 | a :: r, k + 1, t, h => by
   have := wFs_snoc (ks := r) (k := k) (by simpa using h)
   rw [List.take_succ_cons, List.take_succ_cons, wFs, wFs, this, List.append_assoc]
mutual
theorem wS_le : ∀ t : Tree, (wS t).length ≤ 3 * t.size
 | .mk op name cmp n ks => by
   have h1 := wSs_le ks
   rw [wS, Tree.size, List.length_append]
   repeat' split
   all_goals first | (simp only [List.length_cons, List.length_nil]; omega) | omega
theorem wSs_le : ∀ ks : List Tree, (wSs ks).length ≤ 3 * sizes ks
 | [] => by rw [wSs, sizes]; simp
 | k :: r => by
   have h1 := wS_le k
   have h2 := wSs_le r
   rw [wSs, sizes, List.length_append]
   omega
end
theorem wSs_snoc : ∀ {ks : List Tree} {k : Nat} {t : Tree}, ks[k]? = some t → wSs (ks.take (k + 1)) = wSs (ks.take k) ++ wS t
 | [], k, t, h => by simp at h
 | a :: r, 0, t, h => by
   simp at h
   subst h
   simp [wSs]
 | a :: r, k + 1, t, h => by
   have := wSs_snoc (ks := r) (k := k) (by simpa using h)
   rw [List.take_succ_cons, List.take_succ_cons, wSs, wSs, this, List.append_assoc]
end So
theorem namesFs_snoc : ∀ {ks : List Tree} {k : Nat} {t : Tree}, ks[k]? = some t → namesFs (ks.take (k + 1)) = namesFs (ks.take k) ++ namesF t
 | [], k, t, h => by simp at h
 | a :: r, 0, t, h => by
   simp at h
   subst h
   simp [namesFs]
 | a :: r, k + 1, t, h => by
   have := namesFs_snoc (ks := r) (k := k) (by simpa using h)
   rw [List.take_succ_cons, List.take_succ_cons, namesFs, namesFs, this, List.append_assoc]
theorem namesSs_snoc : ∀ {ks : List Tree} {k : Nat} {t : Tree}, ks[k]? = some t → namesSs (ks.take (k + 1)) = namesSs (ks.take k) ++ namesS t
 | [], k, t, h => by simp at h
 | a :: r, 0, t, h => by
   simp at h
   subst h
   simp [namesSs]
 | a :: r, k + 1, t, h => by
   have := namesSs_snoc (ks := r) (k := k) (by simpa using h)
   rw [List.take_succ_cons, List.take_succ_cons, namesSs, namesSs, this, List.append_assoc]
mutual
theorem namesF_le : ∀ t : Tree, (namesF t).length ≤ t.size
 | .mk op name cmp n ks => by
   have h1 := namesFs_le ks
   rw [namesF, Tree.size, List.length_append]
   split <;> simp <;> omega
theorem namesFs_le : ∀ ks : List Tree, (namesFs ks).length ≤ sizes ks
 | [] => by rw [namesFs, sizes]; simp
 | k :: r => by
   have h1 := namesF_le k
   have h2 := namesFs_le r
   rw [namesFs, sizes, List.length_append]
   omega
end
mutual
theorem namesS_le : ∀ t : Tree, (namesS t).length ≤ t.size
 | .mk op name cmp n ks => by
   have h1 := namesSs_le ks
   rw [namesS, Tree.size, List.length_append]
   split <;> simp <;> omega
theorem namesSs_le : ∀ ks : List Tree, (namesSs ks).length ≤ sizes ks
 | [] => by rw [namesSs, sizes]; simp
 | k :: r => by
   have h1 := namesS_le k
   have h2 := namesSs_le r
   rw [namesSs, sizes, List.length_append]
   omega
end
theorem shapeFs_get : ∀ {ks : List Tree} {k : Nat} {t : Tree}, shapeFs ks = true → ks[k]? = some t → shapeF t = true
 | [], k, t, _, h => by simp at h
 | a :: r, 0, t, hs, h => by
   simp at h
   subst h
   rw [shapeFs, Bool.and_eq_true] at hs
   exact hs.1
 | a :: r, k + 1, t, hs, h => by
   rw [shapeFs, Bool.and_eq_true] at hs
   exact shapeFs_get hs.2 (by simpa using h)
theorem shapeSs_get : ∀ {ks : List Tree} {k : Nat} {t : Tree}, shapeSs ks = true → ks[k]? = some t → shapeS t = true
 | [], k, t, _, h => by simp at h
 | a :: r, 0, t, hs, h => by
   simp at h
   subst h
   rw [shapeSs, Bool.and_eq_true] at hs
   exact hs.1
 | a :: r, k + 1, t, hs, h => by
   rw [shapeSs, Bool.and_eq_true] at hs
   exact shapeSs_get hs.2 (by simpa using h)
theorem ups_get : ∀ {ks : List Tree} {k : Nat} {t : Tree}, ks[k]? = some t → (ups ks)[k]? = some (up t)
 | [], k, t, h => by simp at h
 | a :: r, 0, t, h => by
   simp at h
   subst h
   rw [ups]; rfl
 | a :: r, k + 1, t, h => by
   rw [ups]
   simpa using ups_get (ks := r) (k := k) (by simpa using h)
end Go.Proofs.YtbicmjmcdnkjhaaGreatDoor
