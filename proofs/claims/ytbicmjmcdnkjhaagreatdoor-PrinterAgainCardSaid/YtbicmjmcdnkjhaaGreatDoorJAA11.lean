/- A key of two bytes added to a replacer's tree, at its root. -/
import Derived.Test.YtbicmjmcdnkjhaaGreatDoorJAA10
import Derived.Stop.Asserts
set_option linter.unusedVariables false
set_option linter.unusedSimpArgs false
namespace Go.Proofs.YtbicmjmcdnkjhaaGreatDoor
section
open Go.RowKit
theorem Fz {t : Nat} {w w1 w' : World} (h : w1.heap = w.heap) (ho : w1.os = w.os) (ht : w1.tape = w.tape) (hp : w1.output = w.output) (he : Eff t w1 w') : Eff t w w' :=
 ⟨he.os.trans ho, he.tape.trans ht, he.output.trans hp, by rw [<- h]; exact he.size, fun k hk hn => by rw [<- h] at hk ⊢; exact he.block k hk hn⟩
theorem qff (mp : Nat -> Nat) (ts B : Nat) (w : World) (r tb : Nat) (st : Nat -> Sub) (h : Vw mp ts B w r tb st) (x y : UInt8) (val : Qa) (q : Int) (hx : mp x.toNat < ts) (hy : mp y.toNat < ts) (hf : Fr mp (st (mp x.toNat)) y) (hp : ∀ y0 v0 q0, st (mp x.toNat) = .pre y0 v0 q0 -> mp y0.toNat < ts) :
 Calls Tryz.prog 181 #[Jd r, vs [x, y], vs val, .int .i64 q, Jd r] w (No fun w' => Vw mp ts B w' r tb (I3 st (mp x.toNat) (Pe (st (mp x.toNat)) y val q)) /\ Below B w w') := by
 have aK := h.gr; have bK := h.lo; obtain ⟨-, -, c2, -, c4, -, -⟩ := aK.cells; obtain ⟨D, h1, h2, F, h3, h4, h5⟩ := h.root; have bI := aK.lt; have bB := lHp h1; have aU : B <= w.heap.size := by omega
 have bW : r ≠ tb := by
  rintro rfl; obtain ⟨C, e, -⟩ := aK.is; rw [e] at h1; simp at h1
 obtain ⟨pv, aI, aA⟩ := h5 _ hx; have dT : mp x.toNat < D.size := by omega
 cases aD : st (mp x.toNat) with
 | no =>
   rw [aD] at aA; have e : pv = nilP := aA; subst e; refine (qhg mp ts tb w r r tb D x y val q c2 c4 h1 aI aK hx bW).mono ?_; rintro e w' ⟨rfl, n, g1, g2, g3, ⟨l, g4, g5, g6, g7⟩, g8⟩; refine ⟨rfl, ?_, g8.below bK.2 aU⟩; refine Vw.change (G := fun b => b = n \/ b = l) aK bK h1 h2 h3 h4 h5 g8.size (fun b hb cC _ => g8.block b hb cC) aU g3 (by simpa using h2) (fun j hj => by rw [Array.getElem?_setIfInBounds, if_neg (fun e => hj e.symm)]) (by rw [Array.getElem?_setIfInBounds, if_pos rfl, if_pos dT]) (fun b hb => ?_) ?_
   · rcases hb with rfl | rfl
     · exact Or.inr ⟨g1, g2⟩
     · exact Or.inr ⟨g4, g5⟩
   · exact ⟨n, l, rfl, Or.inl rfl, Or.inr rfl, g6, g7⟩
 | pre y0 v0 q0 =>
   rw [aD] at aA hf; obtain ⟨n, l0, rfl, f1, f2, f3, f4⟩ := aA; obtain ⟨cC, cD⟩ := hf; have hn := h3 _ _ f1; have dY := h3 _ _ f2
   have bJ : n ≠ l0 := by
    rintro rfl; unfold Yy Zp at *; rw [f3] at f4; simp at f4
   have dK := hp y0 v0 q0 aD; refine (Si mp ts tb w r r tb D x y n (fun w' => Vw mp ts B w' r tb (I3 st (mp x.toNat) (Pe (.pre y0 v0 q0) y val q)) /\ Below B w w') val q c2 c4 h1 aI aK hx bW (fun w1 e1 e2 e3 e4 => ?_)).mono (fun e w' h => h); have aH : Zp w1 n [] 0 [y0] (Jd l0) (.slice none 0 0) := by unfold Zp; rw [e1]; exact f3
   refine (qee mp ts tb w1 n r l0 y0 y val q aH (aK.keep (by rw [e1])) cC dK hy cD).mono ?_; rintro e w' ⟨rfl, t, l, g1, g2, g3, g4, g5, g6, g7⟩; rw [e1] at g1 g3; have g8 := Fz e1 e2 e3 e4 g7; refine ⟨rfl, ?_, g8.below hn.2.2.2 aU⟩; refine Vw.change (G := fun b => b = n \/ b = l0 \/ b = l \/ b = t) (pv' := Jd n) aK bK h1 h2 h3 h4 h5 g8.size (fun b hb _ cA => g8.block b hb (fun e => cA (e ▸ f1))) aU ((g8.block tb bB (fun e => hn.2.1 e.symm)).trans h1) h2 (fun j _ => rfl) aI (fun b hb => ?_) ?_
   · rcases hb with rfl | rfl | rfl | rfl
     · exact Or.inl f1
     · exact Or.inl f2
     · exact Or.inr ⟨g1, g2⟩
     · exact Or.inr ⟨g3, lHp g6⟩
   · refine ⟨n, t, _, rfl, Or.inl rfl, Or.inr (Or.inr (Or.inr rfl)), g4, g6, by simp, fun m hm => ?_⟩
     by_cases aG : mp y.toNat = m
     · refine ⟨Jd l, by rw [Array.getElem?_setIfInBounds, if_pos aG, if_pos (by simpa using aG ▸ hm)], Or.inl ⟨y, val, q, l, by simp, aG, rfl, Or.inr (Or.inr (Or.inl rfl)), g5⟩⟩
     · by_cases aS : mp y0.toNat = m
       · refine ⟨Jd l0, by rw [Array.getElem?_setIfInBounds, if_neg aG, Array.getElem?_setIfInBounds, if_pos aS, if_pos (by simpa using aS ▸ hm)], Or.inl ⟨y0, v0, q0, l0, by simp, aS, rfl, Or.inr (Or.inl rfl), ?_⟩⟩; exact f4.keep (g8.block l0 dY.2.2.1 (fun e => bJ e.symm))
       · refine ⟨nilP, by rw [Array.getElem?_setIfInBounds, if_neg aG, Array.getElem?_setIfInBounds, if_neg aS]; simp [hm], Or.inr ⟨rfl, fun y' v' q' aB => ?_⟩⟩; simp at aB; rcases aB with ⟨rfl, -⟩ | ⟨rfl, -⟩
         · exact aS
         · exact aG
 | tab L =>
   rw [aD] at aA hf; obtain ⟨n, t, C, rfl, f1, f2, f3, f4, f5, f6⟩ := aA; have hn := h3 _ _ f1; have bA := h3 _ _ f2; have cT := Xq f3 f4; obtain ⟨pv2, bX, dP⟩ := f6 _ hy
   have bZ : pv2 = nilP := by
    rcases dP with ⟨y', v', q', l', a, b, -⟩ | ⟨a, -⟩
    · exact absurd b (hf y' v' q' a)
    · exact a
   subst bZ; refine (Si mp ts tb w r r tb D x y n (fun w' => Vw mp ts B w' r tb (I3 st (mp x.toNat) (Pe (.tab L) y val q)) /\ Below B w w') val q c2 c4 h1 aI aK hx bW (fun w1 e1 e2 e3 e4 => ?_)).mono (fun e w' h => h); have aH : Zp w1 n [] 0 [] nilP (.slice (some ⟨t, 0, none⟩) ts ts) := by unfold Zp; rw [e1]; exact f3
   have eN : w1.heap[t]? = some (.cells C 249 (0, 0)) := by rw [e1]; exact f4
   refine (qhh mp ts tb w1 n r t C y val q aH.cells.2.2.1 aH.cells.2.2.2.2.1 eN bX (aK.keep (by rw [e1])) hy cT).mono ?_; rintro e w' ⟨rfl, l, g1, g2, g3, g5, g7⟩; rw [e1] at g1; have g8 := Fz e1 e2 e3 e4 g7; have eI : mp y.toNat < C.size := by omega
   refine ⟨rfl, ?_, g8.below bA.2.2.2 aU⟩; refine Vw.change (G := fun b => F (mp x.toNat) b \/ b = l) (pv' := Jd n) aK bK h1 h2 h3 h4 h5 g8.size (fun b hb _ cA => g8.block b hb (fun e => cA (e ▸ f2))) aU ((g8.block tb bB (fun e => bA.2.1 e.symm)).trans h1) h2 (fun j _ => rfl) aI (fun b hb => ?_) ?_
   · rcases hb with hb | rfl
     · exact Or.inl hb
     · exact Or.inr ⟨g1, g2⟩
   · refine ⟨n, t, _, rfl, Or.inl f1, Or.inl f2, (g8.block n hn.2.2.1 cT).trans f3, g3, by simpa using f5, fun m hm => ?_⟩
     by_cases aG : mp y.toNat = m
     · exact ⟨Jd l, by rw [Array.getElem?_setIfInBounds, if_pos aG, if_pos eI], Or.inl ⟨y, val, q, l, by simp, aG, rfl, Or.inr rfl, g5⟩⟩
     · obtain ⟨pv3, a, b⟩ := f6 m hm; refine ⟨pv3, by rw [Array.getElem?_setIfInBounds, if_neg aG]; exact a, ?_⟩; rcases b with ⟨y', v', q', l', b1, b2, b3, b4, b5⟩ | ⟨b1, b2⟩
       · refine Or.inl ⟨y', v', q', l', by simp [b1], b2, b3, Or.inl b4, b5.keep (g8.block l' (h3 _ _ b4).2.2.1 ?_)⟩; exact Xq b5 f4
       · refine Or.inr ⟨b1, fun y' v' q' aB => ?_⟩; simp at aB; rcases aB with aB | ⟨rfl, -⟩
         · exact b2 y' v' q' aB
         · exact aG
def Jf (l : List UInt8) (k : Nat) : Nat := if l.any (fun b => b.toNat == k) then 1 else 0
def sumF (f : Nat -> Nat) : Nat -> Nat
 | 0 => 0
 | n + 1 => sumF f n + f n
def mpF (f : Nat -> Nat) (ts : Nat) (k : Nat) : Nat := if f k = 0 then ts else sumF f k
theorem qf1 (l : List UInt8) (k : Nat) : Jf l k <= 1 := by unfold Jf; split <;> omega
theorem Mh {l : List UInt8} {k : Nat} (h : Jf l k ≠ 0) : k < 256 := by
 unfold Jf at h
 split at h
 · rename_i h1; rw [List.any_eq_true] at h1; obtain ⟨b, -, hb⟩ := h1; have := UInt8.toNat_lt b; simp at hb; omega
 · exact absurd rfl h
theorem Mg (l : List UInt8) (b : UInt8) (k : Nat) : Jf (l ++ [b]) k = if k = b.toNat then 1 else Jf l k := by
 unfold Jf; rw [List.any_append]
 by_cases h : k = b.toNat
 · subst h; simp
 · rw [if_neg h]; have : ¬ b.toNat = k := fun e => h e.symm; simp [this]
theorem qhw {f : Nat -> Nat} (h : ∀ k, f k <= 1) (k : Nat) : sumF f k <= k := by
 induction k with
 | zero => exact lR _
 | succ k ih => have := h k; simp only [sumF]; omega
theorem Ox (f : Nat -> Nat) {i j : Nat} (h : i <= j) : sumF f i <= sumF f j := by
 induction h with
 | refl => exact lR _
 | step h ih => simp only [sumF]; omega
theorem qj6 {l : List UInt8} {ts : Nat} (aR : ts = sumF (Jf l) 256) (k : Nat) : mpF (Jf l) ts k <= ts := by
 unfold mpF
 split
 · exact lR _
 · rename_i h; rw [aR]; exact Ox _ (Nat.le_of_lt (Mh h))
theorem qbm {l : List UInt8} {ts : Nat} (aR : ts = sumF (Jf l) 256) (a b : Nat) (ha : mpF (Jf l) ts a < ts) (cK : mpF (Jf l) ts a = mpF (Jf l) ts b) : a = b := by
 have fa : Jf l a ≠ 0 := fun e => by unfold mpF at ha; rw [if_pos e] at ha; omega
 have fb : Jf l b ≠ 0 := fun e => by rw [cK] at ha; unfold mpF at ha; rw [if_pos e] at ha; omega
 unfold mpF at cK; rw [if_neg fa, if_neg fb] at cK; rcases Nat.lt_trichotomy a b with h | h | h
 · have := Ox (Jf l) (show a + 1 <= b from h); simp only [sumF] at this; omega
 · exact h
 · have := Ox (Jf l) (show b + 1 <= a from h); simp only [sumF] at this; omega
structure Mk (W : World) (r : Nat) (tab : Value) (ts : Nat) (f : Nat -> Nat) : Prop where
 is : ∃ C : Array Value, W.heap[r]? = some (.cells C 254 (0, 0)) /\ C.size = 262 /\ C[0]? = some (vs []) /\ C[1]? = some (.int .i64 0) /\ C[2]? = some (vs []) /\ C[3]? = some nilP /\
  C[4]? = some tab /\ C[5]? = some (.int .i64 ts) /\ ∀ k, k < 256 -> C[6 + k]? = some (.int .u8 (f k))
theorem Mk.lt {W : World} {r : Nat} {tab : Value} {ts : Nat} {f : Nat -> Nat} (h : Mk W r tab ts f) : r < W.heap.size := by
 obtain ⟨C, h0, -⟩ := h.is; exact lHp h0
theorem Mk.cells {W : World} {r : Nat} {tab : Value} {ts : Nat} {f : Nat -> Nat} (h : Mk W r tab ts f) : W.cell? ⟨r, 4, none⟩ = some tab /\ W.cell? ⟨r, 5, none⟩ = some (.int .i64 ts) /\ (∀ o, W.frozen? ⟨r, o, none⟩ = false) /\ ∀ k, k < 256 -> W.cell? ⟨r, 6 + k, none⟩ = some (.int .u8 (f k)) := by
 obtain ⟨C, h0, -, h1, h2, h3, h4, h5, h6, h7⟩ := h.is; exact ⟨cOb h0 h5, cOb h0 h6, fun o => fOb h0, fun k hk => cOb h0 (h7 k hk)⟩
theorem Mk.set {W : World} {r : Nat} {tab : Value} {ts : Nat} {f g : Nat -> Nat} (h : Mk W r tab ts f) (k v : Nat) (hk : k < 256) (hg : ∀ j, j < 256 -> g j = if j = k then v else f j) : Mk (W.setCell ⟨r, 6 + k, none⟩ (.int .u8 v)) r tab ts g := by
 obtain ⟨C, h0, hs, h1, h2, h3, h4, h5, h6, h7⟩ := h.is; refine ⟨C.setIfInBounds (6 + k) (.int .u8 v), by rw [rSc h0], by simpa using hs, ?_, ?_, ?_, ?_, ?_, ?_, fun j hj => ?_⟩
 any_goals
  rw [Array.getElem?_setIfInBounds, if_neg (by omega)]; assumption
 rw [Array.getElem?_setIfInBounds, hg j hj]
 by_cases e : j = k
 · subst e; rw [if_pos rfl, if_pos (by omega), if_pos rfl]
 · rw [if_neg (by omega), if_neg e]; exact h7 j hj
theorem Mk.sum {W : World} {r : Nat} {tab : Value} {ts ts' : Nat} {f : Nat -> Nat} (h : Mk W r tab ts f) : Mk (W.setCell ⟨r, 5, none⟩ (.int .i64 ts')) r tab ts' f := by
 obtain ⟨C, h0, hs, h1, h2, h3, h4, h5, h6, h7⟩ := h.is; refine ⟨C.setIfInBounds 5 (.int .i64 ts'), by rw [rSc h0], by simpa using hs, ?_, ?_, ?_, ?_, ?_, ?_, fun j hj => ?_⟩
 any_goals
  rw [Array.getElem?_setIfInBounds, if_neg (by omega)]
  first | assumption | exact h7 j hj
 rw [Array.getElem?_setIfInBounds, if_pos rfl, if_pos (by omega)]
theorem Mk.tabs {W : World} {r : Nat} {tab tab' : Value} {ts : Nat} {f : Nat -> Nat} (h : Mk W r tab ts f) : Mk (W.setCell ⟨r, 4, none⟩ tab') r tab' ts f := by
 obtain ⟨C, h0, hs, h1, h2, h3, h4, h5, h6, h7⟩ := h.is; refine ⟨C.setIfInBounds 4 tab', by rw [rSc h0], by simpa using hs, ?_, ?_, ?_, ?_, ?_, ?_, fun j hj => ?_⟩
 any_goals
  rw [Array.getElem?_setIfInBounds, if_neg (by omega)]
  first | assumption | exact h7 j hj
 rw [Array.getElem?_setIfInBounds, if_pos rfl, if_pos (by omega)]
theorem Mk.keep {W W' : World} {r : Nat} {tab : Value} {ts : Nat} {f : Nat -> Nat} (h : Mk W r tab ts f) (hk : W'.heap[r]? = W.heap[r]?) : Mk W' r tab ts f := by
 obtain ⟨C, h0, h1⟩ := h.is; exact ⟨C, hk.trans h0, h1⟩
theorem Mk.same {W : World} {r : Nat} {tab : Value} {ts : Nat} {f g : Nat -> Nat} (h : Mk W r tab ts f) (hg : ∀ k, k < 256 -> g k = f k) : Mk W r tab ts g := by
 obtain ⟨C, h0, hs, h1, h2, h3, h4, h5, h6, h7⟩ := h.is; exact ⟨C, h0, hs, h1, h2, h3, h4, h5, h6, fun k hk => by rw [hg k hk]; exact h7 k hk⟩
structure MkI (w W : World) (ts : Nat) (f : Nat -> Nat) : Prop where
 blk : Mk W w.heap.size (.slice none 0 0) ts f
 sz : W.heap.size = w.heap.size + 1
 bel : Below w.heap.size w W
theorem MkI.set {w W : World} {ts : Nat} {f g : Nat -> Nat} (h : MkI w W ts f) (k v : Nat) (hk : k < 256) (hg : ∀ j, j < 256 -> g j = if j = k then v else f j) : MkI w (W.setCell ⟨w.heap.size, 6 + k, none⟩ (.int .u8 v)) ts g :=
 ⟨h.blk.set k v hk hg, by simp [h.sz], h.bel.setCell (lR _) _⟩
theorem MkI.sum {w W : World} {ts ts' : Nat} {f : Nat -> Nat} (h : MkI w W ts f) : MkI w (W.setCell ⟨w.heap.size, 5, none⟩ (.int .i64 ts')) ts' f :=
 ⟨h.blk.sum, by simp [h.sz], h.bel.setCell (lR _) _⟩
theorem MkI.drew {w W : World} {ts : Nat} {f : Nat -> Nat} (h : MkI w W ts f) : MkI w W.drew ts f := ⟨h.blk.keep rfl, h.sz, h.bel.drew⟩
theorem MkI.same {w W : World} {ts : Nat} {f g : Nat -> Nat} (h : MkI w W ts f) (hg : ∀ k, k < 256 -> g k = f k) : MkI w W ts g := ⟨h.blk.same hg, h.sz, h.bel⟩
abbrev Pr := UInt8 × UInt8 × Qa
def Jh : List Pr -> List UInt8
 | [] => []
 | (x, y, _) :: r => x :: y :: Jh r
theorem Sa (P : List Pr) (x y : UInt8) (v : Qa) : Jh (P ++ [(x, y, v)]) = Jh P ++ [x, y] := by
 induction P with
 | nil => rfl
 | cons p P ih => obtain ⟨a, b, c⟩ := p; simp [Jh, ih]
def stP (mp : Nat -> Nat) (n : Nat) : Nat -> (Nat -> Sub) -> List Pr -> Nat -> Sub
 | _, st, [] => st
 | i, st, (x, y, v) :: r => stP mp n (i + 2) (I3 st (mp x.toNat) (Pe (st (mp x.toNat)) y v ((n : Int) - i))) r
def st0 : Nat -> Sub := fun _ => .no
theorem qe6 (mp : Nat -> Nat) (n : Nat) (P : List Pr) (x y : UInt8) (v : Qa) : ∀ i st, stP mp n i st (P ++ [(x, y, v)]) = I3 (stP mp n i st P) (mp x.toNat) (Pe (stP mp n i st P (mp x.toNat)) y v ((n : Int) - (i + 2 * P.length))) := by
 induction P with
 | nil => intro i st; simp [stP]
 | cons p P ih =>
   intro i st; obtain ⟨a, b, c⟩ := p; simp only [List.cons_append, stP, ih, List.length_cons]
   congr 2
   push_cast
   omega
theorem MkI.fin {w W : World} {ts : Nat} {mp : Nat -> Nat} (h : MkI w W ts mp) (dU : ∀ k, mp k <= ts) (bH : ts <= 10) :
 Vw mp ts w.heap.size ((W.setCell ⟨w.heap.size, 4, none⟩ (.slice (some ⟨w.heap.size + 1, 0, none⟩) ts ts)).alloc (.cells (Array.replicate ts nilP) 249)) w.heap.size (w.heap.size + 1) st0 /\
 Below w.heap.size w ((W.setCell ⟨w.heap.size, 4, none⟩ (.slice (some ⟨w.heap.size + 1, 0, none⟩) ts ts)).alloc (.cells (Array.replicate ts nilP) 249)) := by
 have h4 := h.blk.tabs (tab' := .slice (some ⟨w.heap.size + 1, 0, none⟩) ts ts); have hb := (h.bel.setCell (p := ⟨w.heap.size, 4, none⟩) (lR _) (.slice (some ⟨w.heap.size + 1, 0, none⟩) ts ts)).alloc (by simp [h.sz]) (.cells (Array.replicate ts nilP) 249); have hs : (W.setCell ⟨w.heap.size, 4, none⟩ (.slice (some ⟨w.heap.size + 1, 0, none⟩) ts ts)).heap.size = w.heap.size + 1 := by simp [h.sz]
 have hn := heap_alloc_new (W.setCell ⟨w.heap.size, 4, none⟩ (.slice (some ⟨w.heap.size + 1, 0, none⟩) ts ts)) (.cells (Array.replicate ts nilP) 249); rw [hs] at hn; refine ⟨⟨⟨(h4.keep (Below.heap_alloc _ _ _ h4.lt)).is, bH, dU⟩, ⟨_, hn, by simp, fun _ _ => False, fun _ _ h => h.elim, fun _ _ _ h => h.elim, fun m hm => ⟨nilP, by simp [hm], rfl⟩⟩, by omega⟩, hb⟩
def okP (mp : Nat -> Nat) (ts n : Nat) (P : List Pr) : Prop := ∀ i x y v, P[i]? = some (x, y, v) -> mp x.toNat < ts /\ mp y.toNat < ts /\ Fr mp (stP mp n 0 st0 (P.take i) (mp x.toNat)) y /\ ∀ y0 v0 q0, stP mp n 0 st0 (P.take i) (mp x.toNat) = .pre y0 v0 q0 -> mp y0.toNat < ts
end
set_option maxRecDepth 100000
set_option maxHeartbeats 16000000
section
open Go.RowKit
attribute [local go_sem ↓] Go.wp_at_zero Go.wp_at_succ
def Cq (a : Addr) : Sem Value := loadVar 157 a
@[local go_sem ↓ high] theorem qdi (a : Addr) : loadVar 157 a = Cq a := by rw [Cq]
theorem Pq (W : World) (b : Nat) (f : Nat -> Nat) (h : ∀ k, k < 256 -> W.cell? ⟨b, 6 + k, none⟩ = some (.int .u8 (f k))) : ∃ C : Array Value, (∀ k, k < 256 -> C[k]? = some (.int .u8 (f k))) /\ (Cq ⟨b, 6, none⟩).run Tryz.prog W = .ok (.agg C) W :=
 ⟨((List.range 256).map fun k => .int .u8 (f k)).toArray, fun k hk => by simp [hk], run_loadVar_mid (P := Tryz.prog) W b 6 157 _ _ (fun j v hv => by
   rw [List.getElem?_map] at hv
   by_cases hj : j < 256
   · rw [List.getElem?_range hj] at hv; injection hv with hv; rw [<- hv]; exact h j hj
   · rw [List.getElem?_eq_none (by simpa using hj)] at hv; cases hv) Tryz.underlying157 rfl (by rw [List.length_map, List.length_range]; kernel_rfl)⟩
theorem Bi (C : Array Value) (k v : Nat) (hk : k < 256) (h : C[k]? = some (.int .u8 v)) (w : World) : (Instr.index 157 (.agg C) (.int .i64 k)).run Tryz.prog w = .ok (.int .u8 v) w := by
 have : (k : Int) < 256 := by omega
 simp [Instr.index, run_underlying Tryz.underlying157, asIntOf, part, this, h, go_sem]; intro h'; omega
theorem zg : Tryz.zeroCells254 = #[vs [], .int .i64 0, vs [], nilP, .slice none 0 0, .int .i64 0] ++ Array.replicate 256 (.int .u8 0) := by kernel_rfl
theorem z1 (k : Nat) (hk : k < 6) : Tryz.zeroCells254[k]? = #[vs [], .int .i64 0, vs [], nilP, .slice none 0 0, .int .i64 0][k]? := by
 rw [zg, Array.getElem?_append_left (by simpa using hk)]
theorem qfy (w : World) : MkI w (w.alloc (.cells Tryz.zeroCells254 254)) 0 (Jf []) :=
 ⟨⟨_, heap_alloc_new w _, by rw [zg]; simp, z1 0 (by omega), z1 1 (by omega), z1 2 (by omega), z1 3 (by omega), z1 4 (by omega), z1 5 (by omega), fun k hk => by
   rw [zg, Array.getElem?_append_right (by simp), Array.getElem?_replicate]; simp [hk, Jf]⟩, by simp, (Below.refl _ _).alloc (lR _) _⟩
theorem Fg {f : Nat -> Nat} {ts k v : Nat} (hv : mpF f ts k = v) : ∀ j, j < 256 -> (if j < k + 1 then mpF f ts j else f j) = if j = k then v else if j < k then mpF f ts j else f j := by
 intro j _
 by_cases h : j = k
 · subst h; rw [if_pos (by omega), if_pos rfl, hv]
 · rw [if_neg h]
   by_cases h2 : j < k
   · rw [if_pos (by omega), if_pos h2]
   · rw [if_neg (by omega), if_neg h2]
theorem qf2 (w : World) (kb c : Nat) (P : List Pr) (hP : P.length <= 100) (hK : ∀ (i : Nat) x y v, P[i]? = some (x, y, v) -> w.cell? ⟨kb, 2 * i, none⟩ = some (vs [x, y]) /\ w.cell? ⟨kb, 2 * i + 1, none⟩ = some (vs v)) (ts : Nat) (aR : ts = sumF (Jf (Jh P)) 256) (bH : ts <= 10) (aT : okP (mpF (Jf (Jh P)) ts) ts (2 * P.length) P) (cV : kb < w.heap.size) :
 Calls Tryz.prog 156 #[.slice (some ⟨kb, 0, none⟩) (2 * P.length) c] w fun e w' => e = .returned (Jd w.heap.size) /\ Vw (mpF (Jf (Jh P)) ts) ts w.heap.size w' w.heap.size (w.heap.size + 1) (stP (mpF (Jf (Jh P)) ts) (2 * P.length) 0 st0 P) /\ Below w.heap.size w w' := by
 obtain ⟨f, hf⟩ : ∃ f, Jf (Jh P) = f := ⟨_, rfl⟩
 have HF := Hi hf; rw [hf] at aR aT ⊢; clear hf; have HK := Hi hK; have cL := Hi aR; have aW := Hi aT; have cN := Hi cV; obtain ⟨n, hn⟩ : ∃ n, n = 2 * P.length := ⟨_, rfl⟩
 rw [<- hn]; have HN := Hi hn; clear hK aR aT cV hn; go_enter Tryz.func156, Tryz.ntmps156
 go_wp2_with fail; go_loopw [4, 5, 6] (fun v4 v5 v6 wr => ∃ i m : Nat, Hid (m = 2 * i) /\ i <= P.length /\ v4 = .int .i64 m /\ MkI w wr 0 (Jf (Jh (P.take i)))) (fun v4 _ _ _ => n - (intOf v4).toNat)
 case atStart => exact ⟨0, 0, Hi rfl, by omega, rfl, qfy w⟩
 case round =>
  obtain ⟨i, m, HM, hi, rfl, hI⟩ := hrel; have HI := Hi hI; clear hI
  by_cases cH : i = P.length
  · subst cH; have ht : ¬ ((m : Int) < (n : Int)) := by have := HM.out; have := HN.out; omega
    rw [List.take_length, HF.out] at HI; have cP : Hid (∀ k, f k <= 1) := Hi (fun k => by rw [<- HF.out]; exact qf1 _ k); obtain ⟨C, hC, cG⟩ := Pq wr w.heap.size f HI.out.blk.cells.2.2.2; have HC := Hi hC; clear hC; go_wp2_with fail; go_loopw [8, 41] (fun v8 bP w2 => ∃ j : Nat, j <= 256 /\ bP = .int .i64 j /\ MkI w w2 (sumF f j) f) (fun _ bP _ => 256 - (intOf bP).toNat)
    case atStart => exact ⟨0, by omega, rfl, HI.out⟩
    case round =>
     obtain ⟨j, hj, rfl, hI⟩ := hrel; have aL := Hi hI; clear cG; obtain ⟨-, c5, fz, -⟩ := hI.blk.cells; have f5 := fz 5; have bU := hI.blk.lt; have eL := qhw cP.out j; clear fz hI
     by_cases eB : j = 256
     · subst eB; rw [<- cL.out] at aL c5; rw [show ((256 : Nat) : Int) = (256 : Int) from rfl]; obtain ⟨C2, dA, cG⟩ := Pq wr w.heap.size f aL.out.blk.cells.2.2.2; have eV := Hi dA; clear dA eL; go_wp2_with fail; go_loopw [9, 10, 11, 58] (fun v9 aQ aP bO w4 => ∃ k : Nat, k <= 256 /\ bO = .int .i64 k /\ v9 = .int .u8 (sumF f k) /\ MkI w w4 ts (fun j => if j < k then mpF f ts j else f j)) (fun _ _ _ bO _ => 256 - (intOf bO).toNat)
       case atStart => exact ⟨0, by omega, rfl, rfl, aL.out.same (fun j hj => by rw [if_neg (by omega)])⟩
       case round =>
        obtain ⟨k, hk, rfl, rfl, hI⟩ := hrel; have aY := Hi hI; clear cG c5 f5; obtain ⟨c4, c5, fz, rm⟩ := hI.blk.cells; have bU := hI.blk.lt; have bT := hI.sz; clear hI
        by_cases dZ : k = 256
        · subst dZ; rw [show ((256 : Nat) : Int) = (256 : Int) from rfl]; have f4 := fz 4; have dV := qfe ts bH; clear fz rm; have cZ : MkI w wr ts (mpF f ts) := aY.out.same (fun j hj => by rw [if_pos hj]); have dF := Hi cZ; clear cZ
          have bS : Vw (mpF f ts) ts w.heap.size ((wr.setCell ⟨w.heap.size, 4, none⟩ (.slice (some ⟨w.heap.size + 1, 0, none⟩) ts ts)).alloc (.cells (Array.replicate ts nilP) 249)) w.heap.size (w.heap.size + 1) st0 /\ Below w.heap.size w ((wr.setCell ⟨w.heap.size, 4, none⟩ (.slice (some ⟨w.heap.size + 1, 0, none⟩) ts ts)).alloc (.cells (Array.replicate ts nilP) 249)) :=
           dF.out.fin (by rw [<- HF.out]; exact qj6 (by rw [HF.out]; exact cL.out)) bH
          go_wp2_with fail; obtain ⟨X, hX⟩ : ∃ X, (wr.setCell ⟨w.heap.size, 4, none⟩ (.slice (some ⟨w.heap.size + 1, 0, none⟩) ts ts)).alloc (.cells (Array.replicate ts nilP) 249) = X := ⟨_, rfl⟩
          rw [hX] at bS ⊢; have dD := Hi bS; clear bS hX dV f4 c4 c5 bU bT dF aY aL HI; go_loopw [12] (fun bQ w5 => ∃ i5 m5 : Nat, Hid (m5 = 2 * i5) /\ i5 <= P.length /\ bQ = .int .i64 m5 /\ Vw (mpF f ts) ts w.heap.size w5 w.heap.size (w.heap.size + 1) (stP (mpF f ts) n 0 st0 (P.take i5)) /\ Below w.heap.size w w5) (fun bQ _ => n - (intOf bQ).toNat)
          case atStart => exact ⟨0, 0, Hi rfl, by omega, rfl, dD.out⟩
          case round =>
           obtain ⟨i5, m5, aF, eC, rfl, hT, hB⟩ := hrel; have HT := Hi hT; have HB := Hi hB; clear hT hB dD
           by_cases cH : i5 = P.length
           · subst cH; have ht : ¬ ((m5 : Int) < (n : Int)) := by have := aF.out; have := HN.out; omega
             rw [List.take_length] at HT; go_wp2_with fail; exact bodyPost_ret (v := Jd w.heap.size) (by simp [results, Tryz.results156, go_sem]) rfl ⟨rfl, HT.out, HB.out⟩
           · obtain ⟨p, hp⟩ : ∃ p, P[i5]? = some p := ⟨_, List.getElem?_eq_getElem (by omega)⟩
             obtain ⟨x, y, v⟩ := p; have ht : (m5 : Int) < (n : Int) := by have := aF.out; have := HN.out; omega
             obtain ⟨m6, cE⟩ : ∃ m6, m6 = m5 + 1 := ⟨_, rfl⟩
             have eZ : (m6 : Int) < (n : Int) := by have := aF.out; have := HN.out; omega
             have aS : (0 : Int) <= (m5 : Int) := (by omega)
             have aG : (0 : Int) <= (m6 : Int) := (by omega)
             have dC : Hid (wrap64 ((m5 : Int) + 2) = ((m5 + 2 : Nat) : Int)) := Hi (by have := aF.out; have := HN.out; unfold wrap64; omega); have eR : Hid (m5 + 2 = 2 * (i5 + 1)) := Hi (by have := aF.out; omega); have aY : Hid (i5 + 1 <= P.length) := Hi (by omega); have eQ : Hid (n - (((m5 + 2 : Nat) : Int)).toNat < n - ((m5 : Nat) : Int).toNat) := Hi (by have := aF.out; have := HN.out; omega); have HE : Hid ((n : Int) - (((0 : Nat) : Int) + 2 * (i5 : Int)) = (n : Int) - ((2 * i5 : Nat) : Int)) := Hi (by omega); have eX : wrap64 ((m5 : Int) + 1) = (m6 : Int) := by have := aF.out; have := HN.out; unfold wrap64; omega
             have dM : IntKind.i64.wrap ((m5 : Int) + 1) = (m6 : Int) := by have := aF.out; have := HN.out; rw [IntKind.wrap_i64]; omega
             have eW : wrap64 ((n : Int) - m5) = (n : Int) - m5 := by have := aF.out; have := HN.out; unfold wrap64; omega
             have dL : IntKind.i64.wrap ((n : Int) - m5) = (n : Int) - m5 := by have := aF.out; have := HN.out; rw [IntKind.wrap_i64]; omega
             have eK : wr.cell? ⟨kb, m5, none⟩ = some (vs [x, y]) := by rw [HB.out.cell (p := ⟨kb, m5, none⟩) cN.out, aF.out]; exact (HK.out i5 x y v hp).1
             have fH : wr.cell? ⟨kb, m6, none⟩ = some (vs v) := by rw [HB.out.cell (p := ⟨kb, m6, none⟩) cN.out, cE, aF.out]; exact (HK.out i5 x y v hp).2
             have HP := Hi hp; have HQ := Hi (aW.out i5 x y v hp); have fJ := Hi cE; clear hp cE; go_upto_region 28 with fail; go_still_tail 17, (by kernel_rfl)
             change wpList _ _ _ _ _ wr.drew
             go_wp2_with fail; have cX : Vw (mpF f ts) ts w.heap.size wr.drew w.heap.size (w.heap.size + 1) (stP (mpF f ts) n 0 st0 (P.take i5)) := HT.out.keep (lR _) (fun _ _ _ => rfl); have eP : Hid (okP (mpF f ts) ts n P) := Hi (by rw [HN.out]; exact aW.out); obtain ⟨o1, o2, o3, o4⟩ := eP.out i5 x y v HP.out; refine (qff (mpF f ts) ts w.heap.size wr.drew w.heap.size (w.heap.size + 1) _ cX x y v ((n : Int) - m5) o1 o2 o3 o4).mono ?_; rintro e w2 ⟨rfl, cY, dB⟩; have eO := Hi cY; have cR := Hi (HB.out.drew.trans dB); clear cY dB cX o1 o2 o3 o4; go_wp2_with fail; go_roundw
             case measure => rw [dC.out]; exact eQ.out
             case rel =>
              have aD : stP (mpF f ts) n 0 st0 (P.take (i5 + 1)) = I3 (stP (mpF f ts) n 0 st0 (P.take i5)) (mpF f ts x.toNat) (Pe (stP (mpF f ts) n 0 st0 (P.take i5) (mpF f ts x.toNat)) y v ((n : Int) - m5)) := by
               rw [List.take_add_one, HP.out]; simp only [Option.toList]; rw [qe6, List.length_take, Nat.min_eq_left eC, aF.out]; rw [HE.out]
              exact ⟨i5 + 1, m5 + 2, eR, aY.out, by rw [dC.out], by rw [aD]; exact eO.out, cR.out⟩
        · have ht : (k : Int) < 256 := by omega
          have k0 : (0 : Int) <= (k : Int) := (by omega)
          have hx := Bi C2 k (f k) (by omega) (eV.out k (by omega)); obtain ⟨b, hb⟩ : ∃ b, f k = b := ⟨_, rfl⟩
          rw [hb] at hx; have cJ := cP.out k; rw [hb] at cJ
          have fI : sumF f k <= 10 := by
           have := Ox f (show k <= 256 by omega); have := cL.out; omega
          have HS : Hid (((sumF f (k + 1) : Nat) : Int) = (sumF f k : Int) + b) := Hi (by simp only [sumF, hb]; omega); have r0 := rm k (by omega); have f6 := fz (6 + k); have HB : Hid (f k = b) := Hi hb; clear fz rm hb; have aC : b = 0 \/ b = 1 := (by omega)
          rcases aC with rfl | rfl
          · have e : ((sumF f (k + 1) : Nat) : Int) = (sumF f k : Int) := by have := HS.out; omega
            have E := Hi e; clear e; go_upto_region 20 with fail; go_still_tail 10, (by kernel_rfl)
            change wpList _ _ _ _ _ wr.drew
            go_wp2_with fail; go_roundw
            case measure =>
             show 256 - ((k : Int) + 1).toNat < 256 - ((k : Nat) : Int).toNat
             omega
            case rel => exact ⟨k + 1, by omega, by go_num, by rw [E.out], aY.out.drew.set k ts (by omega) (Fg (by unfold mpF; rw [if_pos HB.out]))⟩
          · have e : ((sumF f (k + 1) : Nat) : Int) = (sumF f k : Int) + 1 := by have := HS.out; omega
            have E := Hi e; clear e; go_wp2_with fail; go_roundw
            case measure =>
             show 256 - ((k : Int) + 1).toNat < 256 - ((k : Nat) : Int).toNat
             omega
            case rel => exact ⟨k + 1, by omega, by go_num, by rw [E.out], aY.out.set k (sumF f k) (by omega) (Fg (by unfold mpF; rw [if_neg (by rw [HB.out]; omega)]))⟩
     · have ht : (j : Int) < 256 := by omega
       have hx := Bi C j (f j) (by omega) (HC.out j (by omega)); obtain ⟨b, hb⟩ : ∃ b, f j = b := ⟨_, rfl⟩
       rw [hb] at hx; have cJ := cP.out j; rw [hb] at cJ; have hw : wrap64 ((sumF f j : Nat) + (b : Int)) = ((sumF f (j + 1) : Nat) : Int) := by simp only [sumF, hb]; unfold wrap64; omega
       have HS : Hid (((sumF f (j + 1) : Nat) : Int) = (sumF f j : Int) + b) := Hi (by simp only [sumF, hb]; omega); clear hb; have aC : b = 0 \/ b = 1 := (by omega)
       rcases aC with rfl | rfl
       · have e : ((sumF f (j + 1) : Nat) : Int) = (sumF f j : Int) := by have := HS.out; omega
         have E := Hi e; clear hw e; go_wp2_with fail; go_roundw
         case measure =>
          show 256 - ((j : Int) + 1).toNat < 256 - ((j : Nat) : Int).toNat
          omega
         case rel =>
          have h := aL.out.sum (ts' := sumF f (j + 1)); rw [E.out] at h; exact ⟨j + 1, by omega, by go_num, h⟩
       · have e : ((sumF f (j + 1) : Nat) : Int) = (sumF f j : Int) + 1 := by have := HS.out; omega
         have E := Hi e; clear hw e; go_wp2_with fail; go_roundw
         case measure =>
          show 256 - ((j : Int) + 1).toNat < 256 - ((j : Nat) : Int).toNat
          omega
         case rel =>
          have h := aL.out.sum (ts' := sumF f (j + 1)); rw [E.out] at h; exact ⟨j + 1, by omega, by go_num, h⟩
  · obtain ⟨p, hp⟩ : ∃ p, P[i]? = some p := ⟨_, List.getElem?_eq_getElem (by omega)⟩
    obtain ⟨x, y, v⟩ := p; have ht : (m : Int) < (n : Int) := by have := HM.out; have := HN.out; omega
    have aS : (0 : Int) <= (m : Int) := by omega
    have eK : wr.cell? ⟨kb, m, none⟩ = some (vs [x, y]) := by rw [HI.out.bel.cell (p := ⟨kb, m, none⟩) cN.out, HM.out]; exact (HK.out i x y v hp).1
    have HP := Hi hp; clear hp; go_wp2_with fail; go_loopw [6] (fun v6 w2 => ∃ j : Nat, j <= 2 /\ v6 = .int .i64 j /\ MkI w w2 0 (Jf (Jh (P.take i) ++ [x, y].take j))) (fun v6 _ => 2 - (intOf v6).toNat)
    case atStart => exact ⟨0, by omega, rfl, by simpa using HI.out⟩
    case round =>
     obtain ⟨j, hj, rfl, bN⟩ := hrel; have aL := Hi bN; obtain ⟨-, -, fz, rm⟩ := bN.blk.cells; have bU := bN.blk.lt; clear bN; have eA : j = 0 \/ j = 1 \/ j = 2 := (by omega)
     rcases eA with rfl | rfl | rfl
     · have bV : ∀ w, (Instr.index 9 (vs [x, y]) (.int .i64 0)).run Tryz.prog w = .ok (.int .u8 (x.toNat : Int)) w := fun _ => by kernel_rfl
       have j0 : (0 : Int) <= (x.toNat : Int) := (by omega)
       have j1 : (x.toNat : Int) < 256 := by have := UInt8.toNat_lt x; omega
       have r0 := rm x.toNat (UInt8.toNat_lt x); have f0 := fz (6 + x.toNat); clear fz rm; go_upto_region 9 with fail; go_still_tail 7, (by kernel_rfl)
       change wpList _ _ _ _ _ wr.drew
       go_wp2_with fail; go_roundw
       case measure => simp [intOf]
       case rel => exact ⟨1, by omega, rfl, (aL.out.drew.set x.toNat 1 (UInt8.toNat_lt x) (fun k hk => by rw [show [x, y].take 1 = [x] from rfl, Mg]; simp))⟩
     · have bV : ∀ w, (Instr.index 9 (vs [x, y]) (.int .i64 1)).run Tryz.prog w = .ok (.int .u8 (y.toNat : Int)) w := fun _ => by kernel_rfl
       have j0 : (0 : Int) <= (y.toNat : Int) := (by omega)
       have j1 : (y.toNat : Int) < 256 := by have := UInt8.toNat_lt y; omega
       have r0 := rm y.toNat (UInt8.toNat_lt y); have f0 := fz (6 + y.toNat); clear fz rm; go_upto_region 9 with fail; go_still_tail 7, (by kernel_rfl)
       change wpList _ _ _ _ _ wr.drew
       go_wp2_with fail; go_roundw
       case measure => simp [intOf]
       case rel => exact ⟨2, by omega, rfl, (aL.out.drew.set y.toNat 1 (UInt8.toNat_lt y) (fun k hk => by rw [show [x, y].take 2 = [x] ++ [y] from rfl, <- List.append_assoc, Mg]; rfl))⟩
     · clear fz rm; go_wp2_with fail; go_roundw
       case measure =>
        have h1 := HM.out; have h2 := HN.out; have hw : wrap64 ((m : Int) + 2) = ((m + 2 : Nat) : Int) := by unfold wrap64; omega
        rw [hw]; show n - (((m + 2 : Nat) : Int)).toNat < n - ((m : Nat) : Int).toNat
        omega
       case rel =>
        have hw : wrap64 ((m : Int) + 2) = ((m + 2 : Nat) : Int) := by have := HM.out; have := HN.out; unfold wrap64; omega
        have hL : Jh (P.take (i + 1)) = Jh (P.take i) ++ [x, y].take 2 := by
         rw [List.take_add_one, HP.out]; exact Sa _ _ _ _
        have dW : m + 2 = 2 * (i + 1) := by have := HM.out; omega
        have eD : i + 1 <= P.length := (by omega)
        exact ⟨i + 1, m + 2, Hi dW, eD, by rw [hw], by rw [hL]; exact aL.out⟩
end
section
open Go.RowKit
set_option maxRecDepth 100000
set_option maxHeartbeats 4000000
theorem disable (w : World) : (callFunc 196 #[]).run Tryz.prog w = .ok (.value (.tuple #[])) w := run_call_mark0 Tryz.func196 (by kernel_rfl) (by kernel_rfl) (by kernel_rfl) .disable (by kernel_rfl) w
theorem enable (w : World) : (callFunc 198 #[]).run Tryz.prog w = .ok (.value (.tuple #[])) w := run_call_mark0 Tryz.func198 (by kernel_rfl) (by kernel_rfl) (by kernel_rfl) .enable (by kernel_rfl) w
theorem acquire (a : Addr) (w : World) : (callFunc 199 #[.pointer (some a)]).run Tryz.prog w = .ok (.value (.tuple #[])) w := run_call_marked Tryz.func199 (by kernel_rfl) (by kernel_rfl) (by kernel_rfl) .acquire (by kernel_rfl) a w
theorem releaseMerge (a : Addr) (w : World) : (callFunc 201 #[.pointer (some a)]).run Tryz.prog w = .ok (.value (.tuple #[])) w := run_call_marked Tryz.func201 (by kernel_rfl) (by kernel_rfl) (by kernel_rfl) .releaseMerge (by kernel_rfl) a w
theorem Fh (a : Addr) (n : Int) (w : World) (hc : w.cell? a = some (.int .u32 n)) : Calls Tryz.prog 104 #[.pointer (some a)] w fun e w' => e = .returned (.bool (n != 0)) /\ w' = w := by
 have hl := run_call_load (P := Tryz.prog) Tryz.func151 (by kernel_rfl) (by kernel_rfl) (by kernel_rfl) .u32 (by kernel_rfl) hc; go_enter Tryz.func104, Tryz.ntmps104
 go_wp2_with fail; exact bodyPost_ret (v := .bool (n != 0)) (by simp [results, Tryz.results104, go_sem]) rfl ⟨rfl, rfl⟩
theorem qid (a : Addr) (w : World) (hc : w.cell? a = some (.int .i32 0)) (hz : w.frozen? a = false) :
 Calls Tryz.prog 176 #[.pointer (some a)] w fun e w' => e = .returned (.tuple #[]) /\ w' = w.setCell a (.int .i32 1) := by
 have hd := disable; have he := enable; have ha := acquire; have eJ := run_call_cas_hit (P := Tryz.prog) Tryz.func197 (by kernel_rfl) (by kernel_rfl) (by kernel_rfl) .i32 (by kernel_rfl) (y := 1) hc hz; have cI : (w.setCell a (.int .i32 1)).cell? a = some (.int .i32 1) := World.cell?_setCell_same w a _ hc; have eH := run_convert_to_unsafe (P := Tryz.prog) (src := 271) (dst := 214) Tryz.underlying271 Tryz.underlying214 (by kernel_rfl) cI; go_enter Tryz.func176, Tryz.ntmps176
 go_wp2_with fail
 first | go_end0 | (simp only [Exit.inBlock, Exit.then]; refine bodyPost_ret (results_none rfl _ _ _) rfl ?_) | refine bodyPost_ret (results_none rfl _ _ _) rfl ?_
 exact ⟨rfl, rfl⟩
theorem qcg (a : Addr) (w : World) (hc : w.cell? a = some (.int .i32 1)) (hz : w.frozen? a = false) :
 Calls Tryz.prog 177 #[.pointer (some a)] w fun e w' => e = .returned (.tuple #[]) /\ w' = w.setCell a (.int .i32 0) := by
 have hd := disable; have he := enable; have hr := releaseMerge; have eM := run_call_add (P := Tryz.prog) Tryz.func202 (by kernel_rfl) (by kernel_rfl) (by kernel_rfl) .i32 (by kernel_rfl) (y := -1) (s := 0) hc hz (by simp [go_sem]; rfl); have eH := run_convert_to_unsafe (P := Tryz.prog) (src := 271) (dst := 214) Tryz.underlying271 Tryz.underlying214 (by kernel_rfl) hc; go_enter Tryz.func177, Tryz.ntmps177
 go_wp2_with fail; go_end0; exact ⟨rfl, rfl⟩
theorem qdf (b off : Nat) (w : World) (hc : w.cell? ⟨b, off, none⟩ = some (.int .i32 0)) (hz : w.frozen? ⟨b, off, none⟩ = false) :
 Calls Tryz.prog 152 #[.pointer (some ⟨b, off, none⟩)] w fun e w' => e = .returned (.tuple #[]) /\ w' = w.setCell ⟨b, off, none⟩ (.int .i32 1) := by
 go_enter Tryz.func152, Tryz.ntmps152
 go_wp2_with (go_at_call 176; refine (qid ⟨b, off, none⟩ w hc hz).mono ?_; rintro e w' ⟨rfl, hw⟩; subst hw)
 go_end0; exact ⟨rfl, rfl⟩
theorem P4 (b off : Nat) (u : FrameMode) (w : World) (hc : w.cell? ⟨b, off, none⟩ = some (.int .i32 1)) (hz : w.frozen? ⟨b, off, none⟩ = false) :
 CallsD Tryz.prog 153 #[.pointer (some ⟨b, off, none⟩)] u w fun e u' w' => u' = u /\ (e = .returned (.tuple #[]) /\ w' = w.setCell ⟨b, off, none⟩ (.int .i32 0)) := by
 go_enter_d Tryz.func153, Tryz.ntmps153
 go_wp2_with (go_at_call 177; refine (qcg ⟨b, off, none⟩ w hc hz).mono ?_; rintro e w' ⟨rfl, hw⟩; subst hw)
 go_end0; exact ⟨rfl, rfl⟩
theorem Lo (b off : Nat) (x : Value) (u : FrameMode) (w : World) (hc : w.cell? ⟨b, off, none⟩ = some x) (hz : w.frozen? ⟨b, off, none⟩ = false) :
 CallsD Tryz.prog 154 #[.pointer (some ⟨b, off, none⟩), .bool true] u w fun e u' w' => u' = u /\ (e = .returned (.tuple #[]) /\ w' = w.drew.setCell ⟨b, off, none⟩ (.int .u32 1)) := by
 have cI : w.drew.cell? ⟨b, off, none⟩ = some x := by go_simp
 have dJ : w.drew.frozen? ⟨b, off, none⟩ = false := by go_simp
 have aD := run_call_store (P := Tryz.prog) Tryz.func178 (by kernel_rfl) (by kernel_rfl) (by kernel_rfl) (by kernel_rfl) (k := .u32) (y := 1) cI dJ; go_enter_d Tryz.func154, Tryz.ntmps154
 go_wp2_with fail; go_region_calls
 all_goals (go_end0; exact ⟨rfl, rfl⟩)
set_option maxRecDepth 100000
set_option maxHeartbeats 4000000
abbrev boF (rb : Nat) : Value := .func (.func 68) #[.pointer (some ⟨rb, 0, none⟩)] #[]
def Nr (rb : Nat) (R : World -> Prop) (e : Ending) (w' : World) : Prop := e = .returned (.tuple #[]) /\ ∃ w1, R w1 /\ w' = (w1.drew.setCell ⟨rb, 0, none⟩ (.int .u32 1)).setCell ⟨rb, 1, none⟩ (.int .i32 0)
def qap (rb : Nat) (R : World -> Prop) (e : Ending) (w' : World) : Prop := e = .returned (.tuple #[]) /\ R w' /\ w'.cell? ⟨rb, 0, none⟩ = some (.int .u32 0) /\ w'.cell? ⟨rb, 1, none⟩ = some (.int .i32 1) /\ w'.frozen? ⟨rb, 0, none⟩ = false /\ w'.frozen? ⟨rb, 1, none⟩ = false
theorem qe9 (rb : Nat) (R : World -> Prop) (w : World) (h0 : w.cell? ⟨rb, 0, none⟩ = some (.int .u32 0)) (h1 : w.cell? ⟨rb, 1, none⟩ = some (.int .i32 0)) (f0 : w.frozen? ⟨rb, 0, none⟩ = false) (f1 : w.frozen? ⟨rb, 1, none⟩ = false)
 (hf : Calls Tryz.prog 68 #[.pointer (some ⟨rb, 0, none⟩)] (w.setCell ⟨rb, 1, none⟩ (.int .i32 1)) (qap rb R)) :
 Calls Tryz.prog 105 #[.pointer (some ⟨rb, 0, none⟩), boF rb] w (Nr rb R) := by
 have hx : (w.setCell ⟨rb, 1, none⟩ (.int .i32 1)).cell? ⟨rb, 0, none⟩ = some (.int .u32 0) := (World.cell?_setCell_other _ ⟨rb, 1, none⟩ ⟨rb, 0, none⟩ _ (by simp)).trans h0; have HF := Hi hf; clear hf; go_enter_defers Tryz.func105, Tryz.ntmps105
 go_wp2_with (first | (go_at_call 152; refine (qdf rb 1 w h1 f1).mono ?_; rintro e w' ⟨rfl, hw⟩; subst hw) | (go_at_call 104; refine (Fh ⟨rb, 0, none⟩ 0 _ hx).mono ?_; rintro e w' ⟨rfl, hw⟩; subst hw) | (go_at_call 68; refine HF.out.mono ?_; rintro e w1 ⟨rfl, hR, k0, k1, z0, z1⟩))
 refine leaves_cons (f := 154) (args := #[.pointer (some ⟨rb, 0, none⟩), .bool true]) (by simp) (by simp [go_sem]) ?_; refine (Lo rb 0 (.int .u32 0) .returning _ k0 z0).mono ?_; rintro e u' w'' ⟨rfl, rfl, rfl⟩; refine leaves_cons (f := 153) (args := #[.pointer (some ⟨rb, 1, none⟩)]) (by simp [settle]) (by simp [go_sem]) ?_; refine (P4 rb 1 _ _ ?_ (by simp [z1])).mono ?_
 · refine (World.cell?_setCell_other _ ⟨rb, 0, none⟩ ⟨rb, 1, none⟩ _ (by simp)).trans ?_; rw [World.cell?_drew]; exact k1
 rintro e u' w'' ⟨rfl, rfl, rfl⟩; exact ⟨.tuple #[], by simp [results, Tryz.results105], rfl, w1, hR, rfl⟩
theorem qki (rb : Nat) (R : World -> Prop) (w : World) (h0 : w.cell? ⟨rb, 0, none⟩ = some (.int .u32 0)) (h1 : w.cell? ⟨rb, 1, none⟩ = some (.int .i32 0)) (f0 : w.frozen? ⟨rb, 0, none⟩ = false) (f1 : w.frozen? ⟨rb, 1, none⟩ = false)
 (hf : Calls Tryz.prog 68 #[.pointer (some ⟨rb, 0, none⟩)] (w.setCell ⟨rb, 1, none⟩ (.int .i32 1)) (qap rb R)) :
 Calls Tryz.prog 67 #[.pointer (some ⟨rb, 0, none⟩), boF rb] w (Nr rb R) := by
 have HF := Hi hf; clear hf; go_enter Tryz.func67, Tryz.ntmps67
 go_wp2_with (first | (go_at_call 104; refine (Fh ⟨rb, 0, none⟩ 0 _ h0).mono ?_; rintro e w' ⟨rfl, hw⟩; subst hw) | (go_at_call 105; refine (qe9 rb R _ h0 h1 f0 f1 HF.out).mono ?_; rintro e w1 ⟨rfl, hR⟩; have HR := Hi hR; clear hR))
 go_end0; exact ⟨rfl, HR.out⟩
attribute [local go_sem ↓] Go.wp_at_zero Go.wp_at_succ
set_option maxRecDepth 100000
set_option maxHeartbeats 16000000
structure qas (P : List Pr) (ts : Nat) : Prop where
 two : 2 <= P.length
 few : P.length <= 100
 tse : ts = sumF (Jf (Jh P)) 256
 small : ts <= 10
 ok : okP (mpF (Jf (Jh P)) ts) ts (2 * P.length) P
def Ot (w : World) (kb : Nat) (P : List Pr) : Prop := kb < w.heap.size /\ ∀ (i : Nat) x y v, P[i]? = some (x, y, v) -> w.cell? ⟨kb, 2 * i, none⟩ = some (vs [x, y]) /\ w.cell? ⟨kb, 2 * i + 1, none⟩ = some (vs v)
theorem Ot.keep {w w' : World} {kb : Nat} {P : List Pr} (h : Ot w kb P) (hs : w.heap.size <= w'.heap.size) (hk : w'.heap[kb]? = w.heap[kb]?) : Ot w' kb P :=
 ⟨Nat.lt_of_lt_of_le h.1 hs, fun i x y v hp => ⟨(cOh hk _).trans (h.2 i x y v hp).1, (cOh hk _).trans (h.2 i x y v hp).2⟩⟩
def qhm (P : List Pr) (ts : Nat) (w : World) (w' : World) : Prop := Vw (mpF (Jf (Jh P)) ts) ts w.heap.size w' w.heap.size (w.heap.size + 1) (stP (mpF (Jf (Jh P)) ts) (2 * P.length) 0 st0 P) /\ Below w.heap.size w w'
theorem qd4 (w : World) (rb kb c : Nat) (P : List Pr) (ts : Nat) (h : qas P ts) (hK : Ot w kb P) (h4 : w.cell? ⟨rb, 4, none⟩ = some (.slice (some ⟨kb, 0, none⟩) (2 * P.length) c)) :
 Calls Tryz.prog 106 #[.pointer (some ⟨rb, 0, none⟩)] w fun e w' => e = .returned (.iface 206 (Jd w.heap.size)) /\ qhm P ts w w' := by
 have bR := h.two; obtain ⟨p0, cS⟩ : ∃ p, P[0]? = some p := ⟨_, List.getElem?_eq_getElem (by omega)⟩
 obtain ⟨x0, y0, v0⟩ := p0; have fG : w.cell? ⟨kb, 0, none⟩ = some (vs [x0, y0]) := (hK.2 0 x0 y0 v0 cS).1; have dE : Hid (Calls Tryz.prog 156 #[.slice (some ⟨kb, 0, none⟩) (2 * P.length) c] w fun e w' => e = .returned (Jd w.heap.size) /\ qhm P ts w w') := Hi (qf2 w kb c P h.few hK.2 ts h.tse h.small h.ok hK.1); obtain ⟨n, hn⟩ : ∃ n, n = 2 * P.length := ⟨_, rfl⟩
 rw [<- hn] at h4 dE; have n2 : ((n : Int) == 2) = false := by simp; omega
 have n0 : (0 : Int) < (n : Int) := by omega
 clear h hK cS bR hn; go_enter Tryz.func106, Tryz.ntmps106
 go_wp2_with fail; go_loopw [2, 4, 5] (fun v2 v4 v5 wr => v5 = .int .i64 0 /\ wr = w) (fun _ _ _ _ => 0)
 case atStart => exact ⟨rfl, rfl⟩
 case round =>
  obtain ⟨rfl, rfl⟩ := hrel; go_wp2_with (go_at_call 156; refine dE.out.mono ?_; rintro e w2 ⟨rfl, hR⟩; have HR := Hi hR; clear hR)
  exact bodyPost_ret (v := .iface 206 (Jd wr.heap.size)) (by simp [results, Tryz.results106, go_sem]) rfl ⟨rfl, HR.out⟩
structure qb9 (P : List Pr) (ts : Nat) (w W : World) (rb r : Nat) : Prop where
 blk : W.heap[rb]? = some (.cells #[.int .u32 0, .int .i32 1, .int .u32 0, .iface 206 (Jd r), .slice none 0 0] 120 (0, 0))
 trie : Vw (mpF (Jf (Jh P)) ts) ts r W r (r + 1) (stP (mpF (Jf (Jh P)) ts) (2 * P.length) 0 st0 P)
 eff : Eff rb w W
theorem qko (w : World) (rb kb c : Nat) (P : List Pr) (ts : Nat) (h : qas P ts) (hK : Ot w kb P) (hb : w.heap[rb]? = some (.cells #[.int .u32 0, .int .i32 1, .int .u32 0, .nilIface, .slice (some ⟨kb, 0, none⟩) (2 * P.length) c] 120 (0, 0))) :
 Calls Tryz.prog 68 #[.pointer (some ⟨rb, 0, none⟩)] w (qap rb (fun W => qb9 P ts w W rb w.heap.size)) := by
 have HC := Hi (qd4 w rb kb c P ts h hK (cOb hb rfl)); have HB := Hi hb; have dR := lHp hb; clear h hK hb; go_enter Tryz.func68, Tryz.ntmps68
 go_wp2_with (go_at_call 106; refine HC.out.mono ?_; rintro e w2 ⟨rfl, hR⟩; have HR := Hi hR; have hk : w2.heap[rb]? = w.heap[rb]? := hR.2.block rb dR; have aC := hk.trans HB.out; have c3 := cOb (o := 3) aC rfl; have c4 := cOb (o := 4) aC rfl; have z3 := fOb (o := 3) aC; have z4 := fOb (o := 4) aC; have fF := lHp aC; have cR := Hi aC; clear hR hk aC)
 go_end0
 have bF : ((w2.setCell ⟨rb, 3, none⟩ (.iface 206 (Jd w.heap.size))).setCell ⟨rb, 4, none⟩ (.slice none 0 0)).heap[rb]? = some (.cells #[.int .u32 0, .int .i32 1, .int .u32 0, .iface 206 (Jd w.heap.size), .slice none 0 0] 120 (0, 0)) := by
  rw [rSc (rSc cR.out)]; rfl
 refine ⟨rfl, ⟨bF, HR.out.1.keep (by simp) (fun b hb _ => ?_), ?_⟩, cOb bF rfl, cOb bF rfl, fOb bF, fOb bF⟩
 · rw [Below.heap_setCell _ _ _ _ (by show b ≠ rb; omega), Below.heap_setCell _ _ _ _ (by show b ≠ rb; omega)]
 · have := HR.out.2; exact ⟨this.os, this.tape, this.output, by simpa using this.size, fun k hk hn => by rw [Below.heap_setCell _ _ _ _ (by exact hn), Below.heap_setCell _ _ _ _ (by exact hn)]; exact this.block k hk⟩
end
set_option maxRecDepth 100000
set_option maxHeartbeats 16000000
section
open Go.RowKit
attribute [local go_sem ↓] Go.wp_at_zero Go.wp_at_succ
def Z0 (mp : Nat -> Nat) (ts : Nat) (st : Nat -> Sub) : Qa -> Option Qa
 | x :: y :: _ => if mp x.toNat < ts then (match st (mp x.toNat) with
   | .no => none
   | .pre y0 v _ => if y = y0 then some v else none
   | .tab L => (L.find? fun e => e.1 == y).map fun e => e.2.1) else none
 | _ => none
structure qef (mp : Nat -> Nat) (ts : Nat) (st : Nat -> Sub) : Prop where
 inj : ∀ a b : UInt8, mp a.toNat < ts -> mp a.toNat = mp b.toNat -> a = b
 pre : ∀ m y v q, st m = .pre y v q -> 0 < q /\ q <= 1000
 tab : ∀ m L, st m = .tab L -> (∀ y v q, (y, v, q) ∈ L -> 0 < q /\ q <= 1000 /\ mp y.toNat < ts) /\ ∀ y v q v' q', (y, v, q) ∈ L -> (y, v', q') ∈ L -> v = v'
def Za (o : Option Qa) : Value := match o with
 | some v => .tuple #[vs v, .int .i64 2, .bool true]
 | none => .tuple #[vs [], .int .i64 0, .bool false]
def LkRel (mp : Nat -> Nat) (ts : Nat) (st : Nat -> Sub) (w : World) (r : Nat) (F : Nat -> Nat -> Prop) (s : Qa) (v1 v6 v7 v8 v9 aQ aP : Value) (wr : World) : Prop :=
 Below w.heap.size w wr /\ v6 = vs [] /\ v7 = .int .i64 0 /\ v8 = .bool false /\ v9 = .int .i64 0 /\
 ((v1 = vs s /\ aQ = Jd r /\ aP = .int .i64 0) \/
  (∃ x s1 pv, s = x :: s1 /\ mp x.toNat < ts /\ v1 = vs s1 /\ aQ = pv /\ Nq mp ts w (F (mp x.toNat)) pv (st (mp x.toNat)) /\ aP = .int .i64 1) \/
  (∃ s2, v1 = vs s2 /\ aP = .int .i64 2 /\ ((aQ = nilP /\ Z0 mp ts st s = none) \/ ∃ l v q, aQ = Jd l /\ Yy w l v q /\ 0 < q /\ q <= 1000 /\ l ≠ r /\ Z0 mp ts st s = some v)))
theorem B5 (x : UInt8) (s1 : Qa) : Value.string (({ data := (x :: s1).toArray } : ByteArray).extract 1 (s1.length + 1)) = vs s1 := by
 refine congrArg Value.string ?_; apply ByteArray.ext; simp [ByteArray.data_extract]
theorem Gs {k ts : Nat} (h : k <= ts) (aR : ts <= 10) : wrap64 (k : Int) = k := by unfold wrap64; omega
theorem qim (y y0 : UInt8) (s2 : Qa) : Lib.hasPrefix (y :: s2) [y0] = (y0 == y) := by simp [Lib.hasPrefix, List.isPrefixOf]
theorem Mj (mp : Nat -> Nat) (ts B : Nat) (w : World) (r tb : Nat) (st : Nat -> Sub) (h : Vw mp ts B w r tb st) (aT : qef mp ts st) (s : Qa) (ig : Bool) (hs : s.length <= 1000000000) :
 Calls Tryz.prog 249 #[Jd r, vs s, .bool ig] w fun e w' => e = .returned (Za (Z0 mp ts st s)) /\ Below w.heap.size w w' := by
 obtain ⟨c0, c1, c2, c3, c4, c5, rm⟩ := h.gr.cells; obtain ⟨D, h1, h2, F, h3, h4, h5⟩ := h.root; have aW := Hi aT; have HG := Hi h.gr; have H1 := Hi h1; have H2 := Hi h2; have H3 := Hi h3; have H5 := Hi h5; have RM := Hi rm; have bI := h.gr.lt; have bB := lHp h1; obtain ⟨lk, cF⟩ : ∃ lk, Z0 mp ts st s = lk := ⟨_, rfl⟩
 have aO := Hi cF; clear h aT h1 h2 h3 h4 h5 rm; rw [cF]; clear cF; go_enter Tryz.func249, Tryz.ntmps249
 go_wp2_with fail; go_loopw [1, 6, 7, 8, 9, 10, 11] (fun v1 v6 v7 v8 v9 aQ aP wr => LkRel mp ts st w r F s v1 v6 v7 v8 v9 aQ aP wr) (fun _ _ _ _ _ _ aP _ => 3 - (intOf aP).toNat)
 case atStart => exact ⟨Below.refl _ _, rfl, rfl, rfl, rfl, Or.inl ⟨rfl, rfl, rfl⟩⟩
 case round =>
  obtain ⟨hb, rfl, rfl, rfl, rfl, aD⟩ := hrel; have HB := Hi hb; have hc : ∀ o, wr.cell? ⟨r, o, none⟩ = w.cell? ⟨r, o, none⟩ := fun o => hb.cell (p := ⟨r, o, none⟩) bI; have q1 := (hc 1).trans c1; have q2 := (hc 2).trans c2; have q3 := (hc 3).trans c3; have q4 := (hc 4).trans c4; have q5 := (hc 5).trans c5; have HQ := Hi hc; have dQ : r < wr.heap.size := Nat.lt_of_lt_of_le bI hb.size; have dO : tb < wr.heap.size := Nat.lt_of_lt_of_le bB hb.size; clear hc hb c0 c1 c2 c3 c4 c5; rcases aD with ⟨rfl, rfl, rfl⟩ | ⟨x, s1, pv, rfl, hx, rfl, rfl, aA, rfl⟩ | ⟨s2, rfl, rfl, aN⟩
  · -- at the root
    cases s with
    | nil =>
      have HL : Hid (Za lk = Za none) := Hi (by rw [<- aO.out]; rfl); go_wp2_with fail; exact bodyPost_ret (v := Za none) (by simp [Za, results, Tryz.results249, go_sem]) rfl ⟨by rw [HL.out], HB.out⟩
    | cons x s1 =>
      have bV : ∀ w, (Instr.index 9 (vs (x :: s1)) (.int .i64 0)).run Tryz.prog w = .ok (.int .u8 (x.toNat : Int)) w := fun _ => by kernel_rfl
      have j0 : (0 : Int) <= (x.toNat : Int) := (by omega)
      have j1 : (x.toNat : Int) < 256 := by have := UInt8.toNat_lt x; omega
      have r0 := (HQ.out _).trans (RM.out x.toNat (UInt8.toNat_lt x)); have aM := Gs (HG.out.mpl x.toNat) HG.out.small
      by_cases hx : mp x.toNat < ts
      · have e1 : (wrap64 (mp x.toNat : Int) == (ts : Int)) = false := by rw [aM]; simp; omega
        obtain ⟨pv, aI, aA⟩ := H5.out _ hx; have ct : wr.cell? ⟨tb, mp x.toNat, none⟩ = some pv := (HB.out.cell (p := ⟨tb, mp x.toNat, none⟩) bB).trans (cOb H1.out aI); have i0 : (0 : Int) <= (mp x.toNat : Int) := (by omega)
        have i1 : (mp x.toNat : Int) < ts := (by omega)
        have cM := Hi aA; have HX := Hi hx; clear aM hx aA aI; go_upto_region 12 with fail; go_quiet (fail)
        go_wp2_with fail; rw [B5]; exact ⟨⟨HB.out.trans ⟨rfl, rfl, rfl, lR _, fun _ _ => rfl⟩, rfl, rfl, rfl, rfl, Or.inr (Or.inl ⟨x, s1, pv, rfl, HX.out, rfl, rfl, cM.out, rfl⟩)⟩, by simp [intOf]⟩
      · have e1 : (wrap64 (mp x.toNat : Int) == (ts : Int)) = true := by have := HG.out.mpl x.toNat; rw [aM]; simp; omega
        have HL : Hid (Za lk = Za none) := Hi (by
         rw [<- aO.out]; cases s1 with
         | nil => rfl
         | cons y s2 => simp only [Z0]; rw [if_neg hx])
        clear aM hx; go_upto_region 12 with fail; go_quiet (fail)
        go_wp2_with fail; exact bodyPost_ret (v := Za none) (by simp [Za, results, Tryz.results249, go_sem]) rfl ⟨by rw [HL.out], HB.out.trans ⟨rfl, rfl, rfl, lR _, fun _ _ => rfl⟩⟩
  · -- below a byte
    cases aE : st (mp x.toNat) with
    | no =>
      rw [aE] at aA; obtain rfl : _ = nilP := aA
      have HL : Hid (Za lk = Za none) := Hi (by
       rw [<- aO.out]; cases s1 with
       | nil => rfl
       | cons y s2 => simp only [Z0]; rw [if_pos hx, aE])
      clear aE; go_wp2_with fail; exact bodyPost_ret (v := Za none) (by simp [Za, results, Tryz.results249, go_sem]) rfl ⟨by rw [HL.out], HB.out⟩
    | pre y0 v q =>
      rw [aE] at aA; obtain ⟨n, l, rfl, f1, f2, f3, f4⟩ := aA; have aH : Zp wr n [] 0 [y0] (Jd l) (.slice none 0 0) := (HB.out.block n f3.lt).trans f3; obtain ⟨n0, n1, n2, n3, n4, -⟩ := aH.cells; have bJ := aH.lt; have cO := Hi f4; have aV := Hi (aW.out.pre _ _ _ _ aE); have eS := Hi ((H3.out _ _ f2).1); clear f1 f2 f3 aH f4; cases s1 with
      | nil =>
        have HL : Hid (Za lk = Za none) := Hi (by rw [<- aO.out]; rfl); clear aE; go_wp2_with fail; exact bodyPost_ret (v := Za none) (by simp [Za, results, Tryz.results249, go_sem]) rfl ⟨by rw [HL.out], HB.out⟩
      | cons y s2 =>
        have aX : Hid (Z0 mp ts st (x :: y :: s2) = if y = y0 then some v else none) := Hi (by simp only [Z0]; rw [if_pos hx, aE]); clear aE; go_wp2_with fail; refine (Tryz.strings_HasPrefix _ _ _).mono ?_; rintro e w1 ⟨rfl, rfl⟩; rw [show Lib.hasPrefix ({ data := (y :: s2).toArray } : ByteArray).data.toList ({ data := [y0].toArray } : ByteArray).data.toList = (y0 == y) from qim y y0 s2]; cases bG : (y0 == y) with
        | true =>
          have e : y0 = y := by simpa using bG
          have eT : Hid (Z0 mp ts st (x :: y :: s2) = some v) := Hi (by rw [aX.out, if_pos e.symm]); clear bG e; go_wp2_with fail; rw [B5]; exact ⟨⟨HB.out, rfl, rfl, rfl, rfl, Or.inr (Or.inr ⟨s2, rfl, rfl, Or.inr ⟨l, v, q, rfl, cO.out, aV.out.1, aV.out.2, eS.out, eT.out⟩⟩)⟩, by simp [intOf]⟩
        | false =>
          have e : ¬ y = y0 := by
           rintro rfl; simp at bG
          have HL : Hid (Za lk = Za none) := Hi (by rw [<- aO.out, aX.out, if_neg e]); clear bG e; go_wp2_with fail; exact bodyPost_ret (v := Za none) (by simp [Za, results, Tryz.results249, go_sem]) rfl ⟨by rw [HL.out], HB.out⟩
    | tab L =>
      rw [aE] at aA; obtain ⟨n, t, C, rfl, f1, f2, f3, f4, f5, f6⟩ := aA; have aH : Zp wr n [] 0 [] nilP (.slice (some ⟨t, 0, none⟩) ts ts) := (HB.out.block n f3.lt).trans f3; obtain ⟨n0, n1, n2, n3, n4, -⟩ := aH.cells; have bJ := aH.lt; have bA := lHp f4; have dN : t < wr.heap.size := Nat.lt_of_lt_of_le bA HB.out.size; have cO := Hi f4; have eU := Hi f6; have aV := Hi (aW.out.tab _ _ aE); clear f1 f2 f3 aH f4 f5 f6; cases s1 with
      | nil =>
        have HL : Hid (Za lk = Za none) := Hi (by rw [<- aO.out]; rfl); clear aE; go_wp2_with fail; exact bodyPost_ret (v := Za none) (by simp [Za, results, Tryz.results249, go_sem]) rfl ⟨by rw [HL.out], HB.out⟩
      | cons y s2 =>
        have aX : Hid (Z0 mp ts st (x :: y :: s2) = (L.find? fun e => e.1 == y).map fun e => e.2.1) := Hi (by simp only [Z0]; rw [if_pos hx, aE]); have bV : ∀ w, (Instr.index 9 (vs (y :: s2)) (.int .i64 0)).run Tryz.prog w = .ok (.int .u8 (y.toNat : Int)) w := fun _ => by kernel_rfl
        have j0 : (0 : Int) <= (y.toNat : Int) := (by omega)
        have j1 : (y.toNat : Int) < 256 := by have := UInt8.toNat_lt y; omega
        have r0 := (HQ.out _).trans (RM.out y.toNat (UInt8.toNat_lt y)); have aM := Gs (HG.out.mpl y.toNat) HG.out.small; clear aE
        by_cases hy : mp y.toNat < ts
        · have e1 : (wrap64 (mp y.toNat : Int) == (ts : Int)) = false := by rw [aM]; simp; omega
          obtain ⟨pv, aI, bC⟩ := eU.out _ hy; have ct : wr.cell? ⟨t, mp y.toNat, none⟩ = some pv := (HB.out.cell (p := ⟨t, mp y.toNat, none⟩) bA).trans (cOb cO.out aI); have i0 : (0 : Int) <= (mp y.toNat : Int) := (by omega)
          have i1 : (mp y.toNat : Int) < ts := (by omega)
          have aN : (pv = nilP /\ Z0 mp ts st (x :: y :: s2) = none) \/ ∃ l v q, pv = Jd l /\ Yy w l v q /\ 0 < q /\ q <= 1000 /\ l ≠ r /\ Z0 mp ts st (x :: y :: s2) = some v := by
           rcases bC with ⟨y', v, q, l, a1, a2, a3, a4, a5⟩ | ⟨a1, a2⟩
           · right; obtain ⟨b1, b2, b3⟩ := aV.out.1 _ _ _ a1; obtain rfl := aW.out.inj _ _ b3 a2; refine ⟨l, v, q, a3, a5, b1, b2, (H3.out _ _ a4).1, ?_⟩; rw [aX.out]; cases bM : L.find? fun e => e.1 == y' with
             | none =>
               rw [List.find?_eq_none] at bM; exact absurd (by simp) (bM _ a1)
             | some e0 =>
               obtain ⟨y2, v2, q2⟩ := e0; have c1 := List.mem_of_find?_eq_some bM; have c2 := List.find?_some bM; simp at c2; subst c2; simp [aV.out.2 _ _ _ _ _ a1 c1]
           · left; refine ⟨a1, ?_⟩; rw [aX.out]
             have : (L.find? fun e => e.1 == y) = none := by
              rw [List.find?_eq_none]; rintro ⟨y', v, q⟩ hm; have := a2 _ _ _ hm; simp; rintro rfl; exact this rfl
             rw [this]; rfl
          have cQ := Hi aN; clear aM hy aN bC aI; go_upto_region 12 with fail; go_quiet (fail)
          go_wp2_with fail; rw [B5]; exact ⟨⟨HB.out.trans ⟨rfl, rfl, rfl, lR _, fun _ _ => rfl⟩, rfl, rfl, rfl, rfl, Or.inr (Or.inr ⟨s2, rfl, rfl, cQ.out⟩)⟩, by simp [intOf]⟩
        · have e1 : (wrap64 (mp y.toNat : Int) == (ts : Int)) = true := by have := HG.out.mpl y.toNat; rw [aM]; simp; omega
          have HL : Hid (Za lk = Za none) := Hi (by
           rw [<- aO.out, aX.out]
           have : (L.find? fun e => e.1 == y) = none := by
            rw [List.find?_eq_none]; rintro ⟨y', v, q⟩ hm; have := (aV.out.1 _ _ _ hm).2.2; simp; rintro rfl; exact hy this
           rw [this]; rfl)
          clear aM hy; go_upto_region 12 with fail; go_quiet (fail)
          go_wp2_with fail; exact bodyPost_ret (v := Za none) (by simp [Za, results, Tryz.results249, go_sem]) rfl ⟨by rw [HL.out], HB.out.trans ⟨rfl, rfl, rfl, lR _, fun _ _ => rfl⟩⟩
  · -- behind two bytes
    rcases aN with ⟨rfl, cU⟩ | ⟨l, v, q, rfl, aJ, fC, fB, dX, aZ⟩
    · have HL : Hid (Za lk = Za none) := Hi (by rw [<- aO.out, cU]); clear cU; go_wp2_with fail; exact bodyPost_ret (v := Za none) (by simp [Za, results, Tryz.results249, go_sem]) rfl ⟨by rw [HL.out], HB.out⟩
    · have bL : Yy wr l v q := (HB.out.block l aJ.lt).trans aJ; obtain ⟨n0, n1, n2, n3, n4, -⟩ := bL.cells; have bJ := bL.lt; have HL : Hid (Za lk = Za (some v)) := Hi (by rw [<- aO.out, aZ])
      have fD : (binOp .eql 249 (Jd l) (.pointer (some ⟨r, 0, none⟩))).run Tryz.prog wr = .ok (.bool false) wr := by
       obtain ⟨C, g0, -⟩ := HG.out.is; exact run_eql_ptr_other (P := Tryz.prog) wr (tp := 249) (te := 252) (j := (Tryz.prog.info? 252).getD default) (by kernel_rfl) (by kernel_rfl) (fun e => absurd (congrArg (fun n => n == 5) e) (by decide)) (fun e => dX (congrArg Addr.block e)) bL ((HB.out.block r bI).trans g0)
      clear bL aJ aZ; cases ig <;> cases s2
      all_goals
       go_wp2_with fail; exact bodyPost_ret (v := Za (some v)) (by simp [Za, results, Tryz.results249, go_sem]) rfl ⟨by rw [HL.out], HB.out⟩
end
set_option maxRecDepth 100000
set_option maxHeartbeats 4000000
section
open Go.RowKit
abbrev awV (ab : Nat) : Value := .iface 312 (.pointer (some ⟨ab, 0, none⟩))
def cB (s : List UInt8) : List Value := s.map fun b => .int .u8 b.toNat
structure AwV (w : World) (b0 ab : Nat) (v : Value) (s : List UInt8) : Prop where
 blk : w.heap[ab]? = some (.cells #[v] 311 (0, 0))
 own : w.ownsRow b0 5 1 v s.length (cB s)
 le : b0 <= ab
def Aw (w : World) (b0 ab : Nat) (s : List UInt8) : Prop := ∃ v, AwV w b0 ab v s
theorem AwV.lt {w : World} {b0 ab : Nat} {v : Value} {s : List UInt8} (h : AwV w b0 ab v s) : ab < w.heap.size := lHp h.blk
theorem qa9 {w : World} {b0 ab n : Nat} {v u : Value} {xs : List Value} (ho : w.ownsRow b0 5 1 v n xs) (hb : w.heap[ab]? = some (.cells #[u] 311 (0, 0))) : ∀ b, v.ownBlock = some b -> b0 <= b /\ b ≠ ab := by
 intro b aC; rcases ho.2 with ⟨rfl, -⟩ | ⟨g, cap, cur, rfl, cW, hg, -⟩
 · simp [Value.ownBlock] at aC
 · simp [Value.ownBlock] at aC; subst aC; refine ⟨cW, ?_⟩; rintro rfl; rw [hb] at hg; simp at hg
theorem AwV.row {w : World} {b0 ab : Nat} {v : Value} {s : List UInt8} (h : AwV w b0 ab v s) : ∀ b, v.ownBlock = some b -> b0 <= b /\ b ≠ ab := qa9 h.own h.blk
theorem AwV.sl {w : World} {b0 ab : Nat} {v : Value} {s : List UInt8} (h : AwV w b0 ab v s) : ∃ A n c, v = .slice A n c := by
 rcases h.own.2 with ⟨rfl, -⟩ | ⟨g, cap, cur, rfl, cW, -⟩
 · exact ⟨_, _, _, rfl⟩
 · exact ⟨_, _, _, rfl⟩
theorem qbq : (Tryz.prog.info? 5).map (fun i => (i.zero, i.size, i.bytes)) = some (some (.int .u8 0), 1, 1) := by kernel_rfl
theorem Ge {ops : Array Oper} {rest : List Oper} {o : Oper} {a : Act} {w : World} {Q : Exit -> Act -> World -> Prop} (eG : o.guard = none) (sl x : Operand) (dS : o.op = Op.call { callee := Callee.builtin Builtin.append, args := #[sl, x], argTypes := #[311, 9] })
 (base : Nat) (v : Value) (xs : List UInt8) (hs : a.eval sl = v) (bY : w.ownsRow base 5 1 v xs.length (cB xs)) (s : List UInt8) (hx : a.eval x = vs s) (bD : xs.length + s.length <= 100000000000) (bE : base <= w.heap.size)
 (h : ∀ v' w', w'.ownsRow base 5 1 v' (xs ++ s).length (cB (xs ++ s)) -> w.grownBy w' v.ownBlock -> wpList Tryz.prog ops Q rest (a.put o.dst v') w') : wpList Tryz.prog ops Q (o :: rest) a w := by
 obtain ⟨i0, eF, dI, dH, dG⟩ := info_parts qbq; have e1 : ({ data := s.toArray } : ByteArray).size = s.length := by show s.toArray.size = _; simp
 refine Lib.wpList_append_own_string w eG sl x _ _ dS base 5 i0 Tryz.underlying311 Tryz.underlying9 eF dI dH dG v xs.length (cB xs) hs bY { data := s.toArray } hx (by rw [e1]; unfold maxLen; omega) (by rw [e1]; omega) bE ?_; intro v' w' ho hg _; refine h v' w' ?_ hg; rw [e1] at ho; have e2 : cB xs ++ Lib.strCells ({ data := s.toArray } : ByteArray) = cB (xs ++ s) := by simp [cB, Lib.strCells]
 rw [e2] at ho; rwa [List.length_append]
theorem qio (w : World) (ab : Nat) : Calls Tryz.prog 248 #[awV ab] w fun e w' => e = .returned (awV ab) /\ w' = w := by
 have eY : ∀ w, (Instr.typeAssert (.iface 312 (.pointer (some ⟨ab, 0, none⟩))) 314 316 true).run Tryz.prog w = .ok (.tuple #[.iface 312 (.pointer (some ⟨ab, 0, none⟩)), .bool true]) w := fun w => run_typeAssert_hasB Tryz.underlying316 (by kernel_rfl) _ _ w; go_enter Tryz.func248, Tryz.ntmps248
 go_wp2_with fail; exact bodyPost_ret (v := awV ab) (by simp [results, Tryz.results248, go_sem]) rfl ⟨rfl, rfl⟩
theorem AwV.stay {w w2 : World} {b0 ab : Nat} {v : Value} {s : List UInt8} (h : AwV w b0 ab v s) (hg : w.grownBy w2 v.ownBlock) : w2.heap[ab]? = some (.cells #[v] 311 (0, 0)) := (hg.block ab h.lt (fun e => (h.row ab e.symm).2 rfl)).trans h.blk
theorem AwV.step {w w2 : World} {b0 ab : Nat} {v v' : Value} {s : List UInt8} {x : List UInt8} (h : AwV w b0 ab v s) (ho : w2.ownsRow b0 5 1 v' (s ++ x).length (cB (s ++ x))) (hg : w.grownBy w2 v.ownBlock) : AwV (w2.setCell ⟨ab, 0, none⟩ v') b0 ab v' (s ++ x) /\ Below b0 w (w2.setCell ⟨ab, 0, none⟩ v') := by
 have hk := h.stay hg; refine ⟨⟨by rw [rSc hk]; rfl, ?_, h.le⟩, ?_⟩
 · exact ownsRow_setCell_other ho (fun e => (qa9 ho hk ab e).2 rfl) _
 · exact (⟨hg.os, hg.tape, hg.output, hg.size, fun b hb => hg.block b (by have := h.lt; have := h.le; omega) (fun e => by have := (h.row b e.symm).1; omega)⟩ : Below b0 w w2).setCell h.le _
theorem qam (w : World) (b0 ab : Nat) (s x : List UInt8) (h : Aw w b0 ab s) (bD : s.length + x.length <= 100000000000) :
 Calls Tryz.prog 262 #[.pointer (some ⟨ab, 0, none⟩), vs x] w fun e w' => e = .returned (.tuple #[.int .i64 x.length, .nilIface]) /\ Aw w' b0 ab (s ++ x) /\ Below b0 w w' := by
 obtain ⟨v, h⟩ := h; have c0 := cOb (o := 0) h.blk rfl; have fE := h.lt; have H := Hi h; clear h; go_enter Tryz.func262, Tryz.ntmps262
 go_wp2_with (at_builtin; refine Ge rfl (.tmp 9) (.tmp 10) rfl b0 v s rfl H.out.own x rfl bD (Nat.le_of_lt (Nat.lt_of_le_of_lt H.out.le H.out.lt)) ?_; intro v' w2 ho hg; have hk := H.out.stay hg; have k1 := cOb (o := 0) hk rfl; have kl := lHp hk; have k2 := fOb (o := 0) hk; have aD := H.out.step ho hg; obtain ⟨A', n', cap', rfl⟩ := aD.1.sl; have HO := Hi aD; clear aD ho hg hk c0)
 exact bodyPost_ret (v := .tuple #[.int .i64 x.length, .nilIface]) (by simp [results, Tryz.results262, go_sem]) rfl ⟨rfl, ⟨_, HO.out.1⟩, HO.out.2⟩
