/- The reference's Decimal and join. The reference's digits and Decimal. How long the reference's texts of conditions are; a kid more. -/
import Derived.Test.YtbicmjmcdnkjhaaGreatDoorJMM1
import Derived.Test.YtbicmjmcdnkjhaaGreatDoorJMM5
import Derived.Test.YtbicmjmcdnkjhaaGreatDoorJMM18
import Derived.Test.YtbicmjmcdnkjhaaGreatDoorJMM6
import Derived.Test.YtbicmjmcdnkjhaaGreatDoorJMM11
import Derived.Test.YtbicmjmcdnkjhaaGreatDoorJMM10
set_option linter.unusedVariables false
set_option linter.unusedSimpArgs false
set_option maxRecDepth 20000
set_option maxHeartbeats 2000000
namespace Go.Proofs.YtbicmjmcdnkjhaaGreatDoor
open Go.RowKit
theorem bcat (a b : Bytes) : ({ data := a.toArray } : ByteArray) ++ { data := b.toArray } = { data := (a ++ b).toArray } := ByteArray.ext (by simp)
def accJ (by' : Bytes) (l : List Bytes) (k : Nat) : Bytes := joinT' by' (l.take k)
theorem joinT_snoc (by' : Bytes) : ∀ (l : List Bytes) (s : Bytes), l ≠ [] → joinT' by' (l ++ [s]) = joinT' by' l ++ by' ++ s
 | [], s, h => absurd rfl h
 | [a], s, _ => by simp [joinT']
 | a :: b :: r, s, _ => by
   have := joinT_snoc by' (b :: r) s (by simp)
   rw [List.cons_append, List.cons_append, joinT', joinT']
   rw [List.cons_append] at this
   rw [this]
   simp
theorem tk_snocJ {l : List Bytes} {k : Nat} {x : Bytes} (h : l[k]? = some x) : l.take (k + 1) = l.take k ++ [x] := by
 rw [List.take_add_one, h]
 rfl
theorem accJ_zero {by' : Bytes} {l : List Bytes} {x : Bytes} (h : l[0]? = some x) : accJ by' l 1 = accJ by' l 0 ++ x := by
 unfold accJ
 rw [tk_snocJ h]
 simp [joinT']
theorem accJ_succ {by' : Bytes} {l : List Bytes} {x : Bytes} {k : Nat} (hk : 0 < k) (h : l[k]? = some x) : accJ by' l (k + 1) = accJ by' l k ++ by' ++ x := by
 unfold accJ
 rw [tk_snocJ h]
 have hl := (List.getElem?_eq_some_iff.1 h).1
 exact joinT_snoc _ _ _ (fun e => by
  have := congrArg List.length e
  rw [List.length_take, List.length_nil] at this
  omega)
theorem joinT_len (by' : Bytes) (hb : by'.length ≤ 10) (B : Nat) : ∀ l : List Bytes, (∀ s ∈ l, s.length ≤ B) → (joinT' by' l).length ≤ l.length * (B + 10)
 | [], _ => by simp [joinT']
 | [a], h => by
   have := h a (by simp)
   simp [joinT']
   omega
 | a :: b :: r, h => by
   have h1 := h a (by simp)
   have h2 := joinT_len by' hb B (b :: r) (fun s hs => h s (by simp [hs]))
   rw [joinT', List.length_append, List.length_append, List.length_cons, Nat.add_mul]
   omega
theorem accJ_len {by' : Bytes} (hb : by'.length ≤ 10) {B : Nat} {l : List Bytes} (h : ∀ s ∈ l, s.length ≤ B) (k : Nat) : (accJ by' l k).length ≤ l.length * (B + 10) := by
 have h1 := joinT_len by' hb B (l.take k) (fun s hs => h s (List.mem_of_mem_take hs))
 have h2 : (l.take k).length ≤ l.length := by rw [List.length_take]; omega
 exact Nat.le_trans h1 (Nat.mul_le_mul_right _ h2)
theorem rjoin_any (l : List Bytes) (A : Option Addr) (c : Nat) (by' : Bytes) (w : World) (B : Nat) (hr : RdS w A l) (hl : l.length ≤ 1000) (hB : B ≤ 1000000000000) (hlen : ∀ s ∈ l, s.length ≤ B) (hb : by'.length ≤ 10) :
 Calls Tryz.prog 41 #[.slice A l.length c, vs by'] w fun e w' => e = .returned (vs (joinT' by' l)) ∧ w = w' := by
 have HR := Hi hr
 have HLN := Hi hlen
 have hmul : l.length * (B + 10) ≤ 1000 * (B + 10) := Nat.mul_le_mul_right _ hl
 have HAL : Hid (∀ k, (accJ by' l k).length ≤ 1000 * (B + 10)) := Hi (fun k => Nat.le_trans (accJ_len hb hlen k) hmul)
 have HEND : Hid (joinT' by' l = accJ by' l l.length) := Hi (by unfold accJ; rw [List.take_length])
 clear hr hlen hmul
 go_enter Tryz.func41, Tryz.ntmps41
 go_wp2_with fail
 go_loop [5, 6] (fun v5 v6 => ∃ k : Nat, k ≤ l.length ∧ v6 = .int .i64 k ∧ v5 = vs (accJ by' l k)) (fun _ v6 => l.length - (intOf v6).toNat)
 case atStart => exact ⟨0, Nat.zero_le _, rfl, rfl⟩
 case round =>
  obtain ⟨k, hk, rfl, rfl⟩ := hrel
  have hal := HAL.out k
  obtain ⟨acc, hacc⟩ : ∃ x, accJ by' l k = x := ⟨_, rfl⟩
  rw [hacc] at hal ⊢
  have HAC := Hi hacc
  clear hacc
  by_cases hlt : k < l.length
  · obtain ⟨x, hx⟩ := gLt hlt
    have hxl := HLN.out x (List.mem_of_getElem? hx)
    obtain ⟨g1, r1, rfl, hg1, hc1⟩ := HR.out.item hx
    have hk1 : (k : Int) < l.length := by omega
    have hk0 : (0 : Int) ≤ k := by omega
    have HX := Hi hx
    clear hx
    rcases Nat.eq_zero_or_pos k with rfl | hk2
    · have HS1 := Hi (accJ_zero (by' := by') HX.out)
      have f1 : ¬ 9223372036854775807 < acc.length + x.length := by omega
      have hc0 : w.cell? ⟨g1, r1, none⟩ = some (vs x) := hc1
      rw [show ((0 : Nat) : Int) = 0 from rfl] at *
      go_wp2_with fail
      exact ⟨⟨1, by omega, rfl, by rw [HS1.out, HAC.out]; simp only [bcat]⟩, by simp [intOf]; omega⟩
    · have HS1 := Hi (accJ_succ (by' := by') hk2 HX.out)
      have f1 : ¬ 9223372036854775807 < acc.length + by'.length := by omega
      have f2 : ¬ 9223372036854775807 < (acc ++ by').length + x.length := by rw [List.length_append]; omega
      have hk3 : (0 : Int) < k := by omega
      go_wp2_with fail
      exact ⟨⟨k + 1, by omega, by go_num, by rw [HS1.out, HAC.out]; simp only [bcat]⟩, by simp [intOf]; omega⟩
  · have : k = l.length := by omega
    subst this
    have hk1 : ¬ ((l.length : Nat) : Int) < l.length := by omega
    go_wp2_with fail
    go_ret
    exact ⟨by rw [HEND.out, HAC.out]; rfl, rfl⟩
end Go.Proofs.YtbicmjmcdnkjhaaGreatDoor
set_option maxRecDepth 20000
set_option maxHeartbeats 2000000
namespace Go.Proofs.YtbicmjmcdnkjhaaGreatDoor
open Go.RowKit
theorem dig_one : ∀ d, d < 10 → (({ data := #[48, 49, 50, 51, 52, 53, 54, 55, 56, 57] } : ByteArray).extract d (d + 1)) = { data := [UInt8.ofNat (48 + d)].toArray } := by decide
theorem dec_len {n : Nat} (h : n ≤ 100000000) : (dec n).length ≤ 9 := (dec_spec 9 n (by omega) (by omega)).2.2.2
theorem dec_step (m : Nat) (s : Bytes) (h : 0 < m) : (m / 10 = 0 → [UInt8.ofNat (48 + m % 10)] ++ s = dec m ++ s) ∧ (0 < m / 10 → dec (m / 10) ++ ([UInt8.ofNat (48 + m % 10)] ++ s) = dec m ++ s) := by
 constructor
 · intro h0
   rw [dec_small (by omega), Nat.mod_eq_of_lt (by omega)]
 · intro h0
   rw [dec_big (n := m) (by omega), List.append_assoc]
theorem rdigits_any (n : Nat) (w : World) (hn : n ≤ 100000000) : Calls Tryz.prog 75 #[.int .u64 n] w fun e w' => e = .returned (vs (dec n)) ∧ w = w' := by
 have hlen := dec_len hn
 obtain ⟨D, hD⟩ : ∃ D, dec n = D := ⟨_, rfl⟩
 have H0 : Hid (n / 10 = 0 ∧ [UInt8.ofNat (48 + n % 10)] = D ∨ 0 < n / 10 ∧ dec (n / 10) ++ [UInt8.ofNat (48 + n % 10)] = D) := Hi (by
  rw [← hD]
  by_cases h : n < 10
  · exact Or.inl ⟨by omega, by rw [dec_small h, Nat.mod_eq_of_lt h]⟩
  · exact Or.inr ⟨by omega, (dec_big h).symm⟩)
 rw [hD] at hlen ⊢
 clear hD
 go_enter Tryz.func75, Tryz.ntmps75
 go_wp2_with fail
 rw [dig_one _ (Nat.mod_lt _ (by decide))]
 go_loop [0, 3] (fun v0 v3 => ∃ (m : Nat) (s : Bytes), v0 = .int .u64 m ∧ v3 = vs s ∧ m ≤ 100000000 ∧ (m = 0 ∧ s = D ∨ 0 < m ∧ dec m ++ s = D)) (fun v0 _ => (intOf v0).toNat)
 case atStart => exact ⟨n / 10, _, by simp, rfl, by omega, H0.out⟩
 case round =>
  obtain ⟨m, s, rfl, rfl, hm, hD⟩ := hrel
  rcases hD with ⟨rfl, rfl⟩ | ⟨h0, hD⟩
  · go_wp2_with fail
    go_ret
    exact ⟨rfl, rfl⟩
  · have hl : s.length ≤ 9 := by have := congrArg List.length hD; rw [List.length_append] at this; omega
    have h0' : (0 : Int) < m := by omega
    have HD := Hi hD
    obtain ⟨S1, hS1⟩ : ∃ x, [UInt8.ofNat (48 + m % 10)] ++ s = x := ⟨_, rfl⟩
    have HS1 : Hid (({ data := [UInt8.ofNat (48 + m % 10)].toArray } : ByteArray) ++ { data := s.toArray } = { data := S1.toArray }) := Hi (by rw [bcat, hS1])
    have HN : Hid (m / 10 = 0 ∧ S1 = D ∨ 0 < m / 10 ∧ dec (m / 10) ++ S1 = D) := Hi (by
     have h1 := dec_step m s h0
     rw [hS1] at h1
     rcases Nat.eq_zero_or_pos (m / 10) with h | h
     · exact Or.inl ⟨h, (h1.1 h).trans hD⟩
     · exact Or.inr ⟨h, (h1.2 h).trans hD⟩)
    have hd := dig_one (m % 10) (Nat.mod_lt _ (by decide))
    have HDG := Hi hd
    clear hD hS1 hd
    go_wp2_with fail
    rw [HDG.out, HS1.out]
    exact ⟨⟨m / 10, S1, by simp, rfl, by omega, HN.out⟩, by simp [intOf]; omega⟩
theorem rdec_any (n : Nat) (w : World) (hn : n ≤ 100000000) : Calls Tryz.prog 39 #[.int .i64 n] w fun e w' => e = .returned (vs (dec n)) ∧ w = w' := by
 have h0 : ¬ ((n : Int) < 0) := by omega
 have HC := Hi (fun wx => rdigits_any n wx hn)
 go_enter Tryz.func39, Tryz.ntmps39
 go_wp2_with fail
 refine (HC.out _).mono ?_
 rintro e w' ⟨rfl, rfl⟩
 go_wp2_with fail
 go_ret
 exact ⟨rfl, rfl⟩
def Sh6 (l : List Bytes) : Prop := ∀ s ∈ l, s.length ≤ 60
theorem Sh6.left {a b : List Bytes} (h : Sh6 (a ++ b)) : Sh6 a := fun s hs => h s (by simp [hs])
theorem Sh6.right {a b : List Bytes} (h : Sh6 (a ++ b)) : Sh6 b := fun s hs => h s (by simp [hs])
theorem namesFs_kid : ∀ {ks : List Tree} {k : Nat} {t : Tree}, ks[k]? = some t → Sh6 (namesFs ks) → Sh6 (namesF t)
 | a :: r, 0, t, h, hs => by cases h; exact hs.left
 | a :: r, k + 1, t, h, hs => namesFs_kid (ks := r) (k := k) (by simpa using h) hs.right
theorem namesSs_kid : ∀ {ks : List Tree} {k : Nat} {t : Tree}, ks[k]? = some t → Sh6 (namesSs ks) → Sh6 (namesS t)
 | a :: r, 0, t, h, hs => by cases h; exact hs.left
 | a :: r, k + 1, t, h, hs => namesSs_kid (ks := r) (k := k) (by simpa using h) hs.right
theorem rFs_snoc (b : Bool) : ∀ {ks : List Tree} {k : Nat} {t : Tree}, ks[k]? = some t → rFs b (ks.take (k + 1)) = rFs b (ks.take k) ++ [wrapB b t 6 7 (rF t)]
 | a :: r, 0, t, h => by cases h; simp [rFs]
 | a :: r, k + 1, t, h => by
   have := rFs_snoc b (ks := r) (k := k) (by simpa using h)
   rw [List.take_succ_cons, rFs, this, List.take_succ_cons, rFs]
   rfl
theorem rSs_snoc (b : Bool) : ∀ {ks : List Tree} {k : Nat} {t : Tree}, ks[k]? = some t → rSs b (ks.take (k + 1)) = rSs b (ks.take k) ++ [wrapB b t 8 9 (rS t)]
 | a :: r, 0, t, h => by cases h; simp [rSs]
 | a :: r, k + 1, t, h => by
   have := rSs_snoc b (ks := r) (k := k) (by simpa using h)
   rw [List.take_succ_cons, rSs, this, List.take_succ_cons, rSs]
   rfl
theorem rFs_ln (b : Bool) : ∀ ks : List Tree, (rFs b ks).length = ks.length
 | [] => by rw [rFs]; rfl
 | a :: r => by rw [rFs, List.length_cons, List.length_cons, rFs_ln b r]
theorem rSs_ln (b : Bool) : ∀ ks : List Tree, (rSs b ks).length = ks.length
 | [] => by rw [rSs]; rfl
 | a :: r => by rw [rSs, List.length_cons, List.length_cons, rSs_ln b r]
theorem wrapB_len (b : Bool) (k : Tree) (oa oo : Nat) (s : Bytes) : (wrapB b k oa oo s).length ≤ s.length + 2 := by
 unfold wrapB
 split <;> simp
theorem sign_len {c : Nat} (h1 : 1 ≤ c) (h2 : c ≤ 6) : (signs.getD (c - 1) []).length ≤ 2 ∧ (So.cmpW.getD (c - 1) []).length ≤ 6 := by
 obtain rfl | rfl | rfl | rfl | rfl | rfl : c = 1 ∨ c = 2 ∨ c = 3 ∨ c = 4 ∨ c = 5 ∨ c = 6 := by omega
 all_goals decide
theorem joinT_cons (by' a : Bytes) (l : List Bytes) : (joinT' by' (a :: l)).length ≤ a.length + by'.length + (joinT' by' l).length := by
 cases l with
 | nil => simp [joinT']
 | cons b r => simp [joinT']; omega
theorem own_len {name : Bytes} {r : List Bytes} (h : Sh6 ([name] ++ r)) : name.length ≤ 60 := h name (by simp)
mutual
theorem rF_len : ∀ t : Tree, t.size ≤ 1000000 → shapeF t = true → Sh6 (namesF t) → (rF t).length + 10 ≤ 100 * t.size ∧ (So.rF t).length + 10 ≤ 100 * t.size
 | .mk op name cm m ks, hz, h, hn => by
   rw [Tree.size] at hz
   have hkn := len_sizes ks
   obtain ⟨h1, h3, h5, h4⟩ := shapeF_op h
   rw [namesF] at hn
   have hk := rFs_len ks (by omega) h4 hn.right
   have hd := dec_len (n := ks.length) (by omega)
   have h7 := hk.2.2
   rw [rF, So.rF, Tree.size]
   rcases h1 with rfl | rfl | rfl | rfl | rfl | rfl | rfl
   · simp
     omega
   · simp
     omega
   · have hl := own_len hn
     have hd := dec_len (n := m) (by have := h3 rfl; omega)
     have hc := sign_len (h3 rfl).1 (h3 rfl).2.1
     simp
     simp at hc
     omega
   · have hl := own_len hn
     simp
     omega
   · have h2 := hk.2.1 false
     have h6 : ((rFs false ks).headD []).length ≤ 100 * sizes ks := by
      cases hh : rFs false ks with
      | nil => simp
      | cons a r => exact h2 a (by rw [hh]; simp)
     simp at h6 ⊢
     omega
   · have h6 := hk.1 false [32, 97, 110, 100, 32] (by decide)
     simp at h6 ⊢
     omega
   · have h6 := hk.1 true [32, 111, 114, 32] (by decide)
     simp at h6 ⊢
     omega
theorem rFs_len : ∀ ks : List Tree, sizes ks ≤ 1000000 → shapeFs ks = true → Sh6 (namesFs ks) → (∀ b by', by'.length ≤ 5 → (joinT' by' (rFs b ks)).length ≤ 100 * sizes ks) ∧ (∀ b, ∀ s ∈ rFs b ks, s.length ≤ 100 * sizes ks) ∧ (So.rFs ks).length ≤ 100 * sizes ks
 | [], _, _, _ => by simp [rFs, So.rFs, joinT']
 | t :: r, hz, h, hn => by
   rw [sizes] at hz
   rw [shapeFs, Bool.and_eq_true] at h
   rw [namesFs] at hn
   obtain ⟨a1, a2⟩ := rF_len t (by omega) h.1 hn.left
   obtain ⟨b1, b2, b3⟩ := rFs_len r (by omega) h.2 hn.right
   rw [sizes]
   refine ⟨fun b by' hb => ?_, fun b s hs => ?_, ?_⟩
   · rw [rFs]
     have c1 := joinT_cons by' (wrapB b t 6 7 (rF t)) (rFs b r)
     have c2 := wrapB_len b t 6 7 (rF t)
     have c3 := b1 b by' hb
     omega
   · rw [rFs] at hs
     rcases List.mem_cons.1 hs with rfl | hs
     · have c2 := wrapB_len b t 6 7 (rF t)
       omega
     · have := b2 b s hs
       omega
   · rw [So.rFs]
     simp
     omega
end
theorem startW_len (op : Nat) (h : op = 4 ∨ op = 5 ∨ op = 6 ∨ op = 7) : (startW.getD op []).length ≤ 6 ∧ (So.opsW.getD (op - 4) []).length ≤ 6 := by
 rcases h with rfl | rfl | rfl | rfl <;> decide
mutual
theorem rS_len : ∀ t : Tree, t.size ≤ 1000000 → shapeS t = true → Sh6 (namesS t) → (rS t).length + 10 ≤ 100 * t.size ∧ (So.rS t).length + 10 ≤ 100 * t.size
 | .mk op name cm m ks, hz, h, hn => by
   rw [Tree.size] at hz
   have hkn := len_sizes ks
   obtain ⟨h1, h3, h5, h4⟩ := shapeS_op h
   rw [namesS] at hn
   have hk := rSs_len ks (by omega) h4 hn.right
   have hd := dec_len (n := ks.length) (by omega)
   have h7 := hk.2.2
   have hd2 := dec_len (n := m) (by omega)
   rw [rS, So.rS, Tree.size]
   have w4 := startW_len 4 (by decide)
   have w5 := startW_len 5 (by decide)
   have w6 := startW_len 6 (by decide)
   have w7 := startW_len 7 (by decide)
   rcases h1 with rfl | rfl | rfl | rfl | rfl | rfl | rfl | rfl | rfl
   · simp
     omega
   · simp
     omega
   · simp
     omega
   iterate 4
    · have hl := own_len hn
      simp at w4 w5 w6 w7 ⊢
      omega
   · have h6 := hk.1 false [32, 97, 110, 100, 32] (by decide)
     simp at h6 ⊢
     omega
   · have h6 := hk.1 true [32, 111, 114, 32] (by decide)
     simp at h6 ⊢
     omega
theorem rSs_len : ∀ ks : List Tree, sizes ks ≤ 1000000 → shapeSs ks = true → Sh6 (namesSs ks) → (∀ b by', by'.length ≤ 5 → (joinT' by' (rSs b ks)).length ≤ 100 * sizes ks) ∧ (∀ b, ∀ s ∈ rSs b ks, s.length ≤ 100 * sizes ks) ∧ (So.rSs ks).length ≤ 100 * sizes ks
 | [], _, _, _ => by simp [rSs, So.rSs, joinT']
 | t :: r, hz, h, hn => by
   rw [sizes] at hz
   rw [shapeSs, Bool.and_eq_true] at h
   rw [namesSs] at hn
   obtain ⟨a1, a2⟩ := rS_len t (by omega) h.1 hn.left
   obtain ⟨b1, b2, b3⟩ := rSs_len r (by omega) h.2 hn.right
   rw [sizes]
   refine ⟨fun b by' hb => ?_, fun b s hs => ?_, ?_⟩
   · rw [rSs]
     have c1 := joinT_cons by' (wrapB b t 8 9 (rS t)) (rSs b r)
     have c2 := wrapB_len b t 8 9 (rS t)
     have c3 := b1 b by' hb
     omega
   · rw [rSs] at hs
     rcases List.mem_cons.1 hs with rfl | hs
     · have c2 := wrapB_len b t 8 9 (rS t)
       omega
     · have := b2 b s hs
       omega
   · rw [So.rSs]
     simp
     omega
end
section
/- the box of the condition, the row, and a kid's box -/
structure RqSt (w wx : World) (C : Array Value) (T : TypeId) (v : Value) (l : List Bytes) : Prop where
 own : OwnS wx (w.heap.size + 1) v l
 below : Below (w.heap.size + 1) (w.alloc (.cells C T)) wx
theorem RqSt.start (w : World) (C : Array Value) (T : TypeId) : RqSt w (w.alloc (.cells C T)) C T (.slice none 0 0) [] := ⟨OwnS.nil, by have := Below.refl (w.heap.size + 1) (w.alloc (.cells C T)); exact this⟩
theorem RqSt.bel {w wx : World} {C : Array Value} {T : TypeId} {v : Value} {l : List Bytes} (h : RqSt w wx C T v l) : Below w.heap.size w wx := (belowA w _).trans (h.below.mono (by omega))
theorem RqSt.sz {w wx : World} {C : Array Value} {T : TypeId} {v : Value} {l : List Bytes} (h : RqSt w wx C T v l) : w.heap.size + 1 ≤ wx.heap.size := by have := h.below.size; simpa using this
theorem RqSt.blk {w wx : World} {C : Array Value} {T : TypeId} {v : Value} {l : List Bytes} (h : RqSt w wx C T v l) : wx.heap[w.heap.size]? = some (.cells C T (0, 0)) := (h.below.block _ (by omega)).trans (heap_alloc_new w _)
theorem RqSt.step {w wx w' : World} {C : Array Value} {T : TypeId} {v : Value} {l : List Bytes} (h : RqSt w wx C T v l) (hb : Below wx.heap.size wx w') : RqSt w w' C T v l := ⟨h.own.grown hb, h.below.trans (hb.mono h.sz)⟩
theorem RqSt.app {w wx w' : World} {C : Array Value} {T : TypeId} {v v' : Value} {l l' : List Bytes} (h : RqSt w wx C T v l) (ho : OwnS w' (w.heap.size + 1) v' l') (hg : wx.grownBy w' v.ownBlock) : RqSt w w' C T v' l' :=
 ⟨ho, h.below.trans ⟨hg.os, hg.tape, hg.output, hg.size, fun i hi => hg.block i (Nat.lt_of_lt_of_le hi h.sz) (fun e => by have := (h.own.own i e.symm).1; omega)⟩⟩
end
end Go.Proofs.YtbicmjmcdnkjhaaGreatDoor
