/- The law of gaps: the tokens with a line feed after each. -/
import Derived.Test.YtpagkakplmeokaaDoorNFirst
set_option linter.unusedVariables false
set_option linter.unusedSimpArgs false
namespace Go.Proofs.YtpagkakplmeokaaDoor
open Go.RowKit
theorem spaced_app : ∀ (a b : List Tok), spaced (a ++ b) = spaced a ++ spaced b
  | [], b => rfl
  | t :: r, b => by rw [List.cons_append, spaced, spaced, spaced_app r b]; simp
theorem placed_app : ∀ (a b : List Tok) (p : Nat), placed (a ++ b) p = placed a p ++ placed b (p + (spaced a).length)
  | [], b, p => rfl
  | t :: r, b, p => by
    rw [List.cons_append, placed, placed, placed_app r b, List.cons_append]
    congr 3
    simp [spaced]; omega
theorem small_of {x : Tree} (h : boundC x = 0) : x.size ≤ 1000000 := by
  unfold boundC at h
  split at h
  · cases h
  · omega
theorem gaps_pr {l : List UInt8} {ts : List Tok} (hl : l.length ≤ 3000) (h : lexF l = .ok ts) : (∃ p, pr ts = .ok (p, []) ∧ pr (placed ts 0) = .ok (p, [])) ∨ (pr ts = .error (6, []) ∧ pr (placed ts 0) = .error (6, [])) ∨
    ∃ u t v e, ts = u ++ t :: v ∧ e ≠ 0 ∧ e ≠ 6 ∧ pr ts = .error (e, t :: v) ∧ pr (placed ts 0) = .error (e, { t with pos := (spaced u).length } :: placed v ((spaced u).length + t.text.length + 1)) ∧ t.pos < l.length ∧ ∀ x ∈ u, x.pos < t.pos := by
  obtain ⟨hsc, hlen, -⟩ := lexF_ok h
  obtain ⟨hok, herr⟩ := pr_map (placed_core ts 0).symm
  rcases hp : pr ts with ⟨e, s⟩ | ⟨p, s⟩
  · obtain ⟨h0, h6, -, -⟩ := pr_sane hlen hp
    obtain ⟨j, hj, hsj, he2⟩ := herr _ _ hp
    cases s with
    | nil =>
      have h66 : e = 6 := h6.2 rfl
      subst h66
      have : placed ts 0 = placed (ts.take j) 0 ++ placed (ts.drop j) (0 + (spaced (ts.take j)).length) := by rw [← placed_app, List.take_append_drop]
      rw [List.drop_eq_nil_of_le (by rw [placed_length]; have := congrArg List.length hsj; simp at this; omega)] at he2
      exact .inr (.inl ⟨rfl, he2⟩)
    | cons t v =>
      refine .inr (.inr ⟨ts.take j, t, v, e, ?_, h0, ?_, rfl, ?_, ?_⟩)
      · rw [hsj, List.take_append_drop]
      · intro h; simpa using h6.1 h
      · rw [he2]
        have h1 : placed ts 0 = placed (ts.take j) 0 ++ placed (t :: v) (0 + (spaced (ts.take j)).length) := by rw [← placed_app, hsj, List.take_append_drop]
        rw [h1, List.drop_append_of_le_length (by rw [placed_length]; simp; omega), List.drop_eq_nil_of_le (by rw [placed_length, List.length_take]; omega)]
        rw [List.nil_append, placed, Nat.zero_add]
      · have hts : ts = ts.take j ++ t :: v := by rw [hsj, List.take_append_drop]
        have hpl := sc_placed l 0
        rw [hsc] at hpl
        simp only [] at hpl
        rw [hts] at hpl
        have := hpl.mem t (by simp)
        exact ⟨by omega, hpl.one.1⟩
  · rcases pr_cases ts with ⟨q, -, h2⟩ | ⟨q, t, v, -, h2⟩ | ⟨e, s, -, h2⟩
    · rw [h2] at hp; cases hp
      exact .inl ⟨p, rfl, hok _ h2⟩
    · rw [h2] at hp; cases hp
    · rw [h2] at hp; cases hp
theorem spaced_small {l : List UInt8} {ts : List Tok} (hl : l.length ≤ 3000) (h : lexF l = .ok ts) (k : Nat) : (spaced (ts.take k)).length ≤ 6000 := by
  have h2 := (spaced_lex hl h).2
  have : spaced ts = spaced (ts.take k) ++ spaced (ts.drop k) := by rw [← spaced_app, List.take_append_drop]
  rw [this] at h2
  simp at h2
  omega
theorem spaced_take {ts : List Tok} {k : Nat} {x : Tok} (hx : ts[k]? = some x) : spaced (ts.take (k + 1)) = spaced (ts.take k) ++ (x.text ++ [10]) := by
  rw [List.take_add_one, hx, spaced_app]
  simp [spaced]
theorem out_small (l : List UInt8) : (outP l).cond.size ≤ 1000000 ∧ (outP l).beg.size ≤ 1000000 ∧ (outP l).fin.size ≤ 1000000 ∧ (outP l).aga.size ≤ 1000000 ∧ (outP l).exc.length ≤ 1000000 := by
  unfold outP
  split
  · rename_i p h
    have := parseF_good h
    exact ⟨small_of this.cond.2, small_of this.beg.2, small_of this.fin.2, small_of this.aga.2, by have := this.exc.1; omega⟩
  · exact ⟨by decide, by decide, by decide, by decide, by decide⟩
theorem gaps_no {l : List UInt8} (h : lexE l ≠ 0) : outE l = lexE l := by
  unfold outE lexE parseF at *
  split at h
  · exact absurd rfl h
  · rename_i e a h1
    simp only [h1]
theorem gaps_out {l : List UInt8} (hl : l.length ≤ 3000) (h0 : lexE l = 0) : outE (spaced (lexT l)) = outE l ∧ outP (spaced (lexT l)) = outP l ∧ (outE l = 0 ∧ outA l = 0 ∧ outA (spaced (lexT l)) = 0 ∨ outE l = 6 ∧ outA l = l.length ∧ outA (spaced (lexT l)) = (spaced (lexT l)).length ∨
    ∃ u t v, lexT l = u ++ t :: v ∧ outE l ≠ 0 ∧ outE l ≠ 6 ∧ outA l = t.pos ∧ outA (spaced (lexT l)) = (spaced u).length ∧ t.pos < l.length ∧ ∀ x ∈ u, x.pos < t.pos) := by
  have hlx := lexE_zero h0
  have hsp := (spaced_lex hl hlx).1
  rcases gaps_pr hl hlx with ⟨p, h1, h2⟩ | ⟨h1, h2⟩ | ⟨u, t, v, e, h1, h2, h3, h4, h5, h6, h7⟩
  · obtain ⟨a1, a2, a3⟩ := out_ok hlx h1
    obtain ⟨b1, b2, b3⟩ := out_ok hsp h2
    exact ⟨b2.trans a2.symm, b1.trans a1.symm, .inl ⟨a2, a3, b3⟩⟩
  · obtain ⟨a1, a2, a3⟩ := out_err hlx h1
    obtain ⟨b1, b2, b3⟩ := out_err hsp h2
    exact ⟨b2.trans a2.symm, b1.trans a1.symm, .inr (.inl ⟨a2, a3, b3⟩)⟩
  · obtain ⟨a1, a2, a3⟩ := out_err hlx h4
    obtain ⟨b1, b2, b3⟩ := out_err hsp h5
    exact ⟨b2.trans a2.symm, b1.trans a1.symm, .inr (.inr ⟨u, t, v, h1, by omega, by omega, a3, b3, h6, h7⟩)⟩
/- a row of numbers that the call owns -/
abbrev OwnI (w : World) (base : Nat) (v : Value) (l : List Nat) : Prop := w.ownsRow base 3 1 v l.length (l.map fun (n : Nat) => Value.int .i64 (n : Int))
theorem OwnI.nil {w : World} {base : Nat} : OwnI w base (.slice none 0 0) [] := ⟨rfl, .inl ⟨rfl, rfl⟩⟩
theorem OwnI.keep {w w' : World} {base : Nat} {v : Value} {l : List Nat} (h : OwnI w base v l) (hk : ∀ b, base ≤ b → b < w.heap.size → w'.heap[b]? = w.heap[b]?) : OwnI w' base v l := by
  refine ⟨h.1, ?_⟩
  rcases h.2 with h | ⟨g, cap, cur, rfl, r2, r3, r4⟩
  · exact .inl h
  · exact .inr ⟨g, cap, cur, rfl, r2, (hk g r2 (lt_of_heap' r3)).trans r3, r4⟩
theorem OwnI.own {w : World} {base : Nat} {v : Value} {l : List Nat} (h : OwnI w base v l) : ∀ b, v.ownBlock = some b → base ≤ b ∧ b < w.heap.size := by
  rcases h.2 with ⟨hv, h0⟩ | ⟨g, cap, cur, rfl, r2, r3, r4⟩
  · intro b hb
    rw [hv] at hb
    simp [Value.ownBlock] at hb
  · intro b hb
    simp [Value.ownBlock] at hb
    subst hb
    exact ⟨r2, lt_of_heap' r3⟩
theorem OwnI.at {w : World} {base : Nat} {v : Value} {l : List Nat} (h : OwnI w base v l) : ∃ A cap, v = .slice A l.length cap ∧ ∀ (k n : Nat), l[k]? = some n → ∃ g, A = some ⟨g, 0, none⟩ ∧ w.cell? ⟨g, k, none⟩ = some (.int .i64 (n : Int)) := by
  rcases h.2 with ⟨hv, h0⟩ | ⟨g, cap, cur, rfl, r2, r3, r4, r5, r6, r7⟩
  · refine ⟨none, 0, by rw [hv, h0], fun k n hk => ?_⟩
    have := List.length_eq_zero_iff.1 h0
    subst this
    simp at hk
  · refine ⟨_, cap, rfl, fun k n hk => ⟨g, rfl, cell_of_blk r3 ?_⟩⟩
    have hk2 : (l.map fun (n : Nat) => Value.int .i64 (n : Int))[k]? = some (.int .i64 (n : Int)) := by simp [hk]
    rw [← r7, List.getElem?_take] at hk2
    split at hk2
    · rw [← Array.getElem?_toList]; simpa using hk2
    · cases hk2
theorem info_int : (Tryd.prog.info? 3).map (fun i => (i.zero, i.size, i.bytes)) = some (some (.int .i64 0), 1, 8) := by kernel_rfl
theorem wpList_append_int {ops : Array Oper} {rest : List Oper} {o : Oper} {a : Act} {w : World} {Q : Exit → Act → World → Prop} (hgd : o.guard = none) (s x : Operand) (hop : o.op = Op.call { callee := Callee.builtin Builtin.append, args := #[s, x], argTypes := #[38, 38] })
    (base : Nat) (v : Value) (l : List Nat) (g0 : Nat) (t : Nat) (hs : a.eval s = v) (hx : a.eval x = .slice (some ⟨g0, 0, none⟩) 1 1) (hown : OwnI w base v l) (hc : w.cell? ⟨g0, 0, none⟩ = some (.int .i64 (t : Int)))
    (hlen : l.length + 1 ≤ 1000000) (hb : base ≤ w.heap.size) (h : ∀ v' w', OwnI w' base v' (l ++ [t]) → w.grownBy w' v.ownBlock → wpList Tryd.prog ops Q rest (a.put o.dst v') w') : wpList Tryd.prog ops Q (o :: rest) a w := by
  obtain ⟨i0, hi0, hz0, hz1, hz2⟩ := info_parts info_int
  refine wpList_append_own_at _ hgd s x _ hop base 3 i0 (.int .i64 0) 1 8 Tryd.underlying38 hi0 hz0 hz1 hz2 rfl (by decide) v l.length (l.map fun (n : Nat) => Value.int .i64 (n : Int)) hs hown ⟨g0, 0, none⟩ 1 1 [.int .i64 (t : Int)] hx rfl (fun j u hu => ?_) (by simp [Value.oneCell']) (by unfold maxLen; omega) (by omega) hb ?_
  · cases j with
    | succ j => simp at hu
    | zero => simp at hu; subst hu; rw [Addr.add_lit]; exact hc
  · intro v' w' ho hg _ _
    exact h v' w' (by unfold OwnI; simpa using ho) hg
theorem tok_text {w w' : World} {b off : Nat} {ts : List Tok} (h : RdT w (some ⟨b, off, none⟩) ts) (hb : Below w.heap.size w w') {k : Nat} {x : Tok} (hx : ts[k]? = some x) : w'.cell? ⟨b, off + k * 4 + 1, none⟩ = some (vs x.text) := by
  obtain ⟨b2, off2, he2, hbl2, hg2⟩ := h.below hb (by intro h; rw [h] at hx; simp at hx)
  cases he2
  exact (tok_get hg2 hx).2
theorem pos_ne {a b : Nat} (h : a < b) : ¬ (a : Int) = b := by omega
theorem small_k {k n : Nat} (h : k < n) (hn : n ≤ 5000) : k < 9000000 := by omega
theorem app_lt {ts u v : List Tok} {t : Tok} {k : Nat} (h : ts = u ++ t :: v) (hk : k ≤ u.length) : k < ts.length := by subst h; simp; omega
theorem app_left {ts u v : List Tok} {t x : Tok} {k : Nat} (h : ts = u ++ t :: v) (hk : k < u.length) (hx : ts[k]? = some x) : x ∈ u := by
  rw [h, List.getElem?_append_left hk] at hx
  exact List.mem_of_getElem? hx
theorem app_mid {ts u v : List Tok} {t x : Tok} (h : ts = u ++ t :: v) (hx : ts[u.length]? = some x) : x = t ∧ ts.take u.length = u := by
  subst h
  rw [List.getElem?_append_right (Nat.le_refl _)] at hx
  simp at hx
  exact ⟨hx.symm, by simp⟩
abbrev lens (ts : List Tok) (k : Nat) : List Nat := (List.range k).map fun j => (spaced (ts.take j)).length
theorem lens_at {ts : List Tok} {k : Nat} (h : k < ts.length) : (lens ts ts.length)[k]? = some (spaced (ts.take k)).length := by simp [lens, h]
set_option maxRecDepth 100000 in
set_option maxHeartbeats 4000000 in
theorem gaps_any (l : List UInt8) (w : World) (m : Int) (hm : w.cell? ⟨2, 0, none⟩ = some (.int .i64 m)) :
    Calls Tryd.prog 3 #[vs l] w fun e w' => e = .returned (.bool true) ∧ Below w.heap.size w w' := by
  have HM := Lib.hid hm
  clear hm
  go_enter Tryd.func3, Tryd.ntmps3
  go_wp2_with fail
  refine (head_any w m HM.out).mono ?_
  rintro e w1 ⟨rfl, hb1⟩
  have HB1 := Lib.hid hb1
  clear hb1
  by_cases hl : 3000 < l.length
  · have hl' : (3000 : Int) < l.length := by omega
    go_wp2_with fail
    go_ret
    exact ⟨rfl, HB1.out⟩
  have hl' : ¬ (3000 : Int) < l.length := by omega
  go_wp2_with fail
  have HL := Lib.hid hl
  clear hl' hl
  refine (lex_out l _).mono ?_
  rintro e w2 ⟨hb2, A, c, rfl, hrt, hc1, hc2⟩
  have HB2 : Hid (Below w.heap.size w w2) := Lib.hid (HB1.out.trans (hb2.mono HB1.out.size))
  have HRT := Lib.hid hrt
  clear hb2 hrt
  go_wp2_with fail
  refine (parse_out l _ m (maxc_below HM.out HB2.out)).mono ?_
  rintro e w3 ⟨hb3, cs1, rfl, hr1⟩
  obtain ⟨st1, ld1⟩ := prov_io hr1
  have HB3 : Hid (Below w.heap.size w w3) := Lib.hid (HB2.out.trans (hb3.mono HB2.out.size))
  have HRT3 := Lib.hid (HRT.out.below hb3)
  have HR1 := Lib.hid hr1
  clear hb3 hr1 HRT
  by_cases h0 : lexE l = 0
  case neg =>
    have h0' : ¬ (lexE l : Int) = 0 := by omega
    have hg := gaps_no h0
    rw [hg]
    go_wp2_with fail
    go_ret
    exact ⟨rfl, HB3.out.alloc HB3.out.size _⟩
  have hlen := lexT_len l
  have HLX := Lib.hid (lexE_zero h0)
  have HSP := Lib.hid (fun k => spaced_small (ts := lexT l) (by have := HL.out; omega) HLX.out k)
  have HGO := Lib.hid (gaps_out (l := l) (by have := HL.out; omega) h0)
  have HC := Lib.hid hc1
  rw [h0]
  generalize lexT l = ts at *
  clear h0 HLX hc1
  go_wp2_with fail
  have K1 : Hid ((w3.alloc (.cells cs1.toArray 35 (0, 0))).blk w3.heap.size = some (.cells cs1.toArray 35 (0, 0))) := Lib.hid (heap_alloc_new w3 _)
  have hal : Below w3.heap.size w3 (w3.alloc (.cells cs1.toArray 35 (0, 0))) := (Below.refl _ _).alloc (Nat.le_refl _) _
  have HB4 := Lib.hid (HB3.out.alloc HB3.out.size (.cells cs1.toArray 35 (0, 0)))
  have HRT4 := Lib.hid (HRT3.out.below hal)
  have HR4 := Lib.hid (HR1.out.below (n := 0) hal)
  clear hal HR1 HRT3 st1
  generalize w3.alloc (.cells cs1.toArray 35 (0, 0)) = w4 at *
  go_loopw [10, 11, 12] (fun v10 v11 v12 wr => ∃ k : Nat, k ≤ ts.length ∧ v12 = .int .i64 k ∧ v10 = vs (spaced (ts.take k)) ∧ OwnI wr w4.heap.size v11 (lens ts k) ∧ Below w4.heap.size w4 wr) (fun _ _ v12 _ => ts.length - (intOf v12).toNat)
  case atStart => exact ⟨0, Nat.zero_le _, rfl, rfl, OwnI.nil, Below.refl _ _⟩
  case round =>
    obtain ⟨k, hkl, rfl, rfl, hown, hbw⟩ := hrel
    have HOWN := Lib.hid hown
    have HBW := Lib.hid hbw
    clear hown hbw
    by_cases hlt : k < ts.length
    · obtain ⟨x, hx⟩ := get_of_lt hlt
      have HX := Lib.hid hx
      have hk1 : (k : Int) < ts.length := by omega
      have hwk := wrap64_nat (k := k) (by omega)
      have hll : (lens ts k).length = k := by simp
      obtain ⟨A11, c11, h11, -⟩ := HOWN.out.at
      subst h11
      obtain ⟨b, off, rfl, hbl, -⟩ := HRT4.out (by intro h; rw [h] at hlt; simp at hlt)
      have hcell : (wr.alloc (.cells #[.int .i64 ((spaced (ts.take k)).length : Int)] 3 (0, 0))).cell? ⟨wr.heap.size, 0, none⟩ = some (.int .i64 ((spaced (ts.take k)).length : Int)) := cell_of_blk (heap_alloc_new wr _) rfl
      have HCELL := Lib.hid hcell
      have HO2 : Hid (OwnI (wr.alloc (.cells #[.int .i64 ((spaced (ts.take k)).length : Int)] 3 (0, 0))) w4.heap.size (.slice A11 (lens ts k).length c11) (lens ts k)) := Lib.hid (HOWN.out.keep (fun b _ hb => Below.heap_alloc _ _ _ hb))
      have HB5 := Lib.hid (HBW.out.alloc HBW.out.size (.cells #[.int .i64 ((spaced (ts.take k)).length : Int)] 3 (0, 0)))
      have hsz : w4.heap.size ≤ (wr.alloc (.cells #[.int .i64 ((spaced (ts.take k)).length : Int)] 3 (0, 0))).heap.size := HB5.out.size
      have HSZ := Lib.hid hsz
      clear hx hcell hsz
      have hs1 := spaced_take HX.out
      have hs2 := HSP.out (k + 1)
      rw [hs1] at hs2
      simp only [List.length_append, List.length_cons, List.length_nil] at hs2
      have HS := Lib.hid hs1
      have q1 : ¬ 9223372036854775807 < (spaced (ts.take k)).length + x.text.length := by omega
      have q2 : ¬ 9223372036854775807 < (spaced (ts.take k)).length + x.text.length + 1 := by omega
      clear hs1 hs2
      go_wp2_with (at_builtin; refine wpList_append_int rfl (.tmp 48) (.tmp 51) rfl w4.heap.size (.slice A11 (lens ts k).length c11) (lens ts k) wr.heap.size (spaced (ts.take k)).length rfl rfl HO2.out HCELL.out (by omega) HSZ.out ?_; intro v' w5 ho hg; have hb6 := below_kept HB5.out (Nat.le_refl _) hg (fun r hr => (HO2.out.own r hr).1); have HB6 := Lib.hid hb6; have HO6 := Lib.hid ho; obtain ⟨A7, c7, h7, -⟩ := ho.at; subst h7; have g1 := tok_text HRT4.out hb6 HX.out; clear hg ho hb6)
      have htx : (({ data := (spaced (ts.take k)).toArray } : ByteArray) ++ { data := x.text.toArray } ++ { data := #[10] }) = ⟨(spaced (ts.take (k + 1))).toArray⟩ := by
        rw [show ({ data := #[10] } : ByteArray) = ⟨([10] : List UInt8).toArray⟩ from rfl, text_app, text_app, HS.out, List.append_assoc]
      rw [htx]
      refine ⟨⟨k + 1, hlt, rfl, rfl, ?_, HB6.out⟩, Nat.sub_lt_sub_left hlt (Nat.lt_succ_self _)⟩
      have ho6 := HO6.out
      have hl2 : lens ts (k + 1) = lens ts k ++ [(spaced (ts.take k)).length] := by simp [lens, List.range_succ]
      rw [hl2]
      simpa using ho6
    · have hk1 : ¬ (k : Int) < ts.length := by omega
      have : k = ts.length := by omega
      subst this
      rw [List.take_length]
      have K1W : Hid (wr.blk w3.heap.size = some (.cells cs1.toArray 35 (0, 0))) := Lib.hid ((HBW.out.block _ (lt_of_heap' K1.out)).trans K1.out)
      have HBR : Hid (Below w.heap.size w wr) := Lib.hid (HB4.out.trans (HBW.out.mono HB4.out.size))
      have HTW := Lib.hid (HRT4.out.below HBW.out)
      have HRW := Lib.hid (HR4.out.below (n := 0) HBW.out)
      go_wp2_with fail
      refine (parse_out (spaced ts) _ m (maxc_below HM.out HBR.out)).mono ?_
      rintro e w6 ⟨hb6, cs2, rfl, hr2⟩
      obtain ⟨st2, ld2⟩ := prov_io hr2
      obtain ⟨hE, hP, hcase⟩ := HGO.out
      rw [hE]
      have hal : Below w6.heap.size w6 (w6.alloc (.cells cs2.toArray 35 (0, 0))) := (Below.refl _ _).alloc (Nat.le_refl _) _
      have hbb : Below wr.heap.size wr (w6.alloc (.cells cs2.toArray 35 (0, 0))) := hb6.trans (hal.mono hb6.size)
      have k1 : (w6.alloc (.cells cs2.toArray 35 (0, 0))).blk w3.heap.size = some (.cells cs1.toArray 35 (0, 0)) := (hbb.block _ (lt_of_heap' K1W.out)).trans K1W.out
      have HRA := Lib.hid (HRW.out.below (n := 0) hbb)
      rw [hP] at hr2
      have HRB := Lib.hid (hr2.below (n := 0) hal)
      have HB7 : Hid (Below w.heap.size w (w6.alloc (.cells cs2.toArray 35 (0, 0)))) := Lib.hid (HBR.out.trans (hbb.mono HBR.out.size))
      have HT7 := Lib.hid (HTW.out.below hbb)
      have HO7 : Hid (OwnI (w6.alloc (.cells cs2.toArray 35 (0, 0))) w4.heap.size u11 (lens ts ts.length)) := Lib.hid (HOWN.out.keep (fun b _ hb => hbb.block b hb))
      have HCS := Lib.hid hcase
      clear hal hbb hr2 hcase hb6 hE hP HGO
      go_wp2_with fail
      obtain ⟨s1, s2, s3, s4, s5⟩ := out_small l
      refine (same_any (outP l) _ _ _ _ _ HRA.out HRB.out s1 s2 s3 s4 s5).mono ?_
      rintro e w8 ⟨rfl, hb8⟩
      have HB8 : Hid (Below w.heap.size w w8) := Lib.hid (HB7.out.trans (hb8.mono HB7.out.size))
      have HT8 := Lib.hid (HT7.out.below hb8)
      have HO8 : Hid (OwnI w8 w4.heap.size u11 (lens ts ts.length)) := Lib.hid (HO7.out.keep (fun b _ hb => hb8.block b hb))
      clear hb8 k1 st2 ld2 ld1 s1 s2 s3 s4 s5
      rcases HCS.out with ⟨h1, h2, h3⟩ | ⟨h1, h2, h3⟩ | ⟨u, t, v, h1, h2, h3, h4, h5, h6, h7⟩
      · rw [h1, h2, h3]
        go_wp2_with fail
        go_ret
        exact ⟨rfl, HB8.out⟩
      · rw [h1, h2, h3]
        go_wp2_with fail
        go_ret
        exact ⟨rfl, HB8.out⟩
      · rw [h4, h5]
        have y1 : ((outE l : Int) == 0) = false := by simp; omega
        have y2 : ((outE l : Int) == 6) = false := by simp; omega
        have y3 : ((t.pos : Int) == l.length) = false := by simp; omega
        obtain ⟨b, off, rfl, hbl, hg⟩ := HT8.out (by rw [h1]; simp)
        have HG := Lib.hid hg
        have HTS := Lib.hid h1
        have HLT := Lib.hid h7
        have hll : (lens ts ts.length).length = ts.length := by simp
        obtain ⟨A11, c11, h11, hat⟩ := HO8.out.at
        subst h11
        have HAT := Lib.hid hat
        clear h1 h2 h3 h4 h5 h6 h7 hg hat HCS
        go_wp2_with fail
        clear y1 y2 y3 hll
        go_loop [16] (fun v16 => ∃ k : Nat, k ≤ u.length ∧ v16 = .int .i64 k) (fun v16 => ts.length - (intOf v16).toNat)
        case atStart => exact ⟨0, Nat.zero_le _, rfl⟩
        case round =>
          obtain ⟨k, hku, rfl⟩ := hrel
          have hlt : k < ts.length := app_lt HTS.out hku
          obtain ⟨x, hx⟩ := get_of_lt hlt
          obtain ⟨g3, g1⟩ := tok_get HG.out hx
          have hk1 : (k : Int) < ts.length := Int.ofNat_lt.2 hlt
          have hwk := wrap64_nat (k := k) (small_k hlt hlen)
          obtain ⟨g, rfl, gk⟩ := HAT.out k (spaced (ts.take k)).length (lens_at hlt)
          by_cases hk : k < u.length
          · have hpos : ¬ (x.pos : Int) = t.pos := pos_ne (HLT.out x (app_left HTS.out hk hx))
            clear gk hx
            go_wp2_with fail
            exact ⟨⟨k + 1, hk, rfl⟩, Nat.sub_lt_sub_left hlt (Nat.lt_succ_self _)⟩
          · obtain rfl : k = u.length := Nat.le_antisymm hku (Nat.not_lt.1 hk)
            obtain ⟨hxt, hsu⟩ := app_mid HTS.out hx
            subst hxt
            rw [hsu] at gk
            clear hx hsu hk
            go_wp2_with fail
            go_ret
            exact ⟨rfl, HB8.out⟩
end Go.Proofs.YtpagkakplmeokaaDoor
