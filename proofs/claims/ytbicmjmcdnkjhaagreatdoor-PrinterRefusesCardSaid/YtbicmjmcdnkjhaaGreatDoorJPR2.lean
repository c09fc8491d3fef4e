/- The law PrinterRefuses: its loop over provisions that cannot be written. -/
import Derived.Test.YtbicmjmcdnkjhaaGreatDoorJPR1
import Derived.Test.YtbicmjmcdnkjhaaGreatDoorJP38
import Derived.Test.YtbicmjmcdnkjhaaGreatDoorJP39
set_option linter.unusedVariables false
set_option linter.unusedSimpArgs false
namespace Go.Proofs.YtbicmjmcdnkjhaaGreatDoor
open Go.RowKit
attribute [local go_sem ↓] Go.wp_at_zero Go.wp_at_succ
noncomputable def rbody : Code := (Tryz.f6.body.bind fun c => (loopsOf c)[0]?).getD .skip
theorem bad_wr {w wx : World} {r : List Value} {p : ProvI} (h1 : RdPX w r p) (h2 : BadP p) (hb : Below w.heap.size w wx) : Calls Tryz.prog 26 #[.agg r.toArray] wx fun e w' => e = .returned (.bool false) ∧ Below wx.heap.size wx w' := by
  have := writ_any w wx r p h1 hb (by have := h2.cond; omega) (fun t ht => by
    simp only [List.mem_cons, List.not_mem_nil, or_false] at ht
    have := h2.beg
    have := h2.fin
    have := h2.aga
    rcases ht with rfl | rfl | rfl <;> omega) (by have := h2.exc; omega) (fun s hs => by have := h2.short s hs; omega)
  rwa [h2.no] at this
theorem bad_north {w wx : World} {r : List Value} (h : RowBad w r) (hb : Below w.heap.size w wx) : Calls Tryz.prog 12 #[.agg r.toArray] wx fun e w' => e = .returned (.tuple #[vs [], .int .i64 1]) ∧ Below wx.heap.size wx w' := by
  obtain ⟨p, h1, h2⟩ := h
  exact pnorth_no w wx _ (by rw [List.size_toArray]; exact h1.len) hb (fun wy hy => bad_wr h1 h2 hy)
theorem bad_south {w wx : World} {r : List Value} (h : RowBad w r) (hb : Below w.heap.size w wx) : Calls Tryz.prog 14 #[.agg r.toArray] wx fun e w' => e = .returned (.tuple #[vs [], .int .i64 1]) ∧ Below wx.heap.size wx w' := by
  obtain ⟨p, h1, h2⟩ := h
  exact psouth_no w wx _ (by rw [List.size_toArray]; exact h1.len) hb (fun wy hy => bad_wr h1 h2 hy)
theorem load_at {wx : World} {b o : Nat} {r : List Value} (hr : r.length = 23) (hc : ∀ (j : Nat) x, r[j]? = some x → wx.cell? ⟨b, o + j, none⟩ = some x) : (loadProv ⟨b, o, none⟩).run Tryz.prog wx = .ok (.agg r.toArray) wx :=
  run_loadVar_mid (P := Tryz.prog) wx b o 30 r _ hc Tryz.underlying30 rfl (by rw [hr]; kernel_rfl)
set_option maxRecDepth 100000
set_option maxHeartbeats 4000000 in
theorem refu_loop (Q : Exit → Act → World → Prop) (w : World) (pb qb vb m cv : Nat) (hvb : vb < w.heap.size) (hm : m ≤ 100)
    (hrow : ∀ k, k < m → ∃ r, RowBad w r ∧ ∀ (j : Nat) x, r[j]? = some x → w.cell? ⟨vb, k * 23 + j, none⟩ = some x)
    (u0 u1 u3 u4 u6 u7 u8 u9 u13 u14 u15 u16 u17 u18 u19 u20 u21 u22 u23 u24 u25 u26 u27 u28 u29 u30 u31 u32 u33 u34 u35 u36 u37 u38 u39 u40 u41 u42 u43 u44 u45 u46 u47 u48 u49 u50 u51 u52 u53 u54 u55 u56 u57 u58 u59 u60 u61 u62 u63 u64 u65 u66 u67 u68 u69 u70 u71 u72 u73 u74 u75 u76 u77 u78 u79 u80 u81 u82 u83 u84 u85 u86 u87 u88 u89 u90 u91 u92 u93 u94 u95 u96 u97 u98 u99 u100 u101 u102 u103 u104 u105 u106 u107 u108 u109 u110 u111 u112 u113 u114 u115 u116 u117 u118 u119 u120 u121 u122 u123 u124 u125 u126 u127 u128 u129 u130 u131 : Value)
    (hend : ∀ (v13 v14 v15 v16 v95 v96 v97 v98 v99 v100 v101 v102 v103 v104 v105 v106 v107 v108 v109 v110 v111 v112 v113 v114 v115 v116 v117 v118 v119 v120 v121 v122 v123 v124 v125 v126 v127 v128 v129 v130 : Value) (w' : World), Below w.heap.size w w' → Q (.exit 0) ⟨#[u0, u1, .pointer (some ⟨pb, 0, none⟩), u3, u4, .bool true, u6, u7, u8, u9, .slice (some ⟨vb, 0, none⟩) m cv, .pointer (some ⟨qb, 0, none⟩), .int .i64 m, v13, v14, v15, v16, u17, u18, u19, u20, u21, u22, u23, u24, u25, u26, u27, u28, u29, u30, u31, u32, u33, u34, u35, u36, u37, u38, u39, u40, u41, u42, u43, u44, u45, u46, u47, u48, u49, u50, u51, u52, u53, u54, u55, u56, u57, u58, u59, u60, u61, u62, u63, u64, u65, u66, u67, u68, u69, u70, u71, u72, u73, u74, u75, u76, u77, u78, u79, u80, u81, u82, u83, u84, u85, u86, u87, u88, u89, u90, u91, u92, u93, u94, v95, v96, v97, v98, v99, v100, v101, v102, v103, v104, v105, v106, v107, v108, v109, v110, v111, v112, v113, v114, v115, v116, v117, v118, v119, v120, v121, v122, v123, v124, v125, v126, v127, v128, v129, v130, u131], []⟩ w') :
    Code.wp Tryz.prog (.loop rbody) Q ⟨#[u0, u1, .pointer (some ⟨pb, 0, none⟩), u3, u4, .bool true, u6, u7, u8, u9, .slice (some ⟨vb, 0, none⟩) m cv, .pointer (some ⟨qb, 0, none⟩), .int .i64 0, u13, u14, u15, u16, u17, u18, u19, u20, u21, u22, u23, u24, u25, u26, u27, u28, u29, u30, u31, u32, u33, u34, u35, u36, u37, u38, u39, u40, u41, u42, u43, u44, u45, u46, u47, u48, u49, u50, u51, u52, u53, u54, u55, u56, u57, u58, u59, u60, u61, u62, u63, u64, u65, u66, u67, u68, u69, u70, u71, u72, u73, u74, u75, u76, u77, u78, u79, u80, u81, u82, u83, u84, u85, u86, u87, u88, u89, u90, u91, u92, u93, u94, u95, u96, u97, u98, u99, u100, u101, u102, u103, u104, u105, u106, u107, u108, u109, u110, u111, u112, u113, u114, u115, u116, u117, u118, u119, u120, u121, u122, u123, u124, u125, u126, u127, u128, u129, u130, u131], []⟩ w := by
  refine wp_loop (fun a w' => ∃ (k : Nat) (v13 v14 v15 v16 v95 v96 v97 v98 v99 v100 v101 v102 v103 v104 v105 v106 v107 v108 v109 v110 v111 v112 v113 v114 v115 v116 v117 v118 v119 v120 v121 v122 v123 v124 v125 v126 v127 v128 v129 v130 : Value), k ≤ m ∧ Below w.heap.size w w' ∧ a = ⟨#[u0, u1, .pointer (some ⟨pb, 0, none⟩), u3, u4, .bool true, u6, u7, u8, u9, .slice (some ⟨vb, 0, none⟩) m cv, .pointer (some ⟨qb, 0, none⟩), .int .i64 k, v13, v14, v15, v16, u17, u18, u19, u20, u21, u22, u23, u24, u25, u26, u27, u28, u29, u30, u31, u32, u33, u34, u35, u36, u37, u38, u39, u40, u41, u42, u43, u44, u45, u46, u47, u48, u49, u50, u51, u52, u53, u54, u55, u56, u57, u58, u59, u60, u61, u62, u63, u64, u65, u66, u67, u68, u69, u70, u71, u72, u73, u74, u75, u76, u77, u78, u79, u80, u81, u82, u83, u84, u85, u86, u87, u88, u89, u90, u91, u92, u93, u94, v95, v96, v97, v98, v99, v100, v101, v102, v103, v104, v105, v106, v107, v108, v109, v110, v111, v112, v113, v114, v115, v116, v117, v118, v119, v120, v121, v122, v123, v124, v125, v126, v127, v128, v129, v130, u131], []⟩) (fun a _ => m - (intOf (a.tmps.getD 12 undef)).toNat) ?_ ?_
  · exact ⟨0, u13, u14, u15, u16, u95, u96, u97, u98, u99, u100, u101, u102, u103, u104, u105, u106, u107, u108, u109, u110, u111, u112, u113, u114, u115, u116, u117, u118, u119, u120, u121, u122, u123, u124, u125, u126, u127, u128, u129, u130, by omega, Below.refl _ _, rfl⟩
  · rintro a wr ⟨k, v13, v14, v15, v16, v95, v96, v97, v98, v99, v100, v101, v102, v103, v104, v105, v106, v107, v108, v109, v110, v111, v112, v113, v114, v115, v116, v117, v118, v119, v120, v121, v122, v123, v124, v125, v126, v127, v128, v129, v130, hk, hb, rfl⟩
    have HE := Lib.hid hend
    have HB := Lib.hid hb
    have HROW := Lib.hid hrow
    clear hb hend hrow
    by_cases hlt : k < m
    · obtain ⟨r, hbad, hcell⟩ := HROW.out k hlt
      have hld := load_at (wx := wr) (b := vb) (o := k * 23) hbad.len (fun j x hx => (HB.out.cell (p := ⟨vb, k * 23 + j, none⟩) hvb).trans (hcell j x hx))
      have HBAD := Lib.hid hbad
      have HCELL := Lib.hid hcell
      have hk1 : (k : Int) < (m : Int) := by omega
      have hk0 : (0 : Int) ≤ (k : Int) := by omega
      have hl : vb < wr.heap.size := by have := HB.out.size; omega
      have HMS : Hid (m - ((k : Int) + 1).toNat < m - ((k : Nat) : Int).toNat) := Lib.hid (by omega)
      clear hbad hcell
      conv => arg 2; whnf
      go_wp2_with fail
      refine (bad_north HBAD.out HB.out).mono ?_
      rintro e w2 ⟨rfl, hb⟩
      have HB2 : Hid (Below w.heap.size w w2) := Lib.hid (HB.out.trans (hb.mono HB.out.size))
      clear hb hld hl
      have hld := load_at (wx := w2) (b := vb) (o := k * 23) HBAD.out.len (fun j x hx => (HB2.out.cell (p := ⟨vb, k * 23 + j, none⟩) hvb).trans (HCELL.out j x hx))
      have hl : vb < w2.heap.size := by have := HB2.out.size; omega
      go_wp2_with fail
      refine (bad_south HBAD.out HB2.out).mono ?_
      rintro e w3 ⟨rfl, hb⟩
      have HB3 : Hid (Below w.heap.size w w3) := Lib.hid (HB2.out.trans (hb.mono HB2.out.size))
      clear hb hld hl
      go_wp2_with fail
      refine ⟨⟨k + 1, _, _, _, _, _, _, _, _, _, _, _, _, _, _, _, _, _, _, _, _, _, _, _, _, _, _, _, _, _, _, _, _, _, _, _, _, _, _, _, _, by omega, ?_, rfl⟩, ?_⟩
      · exact HB3.out
      · exact HMS.out
    · have hke : k = m := by omega
      subst hke
      conv => arg 2; whnf
      go_wp2_with fail
      exact HE.out _ _ _ _ _ _ _ _ _ _ _ _ _ _ _ _ _ _ _ _ _ _ _ _ _ _ _ _ _ _ _ _ _ _ _ _ _ _ _ _ _ HB.out
end Go.Proofs.YtbicmjmcdnkjhaaGreatDoor

