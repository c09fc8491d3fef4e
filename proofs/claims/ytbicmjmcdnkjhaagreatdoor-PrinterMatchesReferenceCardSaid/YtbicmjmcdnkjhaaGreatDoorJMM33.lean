/- printer.South: its first loop: the exceptions are written. printer.South: its end: the replacer, the set of key words, the text. -/
import Derived.Test.YtbicmjmcdnkjhaaGreatDoorJMM1
import Derived.Test.YtbicmjmcdnkjhaaGreatDoorJMM32
import Derived.Test.YtbicmjmcdnkjhaaGreatDoorJMM30
set_option linter.unusedVariables false
set_option linter.unusedSimpArgs false
set_option maxRecDepth 100000
set_option maxHeartbeats 4000000
namespace Go.Proofs.YtbicmjmcdnkjhaaGreatDoor
open Go.RowKit
attribute [local go_sem ↓] Go.wp_at_zero Go.wp_at_succ
theorem sloop1 (Q : Exit → Act → World → Prop) (W w : World) (pb : Nat) (L N : List Bytes) (A : Option Addr) (exc : List Bytes) (cap : Nat) (hr : RdS W A exc) (hxl : exc.length ≤ 20) (hL : L.length ≤ 3000) (hN : N.length ≤ 1000) (hS : St W w W.heap.size 74 L N)
 (u0 u2 u3 u5 u6 u7 u8 u9 u10 u11 u12 u13 u14 u15 u16 u17 u18 u19 u20 u21 u22 u23 u24 u25 u26 u27 u28 u29 u30 u31 u32 u33 u34 u35 u36 u37 u38 u39 u40 u41 u42 u43 u44 u45 u46 u47 u48 u49 u50 u51 u52 u53 u54 u58 u59 u60 u61 u62 u63 u64 u65 u66 u67 u68 u69 u70 u71 u72 u73 u74 u75 u76 u77 u78 u79 u80 u81 u82 u83 u84 u85 u86 u87 u88 u89 u90 u91 u92 u93 u94 u95 u96 u97 u98 u99 u100 u101 u102 u103 u104 u105 u106 u107 u108 u109 u110 u111 u112 u113 u114 u115 u116 u117 u118 u119 u120 u121 u122 u123 : Value)
 (hend : ∀ (v6 v58 v59 v60 v61 v62 v63 v64 : Value) (w' : World), St W w' W.heap.size 74 (L ++ exc) (N ++ exc) → Q (.exit 0) ⟨#[u0, .pointer (some ⟨pb, 0, none⟩), u2, u3, .pointer (some ⟨W.heap.size, 0, none⟩), u5, v6, u7, u8, u9, u10, u11, u12, u13, u14, u15, u16, u17, u18, u19, u20, u21, u22, u23, u24, u25, u26, u27, u28, u29, u30, u31, u32, u33, u34, u35, u36, u37, u38, u39, u40, u41, u42, u43, u44, u45, u46, u47, u48, u49, u50, u51, u52, u53, u54, .slice A exc.length cap, .int .i64 exc.length, .int .i64 exc.length, v58, v59, v60, v61, v62, v63, v64, u65, u66, u67, u68, u69, u70, u71, u72, u73, u74, u75, u76, u77, u78, u79, u80, u81, u82, u83, u84, u85, u86, u87, u88, u89, u90, u91, u92, u93, u94, u95, u96, u97, u98, u99, u100, u101, u102, u103, u104, u105, u106, u107, u108, u109, u110, u111, u112, u113, u114, u115, u116, u117, u118, u119, u120, u121, u122, u123], []⟩ w') :
 Code.wp Tryz.prog (.loop (sbody 0)) Q ⟨#[u0, .pointer (some ⟨pb, 0, none⟩), u2, u3, .pointer (some ⟨W.heap.size, 0, none⟩), u5, u6, u7, u8, u9, u10, u11, u12, u13, u14, u15, u16, u17, u18, u19, u20, u21, u22, u23, u24, u25, u26, u27, u28, u29, u30, u31, u32, u33, u34, u35, u36, u37, u38, u39, u40, u41, u42, u43, u44, u45, u46, u47, u48, u49, u50, u51, u52, u53, u54, .slice A exc.length cap, .int .i64 exc.length, .int .i64 0, u58, u59, u60, u61, u62, u63, u64, u65, u66, u67, u68, u69, u70, u71, u72, u73, u74, u75, u76, u77, u78, u79, u80, u81, u82, u83, u84, u85, u86, u87, u88, u89, u90, u91, u92, u93, u94, u95, u96, u97, u98, u99, u100, u101, u102, u103, u104, u105, u106, u107, u108, u109, u110, u111, u112, u113, u114, u115, u116, u117, u118, u119, u120, u121, u122, u123], []⟩ w := by
 refine wp_loop (fun a w' => ∃ (k : Nat) (v6 v58 v59 v60 v61 v62 v63 v64 : Value), k ≤ exc.length ∧ St W w' W.heap.size 74 (L ++ exc.take k) (N ++ exc.take k) ∧ a = ⟨#[u0, .pointer (some ⟨pb, 0, none⟩), u2, u3, .pointer (some ⟨W.heap.size, 0, none⟩), u5, v6, u7, u8, u9, u10, u11, u12, u13, u14, u15, u16, u17, u18, u19, u20, u21, u22, u23, u24, u25, u26, u27, u28, u29, u30, u31, u32, u33, u34, u35, u36, u37, u38, u39, u40, u41, u42, u43, u44, u45, u46, u47, u48, u49, u50, u51, u52, u53, u54, .slice A exc.length cap, .int .i64 exc.length, .int .i64 k, v58, v59, v60, v61, v62, v63, v64, u65, u66, u67, u68, u69, u70, u71, u72, u73, u74, u75, u76, u77, u78, u79, u80, u81, u82, u83, u84, u85, u86, u87, u88, u89, u90, u91, u92, u93, u94, u95, u96, u97, u98, u99, u100, u101, u102, u103, u104, u105, u106, u107, u108, u109, u110, u111, u112, u113, u114, u115, u116, u117, u118, u119, u120, u121, u122, u123], []⟩) (fun a _ => exc.length - (intOf (a.tmps.getD 57 undef)).toNat) ?_ ?_
 · exact ⟨0, u6, u58, u59, u60, u61, u62, u63, u64, by omega, by simpa using hS, rfl⟩
 · rintro a wr ⟨k, v6, v58, v59, v60, v61, v62, v63, v64, hk, hS', rfl⟩
   have HR := Hi hr
   have HE := Hi hend
   have HS := Hi hS'
   clear hS hS' hr hend
   by_cases hke : k = exc.length
   · subst hke
     rw [List.take_length] at HS
     conv => arg 2; whnf
     go_wp2_with fail
     exact HE.out _ _ _ _ _ _ _ _ _ HS.out
   · have hklt : k < exc.length := by omega
     obtain ⟨s, hsk⟩ : ∃ s, exc[k]? = some s := ⟨_, List.getElem?_eq_getElem hklt⟩
     obtain ⟨eb, eo, rfl, hebl, hec⟩ := HR.out.item hsk
     have hti : (k : Int) < (exc.length : Int) := by omega
     have hk0 : (0 : Int) ≤ (k : Int) := by omega
     have hxc : wr.cell? ⟨eb, eo + k, none⟩ = some (vs s) := (HS.out.below.cell (p := ⟨eb, eo + k, none⟩) hebl).trans hec
     have HSK := Hi hsk
     have htl : (exc.take k).length = k := by rw [List.length_take]; omega
     obtain ⟨LK, hLK⟩ : ∃ LK, L ++ exc.take k = LK := ⟨_, rfl⟩
     obtain ⟨NK, hNK⟩ : ∃ NK, N ++ exc.take k = NK := ⟨_, rfl⟩
     have hLKl : LK.length ≤ 4000 := by rw [← hLK, List.length_append]; omega
     have hNKl : NK.length ≤ 2000 := by rw [← hNK, List.length_append]; omega
     rw [hLK, hNK] at HS
     have HST : Hid (L ++ exc.take (k + 1) = LK ++ [s] ∧ N ++ exc.take (k + 1) = NK ++ [s]) := Hi (by
      rw [List.take_add_one, HSK.out]
      simp only [Option.toList]
      rw [← hLK, ← hNK]
      simp)
     have HMS : Hid (exc.length - ((k : Int) + 1).toNat < exc.length - ((k : Nat) : Int).toNat) := Hi (by omega)
     clear hec hsk htl hLK hNK hke
     conv => arg 2; whnf
     go_wp2_with (first | (go_at_call 28; refine (name_s W _ _ _ _ _ _ HS.out (by omega) (by omega)).mono ?_; rintro e w9 ⟨rfl, hS⟩; have HS9 := Hi hS; clear HS hS; have HS := HS9; clear HS9))
     refine ⟨⟨k + 1, _, _, _, _, _, _, _, _, by omega, ?_, rfl⟩, ?_⟩
     · rw [HST.out.1, HST.out.2]
       exact HS.out
     · exact HMS.out
end Go.Proofs.YtbicmjmcdnkjhaaGreatDoor

set_option maxRecDepth 100000
set_option maxHeartbeats 4000000
namespace Go.Proofs.YtbicmjmcdnkjhaaGreatDoor
open Go.RowKit
attribute [local go_sem ↓] Go.wp_at_zero Go.wp_at_succ
noncomputable def stail : Code := (Tryz.f14.body.bind (fromReg 33)).getD .skip
theorem set_south (w : World) (ht : Tabs w) : Calls Tryz.prog 34 #[.string ⟨#[119, 104, 101, 114, 101, 32, 116, 101, 114, 109, 32, 113, 117, 101, 115, 116, 105, 111, 110, 32, 103, 105, 118, 101, 115, 32, 111, 118, 101, 114, 114, 105, 100, 101, 115, 32, 115, 116, 97, 114, 116, 115, 32, 101, 110, 100, 115, 32, 114, 101, 116, 117, 114, 110, 115, 32, 99, 104, 97, 114, 116, 101, 114, 32, 115, 116, 97, 116, 117, 116, 101, 32, 111, 114, 100, 101, 114, 32, 114, 117, 108, 101, 32, 121, 101, 115, 32, 110, 111, 32, 101, 113, 117, 97, 108, 32, 117, 110, 108, 105, 107, 101, 32, 98, 101, 108, 111, 119, 32, 109, 111, 115, 116, 32, 97, 98, 111, 118, 101, 32, 108, 101, 97, 115, 116, 32, 100, 101, 102, 105, 110, 101, 100, 32, 110, 101, 103, 97, 116, 101, 100, 32, 97, 108, 108, 32, 97, 110, 121, 32, 97, 108, 119, 97, 121, 115, 32, 110, 101, 118, 101, 114, 32, 100, 97, 121, 32, 100, 101, 99, 114, 101, 101, 32, 101, 118, 101, 110, 116, 32, 98, 101, 103, 117, 110, 32, 111, 118, 101, 114]⟩] w fun e w' => ∃ mb, e = .returned (.map (some mb)) ∧ KS w' mb (setF So.keyWords) ∧ w.heap.size ≤ mb ∧ Below w.heap.size w w' :=
 set_words w So.keyWords _ (by decide +kernel) fields_south (by decide) (by decide +kernel) (by decide +kernel) (by decide +kernel) ht
theorem newrep_s (w : World) : Calls Tryz.prog 32 #[.slice (some ⟨w.heap.size, 0, none⟩) 8 8] (w.alloc (.cells #[vs [40, 32], vs [40], vs [32, 41], vs [41], vs [91, 32], vs [91], vs [32, 93], vs [93]] 9)) fun e w' => ∃ rb kb c, e = .returned (.pointer (some ⟨rb, 0, none⟩)) ∧ NewRep prS (w.alloc (.cells #[vs [40, 32], vs [40], vs [32, 41], vs [41], vs [91, 32], vs [91], vs [32, 93], vs [93]] 9)) w' rb kb c :=
 newrep_any _ w.heap.size 8 prS (by decide) (by decide) (fun j x hx => by
  refine cOb (heap_alloc_new w _) ?_
  have h : ∀ j < 8, ∀ x, (flatK prS)[j]? = some x → (#[vs [40, 32], vs [40], vs [32, 41], vs [41], vs [91, 32], vs [91], vs [32, 93], vs [93]] : Array Value)[j]? = some (vs x) := by
   intro j hj x hx
   have : j = 0 ∨ j = 1 ∨ j = 2 ∨ j = 3 ∨ j = 4 ∨ j = 5 ∨ j = 6 ∨ j = 7 := by omega
   rcases this with rfl | rfl | rfl | rfl | rfl | rfl | rfl | rfl <;> (injection hx with hx; subst hx; rfl)
  exact h j (by have := (List.getElem?_eq_some_iff.1 hx).1; exact this) x hx)
theorem send (Q : Exit → Act → World → Prop) (W w : World) (L N : List Bytes) (ht : Tabs W) (hL : L.length ≤ 100000) (hN : N.length ≤ 100000)  (LL : List Bytes) (rk : Nat) (id rw1 : Bytes) (pb : Nat) (hrk : 1 ≤ rk ∧ rk ≤ 4) (hix : ∀ w, (Instr.index 54 (.agg #[vs [], vs [99, 104, 97, 114, 116, 101, 114], vs [115, 116, 97, 116, 117, 116, 101], vs [111, 114, 100, 101, 114], vs [114, 117, 108, 101]]) (.int .i64 (rk : Int))).run Tryz.prog w = .ok (vs rw1) w) (hcl : ∀ wx, Below W.heap.size W wx → wx.cell? ⟨pb, 0, none⟩ = some (vs id) ∧ wx.cell? ⟨pb, 1, none⟩ = some (.int .i64 rk) ∧ pb < wx.heap.size) (hLL : L ++ [[91], rw1, id, [93]] = LL) (hn : ∀ s ∈ N ++ [id], s.length ≤ 1000000) (hj : (joinB LL).length ≤ 1000000000) (hS : St W w W.heap.size 74 L N)
 (u0 u2 u3 u5 u6 u7 u8 u9 u10 u11 u12 u13 u14 u15 u16 u17 u18 u19 u20 u21 u22 u23 u24 u25 u26 u27 u28 u29 u30 u31 u32 u33 u34 u35 u36 u37 u38 u39 u40 u41 u42 u43 u44 u45 u46 u47 u48 u49 u50 u51 u52 u53 u54 u55 u56 u57 u58 u59 u60 u61 u62 u63 u64 u65 u66 u67 u68 u69 u70 u71 u72 u73 u74 u75 u76 u77 u78 u79 u80 u81 u82 u83 u84 u85 u86 u87 u88 u89 u90 u91 u92 u93 u94 u95 u96 u97 u98 u99 u100 u101 u102 u103 u104 u105 u106 u107 u108 u109 u110 u111 u112 u113 u114 u115 u116 u117 u118 u119 u120 u121 u122 u123 : Value)
 (hend : ∀ (v10 v97 v98 v99 v100 v101 v102 v103 v104 v105 v106 v107 v108 v109 v110 v111 v112 v113 v114 v115 v116 v117 v118 v119 v120 v121 v122 v123 : Value) (w' : World), Below W.heap.size W w' → Q .ret ⟨#[u0, .pointer (some ⟨pb, 0, none⟩), vs (textA (setF So.keyWords) (N ++ [id]) (replF [40, 91] [41, 93] (joinB LL))).1, .int .i64 ((textA (setF So.keyWords) (N ++ [id]) (replF [40, 91] [41, 93] (joinB LL))).2 : Nat), .pointer (some ⟨W.heap.size, 0, none⟩), u5, u6, u7, u8, u9, v10, u11, u12, u13, u14, u15, u16, u17, u18, u19, u20, u21, u22, u23, u24, u25, u26, u27, u28, u29, u30, u31, u32, u33, u34, u35, u36, u37, u38, u39, u40, u41, u42, u43, u44, u45, u46, u47, u48, u49, u50, u51, u52, u53, u54, u55, u56, u57, u58, u59, u60, u61, u62, u63, u64, u65, u66, u67, u68, u69, u70, u71, u72, u73, u74, u75, u76, u77, u78, u79, u80, u81, u82, u83, u84, u85, u86, u87, u88, u89, u90, u91, u92, u93, u94, u95, u96, v97, v98, v99, v100, v101, v102, v103, v104, v105, v106, v107, v108, v109, v110, v111, v112, v113, v114, v115, v116, v117, v118, v119, v120, v121, v122, v123], []⟩ w') :
 Code.wp Tryz.prog stail Q ⟨#[u0, .pointer (some ⟨pb, 0, none⟩), u2, u3, .pointer (some ⟨W.heap.size, 0, none⟩), u5, u6, u7, u8, u9, u10, u11, u12, u13, u14, u15, u16, u17, u18, u19, u20, u21, u22, u23, u24, u25, u26, u27, u28, u29, u30, u31, u32, u33, u34, u35, u36, u37, u38, u39, u40, u41, u42, u43, u44, u45, u46, u47, u48, u49, u50, u51, u52, u53, u54, u55, u56, u57, u58, u59, u60, u61, u62, u63, u64, u65, u66, u67, u68, u69, u70, u71, u72, u73, u74, u75, u76, u77, u78, u79, u80, u81, u82, u83, u84, u85, u86, u87, u88, u89, u90, u91, u92, u93, u94, u95, u96, u97, u98, u99, u100, u101, u102, u103, u104, u105, u106, u107, u108, u109, u110, u111, u112, u113, u114, u115, u116, u117, u118, u119, u120, u121, u122, u123], []⟩ w := by
 have HE := Hi hend
 have HCL := Hi hcl
 have hrk1 := hrk.1
 have hrk2 := hrk.2
 have HT := Hi ht
 have HS := Hi hS
 have HN := Hi hn
 have HJ := Hi hj
 have hLl : LL.length ≤ 900004 := by rw [← hLL]; simp; omega
 have hLn : LL ≠ [] := by rw [← hLL]; simp
 have HLN := Hi hLn
 have HLL := Hi hLL
 clear hend hcl hrk ht hS hn hj hLL hLn
 conv => arg 2; whnf
 obtain ⟨c0, c1, cl⟩ := HCL.out _ HS.out.below
 go_wp2_with fail
 refine (word2_s W _ _ _ _ _ _ _ _ (by simp) HS.out (by omega)).mono ?_
 rintro e w7 ⟨rfl, hS⟩
 have HS7 := Hi hS
 clear HS hS c0 c1 cl hix
 obtain ⟨c0, c1, cl⟩ := HCL.out _ HS7.out.below
 go_wp2_with fail
 refine (name_s W _ _ _ _ _ _ HS7.out (by simp; omega) (by omega)).mono ?_
 rintro e w8 ⟨rfl, hS⟩
 have HS8 := Hi hS
 clear HS7 hS c0 c1 cl
 go_wp2_with fail
 refine (word_s W _ _ _ _ _ _ _ (by simp) HS8.out (by simp; omega)).mono ?_
 rintro e w9 ⟨rfl, hS⟩
 have HS : Hid (St W w9 W.heap.size 74 LL (N ++ [id])) := Hi (by rw [← HLL.out]; simpa using hS)
 clear HS8 hS
 obtain ⟨NN, hNN⟩ : ∃ NN, N ++ [id] = NN := ⟨_, rfl⟩
 have hNl : NN.length ≤ 900001 := by rw [← hNN]; simp; omega
 rw [hNN] at HS HE HN
 clear hNN
 go_wp2_with fail
 refine (newrep_s w9).mono ?_
 rintro e w1 ⟨rb, kb, q, rfl, hR⟩
 obtain ⟨w0, hw0⟩ : ∃ x, w9.alloc (.cells #[vs [40, 32], vs [40], vs [32, 41], vs [41], vs [91, 32], vs [91], vs [32, 93], vs [93]] 9) = x := ⟨_, rfl⟩
 have hS0 := HS.out.alloc (.cells #[vs [40, 32], vs [40], vs [32, 41], vs [41], vs [91, 32], vs [91], vs [32, 93], vs [93]] 9)
 rw [hw0] at hS0
 rw [hw0] at hR
 have hTA : TA W w0 w1 W.heap.size 74 LL NN prS rb kb q w1 := ⟨hS0, hR, Below.refl _ _⟩
 obtain ⟨A, c, hc, hl⟩ := hTA.list
 have HL := Hi hl
 have HTA := Hi hTA
 have q1 := (hl w1 hTA).1
 have hlt : W.heap.size < w1.heap.size := Nat.lt_of_lt_of_le hTA.sp.lt.2 (lR _)
 have HLA : Hid (∀ w mb, TC W w0 W.heap.size 74 LL NN mb (setF So.keyWords) w → w.cell? ⟨W.heap.size, 0, none⟩ = some (.slice A LL.length c)) := Hi (fun w mb h => (cOh (h.below.block _ hS0.lt.2) 0).trans ((cOh (hR.below.block _ hS0.lt.2) 0).symm.trans q1))
 clear hS0 hR hTA hl hw0 HS
 go_upto_region 37 with fail
 go_region_held3 (fun w' => w'.cell? ⟨W.heap.size, 0, none⟩ = some (.slice A LL.length c)) (go_keep) ((first | (go_at_call 34; (with_reducible refine (set_south _ (HT.out.below HTA.out.drew.sp.below)).mono ?_); rintro e w2 ⟨mb, rfl, hk, hm, hb⟩; have hTB := HTA.out.drew.set hb hk hm; have q2 := (HL.out w2 hTB.a).1; have HTB := Hi hTB; clear hk hm hb hTB) | (go_at_call 36; (with_reducible refine (join_any _ A LL c (HL.out _ HTB.out.a).2 hc HLN.out HJ.out (by omega)).mono ?_); rintro e w3 ⟨rfl, hb⟩; have hTB := HTB.out.grow hb; have q3 := (HL.out w3 hTB.a).1; have HTB3 := Hi hTB; clear hb hTB) | (go_at_call 35; (with_reducible refine (replace_any _ rb kb q prS 5 _ _ repOkS HTB3.out.rblk HTB3.out.keys HTA.out.rep.ne _ HJ.out).mono ?_); rintro e w4 ⟨rfl, he⟩; have hTC := HTB3.out.repl he; have q4 := HLA.out w4 _ hTC; have HTC := Hi hTC; clear he hTC) | (go_at_call 33; (with_reducible refine (HTC.out.text _ HN.out (by omega)).mono ?_); rintro e w5 ⟨rfl, hb⟩; have q5 := (hb.cell (p := ⟨W.heap.size, 0, none⟩) HTC.out.sp.lt.2).trans q4; have HB5 := Hi hb; clear hb)))
 go_wp2_with fail
 exact HE.out _ _ _ _ _ _ _ _ _ _ _ _ _ _ _ _ _ _ _ _ _ _ _ _ _ _ _ _ _ (HTC.out.sp.below.trans (HB5.out.mono HTC.out.sp.below.size))
end Go.Proofs.YtbicmjmcdnkjhaaGreatDoor

