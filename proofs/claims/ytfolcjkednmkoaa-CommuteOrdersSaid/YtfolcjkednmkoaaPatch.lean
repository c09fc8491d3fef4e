/- patch.change: item, size, exists, once. -/
import Derived.Test.YtfolcjkednmkoaaJIns
import Derived.Test.YtfolcjkednmkoaaShelf
import Derived.Test.YtfolcjkednmkoaaFind
set_option linter.unusedVariables false
set_option linter.unusedSimpArgs false
namespace Go.Proofs.Ytfolcjkednmkoaa
open Go.RowKit
structure Patch where
  kind : Int
  id : Str
  par : Str
  aft : Str
  num : Str
  item : Item
  lang : Int
  fr : Str
  to : Str
abbrev Patch.agg (p : Patch) : Value :=
  .agg #[.int .i64 p.kind, vs p.id, vs p.par, vs p.aft, vs p.num, .int .i64 p.item.kind, vs p.item.id, vs p.item.par, vs p.item.num, vs p.item.no, vs p.item.so, .bool p.item.gone, .int .i64 p.lang, vs p.fr, vs p.to]
abbrev chg (A : Option Addr) (n c : Nat) (p : Patch) (ix : Int) : Value :=
  .agg #[.slice A n c, .int .i64 p.kind, vs p.id, vs p.par, vs p.aft, vs p.num, .int .i64 p.item.kind, vs p.item.id, vs p.item.par, vs p.item.num, vs p.item.no, vs p.item.so, .bool p.item.gone, .int .i64 p.lang, vs p.fr, vs p.to, .int .i64 ix]
def noItem : Item := ⟨0, [], [], [], [], [], false⟩
def itemF (l : List Item) (id : Str) : Item := (l.find? fun x => x.id == id).getD noItem
theorem findI_some {l : List Item} {s : Str} {i : Nat} (h : l.findIdx? (fun x => x.id == s) = some i) : ∃ x, l[i]? = some x ∧ itemF l s = x ∧ (x.id == s) = true := by
  unfold itemF
  induction l generalizing i with
  | nil => simp at h
  | cons a r ih =>
    rw [List.findIdx?_cons] at h
    rw [List.find?_cons]
    cases ha : (a.id == s) with
    | true =>
      rw [ha] at h
      simp at h
      subst h
      exact ⟨a, rfl, rfl, ha⟩
    | false =>
      rw [ha] at h
      cases hr : r.findIdx? (fun x => x.id == s) with
      | none => rw [hr] at h; simp at h
      | some j =>
        rw [hr] at h
        simp at h
        subst h
        obtain ⟨x, h1, h2, h3⟩ := ih hr
        exact ⟨x, by simpa using h1, h2, h3⟩
theorem findI_none {l : List Item} {s : Str} (h : l.findIdx? (fun x => x.id == s) = none) : itemF l s = noItem := by
  unfold itemF
  have : l.find? (fun x => x.id == s) = none := by
    rw [List.find?_eq_none]
    rw [List.findIdx?_eq_none_iff] at h
    intro x hx
    simpa using h x hx
  rw [this]; rfl
set_option maxRecDepth 20000 in
set_option maxHeartbeats 1000000 in
theorem item_any (l : List Item) (A : Option Addr) (c : Nat) (p : Patch) (ix : Int) (id : Str) (w : World) (hr : RdI w A l) (hl : l.length ≤ 1000000) :
    Calls Try.prog 43 #[chg A l.length c p ix, vs id] w fun e w' => e = .returned (itemF l id).agg ∧ Below w.heap.size w w' := by
  have HF := fun W h => Lib.hid (find_any l A c id W h (le_maxLen (by omega)))
  have HR := Lib.hid hr; clear hr
  cases hx : l.findIdx? (fun x => x.id == id) with
  | none =>
    have hn := findI_none hx
    have HX := Lib.hid hx; clear hx
    go_enter Try.func43, Try.ntmps43
    go_wp2_with fail
    refine (HF _ (HR.out.below (((Below.refl _ _).alloc (Nat.le_refl _) _).alloc (by simp) _))).out.mono ?_
    rintro e w1 ⟨rfl, hb1⟩
    unfold findI
    rw [HX.out]
    obtain ⟨hc, hf⟩ := bcell hb1
    go_wp2_with fail
    refine bodyPost_ret (v := (itemF l id).agg) (by rw [hn]; simp [results, Try.results43, go_sem, hc, noItem]) rfl ⟨rfl, ?_⟩
    repeat' refine Below.setCell ?_ (by simp) _
    exact (((Below.refl _ _).alloc (Nat.le_refl _) _).alloc (by simp) _).trans (hb1.mono (by simp; omega))
  | some i =>
    obtain ⟨x, hxi, hit, _⟩ := findI_some hx
    have HX := Lib.hid hx; clear hx
    have HXI := Lib.hid hxi
    have hil : i < l.length := (List.getElem?_eq_some_iff.1 hxi).1
    have hb0 : Below w.heap.size w ((w.alloc (.cells #[.slice A l.length c, .int .i64 p.kind, vs p.id, vs p.par, vs p.aft, vs p.num, .int .i64 p.item.kind, vs p.item.id, vs p.item.par, vs p.item.num, vs p.item.no, vs p.item.so, .bool p.item.gone, .int .i64 p.lang, vs p.fr, vs p.to, .int .i64 ix] 74)).alloc
        (.cells #[.int .i64 0, .string ⟨#[]⟩, .string ⟨#[]⟩, .string ⟨#[]⟩, .string ⟨#[]⟩, .string ⟨#[]⟩, .bool false] 26)) := (((Below.refl _ _).alloc (Nat.le_refl _) _).alloc (by simp) _)
    have HB0 := Lib.hid hb0; clear hb0
    rw [hit]
    clear hxi hit
    go_enter Try.func43, Try.ntmps43
    go_wp2_with fail
    refine (HF _ (HR.out.below HB0.out)).out.mono ?_
    rintro e w1 ⟨rfl, hb1⟩
    unfold findI
    rw [HX.out]
    simp only [idx, Option.elim_some]
    obtain ⟨b, o, rfl, hbs, c0, c1, c2, c3, c4, c5, c6⟩ := ((HR.out.below HB0.out).below hb1).item HXI.out
    obtain ⟨hc, hf⟩ := bcell hb1
    go_wp2_with fail
    refine bodyPost_ret (v := x.agg) (by simp [results, Try.results43, go_sem, hc]) rfl ⟨rfl, ?_⟩
    repeat' refine Below.setCell ?_ (by simp) _
    exact (((Below.refl _ _).alloc (Nat.le_refl _) _).alloc (by simp) _).trans (hb1.mono (by simp; omega))
end Go.Proofs.Ytfolcjkednmkoaa
