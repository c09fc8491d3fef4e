/- patch.change: words, joined. -/
import Derived.Test.YtfolcjkednmkoaaGreatMove
import Derived.Lib.IndexMore
set_option linter.unusedVariables false
set_option linter.unusedSimpArgs false
namespace Go.Proofs.YtfolcjkednmkoaaGreat
open Go.RowKit
def wordsText (p : Patch) (x : Item) : Str := if p.lang = 1 then x.no else x.so
def wordsPut (p : Patch) (x : Item) (s : Str) : Item := if p.lang = 1 then { x with no := s } else { x with so := s }
def wordsNew (p : Patch) (x : Item) : Str := swap (wordsText p x) p.fr p.to (onceAt (wordsText p x) p.fr).toNat
def wordsF (l : List Item) (p : Patch) (k : Nat) (x : Item) : List Item × Int :=
 if onceIs (wordsText p x) p.fr = false then ([], 15)
 else if 400 < (wordsNew p x).length then ([], 2)
 else (l.set k (wordsPut p x (wordsNew p x)), 0)
theorem once_room {t f : Str} (h : onceIs t f = true) : ∃ i : Nat, onceAt t f = i ∧ i + f.length ≤ t.length := by
 unfold onceIs at h
 simp at h
 have hr := Lib.index_room t f h.1
 unfold onceAt at h ⊢
 exact ⟨(Lib.index t f).toNat, by omega, by omega⟩
theorem words_any (l : List Item) (A : Option Addr) (c : Nat) (p : Patch) (k : Nat) (x : Item) (w : World) (hr : RdI w A l) (hl : l.length ≤ 1000000) (hx : l[k]? = some x) (m : Int) (hg : w.cell? ⟨0, 0, none⟩ = some (.int .i64 m))
 (hlang : p.lang = 1 ∨ p.lang = 2) (hn : x.no.length ≤ 1000000) (hs : x.so.length ≤ 1000000) (htt : p.to.length ≤ 1000000) :
 Does 46 l A c p k w (wordsF l p k x) := by
 rcases hlang with hL | hL
 · have h0 : p.lang - 1 = 0 := by omega
   unfold wordsF wordsNew wordsPut wordsText
   simp only [if_pos hL]
   cases ho : onceIs x.no p.fr with
   | false => exact words_a_no l A c p k x w hr hl hx m hg h0 hn htt ho
   | true =>
     obtain ⟨i, hi, hil⟩ := once_room ho
     rw [hi]
     by_cases h4 : 400 < (swap x.no p.fr p.to i).length
     · simp only [Int.toNat_natCast, if_pos h4]
       exact words_b_no l A c p k x w hr hl hx m hg h0 hn htt ho i hi hil _ rfl h4
     · simp only [Int.toNat_natCast, if_neg h4]
       exact words_c_no l A c p k x w hr hl hx m hg h0 hn htt ho i hi hil _ rfl (by omega)
 · have h0 : p.lang - 1 = 1 := by omega
   have hL1 : ¬ p.lang = 1 := by omega
   unfold wordsF wordsNew wordsPut wordsText
   simp only [if_neg hL1]
   cases ho : onceIs x.so p.fr with
   | false => exact words_a_so l A c p k x w hr hl hx m hg h0 hs htt ho
   | true =>
     obtain ⟨i, hi, hil⟩ := once_room ho
     rw [hi]
     by_cases h4 : 400 < (swap x.so p.fr p.to i).length
     · simp only [Int.toNat_natCast, if_pos h4]
       exact words_b_so l A c p k x w hr hl hx m hg h0 hs htt ho i hi hil _ rfl h4
     · simp only [Int.toNat_natCast, if_neg h4]
       exact words_c_so l A c p k x w hr hl hx m hg h0 hs htt ho i hi hil _ rfl (by omega)
end Go.Proofs.YtfolcjkednmkoaaGreat
