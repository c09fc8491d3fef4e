/- slices.Delete at items: within a row of the call's own. code.Find and what it calls return the index of the first item with an Id. patch.change: item, size, exists, once. A region that draws its order, whose operations read and whose callees make memory of their own alone: one walk in the order of the text. patch.change: size, exists; patch.once. patch.change: with. -/
import Derived.Test.YtecnlfaholmpoaaGreatJC5
import Derived.Test.YtecnlfaholmpoaaGreatJC1
import Derived.Test.YtecnlfaholmpoaaGreatShelf
import Derived.Deep.QuietTactic
import Derived.BigQuiet
import Derived.Deep.RegionHeld3
import Derived.Laws.CopyOwn
set_option linter.unusedVariables false
set_option linter.unusedSimpArgs false
set_option maxRecDepth 100000
set_option maxHeartbeats 800000
namespace Go.Proofs.YtecnlfaholmpoaaGreat
open Go.RowKit
section
variable {P : Program}
theorem run_append_row (w : World) (t ty elem : TypeId) (s g sLen sCap : Nat) (a : Addr) (m c : Nat) (cur : List Value) (te : TypeId) (news : List Value)
 (hu : P.underlying t = some (.slice elem)) (hs : (P.info? elem).map (·.size) = some s)
 (hg : w.heap[g]? = some (.cells cur.toArray te (0, 0))) (hn : news.length = m * s)
 (hsrc : ∀ j v, news[j]? = some v → w.cell? (a.add j) = some v) (hroom : sLen + m ≤ sCap) (hfit : sLen * s + news.length ≤ cur.length) (h1 : ∀ v ∈ news, v.oneCell' = true) :
 (Builtin.append_ #[t, t] ty #[.slice (some ⟨g, 0, none⟩) sLen sCap, .slice (some a) m c]).run P w =
   .ok (.slice (some ⟨g, 0, none⟩) (sLen + m) sCap) (w.setRow g (cur.take (sLen * s) ++ news ++ cur.drop (sLen * s + news.length)).toArray) := by
 have hl := run_loadCells_list (P := P) w a news hsrc
 have hst := run_storeCells_at P g (sLen * s) te news 0 cur.toArray w hg (by simpa using hfit) h1
 cases hq : P.info? elem with
 | none => simp [hq] at hs
 | some i =>
   have hi : i.size = s := by simpa [hq] using hs
   have hst' : (storeCells ⟨g, sLen * s, none⟩ news).run P w = .ok () (w.setRow g (cur.take (sLen * s) ++ news ++ cur.drop (sLen * s + news.length)).toArray) := by simpa using hst
   simp [Builtin.append_, run_underlying hu, Builtin.lenOf, Builtin.firstCells, sizeOf, typeInfo, hq, hi, ← hn, hl, hroom, Addr.add_lit, hst']
theorem run_clear_row (w : World) (t ty elem : TypeId) (s g o n c : Nat) (cur : List Value) (te : TypeId) (z : Value)
 (hu : P.underlying t = some (.slice elem)) (hz : (zeroValue elem).run P w = .ok z w) (hzs : z.cells.size = s)
 (hg : w.heap[g]? = some (.cells cur.toArray te (0, 0))) (hn : 0 < n) (hfit : o + n * s ≤ cur.length) (h1 : ∀ v ∈ (Builtin.zeroCells z.cells n).toList, v.oneCell' = true) :
 (Builtin.clear_ #[t] ty #[.slice (some ⟨g, o, none⟩) n c]).run P w =
   .ok (.tuple #[]) (w.setRow g (cur.take o ++ (Builtin.zeroCells z.cells n).toList ++ cur.drop (o + (Builtin.zeroCells z.cells n).toList.length)).toArray) := by
 have hst := run_storeCells_at P g o te (Builtin.zeroCells z.cells n).toList 0 cur.toArray w hg (by rw [zeroCells_len, hzs]; simpa using hfit) h1
 have hst' : (storeCells ⟨g, o, none⟩ (Builtin.zeroCells z.cells n).toList).run P w = .ok () (w.setRow g (cur.take o ++ (Builtin.zeroCells z.cells n).toList ++ cur.drop (o + (Builtin.zeroCells z.cells n).toList.length)).toArray) := by simpa using hst
 cases n with
 | zero => omega
 | succ n => simp [Builtin.clear_, run_underlying hu, hz, hst']
theorem wpList_clear_run (w : World) {ops : Array Oper} {rest : List Oper} {o : Oper} {a : Act} {Q : Exit → Act → World → Prop} (hgd : o.guard = none) (s : Operand) (t : TypeId)
 (ho : o.op = .call { callee := .builtin .clear, args := #[s], argTypes := #[t] }) (v : Value) (hs : a.eval s = v) {v' : Value} {w' : World}
 (hr : (Builtin.clear_ #[t] o.type #[v]).run P w = .ok v' w') (h : wpList P ops Q rest (a.put o.dst v') w') : wpList P ops Q (o :: rest) a w := by
 refine wpList_plain hgd fun _ hK => ?_
 unfold Oper.wp execOp
 simp only [ho, resolve, invoke, builtin, Sem.run_bind, Sem.run_pure, Result.andThen_ok, List.map_toArray, List.map_cons, List.map_nil, hs, hr]
 exact hK _ _ h
theorem step_append_run {ops : Array Oper} {o : Oper} {a : Act} {w : World} {K : Act → World → Prop} {Q : Exit → Act → World → Prop} {E : Prop}
 (hg : o.guard = none) (d x : Operand) (dT sT : TypeId) (hop : o.op = Op.call { callee := Callee.builtin Builtin.append, args := #[d, x], argTypes := #[dT, sT] })
 (v u : Value) (hd : a.eval d = v) (hx : a.eval x = u) {v' : Value} {w' : World} (hr : (Builtin.append_ #[dT, sT] o.type #[v, u]).run P w = .ok v' w') (hK : K (a.put o.dst v') w') :
 if Region.wanted o (yielded ops a.tmps) = true then Oper.wp P o a w K Q else E := by
 have hw : Region.wanted o (yielded ops a.tmps) = true := by simp [Region.wanted, hg]
 rw [if_pos hw]
 unfold Oper.wp
 simp [execOp, hop, resolve, invoke, builtin, hd, hx, hr, Result.andThen]
 exact hK
end
theorem delete_walk (n i j g cap : Nat) (w W1 W2 : World) (hij : i < j) (hj : j ≤ n) (hcap : n ≤ cap) (hcm : cap ≤ maxLen) (SRC : Addr) (hsrc : (if cap = j then some (⟨g, 0, none⟩ : Addr) else some ⟨g, j * 7, none⟩) = some SRC)
 (hap : ∀ ty c, (Builtin.append_ #[22, 22] ty #[.slice (some ⟨g, 0, none⟩) i cap, .slice (some SRC) (n - j) c]).run Tryz.prog w.drew = .ok (.slice (some ⟨g, 0, none⟩) (i + (n - j)) cap) W1)
 (hcl : ∀ ty c, (Builtin.clear_ #[22] ty #[.slice (some ⟨g, (i + (n - j)) * 7, none⟩) (n - (i + (n - j))) c]).run Tryz.prog W1 = .ok (.tuple #[]) W2) :
 Calls Tryz.prog 109 #[.slice (some ⟨g, 0, none⟩) n cap, .int .i64 i, .int .i64 j] w fun e w' => e = .returned (.slice (some ⟨g, 0, none⟩) (i + (n - j)) cap) ∧ w' = W2 := by
 unfold maxLen at hcm
 have hz2 : ((i : Int) == (j : Int)) = false := by simp; omega
 have hz3 : ¬ ((i : Int) = (j : Int)) := by omega
 have hb4 : ¬ (cap = i) := by omega
 have hb5 : ¬ (n = i) := by omega
 have hb6 : ¬ (cap = i + (n - j)) := by omega
 have h1 : (i : Int) ≤ (j : Int) := by omega
 have h4 : i ≤ cap := by omega
 have h5 : j ≤ cap := by omega
 have h2 : (j : Int) ≤ (n : Int) := by omega
 have h3 : (n : Int) ≤ (cap : Int) := by omega
 go_enter Tryz.func109, Tryz.ntmps109
 go_wp2_with fail
 go_region_law (refine step_append_run rfl _ _ 22 22 rfl (.slice (some ⟨g, 0, none⟩) i cap) (.slice (some SRC) (n - j) (cap - j)) (by simp [Act.eval, Act.put]) (by first | (simp [Act.eval, Act.put]; done) | (simp [Act.eval, Act.put, hsrc]; done) | exact hsrc) (hap _ _) ?_)
 go_wp2_with (refine wpList_clear_run _ rfl _ _ rfl _ rfl (hcl _ _) ?_)
 go_ret
 exact ⟨rfl, rfl⟩
/- the cells behind the append and the clear -/
theorem del_cells (l : List Item) (rest Z : List Value) (i j cap : Nat) (hij : i < j) (hj : j ≤ l.length) (hcap : (flat l ++ rest).length = cap * 7) (hlc : l.length ≤ cap) (hZ : Z.length = (l.length - (i + (l.length - j))) * 7) :
 ∃ C1 rest', (flat l ++ rest).take (i * 7) ++ flat (l.drop j) ++ (flat l ++ rest).drop (i * 7 + (flat (l.drop j)).length) = C1 ∧ C1.length = cap * 7 ∧
  C1.take ((i + (l.length - j)) * 7) ++ Z ++ C1.drop ((i + (l.length - j)) * 7 + Z.length) = flat (l.take i ++ l.drop j) ++ rest' ∧ (flat (l.take i ++ l.drop j) ++ rest').length = cap * 7 := by
 have h1 : (flat (l.drop j)).length = (l.length - j) * 7 := by rw [flat_length, List.length_drop]
 have h3 : (flat l).length = l.length * 7 := flat_length l
 have h5 : (flat (l.take i)).length = i * 7 := by rw [flat_length, List.length_take]; omega
 have e0 : (flat l ++ rest).take (i * 7) = flat (l.take i) := by
  rw [List.take_append, h3, show i * 7 - l.length * 7 = 0 by omega, List.take_zero, List.append_nil, flat_take]
 generalize hD : (flat l ++ rest).drop (i * 7 + (flat (l.drop j)).length) = D
 have hDl : D.length = cap * 7 - (i * 7 + (l.length - j) * 7) := by rw [← hD, List.length_drop, hcap, h1]
 have hk : (flat (l.take i) ++ flat (l.drop j)).length = (i + (l.length - j)) * 7 := by rw [List.length_append, h5, h1]; omega
 refine ⟨_, Z ++ D.drop Z.length, rfl, ?_, ?_, ?_⟩
 · rw [e0]; simp only [List.length_append, h5, h1, hDl]; omega
 · rw [e0]
   have e1 : (flat (l.take i) ++ flat (l.drop j) ++ D).take ((i + (l.length - j)) * 7) = flat (l.take i) ++ flat (l.drop j) := by rw [← hk, List.take_left]
   have e2 : (flat (l.take i) ++ flat (l.drop j) ++ D).drop ((i + (l.length - j)) * 7 + Z.length) = D.drop Z.length := by
    rw [← hk, ← List.drop_drop, List.drop_left]
   rw [e1, e2, flat_append]
   simp
 · rw [List.length_append, flat_length, List.length_append, List.length_append, List.length_take, List.length_drop, List.length_drop, hDl, hZ]
   omega
theorem zero_one : ∀ (n : Nat), ∀ v ∈ (Builtin.zeroCells zeroItem.cells n).toList, v.oneCell' = true := by
 intro n v hv
 simp only [Builtin.zeroCells, Array.toList_map, List.mem_map] at hv
 obtain ⟨k, _, rfl⟩ := hv
 have hk : k % 7 < 7 := Nat.mod_lt _ (by omega)
 show (zeroItem.cells[k % 7]!).oneCell' = true
 have h : ∀ r, r < 7 → (zeroItem.cells[r]!).oneCell' = true := by decide
 exact h _ hk
theorem delete_any (l : List Item) (i j : Nat) (base : Nat) (v : Value) (w : World) (hown : OwnI w base v l) (hij : i < j) (hj : j ≤ l.length) :
 Calls Tryz.prog 109 #[v, .int .i64 i, .int .i64 j] w fun e w' => ∃ v', e = .returned v' ∧ OwnI w' base v' (l.take i ++ l.drop j) ∧ VEff v.ownBlock.toList w w' ∧ v'.ownBlock = v.ownBlock := by
 have hlne : l ≠ [] := by rintro rfl; simp at hj; omega
 obtain ⟨g, cap, rest, rfl, hg, hglt, hh, hlc, hcm, hs⟩ := hown.row hlne
 have h3 : (flat l).length = l.length * 7 := flat_length l
 have h1 : (flat (l.drop j)).length = (l.length - j) * 7 := by rw [flat_length, List.length_drop]
 have hzl : (Builtin.zeroCells zeroItem.cells (l.length - (i + (l.length - j)))).toList.length = (l.length - (i + (l.length - j))) * 7 := by rw [zeroCells_len]; rfl
 obtain ⟨C1, rest', hc1, hc1l, hc2, hc2l⟩ := del_cells l rest _ i j cap hij hj hs hlc hzl
 obtain ⟨SRC, hsrc, hcell⟩ : ∃ SRC, (if cap = j then some (⟨g, 0, none⟩ : Addr) else some ⟨g, j * 7, none⟩) = some SRC ∧ ∀ k u, (flat (l.drop j))[k]? = some u → w.drew.cell? (SRC.add k) = some u := by
  by_cases hc : cap = j
  · rw [if_pos hc]
    refine ⟨_, rfl, fun k u hu => ?_⟩
    have : l.drop j = [] := by rw [List.drop_eq_nil_iff]; omega
    rw [this] at hu
    simp [flat] at hu
  · rw [if_neg hc]
    refine ⟨_, rfl, fun k u hu => ?_⟩
    exact row_cells (w := w.drew) hh (j * 7) k u (by rw [List.drop_append, flat_drop, List.getElem?_append_left (List.getElem?_eq_some_iff.1 hu).1]; exact hu)
 refine (delete_walk l.length i j g cap w (w.drew.setRow g C1.toArray) ((w.drew.setRow g C1.toArray).setRow g (flat (l.take i ++ l.drop j) ++ rest').toArray) hij hj hlc hcm SRC hsrc ?_ ?_).mono ?_
 · intro ty c
   rw [← hc1]
   exact run_append_row w.drew _ ty 47 7 g i cap SRC (l.length - j) c (flat l ++ rest) 47 (flat (l.drop j)) Tryz.underlying22 size7 hh h1 hcell (by omega) (by rw [h1, hs]; omega) (flat_one _)
 · intro ty c
   rw [← hc2]
   exact run_clear_row (w.drew.setRow g C1.toArray) _ ty 47 7 g _ (l.length - (i + (l.length - j))) c C1 47 zeroItem Tryz.underlying22 (by kernel_rfl) rfl (setRow_heap _ _ _ _ _ _ hh) (by omega) (by rw [hc1l]; omega) (zero_one _)
 · rintro e w' ⟨rfl, rfl⟩
   have hlen : (l.take i ++ l.drop j).length = i + (l.length - j) := by simp; omega
   refine ⟨_, rfl, ?_, ?_, rfl⟩
   · have := OwnI.mk (w := (w.drew.setRow g C1.toArray).setRow g (flat (l.take i ++ l.drop j) ++ rest').toArray) (base := base) (l := l.take i ++ l.drop j) (rest := rest') (cap := cap) hg (setRow_heap _ _ _ _ _ _ (setRow_heap _ _ _ _ _ _ hh)) (by rw [hlen]; omega) hcm hc2l
     rwa [hlen] at this
   · have e1 : VEff [g] w (w.drew.setRow g C1.toArray) := ⟨rfl, rfl, rfl, by simp [World.setRow], fun k _ hn => setRow_other w.drew g k _ (by simpa using hn)⟩
     exact e1.trans (VEff.setRow _ g _) (fun _ hx => .inl hx)
end Go.Proofs.YtecnlfaholmpoaaGreat
set_option maxRecDepth 20000
set_option maxHeartbeats 400000
namespace Go.Proofs.YtecnlfaholmpoaaGreat
open Go.RowKit
theorem indexFunc (l : List Item) (A : Option Addr) (c : Nat) (g : Nat) (caps : Array Value) (p : Item → Bool) (w : World) (hr : RdI w A l) (hl : l.length ≤ maxLen)
 (hcf : ∀ us W, (callFunc g us).run Tryz.prog W = .ok (.enter g us) W)
 (hg : ∀ x w', Below w.heap.size w w' → Calls Tryz.prog g (#[Item.agg x] ++ caps) w' fun e w'' => e = .returned (.bool (p x)) ∧ Below w'.heap.size w' w'') :
  Calls Tryz.prog 101 #[.slice A l.length c, .func (.func g) #[] caps] w fun e w' => e = .returned (.int .i64 (idx (l.findIdx? p))) ∧ Below w.heap.size w w' := by
 have HG := Lib.hid hg; clear hg
 unfold maxLen at hl
 go_enter Tryz.func101, Tryz.ntmps101
 go_wp2
 go_loopw [8] (fun i wr => ∃ k : Nat, k ≤ l.length ∧ i = .int .i64 k ∧ Below w.heap.size w wr ∧ ∀ j x, l[j]? = some x → j < k → p x = false) (fun i _ => l.length - (intOf i).toNat)
 case atStart => exact ⟨0, Nat.zero_le _, rfl, Below.refl _ _, fun _ _ _ h => absurd h (by omega)⟩
 case round =>
  obtain ⟨k, hk, rfl, hb, hno⟩ := hrel
  have Hno := Lib.hid hno; clear hno
  by_cases hlt : k < l.length
  · obtain ⟨x, hx⟩ := get_of_lt hlt
    obtain ⟨b, o, rfl, hbs, c0, c1, c2, c3, c4, c5, c6⟩ := (hr.below hb).item hx
    have Hx := Lib.hid hx
    clear hr hx
    go_wp2_with fail
    refine (HG.out x _ hb).mono ?_
    rintro e w1 ⟨rfl, hb1⟩
    by_cases hp : p x = true
    · go_wp2_with fail
      go_ret
      refine ⟨?_, hb.trans (hb1.mono hb.size)⟩
      rw [findIdx_some Hx.out hp Hno.out]; rfl
    · have hp' : p x = false := by simpa using hp
      clear hp
      go_wp2_with fail
      go_roundw
      case rel => exact ⟨k + 1, by omega, by go_num, hb.trans (hb1.mono hb.size), below_succ Hx.out hp' Hno.out⟩
      case measure => simp [intOf]; omega
  · have : k = l.length := by omega
    subst this
    go_wp2_with fail
    go_ret
    exact ⟨by rw [findIdx_none Hno.out]; rfl, hb⟩
theorem findlit (x : Item) (cb : Nat) (s : Str) (w : World) (hb : cb < w.heap.size) (hc : w.cell? ⟨cb, 0, none⟩ = some (vs s)) :
 Calls Tryz.prog 102 #[x.agg, .pointer (some ⟨cb, 0, none⟩)] w fun e w' => e = .returned (.bool (x.id == s)) ∧ Below w.heap.size w w' := by
 go_enter Tryz.func102, Tryz.ntmps102
 go_wp2
 go_ret
 exact ⟨rfl, (Below.refl _ _).alloc (Nat.le_refl _) _⟩
def findI (l : List Item) (s : Str) : Int := idx (l.findIdx? fun x => x.id == s)
theorem find_any (l : List Item) (A : Option Addr) (c : Nat) (s : Str) (w : World) (hr : RdI w A l) (hl : l.length ≤ maxLen) :
 Calls Tryz.prog 59 #[.agg #[.slice A l.length c], vs s] w fun e w' => e = .returned (.int .i64 (findI l s)) ∧ Below w.heap.size w w' := by
 go_enter Tryz.func59, Tryz.ntmps59
 go_wp2_with fail
 refine (indexFunc l A c _ _ (fun x => x.id == s) _ (hr.below (((Below.refl _ _).alloc (by simp) _).alloc (by simp) _)) hl (enters Tryz.func102 (by kernel_rfl) rfl) (fun x w' hb => ?_)).mono ?_
 · exact findlit x _ s w' (Nat.lt_of_lt_of_le (by simp) hb.size) ((hb.cell (by simp)).trans (by simp))
 · rintro e w1 ⟨rfl, hb1⟩
   have HB := Lib.hid hb1; clear hb1
   go_wp2
   go_ret
   exact ⟨rfl, (((Below.refl _ _).alloc (by simp) _).alloc (by simp) _).trans (HB.out.mono (by simp; omega))⟩
end Go.Proofs.YtecnlfaholmpoaaGreat
set_option maxRecDepth 20000
set_option maxHeartbeats 1000000
namespace Go.Proofs.YtecnlfaholmpoaaGreat
open Go.RowKit
structure Patch where
 kind : Int
 id : Str
 par : Str
 aft : Str
 num : Str
 item : Item
 lang : Int
 fr : Str
 to : Str
abbrev Patch.agg (p : Patch) : Value :=
 .agg #[.int .i64 p.kind, vs p.id, vs p.par, vs p.aft, vs p.num, .int .i64 p.item.kind, vs p.item.id, vs p.item.par, vs p.item.num, vs p.item.no, vs p.item.so, .bool p.item.gone, .int .i64 p.lang, vs p.fr, vs p.to]
abbrev chg (A : Option Addr) (n c : Nat) (p : Patch) (ix : Int) : Value :=
 .agg #[.slice A n c, .int .i64 p.kind, vs p.id, vs p.par, vs p.aft, vs p.num, .int .i64 p.item.kind, vs p.item.id, vs p.item.par, vs p.item.num, vs p.item.no, vs p.item.so, .bool p.item.gone, .int .i64 p.lang, vs p.fr, vs p.to, .int .i64 ix]
def noItem : Item := ⟨0, [], [], [], [], [], false⟩
def itemF (l : List Item) (id : Str) : Item := (l.find? fun x => x.id == id).getD noItem
theorem findI_some {l : List Item} {s : Str} {i : Nat} (h : l.findIdx? (fun x => x.id == s) = some i) : ∃ x, l[i]? = some x ∧ itemF l s = x ∧ (x.id == s) = true := by
 unfold itemF
 induction l generalizing i with
 | nil => simp at h
 | cons a r ih =>
   rw [List.findIdx?_cons] at h
   rw [List.find?_cons]
   cases ha : (a.id == s) with
   | true =>
     rw [ha] at h
     simp at h
     subst h
     exact ⟨a, rfl, rfl, ha⟩
   | false =>
     rw [ha] at h
     cases hr : r.findIdx? (fun x => x.id == s) with
     | none => rw [hr] at h; simp at h
     | some j =>
       rw [hr] at h
       simp at h
       subst h
       obtain ⟨x, h1, h2, h3⟩ := ih hr
       exact ⟨x, by simpa using h1, h2, h3⟩
theorem findI_none {l : List Item} {s : Str} (h : l.findIdx? (fun x => x.id == s) = none) : itemF l s = noItem := by
 unfold itemF
 have : l.find? (fun x => x.id == s) = none := by
  rw [List.find?_eq_none]
  rw [List.findIdx?_eq_none_iff] at h
  intro x hx
  simpa using h x hx
 rw [this]; rfl
theorem item_any (l : List Item) (A : Option Addr) (c : Nat) (p : Patch) (ix : Int) (id : Str) (w : World) (hr : RdI w A l) (hl : l.length ≤ 1000000) :
 Calls Tryz.prog 66 #[chg A l.length c p ix, vs id] w fun e w' => e = .returned (itemF l id).agg ∧ Below w.heap.size w w' := by
 have HF := fun W h => Lib.hid (find_any l A c id W h (le_maxLen (by omega)))
 have HR := Lib.hid hr; clear hr
 cases hx : l.findIdx? (fun x => x.id == id) with
 | none =>
   have hn := findI_none hx
   have HX := Lib.hid hx; clear hx
   go_enter Tryz.func66, Tryz.ntmps66
   go_wp2_with fail
   refine (HF _ (HR.out.below (((Below.refl _ _).alloc (Nat.le_refl _) _).alloc (by simp) _))).out.mono ?_
   rintro e w1 ⟨rfl, hb1⟩
   unfold findI
   rw [HX.out]
   obtain ⟨hc, hf⟩ := bcell hb1
   go_wp2_with fail
   refine bodyPost_ret (v := (itemF l id).agg) (by rw [hn]; simp [results, Tryz.results66, go_sem, hc, noItem]) rfl ⟨rfl, ?_⟩
   repeat' refine Below.setCell ?_ (by simp) _
   exact (((Below.refl _ _).alloc (Nat.le_refl _) _).alloc (by simp) _).trans (hb1.mono (by simp; omega))
 | some i =>
   obtain ⟨x, hxi, hit, _⟩ := findI_some hx
   have HX := Lib.hid hx; clear hx
   have HXI := Lib.hid hxi
   have hil : i < l.length := (List.getElem?_eq_some_iff.1 hxi).1
   have hb0 : Below w.heap.size w ((w.alloc (.cells #[.slice A l.length c, .int .i64 p.kind, vs p.id, vs p.par, vs p.aft, vs p.num, .int .i64 p.item.kind, vs p.item.id, vs p.item.par, vs p.item.num, vs p.item.no, vs p.item.so, .bool p.item.gone, .int .i64 p.lang, vs p.fr, vs p.to, .int .i64 ix] 94)).alloc
    (.cells #[.int .i64 0, .string ⟨#[]⟩, .string ⟨#[]⟩, .string ⟨#[]⟩, .string ⟨#[]⟩, .string ⟨#[]⟩, .bool false] 47)) := (((Below.refl _ _).alloc (Nat.le_refl _) _).alloc (by simp) _)
   have HB0 := Lib.hid hb0; clear hb0
   rw [hit]
   clear hxi hit
   go_enter Tryz.func66, Tryz.ntmps66
   go_wp2_with fail
   refine (HF _ (HR.out.below HB0.out)).out.mono ?_
   rintro e w1 ⟨rfl, hb1⟩
   unfold findI
   rw [HX.out]
   simp only [idx, Option.elim_some]
   obtain ⟨b, o, rfl, hbs, c0, c1, c2, c3, c4, c5, c6⟩ := ((HR.out.below HB0.out).below hb1).item HXI.out
   obtain ⟨hc, hf⟩ := bcell hb1
   go_wp2_with fail
   refine bodyPost_ret (v := x.agg) (by simp [results, Tryz.results66, go_sem, hc]) rfl ⟨rfl, ?_⟩
   repeat' refine Below.setCell ?_ (by simp) _
   exact (((Below.refl _ _).alloc (Nat.le_refl _) _).alloc (by simp) _).trans (hb1.mono (by simp; omega))
end Go.Proofs.YtecnlfaholmpoaaGreat
namespace Go
/- x, if it is w with new blocks alone; else w -/
noncomputable def World.grew (w x : World) : World := @ite _ (RowKit.Below w.heap.size w x) (Classical.propDecidable _) x w
end Go
namespace Go.Proofs.YtecnlfaholmpoaaGreat
open Go.RowKit
theorem grew_below (w x : World) : Below w.heap.size w (World.grew w x) := by
 unfold World.grew
 split
 · assumption
 · exact Below.refl _ _
theorem grew_of {w x : World} (h : Below w.heap.size w x) : World.grew w x = x := by
 unfold World.grew
 rw [if_pos h]
@[go_sem] theorem cell?_grew {w x : World} {b o : Nat} (h : b < w.heap.size) : (World.grew w x).cell? ⟨b, o, none⟩ = w.cell? ⟨b, o, none⟩ := (grew_below w x).cell (p := ⟨b, o, none⟩) h
@[go_sem] theorem frozen?_grew {w x : World} {b o : Nat} (h : b < w.heap.size) : (World.grew w x).frozen? ⟨b, o, none⟩ = w.frozen? ⟨b, o, none⟩ := (grew_below w x).frozen (p := ⟨b, o, none⟩) h
theorem wp_region_grew {P : Program} {id : Nat} {Q : Exit → Act → World → Prop} {a : Act} {w : World} {l : List Oper} (hm : P.follows .mixedOrders = true) (hB : Region.lexB .any l.toArray = true)
 (h : wpQuiet P l.toArray (fun w' => ∃ x, w' = World.grew w x) (fun a' => ∀ w', (∃ x, w' = World.grew w x) → Q .normal a' w') l a) : (Code.region id l.toArray true).wp P Q a w :=
 wp_region_quiet (C := fun w' => ∃ x, w' = World.grew w x) hm hB ⟨w.drew, (grew_of (Below.refl _ _).drew).symm⟩ (by simpa using h)
/- a callee's contract, met in such a world -/
theorem Calls_grew {P : Program} {f : FuncId} {args : Array Value} {w x : World} {v : Value} (h : Calls P f args (World.grew w x) fun e w' => e = .returned v ∧ Below (World.grew w x).heap.size (World.grew w x) w') :
 Calls P f args (World.grew w x) fun e w' => e = .returned v ∧ ∃ y, w' = World.grew w y :=
 h.mono fun _ w' ⟨he, hb⟩ => ⟨he, w', (grew_of ((grew_below w x).trans (hb.mono (grew_below w x).size))).symm⟩
end Go.Proofs.YtecnlfaholmpoaaGreat
set_option maxRecDepth 20000
set_option maxHeartbeats 1000000
namespace Go.Proofs.YtecnlfaholmpoaaGreat
open Go.RowKit
theorem walkF_le (l : List Item) : ∀ seen opn, (walkF l seen opn).1.length ≤ l.length := by
 induction l with
 | nil => intro seen opn; simp [walkF]
 | cons x r ih =>
   intro seen opn
   rw [walkF]
   split
   · simp
   · split
     · simp
     · simpa using ih _ _
theorem walkL_le (l : List Item) : (walkL l).length ≤ l.length := walkF_le l _ _
theorem size_any (l : List Item) (A : Option Addr) (c : Nat) (p : Patch) (ix : Int) (id : Str) (w : World) (hr : RdI w A l) (hl : l.length ≤ 1000000) (hsh : ∀ x ∈ l, x.Short) :
 Calls Tryz.prog 108 #[chg A l.length c p ix, vs id] w fun e w' => e = .returned (.int .i64 (1 + ((belowL l id).length : Int))) ∧ Below w.heap.size w w' := by
 have HSH := Lib.hid hsh; clear hsh
 have HR := Lib.hid hr; clear hr
 have hbl : (belowL l id).length ≤ 1000000 := by
  unfold belowL
  split
  · refine Nat.le_trans (belowF_len _ _) ?_
    have : (walkL l).length ≤ l.length := walkL_le l
    omega
  · simp
 go_enter Tryz.func108, Tryz.ntmps108
 go_wp2_with fail
 refine (below_any l A c id _ (HR.out.below ((Below.refl _ _).alloc (Nat.le_refl _) _)) hl HSH.out).mono ?_
 rintro e w1 ⟨O, cc, rfl, _, _, hb1⟩
 have HB := Lib.hid hb1; clear hb1
 go_wp2_with fail
 go_ret
 exact ⟨rfl, ((Below.refl _ _).alloc (Nat.le_refl _) _).trans (HB.out.mono (by simp))⟩
def onceAt (t f : Str) : Int := Lib.index t f
def onceIs (t f : Str) : Bool := decide (0 ≤ onceAt t f) && (Lib.lastIndex t f == onceAt t f)
theorem once_any (t f : Str) (m : Int) (w : World) (ht : t.length ≤ 1000000) (hg : w.cell? ⟨0, 0, none⟩ = some (.int .i64 m)) :
 Calls Tryz.prog 105 #[vs t, vs f] w fun e w' => e = .returned (.tuple #[.int .i64 (onceAt t f), .bool (onceIs t f)]) ∧ w' = w := by
 have h1 := Tryz.strings_Index ⟨t.toArray⟩ ⟨f.toArray⟩ m w (by simp [ByteArray.size]; omega) hg
 have h2 := Tryz.strings_LastIndex ⟨t.toArray⟩ ⟨f.toArray⟩ (by simp [ByteArray.size]; omega) w
 simp only [] at h1 h2
 have H1 := Lib.hid h1; clear h1
 have H2 := Lib.hid h2; clear h2
 cases hi : decide (0 ≤ Lib.index t f)
 all_goals
  go_enter Tryz.func105, Tryz.ntmps105
  go_wp2_with (first
   | (go_at_call 132; refine H1.out.mono ?_; rintro e w1 ⟨rfl, rfl⟩)
   | (go_at_call 133; refine H2.out.mono ?_; rintro e w1 ⟨rfl, rfl⟩))
  go_ret2
  exact ⟨by unfold onceAt onceIs onceAt; rw [hi]; first | rfl | simp, rfl⟩
/- the world's parts that exists reads -/
def existsF (l : List Item) (par aft : Str) : Bool :=
 (par == [] || (itemF l par).kind == 1) && (aft == [] || ((itemF l aft).kind != 0 && (itemF l aft).par == par))
@[go_sem] theorem run_field_item_kind (a b c d e f g : Value) (W : World) : (Instr.field 47 (.agg #[a, b, c, d, e, f, g]) 0).run Tryz.prog W = .ok a W := by kernel_rfl
@[go_sem] theorem run_field_item_par (a b c d e f g : Value) (W : World) : (Instr.field 47 (.agg #[a, b, c, d, e, f, g]) 2).run Tryz.prog W = .ok c W := by kernel_rfl
theorem item_lit (l : List Item) (A : Option Addr) (c : Nat) (p : Patch) (ix : Int) (id : Str) (w : World) (hr : RdI w A l) (hl : l.length ≤ 1000000) :
 Calls Tryz.prog 66 #[chg A l.length c p ix, vs id] w fun e w' => e = .returned (.agg #[.int .i64 (itemF l id).kind, vs (itemF l id).id, vs (itemF l id).par, vs (itemF l id).num, vs (itemF l id).no, vs (itemF l id).so, .bool (itemF l id).gone]) ∧ Below w.heap.size w w' :=
 item_any l A c p ix id w hr hl
end Go.Proofs.YtecnlfaholmpoaaGreat
set_option maxRecDepth 20000
set_option maxHeartbeats 1000000
namespace Go.Proofs.YtecnlfaholmpoaaGreat
open Go.RowKit
/- a code whose items read so -/
def ResC (base : Nat) (w : World) (v : Value) (l : List Item) : Prop := ∃ A c, v = .agg #[.slice A l.length c] ∧ RdI w A l ∧ l.length ≤ c ∧ (∀ b o, A = some ⟨b, o, none⟩ → base ≤ b)
theorem wpList_store_row {P : Program} {ops : Array Oper} {rest : List Oper} {op : Oper} {a : Act} {w : World} {Q : Exit → Act → World → Prop} (hgd : op.guard = none) (ty : TypeId) (x y : Operand) (ho : op.op = .store ty x y)
 (g o : Nat) (cs cur : List Value) (t : TypeId) (hx : a.eval x = .pointer (some ⟨g, o, none⟩)) (hy : a.eval y = .agg cs.toArray)
 (hg : w.heap[g]? = some (.cells cur.toArray t (0, 0))) (hfit : o + cs.length ≤ cur.length) (hi : (P.info? ty).map (·.size) = some cs.length) (h1 : ∀ v ∈ cs, v.oneCell' = true)
 (h : wpList P ops Q rest (a.put op.dst undef) (w.setRow g (cur.take o ++ cs ++ cur.drop (o + cs.length)).toArray)) : wpList P ops Q (op :: rest) a w := by
 refine wpList_plain hgd fun _ hK => ?_
 have hst := run_storeCells_at P g o t cs 0 cur.toArray w hg (by simpa using hfit) h1
 have hst' : (storeCells ⟨g, o, none⟩ cs).run P w = .ok () (w.setRow g (cur.take o ++ cs ++ cur.drop (o + cs.length)).toArray) := by simpa using hst
 unfold Oper.wp execOp
 cases hq : P.info? ty with
 | none => simp [hq] at hi
 | some i =>
   have hs : i.size = cs.length := by simpa [hq] using hi
   simp only [ho, hx, hy, Instr.storeAt, Instr.sureAddr, Sem.run_bind, Sem.run_pure, Result.andThen_ok]
   have hsv : (storeVar ty ⟨g, o, none⟩ (.agg cs.toArray)).run P w = .ok () (w.setRow g (cur.take o ++ cs ++ cur.drop (o + cs.length)).toArray) := by
    simp [storeVar, sizeOf, typeInfo, hq, Value.cells, hs, hst']
   simp only [hsv]
   exact hK _ _ h
theorem brow {W w1 : World} {g : Nat} (hb : Below W.heap.size W w1) (hg : W.heap.size ≤ g) : (∀ X b o, b < W.heap.size → (w1.setRow g X).cell? ⟨b, o, none⟩ = W.cell? ⟨b, o, none⟩) ∧ (∀ X b o, b < W.heap.size → (w1.setRow g X).frozen? ⟨b, o, none⟩ = W.frozen? ⟨b, o, none⟩) :=
 ⟨fun X b o h => (below_setRow hb hg X).cell (p := ⟨b, o, none⟩) h, fun X b o h => (below_setRow hb hg X).frozen (p := ⟨b, o, none⟩) h⟩
theorem RdI.of_row {w : World} {g : Nat} {cur rest : List Value} {t : TypeId} {l : List Item} (hh : w.heap[g]? = some (.cells cur.toArray t (0, 0))) (he : cur = flat l ++ rest) : RdI w (some ⟨g, 0, none⟩) l := by
 subst he
 refine RdI.of_flat (lt_of_heap hh) (fun i v hv => ?_)
 rw [Nat.zero_add, cell_of_row _ _ _ _ _ _ hh, List.getElem?_toArray, List.getElem?_append_left (List.getElem?_eq_some_iff.1 hv).1]
 exact hv
theorem cells_one (y : Item) : ∀ v ∈ y.cells, v.oneCell' = true := by
 intro u hu
 simp [Item.cells] at hu
 rcases hu with rfl | rfl | rfl | rfl | rfl | rfl | rfl <;> rfl
theorem flat_set (l : List Item) (rest : List Value) (k : Nat) (y : Item) (hk : k < l.length) :
 (flat l ++ rest).take (k * 7) ++ y.cells ++ (flat l ++ rest).drop (k * 7 + y.cells.length) = flat (l.set k y) ++ rest := by
 have h3 : (flat l).length = l.length * 7 := flat_length l
 have hy : y.cells.length = 7 := rfl
 rw [List.take_append, h3, show k * 7 - l.length * 7 = 0 by omega, List.take_zero, List.append_nil, flat_take]
 rw [hy, show k * 7 + 7 = (k + 1) * 7 by omega, List.drop_append, flat_drop, h3, show (k + 1) * 7 - l.length * 7 = 0 by omega, List.drop_zero]
 rw [List.set_eq_take_append_cons_drop, if_pos hk, flat_append, flat_cons]
 simp
theorem with_any (l : List Item) (A : Option Addr) (c : Nat) (p : Patch) (k : Nat) (y : Item) (w : World) (hr : RdI w A l) (hl : l.length ≤ 1000000) (hk : k < l.length) :
 Calls Tryz.prog 106 #[chg A l.length c p k, y.agg] w fun e w' => ∃ v, e = .returned v ∧ ResC w.heap.size w' v (l.set k y) ∧ Below w.heap.size w w' := by
 have HC := fun W h => Lib.hid (clone_any l A c W h hl)
 have HR := Lib.hid hr; clear hr
 have hlne : l ≠ [] := by rintro rfl; simp at hk
 have HL := Lib.hid hlne; clear hlne
 go_enter Tryz.func106, Tryz.ntmps106
 go_wp2_with fail
 refine (HC _ (HR.out.below ((((Below.refl _ _).alloc (Nat.le_refl _) _).alloc (by simp) _).alloc (by simp; omega) _))).out.mono ?_
 rintro e w1 ⟨v, rfl, hown, hb1⟩
 obtain ⟨g, cap, rest, rfl, hg, hglt, hh, hlc, hcm, hs⟩ := hown.row HL.out
 obtain ⟨hc, hf⟩ := bcell hb1
 have hfit : k * 7 + 7 ≤ (flat l ++ rest).length := by rw [hs]; omega
 have hki : (0 : Int) ≤ k := by omega
 have hki2 : (k : Int) < l.length := by omega
 have HH := Lib.hid hh
 have HG := Lib.hid hg
 have HB1 := Lib.hid hb1
 obtain ⟨hc2, hf2⟩ := brow hb1 hg
 have HC2 := Lib.hid hc2
 have HF2 := Lib.hid hf2
 go_wp2_with (refine wpList_store_row rfl 47 (.tmp 14) (.tmp 13) rfl g (k * 7) y.cells (flat l ++ rest) 47 (by first | rfl | (simp [Act.eval, Act.put]; done)) (by first | rfl | (simp [Act.eval, Act.put]; done)) HH.out hfit size7 (cells_one y) ?_)
 refine bodyPost_ret (v := .agg #[.slice (some ⟨g, 0, none⟩) l.length cap]) (by simp [results, Tryz.results106, go_sem, HC2.out, HF2.out]) rfl ⟨_, rfl, ⟨some ⟨g, 0, none⟩, cap, by simp, ?_, by simpa using hlc, fun b o hA => by cases hA; have := HG.out; simp at this; omega⟩, ?_⟩
 · refine RdI.of_row (g := g) (cur := List.take (k * 7) (flat l ++ rest) ++ (y.cells ++ List.drop (k * 7 + 7) (flat l ++ rest))) (rest := rest) (t := 47) ?_ (by rw [← List.append_assoc]; exact flat_set l rest k y hk)
   rw [Below.heap_setCell _ _ _ _ (by have := HG.out; simp at this; simp; omega)]
   exact setRow_heap _ _ _ _ _ _ HH.out
 · refine Below.setCell ?_ (by simp; omega) _
   refine (below_setRow (((((Below.refl _ _).alloc (Nat.le_refl _) _).alloc (by simp) _).alloc (by simp; omega) _).trans (HB1.out.mono (by simp; omega))) ?_ _)
   have := HG.out
   simp at this
   omega
end Go.Proofs.YtecnlfaholmpoaaGreat
