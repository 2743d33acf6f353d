/- Texts, part 3 of 4: a part of the proof of spanTexts_holds: what its walks and laws lean on. No condition. -/
import Derived.Test.YtgncbhpmnjfhhaaTexts1
import Derived.Deep.RegionWith
import Derived.WalkSpells
import Derived.RangeFuncBox
import Derived.RangeFuncNested
import Derived.RangeFuncBound
import Derived.RangeFuncCalls
import Derived.RangeFuncLeaves
import Derived.RangeFuncFrom
import Derived.RangeFuncWrites
import Derived.WalkKit
import Derived.OwnWalkIn
import Derived.TacticsInMore
import Derived.LoopNIn
import Derived.LoopIn
import Derived.Shelf.RegionOpen
import Derived.Shelf.Abstract
import Derived.Deep.RegionLaw
import Derived.Sort.QuietIn
import Derived.Sort.QuietThIn
import Derived.Laws.StructEq
section
namespace Go.Proofs.Ytgncbhpmnjfhhaa.S
open Go.RowKit Go.Proofs.YtgncbhpmnjfhhaaW.PrintWords Go.Proofs.YtgncbhpmnjfhhaaW.PrintLast Go.Proofs.YtgncbhpmnjfhhaaW.PrintMore
attribute [local go_sem] max2_int min2_int max_two min_two max_three min_three max_four min_four
set_option linter.unusedVariables false
set_option linter.unusedSimpArgs false
def DropPostS (gS : Nat) (a1_0 a1_1 : Int) (r1 : List S30) (r2 : List ByteArray) (w w' : World) : Prop :=
  (¬ a1_0 < a1_1 ∧ Below w.heap.size w w') ∨ (a1_0 < a1_1 ∧ ∃ (wm : World) (vl vv : Value), Below w.heap.size w wm ∧ Kd.R k30 30 wm w.heap.size (fun _ => True) vl r1 ∧ Kd.R Kd.string 9 wm w.heap.size (fun _ => True) vv r2 ∧ w' = (wm.setCell ⟨gS, 0, none⟩ vl).setCell ⟨gS, 1, none⟩ vv)
mutual
def span_Map_string_Drop.l0 : Nat → List (S30) → List ByteArray → List (S30) → Int → Int → List (S30) → List ByteArray → Int → Int → Option ((List (S30)) × List ByteArray)
  | 0, _, _, _, _, _, _, _, _, _ => none
  | k + 1, x4, x5, x19, x20, x21, x162000, x162001, x163000, x163001 => if x21 < x20 then (if 0 ≤ x21 then (if x21 < (x19.length : Int) then ((span_Cut.f k (([(⟨(rd_T30 x19 x21).f0, (rd_T30 x19 x21).f1⟩ : S30)] : List (S30))) (([(⟨x163000, x163001⟩ : S30)] : List (S30)))).bind fun t172 => (span_Map_string_Drop.l1 k x4 x5 x21 x19 x20 x21 t172 (t172.length : Int) 0 x162000 x162001 x163000 x163001)) else (none)) else (none)) else (some (x4, x5))
def span_Map_string_Drop.l1 : Nat → List (S30) → List ByteArray → Int → List (S30) → Int → Int → List (S30) → Int → Int → List (S30) → List ByteArray → Int → Int → Option ((List (S30)) × List ByteArray)
  | 0, _, _, _, _, _, _, _, _, _, _, _, _, _ => none
  | k + 1, x4, x5, x6, x19, x20, x21, x30, x31, x32, x162000, x162001, x163000, x163001 => if x32 < x31 then (if 0 ≤ x32 then (if x32 < (x30.length : Int) then ((some (([(⟨(rd_T30 x30 x32).f0, (rd_T30 x30 x32).f1⟩ : S30)] : List (S30)) : List (S30))).bind fun y177 => (if x4.length + y177.length < 8796093022208 then (if 0 ≤ x6 then (if x6 < (x162001.length : Int) then ((some (([rdOf ByteArray.empty x162001 x6] : List ByteArray) : List ByteArray)).bind fun y184 => (if x5.length + y184.length < 8796093022208 then (span_Map_string_Drop.l1 k (x4 ++ y177) (x5 ++ y184) x6 x19 x20 x21 x30 x31 (wrap64 (x32 + 1)) x162000 x162001 x163000 x163001) else (none))) else (none)) else (none)) else (none))) else (none)) else (none)) else (span_Map_string_Drop.l0 k x4 x5 x19 x20 (wrap64 (x21 + 1)) x162000 x162001 x163000 x163001)
end
def span_Map_string_Drop.f (k : Nat) (l0_0 : List (S30)) (l0_1 : List ByteArray) (a1_0 : Int) (a1_1 : Int) : Option ((List (S30)) × List ByteArray) := (span_empty.f a1_0 a1_1).bind fun t163 => (if t163 = true then (some (([] : List (S30)), ([] : List ByteArray))) else (span_Map_string_Drop.l0 k ([] : List (S30)) ([] : List ByteArray) l0_0 (l0_0.length : Int) 0 l0_0 l0_1 a1_0 a1_1))
theorem span_Map_string_Drop.mono_l : ∀ k, (∀ y0 y1 y2 y3 y4 y5 y6 y7 y8, LeO (span_Map_string_Drop.l0 k y0 y1 y2 y3 y4 y5 y6 y7 y8) (span_Map_string_Drop.l0 (k + 1) y0 y1 y2 y3 y4 y5 y6 y7 y8)) ∧ (∀ y0 y1 y2 y3 y4 y5 y6 y7 y8 y9 y10 y11 y12, LeO (span_Map_string_Drop.l1 k y0 y1 y2 y3 y4 y5 y6 y7 y8 y9 y10 y11 y12) (span_Map_string_Drop.l1 (k + 1) y0 y1 y2 y3 y4 y5 y6 y7 y8 y9 y10 y11 y12))
  | 0 => ⟨fun _ _ _ _ _ _ _ _ _ r h => by simp [span_Map_string_Drop.l0] at h, fun _ _ _ _ _ _ _ _ _ _ _ _ _ r h => by simp [span_Map_string_Drop.l1] at h⟩
  | k + 1 => by
    obtain ⟨ih0, ih1⟩ := span_Map_string_Drop.mono_l k
    refine ⟨?_, ?_⟩
    · intro y0 y1 y2 y3 y4 y5 y6 y7 y8
      unfold span_Map_string_Drop.l0
      repeat' first
      | (with_reducible exact ih0 _ _ _ _ _ _ _ _ _)
      | (with_reducible exact ih1 _ _ _ _ _ _ _ _ _ _ _ _ _)
      | (with_reducible exact span_Cut.mono _ _ _)
      | (with_reducible exact LeO.refl _)
      | (with_reducible exact LeO.none _)
      | (with_reducible refine LeO.ite ?_ ?_)
      | (with_reducible refine LeO.bind ?_ (fun _ => ?_))
      | exact ih0 _ _ _ _ _ _ _ _ _
      | exact ih1 _ _ _ _ _ _ _ _ _ _ _ _ _
      | exact span_Cut.mono _ _ _
      | exact LeO.none _
      | refine LeO.ite ?_ ?_
      | refine LeO.bind ?_ (fun _ => ?_)
    · intro y0 y1 y2 y3 y4 y5 y6 y7 y8 y9 y10 y11 y12
      unfold span_Map_string_Drop.l1
      repeat' first
      | (with_reducible exact ih0 _ _ _ _ _ _ _ _ _)
      | (with_reducible exact ih1 _ _ _ _ _ _ _ _ _ _ _ _ _)
      | (with_reducible exact span_Cut.mono _ _ _)
      | (with_reducible exact LeO.refl _)
      | (with_reducible exact LeO.none _)
      | (with_reducible refine LeO.ite ?_ ?_)
      | (with_reducible refine LeO.bind ?_ (fun _ => ?_))
      | exact ih0 _ _ _ _ _ _ _ _ _
      | exact ih1 _ _ _ _ _ _ _ _ _ _ _ _ _
      | exact span_Cut.mono _ _ _
      | exact LeO.none _
      | refine LeO.ite ?_ ?_
      | refine LeO.bind ?_ (fun _ => ?_)
theorem span_Map_string_Drop.mono : ∀ a0 a1 a2 a3 k, LeO (span_Map_string_Drop.f k a0 a1 a2 a3) (span_Map_string_Drop.f (k + 1) a0 a1 a2 a3) := by
  intro a0 a1 a2 a3 k
  obtain ⟨ih0, ih1⟩ := span_Map_string_Drop.mono_l k
  unfold span_Map_string_Drop.f
  repeat' first
      | (with_reducible exact ih0 _ _ _ _ _ _ _ _ _)
      | (with_reducible exact ih1 _ _ _ _ _ _ _ _ _ _ _ _ _)
      | (with_reducible exact span_Cut.mono _ _ _)
      | (with_reducible exact LeO.refl _)
      | (with_reducible exact LeO.none _)
      | (with_reducible refine LeO.ite ?_ ?_)
      | (with_reducible refine LeO.bind ?_ (fun _ => ?_))
      | exact ih0 _ _ _ _ _ _ _ _ _
      | exact ih1 _ _ _ _ _ _ _ _ _ _ _ _ _
      | exact span_Cut.mono _ _ _
      | exact LeO.none _
      | refine LeO.ite ?_ ?_
      | refine LeO.bind ?_ (fun _ => ?_)
def span_Map_string_Drop.T10 : Bool × List (List Nat × List Nat) := (true, [([], []), ([], []), ([1], [1]), ([0, 2], [0, 2]), ([], []), ([], []), ([5], [5]), ([6], [6]), ([7], [7]), ([], []), ([8, 9], [8, 9]), ([10], [10]), ([11], [11]), ([4, 12, 3], [4, 12]), ([3, 13, 0, 1, 2, 3], [0, 3]), ([13, 14, 0, 1, 2, 3, 4, 5, 6, 7, 8, 9, 10, 11, 12, 13, 14], [4, 13])])
def span_Map_string_Drop.B10 : List Nat := [0, 0, 2, 7, 0, 0, 32, 96, 224, 0, 992, 2016, 4064, 8191, 16383, 32767]
theorem span_Map_string_Drop.tab10 : rtab .any (opsOf Try.f38 10) = span_Map_string_Drop.T10 := by kernel_rfl
theorem span_Map_string_Drop.bits10 : waitsOk span_Map_string_Drop.T10.2 span_Map_string_Drop.B10 = true := by kernel_rfl
set_option maxHeartbeats 8000000 in
set_option maxRecDepth 100000 in
theorem span_Map_string_Drop.calls (k gS : Nat) (A0_0 : Option Addr) (c0_0 : Nat) (l0_0 : List (S30)) (A0_1 : Option Addr) (c0_1 : Nat) (l0_1 : List ByteArray) (a1_0 : Int) (a1_1 : Int) (r1 : List (S30)) (r2 : List ByteArray) (w : World) (hr0_0 : Kd.C k30 w A0_0 l0_0.length l0_0) (hc0_0 : l0_0.length ≤ c0_0) (hr0_1 : Kd.C Kd.string w A0_1 l0_1.length l0_1) (hc0_1 : l0_1.length ≤ c0_1) (hgS : w.heap[gS]? = some (.cells #[.slice A0_0 l0_0.length c0_0, .slice A0_1 l0_1.length c0_1] 66 (0, 0))) (h : span_Map_string_Drop.f k l0_0 l0_1 a1_0 a1_1 = some (r1, r2)) :
    Calls Try.prog 38 #[.pointer (some ⟨gS, 0, none⟩), .agg #[.int .i64 a1_0, .int .i64 a1_1]] w fun e w' => e = .returned (.tuple #[]) ∧ DropPostS gS a1_0 a1_1 r1 r2 w w' := by
  have hu41 := Try.underlying66
  have hu30 := Try.underlying30
  have HR0_0 := Aside0.mk hr0_0
  have HC0_0 := Aside0.mk hc0_0
  clear hr0_0 hc0_0
  have HR0_1 := Aside0.mk hr0_1
  have HC0_1 := Aside0.mk hc0_1
  clear hr0_1 hc0_1
  have HB := Aside0.mk (Below.refl w.heap.size w)
  have BK161 := Aside0.mk hgS
  clear hgS
  have H : ((span_empty.f a1_0 a1_1).bind fun t163 => (if t163 = true then (some (([] : List (S30)), ([] : List ByteArray))) else (span_Map_string_Drop.l0 k ([] : List (S30)) ([] : List ByteArray) l0_0 (l0_0.length : Int) 0 l0_0 l0_1 a1_0 a1_1))) = some (r1, r2) := h
  clear h
  replace H := Option.bind_eq_some_iff.mp H
  obtain ⟨t163, A30, H⟩ := H
  replace H : (if t163 = true then (some (([] : List (S30)), ([] : List ByteArray))) else (span_Map_string_Drop.l0 k ([] : List (S30)) ([] : List ByteArray) l0_0 (l0_0.length : Int) 0 l0_0 l0_1 a1_0 a1_1)) = some (r1, r2) := H
  have A3 := Aside0.mk A30
  clear A30
  by_cases c4 : t163 = true
  · subst c4
    have H1 : (some (([] : List (S30)), ([] : List ByteArray))) = some (r1, r2) := by rw [if_pos rfl] at H; exact H
    clear H
    have H := H1
    clear H1
    simp only [Option.some.injEq, Prod.mk.injEq] at H
    obtain ⟨rfl, rfl⟩ := H
    go_enter Try.func38, Try.ntmps38
    go_wp2_with (first | ((with_reducible refine gate_dst (N := 3) rfl ?_); refine box_event ?hg (N := 3) ?hd (cs := #[.int .i64 a1_0, .int .i64 a1_1]) (t := 30) ?hr ?_; (case hd => rfl); (case hg => rfl); (case hr => first | (go_simp; done) | (go_simp; rfl)); intro gb162 hg w6 hbox hb; have n0_ := Aside0.mk (blk_below (g := gS) (o := .cells #[.slice A0_0 l0_0.length c0_0, .slice A0_1 l0_1.length c0_1] 66 (0, 0)) (by (with_reducible repeat (first | refine blk_drewN ?_ _ | refine blk_drew ?_ | refine blk_alloc ?_ _)); exact BK161.out) hb); have n1_ := Aside0.mk (below_step (by repeat (first | (with_reducible first | exact HB.out | apply below_alloc | apply pw_below_drewN | apply below_drew1 | refine below_set ?_ GE161.out) | exact HB.out)) hb); have n2_ := Aside0.mk (hbox); have n3_ := Aside0.mk ((by rw [hg]; exact (below_size (by repeat (first | (with_reducible first | exact HB.out | apply below_alloc | apply pw_below_drewN | apply below_drew1 | refine below_set ?_ GE161.out) | exact HB.out))) : w.heap.size ≤ gb162)); have n4_ := Aside0.mk ((by rw [hg]; exact (below_size (by repeat (first | (with_reducible first | exact HB.out | apply below_alloc | apply pw_below_drewN | apply below_drew1 | refine below_set ?_ GE161.out) | exact HB.out))) : w.heap.size ≤ gb162)); have n5_ := Aside0.mk ((by rw [hg]; exact Nat.ne_of_lt (blk_lt (g := gS) (o := .cells #[.slice A0_0 l0_0.length c0_0, .slice A0_1 l0_1.length c0_1] 66 (0, 0)) (by (with_reducible repeat (first | refine blk_drewN ?_ _ | refine blk_drew ?_ | refine blk_alloc ?_ _)); exact BK161.out)) : gS ≠ gb162)); have n6_ := Aside0.mk ((by rw [hg]; exact Nat.ne_of_gt (blk_lt (g := gS) (o := .cells #[.slice A0_0 l0_0.length c0_0, .slice A0_1 l0_1.length c0_1] 66 (0, 0)) (by (with_reducible repeat (first | refine blk_drewN ?_ _ | refine blk_drew ?_ | refine blk_alloc ?_ _)); exact BK161.out)) : gb162 ≠ gS)); clear BK161; clear HB; have BK161 := n0_; have HB := n1_; have BK162 := n2_; have GW162 := n3_; have GE162 := n4_; have NB161_162 := n5_; have NB162_161 := n6_; clear n0_ n1_ n2_ n3_ n4_ n5_ n6_; clear hb hbox hg; have hnb7 := NB162_161.out; have hnc7 := NB161_162.out; have hcz8_0 : w6.cell? ⟨gb162, 0, none⟩ = some (.int .i64 a1_0) := (blk_cell BK162.out 0).trans rfl; have hcz8_1 : w6.cell? ⟨gb162, 1, none⟩ = some (.int .i64 a1_1) := (blk_cell BK162.out 1).trans rfl; have hfz8_0 := blk_frozen BK162.out 0; have hfz8_1 := blk_frozen BK162.out 1) | (go_at_call 48; (with_reducible refine (span_empty.calls a1_0 a1_1 true _ A3.out).mono ?_); rintro e w9 ⟨rfl, hb⟩; have n0_ := Aside0.mk (blk_below (g := gS) (o := .cells #[.slice A0_0 l0_0.length c0_0, .slice A0_1 l0_1.length c0_1] 66 (0, 0)) (by (with_reducible repeat (first | refine blk_drewN ?_ _ | refine blk_drew ?_ | refine blk_alloc ?_ _)); exact BK161.out) hb); have n1_ := Aside0.mk (blk_below (g := gb162) (o := .cells #[.int .i64 a1_0, .int .i64 a1_1] 30 (0, 0)) (by (with_reducible repeat (first | refine blk_drewN ?_ _ | refine blk_drew ?_ | refine blk_alloc ?_ _)); exact BK162.out) hb); have n2_ := Aside0.mk (below_step (by repeat (first | (with_reducible first | exact HB.out | apply below_alloc | apply pw_below_drewN | apply below_drew1 | refine below_set ?_ GE161.out | refine below_set ?_ GE162.out) | exact HB.out)) hb); clear BK161; clear BK162; clear HB; have BK161 := n0_; have BK162 := n1_; have HB := n2_; clear n0_ n1_ n2_; (try clear hb); (try clear hb2); (try clear hk); (try clear hi)))
    first | go_end0 | ((try simp only [Exit.inBlock, Exit.then]); refine bodyPost_ret (results_none rfl _ _ _) rfl ?_)
    exact ⟨by first | rfl | (simp; done), Or.inl ⟨by have h_ := A3.out; unfold span_empty.f at h_; simp at h_; omega, by repeat (first | (with_reducible first | exact HB.out | apply below_alloc | apply pw_below_drewN | apply below_drew1 | refine below_set ?_ GE162.out) | exact HB.out)⟩⟩
  · replace c4 := Bool.eq_false_iff.mpr c4
    subst c4
    have H1 : (span_Map_string_Drop.l0 k ([] : List (S30)) ([] : List ByteArray) l0_0 (l0_0.length : Int) 0 l0_0 l0_1 a1_0 a1_1) = some (r1, r2) := by rw [if_neg (show ¬ (false = true) by decide)] at H; exact H
    clear H
    have H := H1
    clear H1
    have H' := Aside0.mk H
    clear H
    go_enter Try.func38, Try.ntmps38
    go_wp2_with (first | ((with_reducible refine gate_dst (N := 3) rfl ?_); refine box_event ?hg (N := 3) ?hd (cs := #[.int .i64 a1_0, .int .i64 a1_1]) (t := 30) ?hr ?_; (case hd => rfl); (case hg => rfl); (case hr => first | (go_simp; done) | (go_simp; rfl)); intro gb162 hg w11 hbox hb; have n0_ := Aside0.mk (blk_below (g := gS) (o := .cells #[.slice A0_0 l0_0.length c0_0, .slice A0_1 l0_1.length c0_1] 66 (0, 0)) (by (with_reducible repeat (first | refine blk_drewN ?_ _ | refine blk_drew ?_ | refine blk_alloc ?_ _)); exact BK161.out) hb); have n1_ := Aside0.mk (below_step (by repeat (first | (with_reducible first | exact HB.out | apply below_alloc | apply pw_below_drewN | apply below_drew1 | refine below_set ?_ GE161.out) | exact HB.out)) hb); have n2_ := Aside0.mk (hbox); have n3_ := Aside0.mk ((by rw [hg]; exact (below_size (by repeat (first | (with_reducible first | exact HB.out | apply below_alloc | apply pw_below_drewN | apply below_drew1 | refine below_set ?_ GE161.out) | exact HB.out))) : w.heap.size ≤ gb162)); have n4_ := Aside0.mk ((by rw [hg]; exact (below_size (by repeat (first | (with_reducible first | exact HB.out | apply below_alloc | apply pw_below_drewN | apply below_drew1 | refine below_set ?_ GE161.out) | exact HB.out))) : w.heap.size ≤ gb162)); have n5_ := Aside0.mk ((by rw [hg]; exact Nat.ne_of_lt (blk_lt (g := gS) (o := .cells #[.slice A0_0 l0_0.length c0_0, .slice A0_1 l0_1.length c0_1] 66 (0, 0)) (by (with_reducible repeat (first | refine blk_drewN ?_ _ | refine blk_drew ?_ | refine blk_alloc ?_ _)); exact BK161.out)) : gS ≠ gb162)); have n6_ := Aside0.mk ((by rw [hg]; exact Nat.ne_of_gt (blk_lt (g := gS) (o := .cells #[.slice A0_0 l0_0.length c0_0, .slice A0_1 l0_1.length c0_1] 66 (0, 0)) (by (with_reducible repeat (first | refine blk_drewN ?_ _ | refine blk_drew ?_ | refine blk_alloc ?_ _)); exact BK161.out)) : gb162 ≠ gS)); clear BK161; clear HB; have BK161 := n0_; have HB := n1_; have BK162 := n2_; have GW162 := n3_; have GE162 := n4_; have NB161_162 := n5_; have NB162_161 := n6_; clear n0_ n1_ n2_ n3_ n4_ n5_ n6_; clear hb hbox hg; have hnb12 := NB162_161.out; have hnc12 := NB161_162.out; have hcz13_0 : w11.cell? ⟨gb162, 0, none⟩ = some (.int .i64 a1_0) := (blk_cell BK162.out 0).trans rfl; have hcz13_1 : w11.cell? ⟨gb162, 1, none⟩ = some (.int .i64 a1_1) := (blk_cell BK162.out 1).trans rfl; have hfz13_0 := blk_frozen BK162.out 0; have hfz13_1 := blk_frozen BK162.out 1) | (go_at_call 48; (with_reducible refine (span_empty.calls a1_0 a1_1 false _ A3.out).mono ?_); rintro e w14 ⟨rfl, hb⟩; have n0_ := Aside0.mk (blk_below (g := gS) (o := .cells #[.slice A0_0 l0_0.length c0_0, .slice A0_1 l0_1.length c0_1] 66 (0, 0)) (by (with_reducible repeat (first | refine blk_drewN ?_ _ | refine blk_drew ?_ | refine blk_alloc ?_ _)); exact BK161.out) hb); have n1_ := Aside0.mk (blk_below (g := gb162) (o := .cells #[.int .i64 a1_0, .int .i64 a1_1] 30 (0, 0)) (by (with_reducible repeat (first | refine blk_drewN ?_ _ | refine blk_drew ?_ | refine blk_alloc ?_ _)); exact BK162.out) hb); have n2_ := Aside0.mk (below_step (by repeat (first | (with_reducible first | exact HB.out | apply below_alloc | apply pw_below_drewN | apply below_drew1 | refine below_set ?_ GE161.out | refine below_set ?_ GE162.out) | exact HB.out)) hb); clear BK161; clear BK162; clear HB; have BK161 := n0_; have BK162 := n1_; have HB := n2_; clear n0_ n1_ n2_; (try clear hb); (try clear hb2); (try clear hk); (try clear hi); have hcz15_0 : w14.cell? ⟨gS, 0, none⟩ = some (.slice A0_0 l0_0.length c0_0) := (blk_cell BK161.out 0).trans rfl; have hcz15_1 : w14.cell? ⟨gS, 1, none⟩ = some (.slice A0_1 l0_1.length c0_1) := (blk_cell BK161.out 1).trans rfl; have hfz15_0 := blk_frozen BK161.out 0; have hfz15_1 := blk_frozen BK161.out 1))
    go_loopg [4, 5, 21] k (fun kq v4 v5 v21 w' => ∃ (x4_1 : List (S30)) (x5_1 : List ByteArray) (x21_1 : Int), v21 = .int .i64 x21_1 ∧ Aside0 (span_Map_string_Drop.l0 kq x4_1 x5_1 l0_0 (l0_0.length : Int) x21_1 l0_0 l0_1 a1_0 a1_1 = some (r1, r2)) ∧ Aside0 (kq ≤ k) ∧ Aside0 (Kd.R k30 30 w' w.heap.size (fun k_ => k_ ≠ gb162) v4 x4_1) ∧ Aside0 (Kd.R Kd.string 9 w' w.heap.size (fun _ => True) v5 x5_1) ∧ Aside0 (w'.heap[gS]? = some (.cells #[(.slice A0_0 l0_0.length c0_0), (.slice A0_1 l0_1.length c0_1)] 66 (0, 0))) ∧ Aside0 (w'.heap[gb162]? = some (.cells #[.int .i64 a1_0, .int .i64 a1_1] 30 (0, 0))) ∧ Aside0 (Below w.heap.size w w'))
    case atStart => exact ⟨(([] : List (S30))), (([] : List ByteArray)), (0), (by first | rfl | (simp; done) | (simp [*]; done)), H', ⟨Nat.le_refl _⟩, ⟨by first | exact Kd.R_nil _ _ _ _ _ | exact Kd.N_nil _ _ _ _ _ | exact Kd.V_nil _ _ _ _ _ | exact Kd.Q_nil _ _ _ _ _ | exact Kd.S_nil _ _ _ _ _⟩, ⟨by first | exact Kd.R_nil _ _ _ _ _ | exact Kd.N_nil _ _ _ _ _ | exact Kd.V_nil _ _ _ _ _ | exact Kd.Q_nil _ _ _ _ _ | exact Kd.S_nil _ _ _ _ _⟩, ⟨by (with_reducible repeat (first | refine blk_drewN ?_ _ | refine blk_drew ?_ | refine blk_alloc ?_ _)); exact BK161.out⟩, ⟨by (with_reducible repeat (first | refine blk_drewN ?_ _ | refine blk_drew ?_ | refine blk_alloc ?_ _)); exact BK162.out⟩, ⟨by repeat (first | (with_reducible first | exact HB.out | apply below_alloc | apply pw_below_drewN | apply below_drew1 | refine below_set ?_ GE161.out | refine below_set ?_ GE162.out) | exact HB.out)⟩⟩
    case round =>
      clear H'
      try clear c1
      try clear c2
      try clear p2
      try clear c4
      try clear c7
      try clear c12
      try clear hcz13_0
      try clear hcz13_1
      try clear hcz15_0
      try clear hcz15_1
      try clear hcz8_0
      try clear hcz8_1
      try clear hfz13_0
      try clear hfz13_1
      try clear hfz15_0
      try clear hfz15_1
      try clear hfz8_0
      try clear hfz8_1
      obtain ⟨x4_1, x5_1, x21_1, rfl, HA, HK1, HO_4, HO_5, BK161, BK162, HB⟩ := hrel
      cases gk with
      | zero => exact absurd HA.out (by simp [span_Map_string_Drop.l0])
      | succ k1 =>
        have H := HA.out
        clear HA
        simp only [span_Map_string_Drop.l0] at H
        by_cases c16 : x21_1 < (l0_0.length : Int)
        · rw [if_pos c16] at H
          have c16b0 : decide (x21_1 < (l0_0.length : Int)) = true := decide_eq_true c16
          clear c16
          by_cases c17 : 0 ≤ x21_1
          · rw [if_pos c17] at H
            have c17b0 : decide (0 ≤ x21_1) = true := decide_eq_true c17
            clear c17
            by_cases c18 : x21_1 < (l0_0.length : Int)
            · rw [if_pos c18] at H
              have c18b0 : decide (x21_1 < (l0_0.length : Int)) = true := decide_eq_true c18
              clear c18
              obtain ⟨y166, hy166⟩ : ∃ y_ : List (S30), y_ = (([(⟨(rd_T30 l0_0 x21_1).f0, (rd_T30 l0_0 x21_1).f1⟩ : S30)] : List (S30))) := ⟨_, rfl⟩
              replace H : ((span_Cut.f k1 y166 (([(⟨a1_0, a1_1⟩ : S30)] : List (S30)))).bind fun t172 => (span_Map_string_Drop.l1 k1 x4_1 x5_1 x21_1 l0_0 (l0_0.length : Int) x21_1 t172 (t172.length : Int) 0 l0_0 l0_1 a1_0 a1_1)) = some (r1, r2) := by first | (rw [hy166]; with_reducible exact H) | (have H2_ := (Option.bind_some _ _).symm.trans H; rw [hy166]; with_reducible exact H2_) | (have H2_ := (Option.bind_some _ _).symm.trans H; with_reducible exact H2_) | with_reducible exact H | (rw [hy166]; exact H) | exact H
              have Ny166 := Aside0.mk hy166
              clear hy166
              obtain ⟨y169, hy169⟩ : ∃ y_ : List (S30), y_ = (([(⟨a1_0, a1_1⟩ : S30)] : List (S30))) := ⟨_, rfl⟩
              replace H : ((span_Cut.f k1 y166 y169).bind fun t172 => (span_Map_string_Drop.l1 k1 x4_1 x5_1 x21_1 l0_0 (l0_0.length : Int) x21_1 t172 (t172.length : Int) 0 l0_0 l0_1 a1_0 a1_1)) = some (r1, r2) := by first | (rw [hy169]; with_reducible exact H) | (have H2_ := (Option.bind_some _ _).symm.trans H; rw [hy169]; with_reducible exact H2_) | (have H2_ := (Option.bind_some _ _).symm.trans H; with_reducible exact H2_) | with_reducible exact H | (rw [hy169]; exact H) | exact H
              have Ny169 := Aside0.mk hy169
              clear hy169
              replace H := Option.bind_eq_some_iff.mp H
              obtain ⟨t172, A190, H⟩ := H
              replace H : (span_Map_string_Drop.l1 k1 x4_1 x5_1 x21_1 l0_0 (l0_0.length : Int) x21_1 t172 (t172.length : Int) 0 l0_0 l0_1 a1_0 a1_1) = some (r1, r2) := H
              have A19 := Aside0.mk A190
              clear A190
              have H' := Aside0.mk H
              clear H
              have p164 : 0 ≤ (x21_1 : Int) := of_decide_eq_true (by first | (with_reducible assumption) | assumption)
              have q164 : x21_1 < (l0_0.length : Int) := of_decide_eq_true (by first | (with_reducible assumption) | assumption)
              obtain ⟨ad164, e164, hx164_0, hx164_1⟩ := at_T30 HR0_0.out x21_1 p164 q164
              cases e164
              replace hx164_0 := (HB.out.cell (World.block_lt_of_cell? w _ hx164_0)).trans hx164_0
              replace hx164_1 := (HB.out.cell (World.block_lt_of_cell? w _ hx164_1)).trans hx164_1
              replace p164 := eq_true p164
              replace q164 := eq_true q164
              go_wp2_with (first | ((with_reducible refine gate_dst (N := 7) rfl ?_); refine box_event ?hg (N := 7) ?hd (cs := #[.int .i64 0, .int .i64 0]) (t := 30) ?hr ?_; (case hd => rfl); (case hg => rfl); (case hr => first | (go_simp; done) | (go_simp; rfl)); intro gb165 hg w20 hbox hb; have n0_ := Aside0.mk (Kd.R_below (Kd.R_elderB (by (with_reducible repeat (first | apply Kd.R_alloc | apply Kd.R_drewN | apply Kd.R_drew)); exact HO_4.out) gb165 (Nat.le_of_eq hg.symm)) hb); have n1_ := Aside0.mk (Kd.R_below (by (with_reducible repeat (first | apply Kd.R_alloc | apply Kd.R_drewN | apply Kd.R_drew)); exact HO_5.out) hb); have n2_ := Aside0.mk (blk_below (g := gS) (o := .cells #[.slice (some ad164) l0_0.length c0_0, .slice A0_1 l0_1.length c0_1] 66 (0, 0)) (by (with_reducible repeat (first | refine blk_drewN ?_ _ | refine blk_drew ?_ | refine blk_alloc ?_ _)); exact BK161.out) hb); have n3_ := Aside0.mk (blk_below (g := gb162) (o := .cells #[.int .i64 a1_0, .int .i64 a1_1] 30 (0, 0)) (by (with_reducible repeat (first | refine blk_drewN ?_ _ | refine blk_drew ?_ | refine blk_alloc ?_ _)); exact BK162.out) hb); have n4_ := Aside0.mk (below_step (by repeat (first | (with_reducible first | exact HB.out | apply below_alloc | apply pw_below_drewN | apply below_drew1 | refine below_set ?_ GE161.out | refine below_set ?_ GE162.out) | exact HB.out)) hb); have n5_ := Aside0.mk (hbox); have n6_ := Aside0.mk ((by rw [hg]; exact (below_size (by repeat (first | (with_reducible first | exact HB.out | apply below_alloc | apply pw_below_drewN | apply below_drew1 | refine below_set ?_ GE161.out | refine below_set ?_ GE162.out) | exact HB.out))) : w.heap.size ≤ gb165)); have n7_ := Aside0.mk ((by rw [hg]; exact (below_size (by repeat (first | (with_reducible first | exact HB.out | apply below_alloc | apply pw_below_drewN | apply below_drew1 | refine below_set ?_ GE161.out | refine below_set ?_ GE162.out) | exact HB.out))) : w.heap.size ≤ gb165)); have n8_ := Aside0.mk ((by rw [hg]; exact Nat.ne_of_lt (blk_lt (g := gS) (o := .cells #[.slice (some ad164) l0_0.length c0_0, .slice A0_1 l0_1.length c0_1] 66 (0, 0)) (by (with_reducible repeat (first | refine blk_drewN ?_ _ | refine blk_drew ?_ | refine blk_alloc ?_ _)); exact BK161.out)) : gS ≠ gb165)); have n9_ := Aside0.mk ((by rw [hg]; exact Nat.ne_of_gt (blk_lt (g := gS) (o := .cells #[.slice (some ad164) l0_0.length c0_0, .slice A0_1 l0_1.length c0_1] 66 (0, 0)) (by (with_reducible repeat (first | refine blk_drewN ?_ _ | refine blk_drew ?_ | refine blk_alloc ?_ _)); exact BK161.out)) : gb165 ≠ gS)); have n10_ := Aside0.mk ((by rw [hg]; exact Nat.ne_of_lt (blk_lt (g := gb162) (o := .cells #[.int .i64 a1_0, .int .i64 a1_1] 30 (0, 0)) (by (with_reducible repeat (first | refine blk_drewN ?_ _ | refine blk_drew ?_ | refine blk_alloc ?_ _)); exact BK162.out)) : gb162 ≠ gb165)); have n11_ := Aside0.mk ((by rw [hg]; exact Nat.ne_of_gt (blk_lt (g := gb162) (o := .cells #[.int .i64 a1_0, .int .i64 a1_1] 30 (0, 0)) (by (with_reducible repeat (first | refine blk_drewN ?_ _ | refine blk_drew ?_ | refine blk_alloc ?_ _)); exact BK162.out)) : gb165 ≠ gb162)); clear HO_4; clear HO_5; clear BK161; clear BK162; clear HB; have HO_4 := n0_; have HO_5 := n1_; have BK161 := n2_; have BK162 := n3_; have HB := n4_; have BK165 := n5_; have GW165 := n6_; have GE165 := n7_; have NB161_165 := n8_; have NB165_161 := n9_; have NB162_165 := n10_; have NB165_162 := n11_; clear n0_ n1_ n2_ n3_ n4_ n5_ n6_ n7_ n8_ n9_ n10_ n11_; clear hb hbox hg; have hnb21 := NB165_161.out; have hnc21 := NB161_165.out; have hnb22 := NB165_162.out; have hnc22 := NB162_165.out; have hcz23_0 : w20.cell? ⟨gb165, 0, none⟩ = some (.int .i64 0) := (blk_cell BK165.out 0).trans rfl; have hcz23_1 : w20.cell? ⟨gb165, 1, none⟩ = some (.int .i64 0) := (blk_cell BK165.out 1).trans rfl; have hfz23_0 := blk_frozen BK165.out 0; have hfz23_1 := blk_frozen BK165.out 1) | ((with_reducible refine gate_dst (N := 27) rfl ?_); refine Kd.R_lit k30 _ 30 ?hg (N := 27) ?hd (xs := ([(⟨(rd_T30 l0_0 x21_1).f0, (rd_T30 l0_0 x21_1).f1⟩ : S30)] : List (S30))) (inner := [.int .i64 ((rd_T30 l0_0 x21_1).f0), .int .i64 ((rd_T30 l0_0 x21_1).f1)]) (ok := fun _ => True) (okp := fun _ => True) ?hr ?hp (fun _ hk => hk) trivial (Below.refl _ _) (Nat.le_refl _) (by simp) ?_; (case hd => rfl); (case hg => rfl); (case hr => first | (go_simp; done) | (go_simp; rfl)); (case hp => exact (Reps.c2 (show Kd.M k30 _ _ _ (⟨(rd_T30 l0_0 x21_1).f0, (rd_T30 l0_0 x21_1).f1⟩ : S30) [.int .i64 ((rd_T30 l0_0 x21_1).f0), .int .i64 ((rd_T30 l0_0 x21_1).f1)] from (k30_mkM _ _ _ (⟨(rd_T30 l0_0 x21_1).f0, (rd_T30 l0_0 x21_1).f1⟩ : S30) )) (Reps.none _ _))); intro v167 w24 ho25 hb hg_ hnew_; clear hg_ hnew_; (first | rw [← Ny166.out] at ho25 | (simp only [Int.reduceToNat] at ho25; rw [← Ny166.out] at ho25)); have n0_ := Aside0.mk (Kd.R_elder' (by (with_reducible repeat (first | apply Kd.R_alloc | apply Kd.R_drewN | apply Kd.R_drew)); exact (Kd.R_mono (Kd.R_far (p := ⟨gb165, 1, none⟩) (Kd.R_far (p := ⟨gb165, 0, none⟩) (Kd.R_mono HO_4.out (fun k_ hk => (⟨hk, hk.2⟩ : _ ∧ k_ ≠ gb165))) (fun _ hk => hk.2) (.int .i64 ((rd_T30 l0_0 x21_1).f0))) (fun _ hk => hk.2) (.int .i64 ((rd_T30 l0_0 x21_1).f1))) (fun _ h_ => h_.1))) (Kd.R_base ho25) hb); have n1_ := Aside0.mk (Kd.R_below (by (with_reducible repeat (first | apply Kd.R_alloc | apply Kd.R_drewN | apply Kd.R_drew)); exact (Kd.R_mono (Kd.R_far (p := ⟨gb165, 1, none⟩) (Kd.R_far (p := ⟨gb165, 0, none⟩) (Kd.R_types HO_5.out BK165.out (by decide)) (fun _ hk => hk.2) (.int .i64 ((rd_T30 l0_0 x21_1).f0))) (fun _ hk => hk.2) (.int .i64 ((rd_T30 l0_0 x21_1).f1))) (fun _ h_ => h_.1))) hb); have n2_ := Aside0.mk (Kd.R_lower (Kd.R_newB (Kd.R_newB (Kd.R_new' ho25 (Kd.R_lt (by (with_reducible repeat (first | apply Kd.R_alloc | apply Kd.R_drewN | apply Kd.R_drew)); exact (Kd.R_mono (Kd.R_far (p := ⟨gb165, 1, none⟩) (Kd.R_far (p := ⟨gb165, 0, none⟩) (Kd.R_mono HO_4.out (fun k_ hk => (⟨hk, hk.2⟩ : _ ∧ k_ ≠ gb165))) (fun _ hk => hk.2) (.int .i64 ((rd_T30 l0_0 x21_1).f0))) (fun _ hk => hk.2) (.int .i64 ((rd_T30 l0_0 x21_1).f1))) (fun _ h_ => h_.1))))) (g := gb162) (o := .cells #[.int .i64 a1_0, .int .i64 a1_1] 30 (0, 0)) (by (with_reducible repeat (first | refine blk_drewN ?_ _ | refine blk_drew ?_ | refine blk_alloc ?_ _)); refine blk_far ?_ NB162_165.out _; (with_reducible repeat (first | refine blk_drewN ?_ _ | refine blk_drew ?_ | refine blk_alloc ?_ _)); refine blk_far ?_ NB162_165.out _; (with_reducible repeat (first | refine blk_drewN ?_ _ | refine blk_drew ?_ | refine blk_alloc ?_ _)); exact BK162.out)) (g := gb165) (o := .cells #[.int .i64 ((rd_T30 l0_0 x21_1).f0), .int .i64 ((rd_T30 l0_0 x21_1).f1)] 30 (0, 0)) (by (with_reducible repeat (first | refine blk_drewN ?_ _ | refine blk_drew ?_ | refine blk_alloc ?_ _)); refine blk_put (cs := #[.int .i64 ((rd_T30 l0_0 x21_1).f0), .int .i64 0]) ?_ 1 _ rfl; (with_reducible repeat (first | refine blk_drewN ?_ _ | refine blk_drew ?_ | refine blk_alloc ?_ _)); refine blk_put (cs := #[.int .i64 0, .int .i64 0]) ?_ 0 _ rfl; (with_reducible repeat (first | refine blk_drewN ?_ _ | refine blk_drew ?_ | refine blk_alloc ?_ _)); exact BK165.out)) (below_size (by repeat (first | (with_reducible first | exact HB.out | apply below_alloc | apply pw_below_drewN | apply below_drew1 | refine below_set ?_ GE161.out | refine below_set ?_ GE162.out | refine below_set ?_ GE165.out) | exact HB.out)))); have n3_ := Aside0.mk (blk_below (g := gS) (o := .cells #[.slice (some ad164) l0_0.length c0_0, .slice A0_1 l0_1.length c0_1] 66 (0, 0)) (by (with_reducible repeat (first | refine blk_drewN ?_ _ | refine blk_drew ?_ | refine blk_alloc ?_ _)); refine blk_far ?_ NB161_165.out _; (with_reducible repeat (first | refine blk_drewN ?_ _ | refine blk_drew ?_ | refine blk_alloc ?_ _)); refine blk_far ?_ NB161_165.out _; (with_reducible repeat (first | refine blk_drewN ?_ _ | refine blk_drew ?_ | refine blk_alloc ?_ _)); exact BK161.out) hb); have n4_ := Aside0.mk (blk_below (g := gb162) (o := .cells #[.int .i64 a1_0, .int .i64 a1_1] 30 (0, 0)) (by (with_reducible repeat (first | refine blk_drewN ?_ _ | refine blk_drew ?_ | refine blk_alloc ?_ _)); refine blk_far ?_ NB162_165.out _; (with_reducible repeat (first | refine blk_drewN ?_ _ | refine blk_drew ?_ | refine blk_alloc ?_ _)); refine blk_far ?_ NB162_165.out _; (with_reducible repeat (first | refine blk_drewN ?_ _ | refine blk_drew ?_ | refine blk_alloc ?_ _)); exact BK162.out) hb); have n5_ := Aside0.mk (blk_below (g := gb165) (o := .cells #[.int .i64 ((rd_T30 l0_0 x21_1).f0), .int .i64 ((rd_T30 l0_0 x21_1).f1)] 30 (0, 0)) (by (with_reducible repeat (first | refine blk_drewN ?_ _ | refine blk_drew ?_ | refine blk_alloc ?_ _)); refine blk_put (cs := #[.int .i64 ((rd_T30 l0_0 x21_1).f0), .int .i64 0]) ?_ 1 _ rfl; (with_reducible repeat (first | refine blk_drewN ?_ _ | refine blk_drew ?_ | refine blk_alloc ?_ _)); refine blk_put (cs := #[.int .i64 0, .int .i64 0]) ?_ 0 _ rfl; (with_reducible repeat (first | refine blk_drewN ?_ _ | refine blk_drew ?_ | refine blk_alloc ?_ _)); exact BK165.out) hb); have n6_ := Aside0.mk (below_step (by repeat (first | (with_reducible first | exact HB.out | apply below_alloc | apply pw_below_drewN | apply below_drew1 | refine below_set ?_ GE161.out | refine below_set ?_ GE162.out | refine below_set ?_ GE165.out) | exact HB.out)) hb); clear HO_4; clear HO_5; clear BK161; clear BK162; clear BK165; clear HB; have HO_4 := n0_; have HO_5 := n1_; have HO168 := n2_; have BK161 := n3_; have BK162 := n4_; have BK165 := n5_; have HB := n6_; clear n0_ n1_ n2_ n3_ n4_ n5_ n6_; clear hb ho25; have hnb26 := NB162_161.out; have hnc26 := NB161_162.out; have hcz27_0 : w24.cell? ⟨gb162, 0, none⟩ = some (.int .i64 a1_0) := (blk_cell BK162.out 0).trans rfl; have hcz27_1 : w24.cell? ⟨gb162, 1, none⟩ = some (.int .i64 a1_1) := (blk_cell BK162.out 1).trans rfl; have hfz27_0 := blk_frozen BK162.out 0; have hfz27_1 := blk_frozen BK162.out 1) | ((with_reducible refine gate_dst (N := 29) rfl ?_); refine Kd.R_lit k30 _ 30 ?hg (N := 29) ?hd (xs := ([(⟨a1_0, a1_1⟩ : S30)] : List (S30))) (inner := [.int .i64 a1_0, .int .i64 a1_1]) (ok := fun _ => True) (okp := fun _ => True) ?hr ?hp (fun _ hk => hk) trivial (Below.refl _ _) (Nat.le_refl _) (by simp) ?_; (case hd => rfl); (case hg => rfl); (case hr => first | (go_simp; done) | (go_simp; rfl)); (case hp => exact (Reps.c2 (show Kd.M k30 _ _ _ (⟨a1_0, a1_1⟩ : S30) [.int .i64 a1_0, .int .i64 a1_1] from (k30_mkM _ _ _ (⟨a1_0, a1_1⟩ : S30) )) (Reps.none _ _))); intro v170 w28 ho29 hb hg_ hnew_; clear hg_ hnew_; (first | rw [← Ny169.out] at ho29 | (simp only [Int.reduceToNat] at ho29; rw [← Ny169.out] at ho29)); have n0_ := Aside0.mk (Kd.R_elder' (by (with_reducible repeat (first | apply Kd.R_alloc | apply Kd.R_drewN | apply Kd.R_drew)); exact HO_4.out) (Kd.R_base ho29) hb); have n1_ := Aside0.mk (Kd.R_below (by (with_reducible repeat (first | apply Kd.R_alloc | apply Kd.R_drewN | apply Kd.R_drew)); exact HO_5.out) hb); have n2_ := Aside0.mk (Kd.R_elder' (by (with_reducible repeat (first | apply Kd.R_alloc | apply Kd.R_drewN | apply Kd.R_drew)); exact HO168.out) (Kd.R_base ho29) hb); have n3_ := Aside0.mk (Kd.R_lower (Kd.R_newB (Kd.R_newB (Kd.R_new' (Kd.R_new' ho29 (Kd.R_lt (by (with_reducible repeat (first | apply Kd.R_alloc | apply Kd.R_drewN | apply Kd.R_drew)); exact HO_4.out))) (Kd.R_lt (by (with_reducible repeat (first | apply Kd.R_alloc | apply Kd.R_drewN | apply Kd.R_drew)); exact HO168.out))) (g := gb162) (o := .cells #[.int .i64 a1_0, .int .i64 a1_1] 30 (0, 0)) (by (with_reducible repeat (first | refine blk_drewN ?_ _ | refine blk_drew ?_ | refine blk_alloc ?_ _)); exact BK162.out)) (g := gb165) (o := .cells #[.int .i64 ((rd_T30 l0_0 x21_1).f0), .int .i64 ((rd_T30 l0_0 x21_1).f1)] 30 (0, 0)) (by (with_reducible repeat (first | refine blk_drewN ?_ _ | refine blk_drew ?_ | refine blk_alloc ?_ _)); exact BK165.out)) (below_size (by repeat (first | (with_reducible first | exact HB.out | apply below_alloc | apply pw_below_drewN | apply below_drew1 | refine below_set ?_ GE161.out | refine below_set ?_ GE162.out | refine below_set ?_ GE165.out) | exact HB.out)))); have n4_ := Aside0.mk (blk_below (g := gS) (o := .cells #[.slice (some ad164) l0_0.length c0_0, .slice A0_1 l0_1.length c0_1] 66 (0, 0)) (by (with_reducible repeat (first | refine blk_drewN ?_ _ | refine blk_drew ?_ | refine blk_alloc ?_ _)); exact BK161.out) hb); have n5_ := Aside0.mk (blk_below (g := gb162) (o := .cells #[.int .i64 a1_0, .int .i64 a1_1] 30 (0, 0)) (by (with_reducible repeat (first | refine blk_drewN ?_ _ | refine blk_drew ?_ | refine blk_alloc ?_ _)); exact BK162.out) hb); have n6_ := Aside0.mk (blk_below (g := gb165) (o := .cells #[.int .i64 ((rd_T30 l0_0 x21_1).f0), .int .i64 ((rd_T30 l0_0 x21_1).f1)] 30 (0, 0)) (by (with_reducible repeat (first | refine blk_drewN ?_ _ | refine blk_drew ?_ | refine blk_alloc ?_ _)); exact BK165.out) hb); have n7_ := Aside0.mk (below_step (by repeat (first | (with_reducible first | exact HB.out | apply below_alloc | apply pw_below_drewN | apply below_drew1 | refine below_set ?_ GE161.out | refine below_set ?_ GE162.out | refine below_set ?_ GE165.out) | exact HB.out)) hb); clear HO_4; clear HO_5; clear HO168; clear BK161; clear BK162; clear BK165; clear HB; have HO_4 := n0_; have HO_5 := n1_; have HO168 := n2_; have HO171 := n3_; have BK161 := n4_; have BK162 := n5_; have BK165 := n6_; have HB := n7_; clear n0_ n1_ n2_ n3_ n4_ n5_ n6_ n7_; clear hb ho29; obtain ⟨Ao30, co30, eo30⟩ := Kd.R_slice HO168.out; subst eo30; obtain ⟨Ao31, co31, eo31⟩ := Kd.R_slice HO171.out; subst eo31) | ((with_reducible refine gate_callee (f := 23) rfl ?_); refine goesL_ (some 30) rfl rfl Try.func23 (by kernel_rfl) rfl #[.slice Ao30 y166.length co30, .slice Ao31 y169.length co31] rfl (by (try simp only [List.map_toArray, List.map_cons, List.map_nil]); first | done | rfl | (simp only [List.length_drop, List.length_take]; rfl)) ?_; (with_reducible refine (span_Cut.calls k1 _ _ y166 _ _ y169 t172 _ ?side1 ?side2 ?side3 ?side4 A19.out).mono ?_); (case side1 => repeat (first | exact (Kd.R_reads' HO168.out).2.2 | (with_reducible refine Kd.C_alloc ?_ _) | (with_reducible refine Kd.C_drewN ?_ _) | (with_reducible refine Kd.C_drew ?_))); (case side2 => exact (Kd.R_reads' HO168.out).2.1); (case side3 => repeat (first | exact (Kd.R_reads' HO171.out).2.2 | (with_reducible refine Kd.C_alloc ?_ _) | (with_reducible refine Kd.C_drewN ?_ _) | (with_reducible refine Kd.C_drew ?_))); (case side4 => exact (Kd.R_reads' HO171.out).2.1); rintro e w32 ⟨v173, rfl, ho0, hb⟩; refine ⟨_, rfl, ?_⟩; have n0_ := Aside0.mk (Kd.R_elder' (by (with_reducible repeat (first | apply Kd.R_alloc | apply Kd.R_drewN | apply Kd.R_drew)); exact HO_4.out) (Kd.R_base ho0) hb); have n1_ := Aside0.mk (Kd.R_below (by (with_reducible repeat (first | apply Kd.R_alloc | apply Kd.R_drewN | apply Kd.R_drew)); exact HO_5.out) hb); have n2_ := Aside0.mk (Kd.R_elder' (by (with_reducible repeat (first | apply Kd.R_alloc | apply Kd.R_drewN | apply Kd.R_drew)); exact HO168.out) (Kd.R_base ho0) hb); have n3_ := Aside0.mk (Kd.R_elder' (by (with_reducible repeat (first | apply Kd.R_alloc | apply Kd.R_drewN | apply Kd.R_drew)); exact HO171.out) (Kd.R_base ho0) hb); have n4_ := Aside0.mk (Kd.R_lower (Kd.R_newB (Kd.R_newB (Kd.R_new' (Kd.R_new' (Kd.R_new' ho0 (Kd.R_lt (by (with_reducible repeat (first | apply Kd.R_alloc | apply Kd.R_drewN | apply Kd.R_drew)); exact HO_4.out))) (Kd.R_lt (by (with_reducible repeat (first | apply Kd.R_alloc | apply Kd.R_drewN | apply Kd.R_drew)); exact HO168.out))) (Kd.R_lt (by (with_reducible repeat (first | apply Kd.R_alloc | apply Kd.R_drewN | apply Kd.R_drew)); exact HO171.out))) (g := gb162) (o := .cells #[.int .i64 a1_0, .int .i64 a1_1] 30 (0, 0)) (by (with_reducible repeat (first | refine blk_drewN ?_ _ | refine blk_drew ?_ | refine blk_alloc ?_ _)); exact BK162.out)) (g := gb165) (o := .cells #[.int .i64 ((rd_T30 l0_0 x21_1).f0), .int .i64 ((rd_T30 l0_0 x21_1).f1)] 30 (0, 0)) (by (with_reducible repeat (first | refine blk_drewN ?_ _ | refine blk_drew ?_ | refine blk_alloc ?_ _)); exact BK165.out)) (below_size (by repeat (first | (with_reducible first | exact HB.out | apply below_alloc | apply pw_below_drewN | apply below_drew1 | refine below_set ?_ GE161.out | refine below_set ?_ GE162.out | refine below_set ?_ GE165.out) | exact HB.out)))); have n5_ := Aside0.mk (blk_below (g := gS) (o := .cells #[.slice (some ad164) l0_0.length c0_0, .slice A0_1 l0_1.length c0_1] 66 (0, 0)) (by (with_reducible repeat (first | refine blk_drewN ?_ _ | refine blk_drew ?_ | refine blk_alloc ?_ _)); exact BK161.out) hb); have n6_ := Aside0.mk (blk_below (g := gb162) (o := .cells #[.int .i64 a1_0, .int .i64 a1_1] 30 (0, 0)) (by (with_reducible repeat (first | refine blk_drewN ?_ _ | refine blk_drew ?_ | refine blk_alloc ?_ _)); exact BK162.out) hb); have n7_ := Aside0.mk (blk_below (g := gb165) (o := .cells #[.int .i64 ((rd_T30 l0_0 x21_1).f0), .int .i64 ((rd_T30 l0_0 x21_1).f1)] 30 (0, 0)) (by (with_reducible repeat (first | refine blk_drewN ?_ _ | refine blk_drew ?_ | refine blk_alloc ?_ _)); exact BK165.out) hb); have n8_ := Aside0.mk (below_step (by repeat (first | (with_reducible first | exact HB.out | apply below_alloc | apply pw_below_drewN | apply below_drew1 | refine below_set ?_ GE161.out | refine below_set ?_ GE162.out | refine below_set ?_ GE165.out) | exact HB.out)) hb); clear HO_4; clear HO_5; clear HO168; clear HO171; clear BK161; clear BK162; clear BK165; clear HB; have HO_4 := n0_; have HO_5 := n1_; have HO168 := n2_; have HO171 := n3_; have HO174 := n4_; have BK161 := n5_; have BK162 := n6_; have BK165 := n7_; have HB := n8_; clear n0_ n1_ n2_ n3_ n4_ n5_ n6_ n7_ n8_; (try clear hb); (try clear hb2); (try clear hk); (try clear hi); (try clear ho0); obtain ⟨Ao33, co33, eo33⟩ := Kd.R_slice HO174.out; subst eo33))
              go_loopg [4, 5, 32] k1 (fun kq v4 v5 v32 w' => ∃ (x4_2 : List (S30)) (x5_2 : List ByteArray) (x32_2 : Int), v32 = .int .i64 x32_2 ∧ Aside0 (span_Map_string_Drop.l1 kq x4_2 x5_2 x21_1 l0_0 (l0_0.length : Int) x21_1 t172 (t172.length : Int) x32_2 l0_0 l0_1 a1_0 a1_1 = some (r1, r2)) ∧ Aside0 (kq ≤ k1) ∧ Aside0 (Kd.R k30 30 w' w.heap.size (fun k_ => some k_ ≠ ((.slice Ao33 t172.length co33) : Value).ownBlock ∧ k_ ≠ gb162 ∧ k_ ≠ gb165) v4 x4_2) ∧ Aside0 (Kd.R Kd.string 9 w' w.heap.size (fun _ => True) v5 x5_2) ∧ Aside0 (Kd.R k30 30 w' w.heap.size (fun k_ => some k_ ≠ (v4 : Value).ownBlock ∧ k_ ≠ gb162 ∧ k_ ≠ gb165) (.slice Ao33 t172.length co33) t172) ∧ Aside0 (w'.heap[gS]? = some (.cells #[(.slice (some ad164) l0_0.length c0_0), (.slice A0_1 l0_1.length c0_1)] 66 (0, 0))) ∧ Aside0 (w'.heap[gb162]? = some (.cells #[.int .i64 a1_0, .int .i64 a1_1] 30 (0, 0))) ∧ Aside0 (w'.heap[gb165]? = some (.cells #[.int .i64 ((rd_T30 l0_0 x21_1).f0), .int .i64 ((rd_T30 l0_0 x21_1).f1)] 30 (0, 0))) ∧ Aside0 (Below w.heap.size w w'))
              case atStart => exact ⟨(x4_1), (x5_1), (0), (by first | rfl | (simp; done) | (simp [*]; done)), H', ⟨Nat.le_refl _⟩, ⟨by (with_reducible repeat (first | apply Kd.R_alloc | apply Kd.R_drewN | apply Kd.R_drew)); exact Kd.R_mono HO_4.out (fun _ hk => ⟨hk.2, ⟨hk.1.1.1.1, hk.1.1.1.2⟩⟩)⟩, ⟨by (with_reducible repeat (first | apply Kd.R_alloc | apply Kd.R_drewN | apply Kd.R_drew)); exact HO_5.out⟩, ⟨by (with_reducible repeat (first | apply Kd.R_alloc | apply Kd.R_drewN | apply Kd.R_drew)); exact Kd.R_mono HO174.out (fun _ hk => ⟨hk.1.1.1.1.2, ⟨hk.1.2, hk.2⟩⟩)⟩, ⟨by (with_reducible repeat (first | refine blk_drewN ?_ _ | refine blk_drew ?_ | refine blk_alloc ?_ _)); exact BK161.out⟩, ⟨by (with_reducible repeat (first | refine blk_drewN ?_ _ | refine blk_drew ?_ | refine blk_alloc ?_ _)); exact BK162.out⟩, ⟨by (with_reducible repeat (first | refine blk_drewN ?_ _ | refine blk_drew ?_ | refine blk_alloc ?_ _)); exact BK165.out⟩, ⟨by repeat (first | (with_reducible first | exact HB.out | apply below_alloc | apply pw_below_drewN | apply below_drew1 | refine below_set ?_ GE161.out | refine below_set ?_ GE162.out | refine below_set ?_ GE165.out) | exact HB.out)⟩⟩
              case round =>
                clear H'
                try clear c1
                try clear p1
                try clear q1
                try clear hx1
                try clear c2
                try clear p2
                try clear c4
                try clear c7
                try clear c12
                try clear c16
                try clear c16b0
                try clear p16
                try clear q16
                try clear hx16
                try clear c17
                try clear c17b0
                try clear c18
                try clear c18b0
                try clear c21
                try clear c22
                try clear c23
                try clear c26
                try clear c29
                try clear hcz13_0
                try clear hcz13_1
                try clear hcz15_0
                try clear hcz15_1
                try clear hcz23_0
                try clear hcz23_1
                try clear hcz27_0
                try clear hcz27_1
                try clear hcz8_0
                try clear hcz8_1
                try clear hfz13_0
                try clear hfz13_1
                try clear hfz15_0
                try clear hfz15_1
                try clear hfz23_0
                try clear hfz23_1
                try clear hfz27_0
                try clear hfz27_1
                try clear hfz8_0
                try clear hfz8_1
                try clear hx164_0
                try clear hx164_1
                try clear p164
                try clear p2
                try clear q164
                obtain ⟨x4_2, x5_2, x32_2, rfl, HA, HK2, HO_4, HO_5, HO_30, BK161, BK162, BK165, HB⟩ := hrel
                cases gk with
                | zero => exact absurd HA.out (by simp [span_Map_string_Drop.l1])
                | succ k2 =>
                  have H := HA.out
                  clear HA
                  simp only [span_Map_string_Drop.l1] at H
                  by_cases c34 : x32_2 < (t172.length : Int)
                  · rw [if_pos c34] at H
                    have c34b0 : decide (x32_2 < (t172.length : Int)) = true := decide_eq_true c34
                    clear c34
                    by_cases c35 : 0 ≤ x32_2
                    · rw [if_pos c35] at H
                      have c35b0 : decide (0 ≤ x32_2) = true := decide_eq_true c35
                      clear c35
                      by_cases c36 : x32_2 < (t172.length : Int)
                      · rw [if_pos c36] at H
                        have c36b0 : decide (x32_2 < (t172.length : Int)) = true := decide_eq_true c36
                        clear c36
                        obtain ⟨y177, hy177⟩ : ∃ y_ : List (S30), y_ = (([(⟨(rd_T30 t172 x32_2).f0, (rd_T30 t172 x32_2).f1⟩ : S30)] : List (S30))) := ⟨_, rfl⟩
                        replace H : (if x4_2.length + y177.length < 8796093022208 then (if 0 ≤ x21_1 then (if x21_1 < (l0_1.length : Int) then ((some (([rdOf ByteArray.empty l0_1 x21_1] : List ByteArray) : List ByteArray)).bind fun y184 => (if x5_2.length + y184.length < 8796093022208 then (span_Map_string_Drop.l1 k2 (x4_2 ++ y177) (x5_2 ++ y184) x21_1 l0_0 (l0_0.length : Int) x21_1 t172 (t172.length : Int) (wrap64 (x32_2 + 1)) l0_0 l0_1 a1_0 a1_1) else (none))) else (none)) else (none)) else (none)) = some (r1, r2) := by first | (rw [hy177]; with_reducible exact H) | (have H2_ := (Option.bind_some _ _).symm.trans H; rw [hy177]; with_reducible exact H2_) | (have H2_ := (Option.bind_some _ _).symm.trans H; with_reducible exact H2_) | with_reducible exact H | (rw [hy177]; exact H) | exact H
                        have Ny177 := Aside0.mk hy177
                        clear hy177
                        by_cases c37 : x4_2.length + y177.length < 8796093022208
                        · rw [if_pos c37] at H
                          have LMc37 := Aside0.mk c37
                          clear c37
                          obtain ⟨y180, hy180⟩ : ∃ y_ : List (S30), y_ = (x4_2 ++ y177) := ⟨_, rfl⟩
                          replace H : (if 0 ≤ x21_1 then (if x21_1 < (l0_1.length : Int) then ((some (([rdOf ByteArray.empty l0_1 x21_1] : List ByteArray) : List ByteArray)).bind fun y184 => (if x5_2.length + y184.length < 8796093022208 then (span_Map_string_Drop.l1 k2 y180 (x5_2 ++ y184) x21_1 l0_0 (l0_0.length : Int) x21_1 t172 (t172.length : Int) (wrap64 (x32_2 + 1)) l0_0 l0_1 a1_0 a1_1) else (none))) else (none)) else (none)) = some (r1, r2) := by first | (rw [hy180]; with_reducible exact H) | (have H2_ := (Option.bind_some _ _).symm.trans H; rw [hy180]; with_reducible exact H2_) | (have H2_ := (Option.bind_some _ _).symm.trans H; with_reducible exact H2_) | with_reducible exact H | (rw [hy180]; exact H) | exact H
                          have Ny180 := Aside0.mk hy180
                          clear hy180
                          by_cases c38 : 0 ≤ x21_1
                          · rw [if_pos c38] at H
                            have c38b0 : decide (0 ≤ x21_1) = true := decide_eq_true c38
                            clear c38
                            by_cases c39 : x21_1 < (l0_1.length : Int)
                            · rw [if_pos c39] at H
                              have c39b0 : decide (x21_1 < (l0_1.length : Int)) = true := decide_eq_true c39
                              clear c39
                              obtain ⟨y184, hy184⟩ : ∃ y_ : List ByteArray, y_ = (([rdOf ByteArray.empty l0_1 x21_1] : List ByteArray)) := ⟨_, rfl⟩
                              replace H : (if x5_2.length + y184.length < 8796093022208 then (span_Map_string_Drop.l1 k2 y180 (x5_2 ++ y184) x21_1 l0_0 (l0_0.length : Int) x21_1 t172 (t172.length : Int) (wrap64 (x32_2 + 1)) l0_0 l0_1 a1_0 a1_1) else (none)) = some (r1, r2) := by first | (rw [hy184]; with_reducible exact H) | (have H2_ := (Option.bind_some _ _).symm.trans H; rw [hy184]; with_reducible exact H2_) | (have H2_ := (Option.bind_some _ _).symm.trans H; with_reducible exact H2_) | with_reducible exact H | (rw [hy184]; exact H) | exact H
                              have Ny184 := Aside0.mk hy184
                              clear hy184
                              by_cases c40 : x5_2.length + y184.length < 8796093022208
                              · rw [if_pos c40] at H
                                have LMc40 := Aside0.mk c40
                                clear c40
                                obtain ⟨y187, hy187⟩ : ∃ y_ : List ByteArray, y_ = (x5_2 ++ y184) := ⟨_, rfl⟩
                                replace H : (span_Map_string_Drop.l1 k2 y180 y187 x21_1 l0_0 (l0_0.length : Int) x21_1 t172 (t172.length : Int) (wrap64 (x32_2 + 1)) l0_0 l0_1 a1_0 a1_1) = some (r1, r2) := by first | (rw [hy187]; with_reducible exact H) | (have H2_ := (Option.bind_some _ _).symm.trans H; rw [hy187]; with_reducible exact H2_) | (have H2_ := (Option.bind_some _ _).symm.trans H; with_reducible exact H2_) | with_reducible exact H | (rw [hy187]; exact H) | exact H
                                have Ny187 := Aside0.mk hy187
                                clear hy187
                                have H' := Aside0.mk H
                                clear H
                                have p175 : 0 ≤ (x32_2 : Int) := of_decide_eq_true (by first | (with_reducible assumption) | assumption)
                                have q175 : x32_2 < (t172.length : Int) := of_decide_eq_true (by first | (with_reducible assumption) | assumption)
                                obtain ⟨ad175, e175, hx175_0, hx175_1⟩ := at_T30 (Kd.R_reads' HO_30.out).2.2 x32_2 p175 q175
                                cases e175
                                replace p175 := eq_true p175
                                replace q175 := eq_true q175
                                try go_wp2_with (first | ((with_reducible refine gate_dst (N := 9) rfl ?_); refine box_event ?hg (N := 9) ?hd (cs := #[.int .i64 0, .int .i64 0]) (t := 30) ?hr ?_; (case hd => rfl); (case hg => rfl); (case hr => first | (go_simp; done) | (go_simp; rfl)); intro gb176 hg w41 hbox hb; have n0_ := Aside0.mk (Kd.R_below (Kd.R_elderB (by (with_reducible repeat (first | apply Kd.R_alloc | apply Kd.R_drewN | apply Kd.R_drew)); exact HO_4.out) gb176 (Nat.le_of_eq hg.symm)) hb); have n1_ := Aside0.mk (Kd.R_below (by (with_reducible repeat (first | apply Kd.R_alloc | apply Kd.R_drewN | apply Kd.R_drew)); exact HO_5.out) hb); have n2_ := Aside0.mk (Kd.R_below (Kd.R_elderB (by (with_reducible repeat (first | apply Kd.R_alloc | apply Kd.R_drewN | apply Kd.R_drew)); exact HO_30.out) gb176 (Nat.le_of_eq hg.symm)) hb); have n3_ := Aside0.mk (blk_below (g := gS) (o := .cells #[.slice (some ad164) l0_0.length c0_0, .slice A0_1 l0_1.length c0_1] 66 (0, 0)) (by (with_reducible repeat (first | refine blk_drewN ?_ _ | refine blk_drew ?_ | refine blk_alloc ?_ _)); exact BK161.out) hb); have n4_ := Aside0.mk (blk_below (g := gb162) (o := .cells #[.int .i64 a1_0, .int .i64 a1_1] 30 (0, 0)) (by (with_reducible repeat (first | refine blk_drewN ?_ _ | refine blk_drew ?_ | refine blk_alloc ?_ _)); exact BK162.out) hb); have n5_ := Aside0.mk (blk_below (g := gb165) (o := .cells #[.int .i64 ((rd_T30 l0_0 x21_1).f0), .int .i64 ((rd_T30 l0_0 x21_1).f1)] 30 (0, 0)) (by (with_reducible repeat (first | refine blk_drewN ?_ _ | refine blk_drew ?_ | refine blk_alloc ?_ _)); exact BK165.out) hb); have n6_ := Aside0.mk (below_step (by repeat (first | (with_reducible first | exact HB.out | apply below_alloc | apply pw_below_drewN | apply below_drew1 | refine below_set ?_ GE161.out | refine below_set ?_ GE162.out | refine below_set ?_ GE165.out) | exact HB.out)) hb); have n7_ := Aside0.mk (hbox); have n8_ := Aside0.mk ((by rw [hg]; exact (below_size (by repeat (first | (with_reducible first | exact HB.out | apply below_alloc | apply pw_below_drewN | apply below_drew1 | refine below_set ?_ GE161.out | refine below_set ?_ GE162.out | refine below_set ?_ GE165.out) | exact HB.out))) : w.heap.size ≤ gb176)); have n9_ := Aside0.mk ((by rw [hg]; exact (below_size (by repeat (first | (with_reducible first | exact HB.out | apply below_alloc | apply pw_below_drewN | apply below_drew1 | refine below_set ?_ GE161.out | refine below_set ?_ GE162.out | refine below_set ?_ GE165.out) | exact HB.out))) : w.heap.size ≤ gb176)); have n10_ := Aside0.mk ((by rw [hg]; exact Nat.ne_of_lt (blk_lt (g := gS) (o := .cells #[.slice (some ad164) l0_0.length c0_0, .slice A0_1 l0_1.length c0_1] 66 (0, 0)) (by (with_reducible repeat (first | refine blk_drewN ?_ _ | refine blk_drew ?_ | refine blk_alloc ?_ _)); exact BK161.out)) : gS ≠ gb176)); have n11_ := Aside0.mk ((by rw [hg]; exact Nat.ne_of_gt (blk_lt (g := gS) (o := .cells #[.slice (some ad164) l0_0.length c0_0, .slice A0_1 l0_1.length c0_1] 66 (0, 0)) (by (with_reducible repeat (first | refine blk_drewN ?_ _ | refine blk_drew ?_ | refine blk_alloc ?_ _)); exact BK161.out)) : gb176 ≠ gS)); have n12_ := Aside0.mk ((by rw [hg]; exact Nat.ne_of_lt (blk_lt (g := gb162) (o := .cells #[.int .i64 a1_0, .int .i64 a1_1] 30 (0, 0)) (by (with_reducible repeat (first | refine blk_drewN ?_ _ | refine blk_drew ?_ | refine blk_alloc ?_ _)); exact BK162.out)) : gb162 ≠ gb176)); have n13_ := Aside0.mk ((by rw [hg]; exact Nat.ne_of_gt (blk_lt (g := gb162) (o := .cells #[.int .i64 a1_0, .int .i64 a1_1] 30 (0, 0)) (by (with_reducible repeat (first | refine blk_drewN ?_ _ | refine blk_drew ?_ | refine blk_alloc ?_ _)); exact BK162.out)) : gb176 ≠ gb162)); have n14_ := Aside0.mk ((by rw [hg]; exact Nat.ne_of_lt (blk_lt (g := gb165) (o := .cells #[.int .i64 ((rd_T30 l0_0 x21_1).f0), .int .i64 ((rd_T30 l0_0 x21_1).f1)] 30 (0, 0)) (by (with_reducible repeat (first | refine blk_drewN ?_ _ | refine blk_drew ?_ | refine blk_alloc ?_ _)); exact BK165.out)) : gb165 ≠ gb176)); have n15_ := Aside0.mk ((by rw [hg]; exact Nat.ne_of_gt (blk_lt (g := gb165) (o := .cells #[.int .i64 ((rd_T30 l0_0 x21_1).f0), .int .i64 ((rd_T30 l0_0 x21_1).f1)] 30 (0, 0)) (by (with_reducible repeat (first | refine blk_drewN ?_ _ | refine blk_drew ?_ | refine blk_alloc ?_ _)); exact BK165.out)) : gb176 ≠ gb165)); clear HO_4; clear HO_5; clear HO_30; clear BK161; clear BK162; clear BK165; clear HB; have HO_4 := n0_; have HO_5 := n1_; have HO_30 := n2_; have BK161 := n3_; have BK162 := n4_; have BK165 := n5_; have HB := n6_; have BK176 := n7_; have GW176 := n8_; have GE176 := n9_; have NB161_176 := n10_; have NB176_161 := n11_; have NB162_176 := n12_; have NB176_162 := n13_; have NB165_176 := n14_; have NB176_165 := n15_; clear n0_ n1_ n2_ n3_ n4_ n5_ n6_ n7_ n8_ n9_ n10_ n11_ n12_ n13_ n14_ n15_; clear hb hbox hg; have hnb42 := NB176_161.out; have hnc42 := NB161_176.out; have hnb43 := NB176_162.out; have hnc43 := NB162_176.out; have hnb44 := NB176_165.out; have hnc44 := NB165_176.out; have hcz45_0 : w41.cell? ⟨gb176, 0, none⟩ = some (.int .i64 0) := (blk_cell BK176.out 0).trans rfl; have hcz45_1 : w41.cell? ⟨gb176, 1, none⟩ = some (.int .i64 0) := (blk_cell BK176.out 1).trans rfl; have hfz45_0 := blk_frozen BK176.out 0; have hfz45_1 := blk_frozen BK176.out 1; obtain ⟨Ao46, co46, eo46⟩ := Kd.R_slice HO_4.out; subst eo46; obtain ⟨Ao47, co47, eo47⟩ := Kd.R_slice HO_5.out; subst eo47))
                                have n0_ : Aside0 (Kd.R k30 30 ((w41.setCell ⟨gb176, 0, none⟩ (.int .i64 ((rd_T30 t172 x32_2).f0))).setCell ⟨gb176, 1, none⟩ (.int .i64 ((rd_T30 t172 x32_2).f1))) w.heap.size (fun k_ => some k_ ≠ (.slice (some ad175) t172.length co33 : Value).ownBlock ∧ k_ ≠ gb162 ∧ k_ ≠ gb165 ∧ k_ ≠ gb176) (.slice Ao46 x4_2.length co46) x4_2) := ⟨by (with_reducible repeat (first | apply Kd.R_alloc | apply Kd.R_drewN | apply Kd.R_drew)); exact Kd.R_mono (Kd.R_far (p := ⟨gb176, 1, none⟩) (Kd.R_far (p := ⟨gb176, 0, none⟩) (Kd.R_mono HO_4.out (fun k_ hk => (⟨hk, hk.2⟩ : _ ∧ k_ ≠ gb176))) (fun _ hk => hk.2) (.int .i64 ((rd_T30 t172 x32_2).f0))) (fun _ hk => hk.2) (.int .i64 ((rd_T30 t172 x32_2).f1))) (fun _ hk => ⟨hk.1.1.1, ⟨hk.1.1.2.1, ⟨hk.1.1.2.2, hk.1.2⟩⟩⟩)⟩
                                have n1_ : Aside0 (Kd.R Kd.string 9 ((w41.setCell ⟨gb176, 0, none⟩ (.int .i64 ((rd_T30 t172 x32_2).f0))).setCell ⟨gb176, 1, none⟩ (.int .i64 ((rd_T30 t172 x32_2).f1))) w.heap.size (fun _ => True) (.slice Ao47 x5_2.length co47) x5_2) := ⟨by (with_reducible repeat (first | apply Kd.R_alloc | apply Kd.R_drewN | apply Kd.R_drew)); exact Kd.R_mono (Kd.R_far (p := ⟨gb176, 1, none⟩) (Kd.R_far (p := ⟨gb176, 0, none⟩) (Kd.R_types HO_5.out BK176.out (by decide)) (fun _ hk => hk.2) (.int .i64 ((rd_T30 t172 x32_2).f0))) (fun _ hk => hk.2) (.int .i64 ((rd_T30 t172 x32_2).f1))) (fun _ hk => trivial)⟩
                                have n2_ : Aside0 (Kd.R k30 30 ((w41.setCell ⟨gb176, 0, none⟩ (.int .i64 ((rd_T30 t172 x32_2).f0))).setCell ⟨gb176, 1, none⟩ (.int .i64 ((rd_T30 t172 x32_2).f1))) w.heap.size (fun k_ => some k_ ≠ (.slice Ao46 x4_2.length co46 : Value).ownBlock ∧ k_ ≠ gb162 ∧ k_ ≠ gb165 ∧ k_ ≠ gb176) (.slice (some ad175) t172.length co33) t172) := ⟨by (with_reducible repeat (first | apply Kd.R_alloc | apply Kd.R_drewN | apply Kd.R_drew)); exact Kd.R_mono (Kd.R_far (p := ⟨gb176, 1, none⟩) (Kd.R_far (p := ⟨gb176, 0, none⟩) (Kd.R_mono HO_30.out (fun k_ hk => (⟨hk, hk.2⟩ : _ ∧ k_ ≠ gb176))) (fun _ hk => hk.2) (.int .i64 ((rd_T30 t172 x32_2).f0))) (fun _ hk => hk.2) (.int .i64 ((rd_T30 t172 x32_2).f1))) (fun _ hk => ⟨hk.1.1.1, ⟨hk.1.1.2.1, ⟨hk.1.1.2.2, hk.1.2⟩⟩⟩)⟩
                                have n3_ : Aside0 (((w41.setCell ⟨gb176, 0, none⟩ (.int .i64 ((rd_T30 t172 x32_2).f0))).setCell ⟨gb176, 1, none⟩ (.int .i64 ((rd_T30 t172 x32_2).f1))).heap[gS]? = some (.cells #[.slice (some ad164) l0_0.length c0_0, .slice A0_1 l0_1.length c0_1] 66 (0, 0))) := ⟨by (with_reducible repeat (first | refine blk_drewN ?_ _ | refine blk_drew ?_ | refine blk_alloc ?_ _)); refine blk_far ?_ NB161_176.out _; (with_reducible repeat (first | refine blk_drewN ?_ _ | refine blk_drew ?_ | refine blk_alloc ?_ _)); refine blk_far ?_ NB161_176.out _; (with_reducible repeat (first | refine blk_drewN ?_ _ | refine blk_drew ?_ | refine blk_alloc ?_ _)); exact BK161.out⟩
                                have n4_ : Aside0 (((w41.setCell ⟨gb176, 0, none⟩ (.int .i64 ((rd_T30 t172 x32_2).f0))).setCell ⟨gb176, 1, none⟩ (.int .i64 ((rd_T30 t172 x32_2).f1))).heap[gb162]? = some (.cells #[.int .i64 a1_0, .int .i64 a1_1] 30 (0, 0))) := ⟨by (with_reducible repeat (first | refine blk_drewN ?_ _ | refine blk_drew ?_ | refine blk_alloc ?_ _)); refine blk_far ?_ NB162_176.out _; (with_reducible repeat (first | refine blk_drewN ?_ _ | refine blk_drew ?_ | refine blk_alloc ?_ _)); refine blk_far ?_ NB162_176.out _; (with_reducible repeat (first | refine blk_drewN ?_ _ | refine blk_drew ?_ | refine blk_alloc ?_ _)); exact BK162.out⟩
                                have n5_ : Aside0 (((w41.setCell ⟨gb176, 0, none⟩ (.int .i64 ((rd_T30 t172 x32_2).f0))).setCell ⟨gb176, 1, none⟩ (.int .i64 ((rd_T30 t172 x32_2).f1))).heap[gb165]? = some (.cells #[.int .i64 ((rd_T30 l0_0 x21_1).f0), .int .i64 ((rd_T30 l0_0 x21_1).f1)] 30 (0, 0))) := ⟨by (with_reducible repeat (first | refine blk_drewN ?_ _ | refine blk_drew ?_ | refine blk_alloc ?_ _)); refine blk_far ?_ NB165_176.out _; (with_reducible repeat (first | refine blk_drewN ?_ _ | refine blk_drew ?_ | refine blk_alloc ?_ _)); refine blk_far ?_ NB165_176.out _; (with_reducible repeat (first | refine blk_drewN ?_ _ | refine blk_drew ?_ | refine blk_alloc ?_ _)); exact BK165.out⟩
                                have n6_ : Aside0 (((w41.setCell ⟨gb176, 0, none⟩ (.int .i64 ((rd_T30 t172 x32_2).f0))).setCell ⟨gb176, 1, none⟩ (.int .i64 ((rd_T30 t172 x32_2).f1))).heap[gb176]? = some (.cells #[.int .i64 ((rd_T30 t172 x32_2).f0), .int .i64 ((rd_T30 t172 x32_2).f1)] 30 (0, 0))) := ⟨by (with_reducible repeat (first | refine blk_drewN ?_ _ | refine blk_drew ?_ | refine blk_alloc ?_ _)); refine blk_put (cs := #[.int .i64 ((rd_T30 t172 x32_2).f0), .int .i64 0]) ?_ 1 _ rfl; (with_reducible repeat (first | refine blk_drewN ?_ _ | refine blk_drew ?_ | refine blk_alloc ?_ _)); refine blk_put (cs := #[.int .i64 0, .int .i64 0]) ?_ 0 _ rfl; (with_reducible repeat (first | refine blk_drewN ?_ _ | refine blk_drew ?_ | refine blk_alloc ?_ _)); exact BK176.out⟩
                                have n7_ : Aside0 (Below w.heap.size w ((w41.setCell ⟨gb176, 0, none⟩ (.int .i64 ((rd_T30 t172 x32_2).f0))).setCell ⟨gb176, 1, none⟩ (.int .i64 ((rd_T30 t172 x32_2).f1)))) := ⟨by repeat (first | (with_reducible first | exact HB.out | apply below_alloc | apply pw_below_drewN | apply below_drew1 | refine below_set ?_ GE161.out | refine below_set ?_ GE162.out | refine below_set ?_ GE165.out | refine below_set ?_ GE176.out) | exact HB.out)⟩
                                (try clear HO_4)
                                (try clear HO_5)
                                (try clear HO_30)
                                (try clear BK161)
                                (try clear BK162)
                                (try clear BK165)
                                (try clear BK176)
                                (try clear HB)
                                generalize ((w41.setCell ⟨gb176, 0, none⟩ (.int .i64 ((rd_T30 t172 x32_2).f0))).setCell ⟨gb176, 1, none⟩ (.int .i64 ((rd_T30 t172 x32_2).f1))) = w48 at n0_ n1_ n2_ n3_ n4_ n5_ n6_ n7_ ⊢
                                have HO_4 := n0_
                                have HO_5 := n1_
                                have HO_30 := n2_
                                have BK161 := n3_
                                have BK162 := n4_
                                have BK165 := n5_
                                have BK176 := n6_
                                have HB := n7_
                                clear n0_ n1_ n2_ n3_ n4_ n5_ n6_ n7_
                                have n0_ := Aside0.mk (Kd.R_drew HO_4.out)
                                have n1_ := Aside0.mk (Kd.R_drew HO_5.out)
                                have n2_ := Aside0.mk (Kd.R_drew HO_30.out)
                                have n3_ := Aside0.mk (blk_drew BK161.out)
                                have n4_ := Aside0.mk (blk_drew BK162.out)
                                have n5_ := Aside0.mk (blk_drew BK165.out)
                                have n6_ := Aside0.mk (blk_drew BK176.out)
                                have n7_ := Aside0.mk (below_drew1 HB.out)
                                clear HO_4
                                clear HO_5
                                clear HO_30
                                clear BK161
                                clear BK162
                                clear BK165
                                clear BK176
                                clear HB
                                have HO_4 := n0_
                                have HO_5 := n1_
                                have HO_30 := n2_
                                have BK161 := n3_
                                have BK162 := n4_
                                have BK165 := n5_
                                have BK176 := n6_
                                have HB := n7_
                                clear n0_ n1_ n2_ n3_ n4_ n5_ n6_ n7_
                                have p183 : 0 ≤ (x21_1 : Int) := of_decide_eq_true (by first | (with_reducible assumption) | assumption)
                                have q183 : x21_1 < (l0_1.length : Int) := of_decide_eq_true (by first | (with_reducible assumption) | assumption)
                                obtain ⟨ad183, e183, hx183_0⟩ := Kd.at_string HR0_1.out x21_1 p183 q183
                                have hw183_0 := hx183_0
                                cases e183
                                replace hx183_0 := (HB.out.cell (World.block_lt_of_cell? w _ hx183_0)).trans hx183_0
                                replace p183 := eq_true p183
                                replace q183 := eq_true q183
                                refine start_ (n := 16) (S := fun w' => w'.cell? ⟨gb176, 0, none⟩ = some (.int .i64 ((rd_T30 t172 x32_2).f0)) ∧ w'.cell? ⟨gb176, 1, none⟩ = some (.int .i64 ((rd_T30 t172 x32_2).f1)) ∧ w'.cell? ⟨gS, 0, none⟩ = some (.slice (some ad164) l0_0.length c0_0) ∧ w'.cell? ⟨gS, 1, none⟩ = some (.slice (some ad183) l0_1.length c0_1) ∧ w'.cell? (ad183.add (x21_1).toNat) = some (.string (rdOf ByteArray.empty l0_1 x21_1))) (ds := []) #[false, false, false, false, false, false, false, false, false, false, false, false, false, false, false, false] (by kernel_rfl) rfl rfl ⟨(blk_cell BK176.out 0).trans rfl, (blk_cell BK176.out 1).trans rfl, (blk_cell BK161.out 0).trans rfl, (blk_cell BK161.out 1).trans rfl, ((HB.out.cell (World.block_lt_of_cell? w _ hw183_0)).trans hw183_0)⟩ (fun hHeld => ?_); refine with_tabW span_Map_string_Drop.tab10 span_Map_string_Drop.bits10 (fun HT_ HW_ => ?_)
                                generalize w48.drew = w49 at HO_4 HO_5 HO_30 BK161 BK162 BK165 BK176 HB hx183_0 hHeld ⊢
                                refine pure_ (i := 0) (N := some 36) (v := ?_) (a' := ?_) #[true, false, false, false, false, false, false, false, false, false, false, false, false, false, false, false] rfl rfl (any_of HT_.out (by kernel_rfl)) (fun _ _ _ h => h) (Or.inl ⟨by rfl, ?_⟩) ?_ ?_
                                rotate_left
                                · intro w'
                                  go_simp
                                  with_reducible rfl
                                rotate_left
                                · simp only [Act.put, List.setIfInBounds_toArray, List.set_cons_zero, List.set_cons_succ, i64_w, i32_w]
                                  rfl
                                refine pure_ (i := 4) (N := some 40) (v := ?_) (a' := ?_) #[true, false, false, false, true, false, false, false, false, false, false, false, false, false, false, false] rfl rfl (any_of HT_.out (by kernel_rfl)) (fun _ _ _ h => h) (Or.inl ⟨by rfl, ?_⟩) ?_ ?_
                                rotate_left
                                · intro w'
                                  go_simp
                                  with_reducible rfl
                                rotate_left
                                · simp only [Act.put, List.setIfInBounds_toArray, List.set_cons_zero, List.set_cons_succ, i64_w, i32_w]
                                  rfl
                                refine pure_ (i := 5) (N := some 41) (v := ?_) (a' := ?_) #[true, false, false, false, true, true, false, false, false, false, false, false, false, false, false, false] rfl rfl (any_of HT_.out (by kernel_rfl)) (fun _ _ _ h => h) (Or.inl ⟨by rfl, ?_⟩) ?_ ?_
                                rotate_left
                                · intro w'
                                  go_simp
                                  with_reducible rfl
                                rotate_left
                                · simp only [Act.put, List.setIfInBounds_toArray, List.set_cons_zero, List.set_cons_succ, i64_w, i32_w]
                                  rfl
                                refine pure_ (i := 6) (N := some 42) (v := ?_) (a' := ?_) #[true, false, false, false, true, true, true, false, false, false, false, false, false, false, false, false] rfl rfl (any_of HT_.out (by kernel_rfl)) (fun _ _ _ h => h) (Or.inl ⟨by rfl, ?_⟩) ?_ ?_
                                rotate_left
                                · intro w'
                                  go_simp
                                  with_reducible rfl
                                rotate_left
                                · simp only [Act.put, List.setIfInBounds_toArray, List.set_cons_zero, List.set_cons_succ, i64_w, i32_w]
                                  rfl
                                refine pure_ (i := 7) (N := some 43) (v := ?_) (a' := ?_) #[true, false, false, false, true, true, true, true, false, false, false, false, false, false, false, false] rfl rfl (any_of HT_.out (by kernel_rfl)) (fun _ _ _ h => h) (Or.inl ⟨by rfl, ?_⟩) ?_ ?_
                                rotate_left
                                · intro w'
                                  go_simp
                                  with_reducible rfl
                                rotate_left
                                · simp only [Act.put, List.setIfInBounds_toArray, List.set_cons_zero, List.set_cons_succ, i64_w, i32_w]
                                  rfl
                                refine pure_ (i := 9) (N := some 45) (v := ?_) (a' := ?_) #[true, false, false, false, true, true, true, true, false, true, false, false, false, false, false, false] rfl rfl (any_of HT_.out (by kernel_rfl)) (fun _ _ _ h => h) (Or.inl ⟨by rfl, ?_⟩) ?_ ?_
                                rotate_left
                                · intro w'
                                  go_simp
                                  with_reducible rfl
                                rotate_left
                                · simp only [Act.put, List.setIfInBounds_toArray, List.set_cons_zero, List.set_cons_succ, i64_w, i32_w]
                                  rfl
                                refine take_ (i := 1) (N := some 37) (v := ?_) (a' := ?_) #[true, true, false, false, true, true, true, true, false, true, false, false, false, false, false, false] rfl rfl (take_ofW HT_.out HW_.out (by kernel_rfl)) (fun _ _ _ h => h) (Or.inl ⟨by rfl, ?_⟩) hHeld ?_ ?_
                                rotate_left
                                · rintro w' ⟨s0, s1, s2, s3, s4⟩
                                  go_simp
                                  with_reducible rfl
                                rotate_left
                                · simp only [Act.put, List.setIfInBounds_toArray, List.set_cons_zero, List.set_cons_succ, i64_w, i32_w]
                                  rfl
                                refine take_ (i := 8) (N := some 44) (v := ?_) (a' := ?_) #[true, true, false, false, true, true, true, true, true, true, false, false, false, false, false, false] rfl rfl (take_ofW HT_.out HW_.out (by kernel_rfl)) (fun _ _ _ h => h) (Or.inl ⟨by rfl, ?_⟩) hHeld ?_ ?_
                                rotate_left
                                · rintro w' ⟨s0, s1, s2, s3, s4⟩
                                  go_simp
                                  with_reducible rfl
                                rotate_left
                                · simp only [Act.put, List.setIfInBounds_toArray, List.set_cons_zero, List.set_cons_succ, i64_w, i32_w]
                                  rfl
                                refine pure_ (i := 10) (N := some 46) (v := ?_) (a' := ?_) #[true, true, false, false, true, true, true, true, true, true, true, false, false, false, false, false] rfl rfl (any_of HT_.out (by kernel_rfl)) (fun _ _ _ h => h) (Or.inl ⟨by rfl, ?_⟩) ?_ ?_
                                rotate_left
                                · intro w'
                                  go_simp
                                  with_reducible rfl
                                rotate_left
                                · simp only [Act.put, List.setIfInBounds_toArray, List.set_cons_zero, List.set_cons_succ, i64_w, i32_w]
                                  rfl
                                refine take_ (i := 11) (N := some 47) (v := ?_) (a' := ?_) #[true, true, false, false, true, true, true, true, true, true, true, true, false, false, false, false] rfl rfl (take_ofW HT_.out HW_.out (by kernel_rfl)) (fun _ _ _ h => h) (Or.inl ⟨by rfl, ?_⟩) hHeld ?_ ?_
                                rotate_left
                                · rintro w' ⟨s0, s1, s2, s3, s4⟩
                                  go_simp
                                  with_reducible rfl
                                rotate_left
                                · simp only [Act.put, List.setIfInBounds_toArray, List.set_cons_zero, List.set_cons_succ, i64_w, i32_w]
                                  rfl
                                refine join_ (σ := Value × Value × Value) 3 #[true, true, true, true, true, true, true, true, true, true, true, true, true, false, false, false] (fun s_ => [(38, s_.1), (39, s_.2.1), (48, s_.2.2)]) (fun s_ w' => (w'.cell? ⟨gb176, 0, none⟩ = some (.int .i64 ((rd_T30 t172 x32_2).f0)) ∧ w'.cell? ⟨gb176, 1, none⟩ = some (.int .i64 ((rd_T30 t172 x32_2).f1)) ∧ w'.cell? ⟨gS, 0, none⟩ = some (.slice (some ad164) l0_0.length c0_0) ∧ w'.cell? ⟨gS, 1, none⟩ = some (.slice (some ad183) l0_1.length c0_1) ∧ w'.cell? (ad183.add (x21_1).toNat) = some (.string (rdOf ByteArray.empty l0_1 x21_1))) ∧ (Kd.R k30 30 w' w.heap.size (fun k_ => some k_ ≠ (s_.2.1 : Value).ownBlock ∧ some k_ ≠ (.slice (some ad175) t172.length co33 : Value).ownBlock ∧ k_ ≠ gb162 ∧ k_ ≠ gb165 ∧ k_ ≠ gb176) s_.1 y177) ∧ (Kd.R k30 30 w' w.heap.size (fun k_ => some k_ ≠ (s_.1 : Value).ownBlock ∧ some k_ ≠ (.slice (some ad175) t172.length co33 : Value).ownBlock ∧ k_ ≠ gb162 ∧ k_ ≠ gb165 ∧ k_ ≠ gb176) s_.2.1 y180) ∧ (Kd.R Kd.string 9 w' w.heap.size (fun k_ => some k_ ≠ (.slice Ao47 x5_2.length co47 : Value).ownBlock) s_.2.2 y184) ∧ (Kd.R k30 30 w' w.heap.size (fun k_ => some k_ ≠ (s_.1 : Value).ownBlock ∧ some k_ ≠ (s_.2.1 : Value).ownBlock ∧ k_ ≠ gb162 ∧ k_ ≠ gb165 ∧ k_ ≠ gb176) (.slice (some ad175) t172.length co33) t172) ∧ (Kd.R Kd.string 9 w' w.heap.size (fun k_ => some k_ ≠ (s_.2.2 : Value).ownBlock) (.slice Ao47 x5_2.length co47) x5_2) ∧ (w'.heap[gS]? = some (.cells #[.slice (some ad164) l0_0.length c0_0, .slice (some ad183) l0_1.length c0_1] 66 (0, 0))) ∧ (w'.heap[gb162]? = some (.cells #[.int .i64 a1_0, .int .i64 a1_1] 30 (0, 0))) ∧ (w'.heap[gb165]? = some (.cells #[.int .i64 ((rd_T30 l0_0 x21_1).f0), .int .i64 ((rd_T30 l0_0 x21_1).f1)] 30 (0, 0))) ∧ (w'.heap[gb176]? = some (.cells #[.int .i64 ((rd_T30 t172 x32_2).f0), .int .i64 ((rd_T30 t172 x32_2).f1)] 30 (0, 0))) ∧ (Below w.heap.size w w')) ?_ ?_
                                rotate_left
                                · intro hCont
                                  refine two_ (i := 2) (j := 12) (Ni := some 38) (Nj := some 48) #[true, true, true, false, true, true, true, true, true, true, true, true, false, false, false, false] #[true, true, false, false, true, true, true, true, true, true, true, true, true, false, false, false] rfl rfl rfl rfl (two_of HT_.out (by kernel_rfl)) (by decide) (by decide) (fun K hK => ?_) (fun K hK => ?_)
                                  · skip
                                    refine Kd.R_lit_step k30 _ 30 ?hg (N := 38) ?hd (xs := ([(⟨(rd_T30 t172 x32_2).f0, (rd_T30 t172 x32_2).f1⟩ : S30)] : List (S30))) (inner := [.int .i64 ((rd_T30 t172 x32_2).f0), .int .i64 ((rd_T30 t172 x32_2).f1)]) (ok := fun _ => True) (okp := fun _ => True) ?hr ?hp (fun _ hk => hk) trivial (Below.refl _ _) (Nat.le_refl _) (by simp) ?_; (case hd => rfl); (case hg => rfl); (case hr => first | (go_simp; done) | (go_simp; rfl)); (case hp => exact (Reps.c2 (show Kd.M k30 _ _ _ (⟨(rd_T30 t172 x32_2).f0, (rd_T30 t172 x32_2).f1⟩ : S30) [.int .i64 ((rd_T30 t172 x32_2).f0), .int .i64 ((rd_T30 t172 x32_2).f1)] from (k30_mkM _ _ _ (⟨(rd_T30 t172 x32_2).f0, (rd_T30 t172 x32_2).f1⟩ : S30) )) (Reps.none _ _)))
                                    intro v178 w50 ho51 hb hg_ hnew_
                                    clear hg_ hnew_
                                    (first | rw [← Ny177.out] at ho51 | (simp only [Int.reduceToNat] at ho51; rw [← Ny177.out] at ho51))
                                    have n0_ := Aside0.mk (Kd.R_elder' (by (with_reducible repeat (first | apply Kd.R_alloc | apply Kd.R_drewN | apply Kd.R_drew)); exact HO_4.out) (Kd.R_base ho51) hb)
                                    have n1_ := Aside0.mk (Kd.R_below (by (with_reducible repeat (first | apply Kd.R_alloc | apply Kd.R_drewN | apply Kd.R_drew)); exact HO_5.out) hb)
                                    have n2_ := Aside0.mk (Kd.R_elder' (by (with_reducible repeat (first | apply Kd.R_alloc | apply Kd.R_drewN | apply Kd.R_drew)); exact HO_30.out) (Kd.R_base ho51) hb)
                                    have n3_ := Aside0.mk (Kd.R_lower (Kd.R_newB (Kd.R_newB (Kd.R_newB (Kd.R_new' (Kd.R_new' ho51 (Kd.R_lt (by (with_reducible repeat (first | apply Kd.R_alloc | apply Kd.R_drewN | apply Kd.R_drew)); exact HO_4.out))) (Kd.R_lt (by (with_reducible repeat (first | apply Kd.R_alloc | apply Kd.R_drewN | apply Kd.R_drew)); exact HO_30.out))) (g := gb162) (o := .cells #[.int .i64 a1_0, .int .i64 a1_1] 30 (0, 0)) (by (with_reducible repeat (first | refine blk_drewN ?_ _ | refine blk_drew ?_ | refine blk_alloc ?_ _)); exact BK162.out)) (g := gb165) (o := .cells #[.int .i64 ((rd_T30 l0_0 x21_1).f0), .int .i64 ((rd_T30 l0_0 x21_1).f1)] 30 (0, 0)) (by (with_reducible repeat (first | refine blk_drewN ?_ _ | refine blk_drew ?_ | refine blk_alloc ?_ _)); exact BK165.out)) (g := gb176) (o := .cells #[.int .i64 ((rd_T30 t172 x32_2).f0), .int .i64 ((rd_T30 t172 x32_2).f1)] 30 (0, 0)) (by (with_reducible repeat (first | refine blk_drewN ?_ _ | refine blk_drew ?_ | refine blk_alloc ?_ _)); exact BK176.out)) (below_size (by repeat (first | (with_reducible first | exact HB.out | apply below_alloc | apply pw_below_drewN | apply below_drew1 | refine below_set ?_ GE161.out | refine below_set ?_ GE162.out | refine below_set ?_ GE165.out | refine below_set ?_ GE176.out) | exact HB.out))))
                                    have n4_ := Aside0.mk (blk_below (g := gS) (o := .cells #[.slice (some ad164) l0_0.length c0_0, .slice (some ad183) l0_1.length c0_1] 66 (0, 0)) (by (with_reducible repeat (first | refine blk_drewN ?_ _ | refine blk_drew ?_ | refine blk_alloc ?_ _)); exact BK161.out) hb)
                                    have n5_ := Aside0.mk (blk_below (g := gb162) (o := .cells #[.int .i64 a1_0, .int .i64 a1_1] 30 (0, 0)) (by (with_reducible repeat (first | refine blk_drewN ?_ _ | refine blk_drew ?_ | refine blk_alloc ?_ _)); exact BK162.out) hb)
                                    have n6_ := Aside0.mk (blk_below (g := gb165) (o := .cells #[.int .i64 ((rd_T30 l0_0 x21_1).f0), .int .i64 ((rd_T30 l0_0 x21_1).f1)] 30 (0, 0)) (by (with_reducible repeat (first | refine blk_drewN ?_ _ | refine blk_drew ?_ | refine blk_alloc ?_ _)); exact BK165.out) hb)
                                    have n7_ := Aside0.mk (blk_below (g := gb176) (o := .cells #[.int .i64 ((rd_T30 t172 x32_2).f0), .int .i64 ((rd_T30 t172 x32_2).f1)] 30 (0, 0)) (by (with_reducible repeat (first | refine blk_drewN ?_ _ | refine blk_drew ?_ | refine blk_alloc ?_ _)); exact BK176.out) hb)
                                    have n8_ := Aside0.mk (below_step (by repeat (first | (with_reducible first | exact HB.out | apply below_alloc | apply pw_below_drewN | apply below_drew1 | refine below_set ?_ GE161.out | refine below_set ?_ GE162.out | refine below_set ?_ GE165.out | refine below_set ?_ GE176.out) | exact HB.out)) hb)
                                    clear HO_4
                                    clear HO_5
                                    clear HO_30
                                    clear BK161
                                    clear BK162
                                    clear BK165
                                    clear BK176
                                    clear HB
                                    have HO_4 := n0_
                                    have HO_5 := n1_
                                    have HO_30 := n2_
                                    have HO179 := n3_
                                    have BK161 := n4_
                                    have BK162 := n5_
                                    have BK165 := n6_
                                    have BK176 := n7_
                                    have HB := n8_
                                    clear n0_ n1_ n2_ n3_ n4_ n5_ n6_ n7_ n8_
                                    clear hb ho51
                                    obtain ⟨Ao53, co53, eo53⟩ := Kd.R_slice HO179.out
                                    (first | subst eo53 | (injection eo53 with f1_ f2_ f3_; have f4_ := f1_.symm; have f5_ := f3_.symm; clear f1_ f2_ f3_; subst f4_; subst f5_))
                                    refine hK.out _ _ ⟨(blk_cell BK176.out 0).trans rfl, (blk_cell BK176.out 1).trans rfl, (blk_cell BK161.out 0).trans rfl, (blk_cell BK161.out 1).trans rfl, ((HB.out.cell (World.block_lt_of_cell? w _ hw183_0)).trans hw183_0)⟩ (fun hHeld => ?_)
                                    clear hK K
                                    refine norm_ (a' := ?_) ?_ ?_
                                    rotate_left
                                    · show Act.put _ (some 38) _ = _
                                      simp only [Act.put, List.setIfInBounds_toArray, List.set_cons_zero, List.set_cons_succ, i64_w, i32_w]
                                      rfl
                                    refine two_ (i := 3) (j := 12) (Ni := some 39) (Nj := some 48) #[true, true, true, true, true, true, true, true, true, true, true, true, false, false, false, false] #[true, true, true, false, true, true, true, true, true, true, true, true, true, false, false, false] rfl rfl rfl rfl (two_of HT_.out (by kernel_rfl)) (by decide) (by decide) (fun K hK => ?_) (fun K hK => ?_)
                                    · skip
                                      refine Kd.R_append_rows_step k30 (w0 := w) w.heap.size (by rfl) (.tmp 36) (.tmp 38) 22 30 (.agg #[(.int .i64 0), (.int .i64 0)]) 16 rfl Try.underlying22 info30 rfl (by decide) (by omega) (.slice Ao46 x4_2.length co46) x4_2 y177 _ _ _ (fun k_ => some k_ ≠ (.slice (some ad175) t172.length co33 : Value).ownBlock ∧ some k_ ≠ (.slice Ao53 y177.length co53 : Value).ownBlock ∧ k_ ≠ gb162 ∧ k_ ≠ gb165 ∧ k_ ≠ gb176) (fun _ => False) rfl rfl ?aO ?aR (fun _ _ h => h) (fun _ h => h.elim) ?aF ?aB ?aS ?aL ?_
                                      (case aR => repeat (first | exact (Kd.R_reads' HO179.out).2.2 | (with_reducible refine Kd.C_alloc ?_ _) | (with_reducible refine Kd.C_drewN ?_ _) | (with_reducible refine Kd.C_drew ?_)))
                                      (case aB => exact (by repeat (first | (with_reducible first | exact HB.out | apply below_alloc | apply pw_below_drewN | apply below_drew1 | refine below_set ?_ GE161.out | refine below_set ?_ GE162.out | refine below_set ?_ GE165.out | refine below_set ?_ GE176.out) | exact HB.out)))
                                      (case aF => exact (fun k_ hk => ⟨Kd.fresh' (Kd.R_lt (by (with_reducible repeat (first | apply Kd.R_alloc | apply Kd.R_drewN | apply Kd.R_drew)); exact HO_30.out)) k_ hk, Kd.fresh' (Kd.R_lt (by (with_reducible repeat (first | apply Kd.R_alloc | apply Kd.R_drewN | apply Kd.R_drew)); exact HO179.out)) k_ hk, Kd.freshB (g := gb162) (o := .cells #[.int .i64 a1_0, .int .i64 a1_1] 30 (0, 0)) (by (with_reducible repeat (first | refine blk_drewN ?_ _ | refine blk_drew ?_ | refine blk_alloc ?_ _)); exact BK162.out) k_ hk, Kd.freshB (g := gb165) (o := .cells #[.int .i64 ((rd_T30 l0_0 x21_1).f0), .int .i64 ((rd_T30 l0_0 x21_1).f1)] 30 (0, 0)) (by (with_reducible repeat (first | refine blk_drewN ?_ _ | refine blk_drew ?_ | refine blk_alloc ?_ _)); exact BK165.out) k_ hk, Kd.freshB (g := gb176) (o := .cells #[.int .i64 ((rd_T30 t172 x32_2).f0), .int .i64 ((rd_T30 t172 x32_2).f1)] 30 (0, 0)) (by (with_reducible repeat (first | refine blk_drewN ?_ _ | refine blk_drew ?_ | refine blk_alloc ?_ _)); exact BK176.out) k_ hk⟩))
                                      (case aO => exact (by (with_reducible repeat (first | apply Kd.R_alloc | apply Kd.R_drewN | apply Kd.R_drew)); exact Kd.R_mono HO_4.out (fun _ hk => ⟨hk.1.1, ⟨hk.2, ⟨hk.1.2.1, ⟨hk.1.2.2.1, hk.1.2.2.2⟩⟩⟩⟩)))
                                      (case aS => exact (below_size (by repeat (first | (with_reducible first | exact HB.out | apply below_alloc | apply pw_below_drewN | apply below_drew1 | refine below_set ?_ GE161.out | refine below_set ?_ GE162.out | refine below_set ?_ GE165.out | refine below_set ?_ GE176.out) | exact HB.out))))
                                      (case aL => have := LMc37.out; omega)
                                      intro v181 w52 ho hb hg hat
                                      rw [← Ny180.out] at ho
                                      have n0_ := Aside0.mk (Kd.R_over' (by (with_reducible repeat (first | apply Kd.R_alloc | apply Kd.R_drewN | apply Kd.R_drew)); exact HO_5.out) (Kd.R_typed (by (with_reducible repeat (first | apply Kd.R_alloc | apply Kd.R_drewN | apply Kd.R_drew)); exact HO_4.out)) (by decide) hg)
                                      have n1_ := Aside0.mk (Kd.R_after (ok := (fun k_ => some k_ ≠ (.slice Ao53 y177.length co53 : Value).ownBlock ∧ k_ ≠ gb162 ∧ k_ ≠ gb165 ∧ k_ ≠ gb176)) (by (with_reducible repeat (first | apply Kd.R_alloc | apply Kd.R_drewN | apply Kd.R_drew)); exact Kd.R_mono HO_30.out (fun _ hk => ⟨⟨hk.2, ⟨hk.1.2.1, ⟨hk.1.2.2.1, hk.1.2.2.2⟩⟩⟩, hk.1.1⟩)) hg hat)
                                      have n2_ := Aside0.mk (blk_grown (g := gS) (o := .cells #[.slice (some ad164) l0_0.length c0_0, .slice (some ad183) l0_1.length c0_1] 66 (0, 0)) (by (with_reducible repeat (first | refine blk_drewN ?_ _ | refine blk_drew ?_ | refine blk_alloc ?_ _)); exact BK161.out) hg (Kd.R_ne HO_4.out BK161.out (by decide)))
                                      have n3_ := Aside0.mk (blk_grown (g := gb162) (o := .cells #[.int .i64 a1_0, .int .i64 a1_1] 30 (0, 0)) (by (with_reducible repeat (first | refine blk_drewN ?_ _ | refine blk_drew ?_ | refine blk_alloc ?_ _)); exact BK162.out) hg (Kd.R_away HO_4.out (fun _ hk => hk.1.2.1)))
                                      have n4_ := Aside0.mk (blk_grown (g := gb165) (o := .cells #[.int .i64 ((rd_T30 l0_0 x21_1).f0), .int .i64 ((rd_T30 l0_0 x21_1).f1)] 30 (0, 0)) (by (with_reducible repeat (first | refine blk_drewN ?_ _ | refine blk_drew ?_ | refine blk_alloc ?_ _)); exact BK165.out) hg (Kd.R_away HO_4.out (fun _ hk => hk.1.2.2.1)))
                                      have n5_ := Aside0.mk (blk_grown (g := gb176) (o := .cells #[.int .i64 ((rd_T30 t172 x32_2).f0), .int .i64 ((rd_T30 t172 x32_2).f1)] 30 (0, 0)) (by (with_reducible repeat (first | refine blk_drewN ?_ _ | refine blk_drew ?_ | refine blk_alloc ?_ _)); exact BK176.out) hg (Kd.R_away HO_4.out (fun _ hk => hk.1.2.2.2)))
                                      have n6_ := Aside0.mk (Kd.R_after (ok := (fun k_ => some k_ ≠ (.slice (some ad175) t172.length co33 : Value).ownBlock ∧ k_ ≠ gb162 ∧ k_ ≠ gb165 ∧ k_ ≠ gb176)) (by (with_reducible repeat (first | apply Kd.R_alloc | apply Kd.R_drewN | apply Kd.R_drew)); exact Kd.R_mono HO179.out (fun _ hk => ⟨⟨hk.1.1.1.2, ⟨hk.1.1.2, ⟨hk.1.2, hk.2⟩⟩⟩, hk.1.1.1.1.2⟩)) hg hat)
                                      have n7_ := Aside0.mk (hb)
                                      have n8_ := Aside0.mk (ho)
                                      clear HO_5
                                      clear HO_30
                                      clear BK161
                                      clear BK162
                                      clear BK165
                                      clear BK176
                                      clear HO179
                                      clear HB
                                      clear HO_4
                                      have HO_5 := n0_
                                      have HO_30 := n1_
                                      have BK161 := n2_
                                      have BK162 := n3_
                                      have BK165 := n4_
                                      have BK176 := n5_
                                      have HO179 := n6_
                                      have HB := n7_
                                      have HO182 := n8_
                                      clear n0_ n1_ n2_ n3_ n4_ n5_ n6_ n7_ n8_
                                      clear ho hb hg hat
                                      refine hK.out _ _ ⟨(blk_cell BK176.out 0).trans rfl, (blk_cell BK176.out 1).trans rfl, (blk_cell BK161.out 0).trans rfl, (blk_cell BK161.out 1).trans rfl, ((HB.out.cell (World.block_lt_of_cell? w _ hw183_0)).trans hw183_0)⟩ (fun hHeld => ?_)
                                      clear hK K
                                      refine norm_ (a' := ?_) ?_ ?_
                                      rotate_left
                                      · show Act.put _ (some 39) _ = _
                                        simp only [Act.put, List.setIfInBounds_toArray, List.set_cons_zero, List.set_cons_succ, i64_w, i32_w]
                                        rfl
                                      refine one_ (i := 12) (N := some 48) #[true, true, true, true, true, true, true, true, true, true, true, true, true, false, false, false] rfl rfl (one_of HT_.out (by kernel_rfl)) (by decide) (fun K hK => ?_)
                                      refine Kd.R_lit_step Kd.string _ 9 ?hg (N := 48) ?hd (xs := ([rdOf ByteArray.empty l0_1 x21_1] : List ByteArray)) (inner := [.string (rdOf ByteArray.empty l0_1 x21_1)]) (ok := fun _ => True) (okp := fun _ => True) ?hr ?hp (fun _ hk => hk) trivial (Below.refl _ _) (Nat.le_refl _) (by simp) ?_; (case hd => rfl); (case hg => rfl); (case hr => first | (go_simp; done) | (go_simp; rfl)); (case hp => exact (Reps.one (show Kd.M Kd.string _ _ _ (rdOf ByteArray.empty l0_1 x21_1) [.string (rdOf ByteArray.empty l0_1 x21_1)] from rfl) (Reps.none _ _)))
                                      intro v185 w54 ho55 hb hg_ hnew_
                                      clear hg_ hnew_
                                      (first | rw [← Ny184.out] at ho55 | (simp only [Int.reduceToNat] at ho55; rw [← Ny184.out] at ho55))
                                      have n0_ := Aside0.mk (Kd.R_elder' (by (with_reducible repeat (first | apply Kd.R_alloc | apply Kd.R_drewN | apply Kd.R_drew)); exact HO_5.out) (Kd.R_base ho55) hb)
                                      have n1_ := Aside0.mk (Kd.R_below (by (with_reducible repeat (first | apply Kd.R_alloc | apply Kd.R_drewN | apply Kd.R_drew)); exact HO_30.out) hb)
                                      have n2_ := Aside0.mk (Kd.R_below (by (with_reducible repeat (first | apply Kd.R_alloc | apply Kd.R_drewN | apply Kd.R_drew)); exact HO179.out) hb)
                                      have n3_ := Aside0.mk (Kd.R_below (by (with_reducible repeat (first | apply Kd.R_alloc | apply Kd.R_drewN | apply Kd.R_drew)); exact HO182.out) hb)
                                      have n4_ := Aside0.mk (Kd.R_lower (Kd.R_new' ho55 (Kd.R_lt (by (with_reducible repeat (first | apply Kd.R_alloc | apply Kd.R_drewN | apply Kd.R_drew)); exact HO_5.out))) (below_size (by repeat (first | (with_reducible first | exact HB.out | apply below_alloc | apply pw_below_drewN | apply below_drew1 | refine below_set ?_ GE161.out | refine below_set ?_ GE162.out | refine below_set ?_ GE165.out | refine below_set ?_ GE176.out) | exact HB.out))))
                                      have n5_ := Aside0.mk (blk_below (g := gS) (o := .cells #[.slice (some ad164) l0_0.length c0_0, .slice (some ad183) l0_1.length c0_1] 66 (0, 0)) (by (with_reducible repeat (first | refine blk_drewN ?_ _ | refine blk_drew ?_ | refine blk_alloc ?_ _)); exact BK161.out) hb)
                                      have n6_ := Aside0.mk (blk_below (g := gb162) (o := .cells #[.int .i64 a1_0, .int .i64 a1_1] 30 (0, 0)) (by (with_reducible repeat (first | refine blk_drewN ?_ _ | refine blk_drew ?_ | refine blk_alloc ?_ _)); exact BK162.out) hb)
                                      have n7_ := Aside0.mk (blk_below (g := gb165) (o := .cells #[.int .i64 ((rd_T30 l0_0 x21_1).f0), .int .i64 ((rd_T30 l0_0 x21_1).f1)] 30 (0, 0)) (by (with_reducible repeat (first | refine blk_drewN ?_ _ | refine blk_drew ?_ | refine blk_alloc ?_ _)); exact BK165.out) hb)
                                      have n8_ := Aside0.mk (blk_below (g := gb176) (o := .cells #[.int .i64 ((rd_T30 t172 x32_2).f0), .int .i64 ((rd_T30 t172 x32_2).f1)] 30 (0, 0)) (by (with_reducible repeat (first | refine blk_drewN ?_ _ | refine blk_drew ?_ | refine blk_alloc ?_ _)); exact BK176.out) hb)
                                      have n9_ := Aside0.mk (below_step (by repeat (first | (with_reducible first | exact HB.out | apply below_alloc | apply pw_below_drewN | apply below_drew1 | refine below_set ?_ GE161.out | refine below_set ?_ GE162.out | refine below_set ?_ GE165.out | refine below_set ?_ GE176.out) | exact HB.out)) hb)
                                      clear HO_5
                                      clear HO_30
                                      clear HO179
                                      clear HO182
                                      clear BK161
                                      clear BK162
                                      clear BK165
                                      clear BK176
                                      clear HB
                                      have HO_5 := n0_
                                      have HO_30 := n1_
                                      have HO179 := n2_
                                      have HO182 := n3_
                                      have HO186 := n4_
                                      have BK161 := n5_
                                      have BK162 := n6_
                                      have BK165 := n7_
                                      have BK176 := n8_
                                      have HB := n9_
                                      clear n0_ n1_ n2_ n3_ n4_ n5_ n6_ n7_ n8_ n9_
                                      clear hb ho55
                                      refine hK.out _ _ ⟨(blk_cell BK176.out 0).trans rfl, (blk_cell BK176.out 1).trans rfl, (blk_cell BK161.out 0).trans rfl, (blk_cell BK161.out 1).trans rfl, ((HB.out.cell (World.block_lt_of_cell? w _ hw183_0)).trans hw183_0)⟩ (fun hHeld => ?_)
                                      clear hK K
                                      refine norm_ (a' := ?_) ?_ ?_
                                      rotate_left
                                      · show Act.put _ (some 48) _ = _
                                        simp only [Act.put, List.setIfInBounds_toArray, List.set_cons_zero, List.set_cons_succ, i64_w, i32_w]
                                        rfl
                                      exact norm_ (by simp only [putAll, Act.put, List.setIfInBounds_toArray, List.set_cons_zero, List.set_cons_succ]) (hCont (.slice Ao53 y177.length co53, v181, v185) _ ⟨hHeld, (by (with_reducible repeat (first | apply Kd.R_alloc | apply Kd.R_drewN | apply Kd.R_drew)); exact Kd.R_mono HO179.out (fun _ hk => ⟨hk.2, ⟨hk.1.1, ⟨hk.1.2.1, ⟨hk.1.2.2.1, hk.1.2.2.2⟩⟩⟩⟩)), (by (with_reducible repeat (first | apply Kd.R_alloc | apply Kd.R_drewN | apply Kd.R_drew)); exact Kd.R_mono HO182.out (fun _ hk => ⟨hk.2.1, ⟨hk.1, ⟨hk.2.2.1, ⟨hk.2.2.2.1, hk.2.2.2.2⟩⟩⟩⟩)), (by (with_reducible repeat (first | apply Kd.R_alloc | apply Kd.R_drewN | apply Kd.R_drew)); exact Kd.R_mono HO186.out (fun _ hk => hk.2)), (by (with_reducible repeat (first | apply Kd.R_alloc | apply Kd.R_drewN | apply Kd.R_drew)); exact Kd.R_mono HO_30.out (fun _ hk => ⟨hk.1.1, ⟨hk.2, ⟨hk.1.2.1, ⟨hk.1.2.2.1, hk.1.2.2.2⟩⟩⟩⟩)), (by (with_reducible repeat (first | apply Kd.R_alloc | apply Kd.R_drewN | apply Kd.R_drew)); exact Kd.R_mono HO_5.out (fun _ hk => hk.2)), (by (with_reducible repeat (first | refine blk_drewN ?_ _ | refine blk_drew ?_ | refine blk_alloc ?_ _)); exact BK161.out), (by (with_reducible repeat (first | refine blk_drewN ?_ _ | refine blk_drew ?_ | refine blk_alloc ?_ _)); exact BK162.out), (by (with_reducible repeat (first | refine blk_drewN ?_ _ | refine blk_drew ?_ | refine blk_alloc ?_ _)); exact BK165.out), (by (with_reducible repeat (first | refine blk_drewN ?_ _ | refine blk_drew ?_ | refine blk_alloc ?_ _)); exact BK176.out), (by repeat (first | (with_reducible first | exact HB.out | apply below_alloc | apply pw_below_drewN | apply below_drew1 | refine below_set ?_ GE161.out | refine below_set ?_ GE162.out | refine below_set ?_ GE165.out | refine below_set ?_ GE176.out) | exact HB.out))⟩)
                                    · skip
                                      refine Kd.R_lit_step Kd.string _ 9 ?hg (N := 48) ?hd (xs := ([rdOf ByteArray.empty l0_1 x21_1] : List ByteArray)) (inner := [.string (rdOf ByteArray.empty l0_1 x21_1)]) (ok := fun _ => True) (okp := fun _ => True) ?hr ?hp (fun _ hk => hk) trivial (Below.refl _ _) (Nat.le_refl _) (by simp) ?_; (case hd => rfl); (case hg => rfl); (case hr => first | (go_simp; done) | (go_simp; rfl)); (case hp => exact (Reps.one (show Kd.M Kd.string _ _ _ (rdOf ByteArray.empty l0_1 x21_1) [.string (rdOf ByteArray.empty l0_1 x21_1)] from rfl) (Reps.none _ _)))
                                      intro v185 w52 ho53 hb hg_ hnew_
                                      clear hg_ hnew_
                                      (first | rw [← Ny184.out] at ho53 | (simp only [Int.reduceToNat] at ho53; rw [← Ny184.out] at ho53))
                                      have n0_ := Aside0.mk (Kd.R_below (by (with_reducible repeat (first | apply Kd.R_alloc | apply Kd.R_drewN | apply Kd.R_drew)); exact HO_4.out) hb)
                                      have n1_ := Aside0.mk (Kd.R_elder' (by (with_reducible repeat (first | apply Kd.R_alloc | apply Kd.R_drewN | apply Kd.R_drew)); exact HO_5.out) (Kd.R_base ho53) hb)
                                      have n2_ := Aside0.mk (Kd.R_below (by (with_reducible repeat (first | apply Kd.R_alloc | apply Kd.R_drewN | apply Kd.R_drew)); exact HO_30.out) hb)
                                      have n3_ := Aside0.mk (Kd.R_below (by (with_reducible repeat (first | apply Kd.R_alloc | apply Kd.R_drewN | apply Kd.R_drew)); exact HO179.out) hb)
                                      have n4_ := Aside0.mk (Kd.R_lower (Kd.R_new' ho53 (Kd.R_lt (by (with_reducible repeat (first | apply Kd.R_alloc | apply Kd.R_drewN | apply Kd.R_drew)); exact HO_5.out))) (below_size (by repeat (first | (with_reducible first | exact HB.out | apply below_alloc | apply pw_below_drewN | apply below_drew1 | refine below_set ?_ GE161.out | refine below_set ?_ GE162.out | refine below_set ?_ GE165.out | refine below_set ?_ GE176.out) | exact HB.out))))
                                      have n5_ := Aside0.mk (blk_below (g := gS) (o := .cells #[.slice (some ad164) l0_0.length c0_0, .slice (some ad183) l0_1.length c0_1] 66 (0, 0)) (by (with_reducible repeat (first | refine blk_drewN ?_ _ | refine blk_drew ?_ | refine blk_alloc ?_ _)); exact BK161.out) hb)
                                      have n6_ := Aside0.mk (blk_below (g := gb162) (o := .cells #[.int .i64 a1_0, .int .i64 a1_1] 30 (0, 0)) (by (with_reducible repeat (first | refine blk_drewN ?_ _ | refine blk_drew ?_ | refine blk_alloc ?_ _)); exact BK162.out) hb)
                                      have n7_ := Aside0.mk (blk_below (g := gb165) (o := .cells #[.int .i64 ((rd_T30 l0_0 x21_1).f0), .int .i64 ((rd_T30 l0_0 x21_1).f1)] 30 (0, 0)) (by (with_reducible repeat (first | refine blk_drewN ?_ _ | refine blk_drew ?_ | refine blk_alloc ?_ _)); exact BK165.out) hb)
                                      have n8_ := Aside0.mk (blk_below (g := gb176) (o := .cells #[.int .i64 ((rd_T30 t172 x32_2).f0), .int .i64 ((rd_T30 t172 x32_2).f1)] 30 (0, 0)) (by (with_reducible repeat (first | refine blk_drewN ?_ _ | refine blk_drew ?_ | refine blk_alloc ?_ _)); exact BK176.out) hb)
                                      have n9_ := Aside0.mk (below_step (by repeat (first | (with_reducible first | exact HB.out | apply below_alloc | apply pw_below_drewN | apply below_drew1 | refine below_set ?_ GE161.out | refine below_set ?_ GE162.out | refine below_set ?_ GE165.out | refine below_set ?_ GE176.out) | exact HB.out)) hb)
                                      clear HO_4
                                      clear HO_5
                                      clear HO_30
                                      clear HO179
                                      clear BK161
                                      clear BK162
                                      clear BK165
                                      clear BK176
                                      clear HB
                                      have HO_4 := n0_
                                      have HO_5 := n1_
                                      have HO_30 := n2_
                                      have HO179 := n3_
                                      have HO186 := n4_
                                      have BK161 := n5_
                                      have BK162 := n6_
                                      have BK165 := n7_
                                      have BK176 := n8_
                                      have HB := n9_
                                      clear n0_ n1_ n2_ n3_ n4_ n5_ n6_ n7_ n8_ n9_
                                      clear hb ho53
                                      obtain ⟨Ao55, co55, eo55⟩ := Kd.R_slice HO179.out
                                      (first | subst eo55 | (injection eo55 with f1_ f2_ f3_; have f4_ := f1_.symm; have f5_ := f3_.symm; clear f1_ f2_ f3_; subst f4_; subst f5_))
                                      refine hK.out _ _ ⟨(blk_cell BK176.out 0).trans rfl, (blk_cell BK176.out 1).trans rfl, (blk_cell BK161.out 0).trans rfl, (blk_cell BK161.out 1).trans rfl, ((HB.out.cell (World.block_lt_of_cell? w _ hw183_0)).trans hw183_0)⟩ (fun hHeld => ?_)
                                      clear hK K
                                      refine norm_ (a' := ?_) ?_ ?_
                                      rotate_left
                                      · show Act.put _ (some 48) _ = _
                                        simp only [Act.put, List.setIfInBounds_toArray, List.set_cons_zero, List.set_cons_succ, i64_w, i32_w]
                                        rfl
                                      refine one_ (i := 3) (N := some 39) #[true, true, true, true, true, true, true, true, true, true, true, true, true, false, false, false] rfl rfl (one_of HT_.out (by kernel_rfl)) (by decide) (fun K hK => ?_)
                                      refine Kd.R_append_rows_step k30 (w0 := w) w.heap.size (by rfl) (.tmp 36) (.tmp 38) 22 30 (.agg #[(.int .i64 0), (.int .i64 0)]) 16 rfl Try.underlying22 info30 rfl (by decide) (by omega) (.slice Ao46 x4_2.length co46) x4_2 y177 _ _ _ (fun k_ => some k_ ≠ (.slice (some ad175) t172.length co33 : Value).ownBlock ∧ some k_ ≠ (.slice Ao55 y177.length co55 : Value).ownBlock ∧ k_ ≠ gb162 ∧ k_ ≠ gb165 ∧ k_ ≠ gb176) (fun _ => False) rfl rfl ?aO ?aR (fun _ _ h => h) (fun _ h => h.elim) ?aF ?aB ?aS ?aL ?_
                                      (case aR => repeat (first | exact (Kd.R_reads' HO179.out).2.2 | (with_reducible refine Kd.C_alloc ?_ _) | (with_reducible refine Kd.C_drewN ?_ _) | (with_reducible refine Kd.C_drew ?_)))
                                      (case aB => exact (by repeat (first | (with_reducible first | exact HB.out | apply below_alloc | apply pw_below_drewN | apply below_drew1 | refine below_set ?_ GE161.out | refine below_set ?_ GE162.out | refine below_set ?_ GE165.out | refine below_set ?_ GE176.out) | exact HB.out)))
                                      (case aF => exact (fun k_ hk => ⟨Kd.fresh' (Kd.R_lt (by (with_reducible repeat (first | apply Kd.R_alloc | apply Kd.R_drewN | apply Kd.R_drew)); exact HO_30.out)) k_ hk, Kd.fresh' (Kd.R_lt (by (with_reducible repeat (first | apply Kd.R_alloc | apply Kd.R_drewN | apply Kd.R_drew)); exact HO179.out)) k_ hk, Kd.freshB (g := gb162) (o := .cells #[.int .i64 a1_0, .int .i64 a1_1] 30 (0, 0)) (by (with_reducible repeat (first | refine blk_drewN ?_ _ | refine blk_drew ?_ | refine blk_alloc ?_ _)); exact BK162.out) k_ hk, Kd.freshB (g := gb165) (o := .cells #[.int .i64 ((rd_T30 l0_0 x21_1).f0), .int .i64 ((rd_T30 l0_0 x21_1).f1)] 30 (0, 0)) (by (with_reducible repeat (first | refine blk_drewN ?_ _ | refine blk_drew ?_ | refine blk_alloc ?_ _)); exact BK165.out) k_ hk, Kd.freshB (g := gb176) (o := .cells #[.int .i64 ((rd_T30 t172 x32_2).f0), .int .i64 ((rd_T30 t172 x32_2).f1)] 30 (0, 0)) (by (with_reducible repeat (first | refine blk_drewN ?_ _ | refine blk_drew ?_ | refine blk_alloc ?_ _)); exact BK176.out) k_ hk⟩))
                                      (case aO => exact (by (with_reducible repeat (first | apply Kd.R_alloc | apply Kd.R_drewN | apply Kd.R_drew)); exact Kd.R_mono HO_4.out (fun _ hk => ⟨hk.1.1, ⟨hk.2, ⟨hk.1.2.1, ⟨hk.1.2.2.1, hk.1.2.2.2⟩⟩⟩⟩)))
                                      (case aS => exact (below_size (by repeat (first | (with_reducible first | exact HB.out | apply below_alloc | apply pw_below_drewN | apply below_drew1 | refine below_set ?_ GE161.out | refine below_set ?_ GE162.out | refine below_set ?_ GE165.out | refine below_set ?_ GE176.out) | exact HB.out))))
                                      (case aL => have := LMc37.out; omega)
                                      intro v181 w54 ho hb hg hat
                                      rw [← Ny180.out] at ho
                                      have n0_ := Aside0.mk (Kd.R_over' (by (with_reducible repeat (first | apply Kd.R_alloc | apply Kd.R_drewN | apply Kd.R_drew)); exact HO_5.out) (Kd.R_typed (by (with_reducible repeat (first | apply Kd.R_alloc | apply Kd.R_drewN | apply Kd.R_drew)); exact HO_4.out)) (by decide) hg)
                                      have n1_ := Aside0.mk (Kd.R_after (ok := (fun k_ => some k_ ≠ (.slice Ao55 y177.length co55 : Value).ownBlock ∧ k_ ≠ gb162 ∧ k_ ≠ gb165 ∧ k_ ≠ gb176)) (by (with_reducible repeat (first | apply Kd.R_alloc | apply Kd.R_drewN | apply Kd.R_drew)); exact Kd.R_mono HO_30.out (fun _ hk => ⟨⟨hk.2, ⟨hk.1.2.1, ⟨hk.1.2.2.1, hk.1.2.2.2⟩⟩⟩, hk.1.1⟩)) hg hat)
                                      have n2_ := Aside0.mk (blk_grown (g := gS) (o := .cells #[.slice (some ad164) l0_0.length c0_0, .slice (some ad183) l0_1.length c0_1] 66 (0, 0)) (by (with_reducible repeat (first | refine blk_drewN ?_ _ | refine blk_drew ?_ | refine blk_alloc ?_ _)); exact BK161.out) hg (Kd.R_ne HO_4.out BK161.out (by decide)))
                                      have n3_ := Aside0.mk (blk_grown (g := gb162) (o := .cells #[.int .i64 a1_0, .int .i64 a1_1] 30 (0, 0)) (by (with_reducible repeat (first | refine blk_drewN ?_ _ | refine blk_drew ?_ | refine blk_alloc ?_ _)); exact BK162.out) hg (Kd.R_away HO_4.out (fun _ hk => hk.1.2.1)))
                                      have n4_ := Aside0.mk (blk_grown (g := gb165) (o := .cells #[.int .i64 ((rd_T30 l0_0 x21_1).f0), .int .i64 ((rd_T30 l0_0 x21_1).f1)] 30 (0, 0)) (by (with_reducible repeat (first | refine blk_drewN ?_ _ | refine blk_drew ?_ | refine blk_alloc ?_ _)); exact BK165.out) hg (Kd.R_away HO_4.out (fun _ hk => hk.1.2.2.1)))
                                      have n5_ := Aside0.mk (blk_grown (g := gb176) (o := .cells #[.int .i64 ((rd_T30 t172 x32_2).f0), .int .i64 ((rd_T30 t172 x32_2).f1)] 30 (0, 0)) (by (with_reducible repeat (first | refine blk_drewN ?_ _ | refine blk_drew ?_ | refine blk_alloc ?_ _)); exact BK176.out) hg (Kd.R_away HO_4.out (fun _ hk => hk.1.2.2.2)))
                                      have n6_ := Aside0.mk (Kd.R_after (ok := (fun k_ => some k_ ≠ (.slice (some ad175) t172.length co33 : Value).ownBlock ∧ k_ ≠ gb162 ∧ k_ ≠ gb165 ∧ k_ ≠ gb176)) (by (with_reducible repeat (first | apply Kd.R_alloc | apply Kd.R_drewN | apply Kd.R_drew)); exact Kd.R_mono HO179.out (fun _ hk => ⟨⟨hk.1.1.1.2, ⟨hk.1.1.2, ⟨hk.1.2, hk.2⟩⟩⟩, hk.1.1.1.1.2⟩)) hg hat)
                                      have n7_ := Aside0.mk (Kd.R_over' (by (with_reducible repeat (first | apply Kd.R_alloc | apply Kd.R_drewN | apply Kd.R_drew)); exact HO186.out) (Kd.R_typed (by (with_reducible repeat (first | apply Kd.R_alloc | apply Kd.R_drewN | apply Kd.R_drew)); exact HO_4.out)) (by decide) hg)
                                      have n8_ := Aside0.mk (hb)
                                      have n9_ := Aside0.mk (ho)
                                      clear HO_5
                                      clear HO_30
                                      clear BK161
                                      clear BK162
                                      clear BK165
                                      clear BK176
                                      clear HO179
                                      clear HO186
                                      clear HB
                                      clear HO_4
                                      have HO_5 := n0_
                                      have HO_30 := n1_
                                      have BK161 := n2_
                                      have BK162 := n3_
                                      have BK165 := n4_
                                      have BK176 := n5_
                                      have HO179 := n6_
                                      have HO186 := n7_
                                      have HB := n8_
                                      have HO182 := n9_
                                      clear n0_ n1_ n2_ n3_ n4_ n5_ n6_ n7_ n8_ n9_
                                      clear ho hb hg hat
                                      refine hK.out _ _ ⟨(blk_cell BK176.out 0).trans rfl, (blk_cell BK176.out 1).trans rfl, (blk_cell BK161.out 0).trans rfl, (blk_cell BK161.out 1).trans rfl, ((HB.out.cell (World.block_lt_of_cell? w _ hw183_0)).trans hw183_0)⟩ (fun hHeld => ?_)
                                      clear hK K
                                      refine norm_ (a' := ?_) ?_ ?_
                                      rotate_left
                                      · show Act.put _ (some 39) _ = _
                                        simp only [Act.put, List.setIfInBounds_toArray, List.set_cons_zero, List.set_cons_succ, i64_w, i32_w]
                                        rfl
                                      exact norm_ (by simp only [putAll, Act.put, List.setIfInBounds_toArray, List.set_cons_zero, List.set_cons_succ]) (hCont (.slice Ao55 y177.length co55, v181, v185) _ ⟨hHeld, (by (with_reducible repeat (first | apply Kd.R_alloc | apply Kd.R_drewN | apply Kd.R_drew)); exact Kd.R_mono HO179.out (fun _ hk => ⟨hk.2, ⟨hk.1.1, ⟨hk.1.2.1, ⟨hk.1.2.2.1, hk.1.2.2.2⟩⟩⟩⟩)), (by (with_reducible repeat (first | apply Kd.R_alloc | apply Kd.R_drewN | apply Kd.R_drew)); exact Kd.R_mono HO182.out (fun _ hk => ⟨hk.2.1, ⟨hk.1, ⟨hk.2.2.1, ⟨hk.2.2.2.1, hk.2.2.2.2⟩⟩⟩⟩)), (by (with_reducible repeat (first | apply Kd.R_alloc | apply Kd.R_drewN | apply Kd.R_drew)); exact Kd.R_mono HO186.out (fun _ hk => hk.2)), (by (with_reducible repeat (first | apply Kd.R_alloc | apply Kd.R_drewN | apply Kd.R_drew)); exact Kd.R_mono HO_30.out (fun _ hk => ⟨hk.1.1, ⟨hk.2, ⟨hk.1.2.1, ⟨hk.1.2.2.1, hk.1.2.2.2⟩⟩⟩⟩)), (by (with_reducible repeat (first | apply Kd.R_alloc | apply Kd.R_drewN | apply Kd.R_drew)); exact Kd.R_mono HO_5.out (fun _ hk => hk.2)), (by (with_reducible repeat (first | refine blk_drewN ?_ _ | refine blk_drew ?_ | refine blk_alloc ?_ _)); exact BK161.out), (by (with_reducible repeat (first | refine blk_drewN ?_ _ | refine blk_drew ?_ | refine blk_alloc ?_ _)); exact BK162.out), (by (with_reducible repeat (first | refine blk_drewN ?_ _ | refine blk_drew ?_ | refine blk_alloc ?_ _)); exact BK165.out), (by (with_reducible repeat (first | refine blk_drewN ?_ _ | refine blk_drew ?_ | refine blk_alloc ?_ _)); exact BK176.out), (by repeat (first | (with_reducible first | exact HB.out | apply below_alloc | apply pw_below_drewN | apply below_drew1 | refine below_set ?_ GE161.out | refine below_set ?_ GE162.out | refine below_set ?_ GE165.out | refine below_set ?_ GE176.out) | exact HB.out))⟩)
                                  · skip
                                    refine Kd.R_lit_step Kd.string _ 9 ?hg (N := 48) ?hd (xs := ([rdOf ByteArray.empty l0_1 x21_1] : List ByteArray)) (inner := [.string (rdOf ByteArray.empty l0_1 x21_1)]) (ok := fun _ => True) (okp := fun _ => True) ?hr ?hp (fun _ hk => hk) trivial (Below.refl _ _) (Nat.le_refl _) (by simp) ?_; (case hd => rfl); (case hg => rfl); (case hr => first | (go_simp; done) | (go_simp; rfl)); (case hp => exact (Reps.one (show Kd.M Kd.string _ _ _ (rdOf ByteArray.empty l0_1 x21_1) [.string (rdOf ByteArray.empty l0_1 x21_1)] from rfl) (Reps.none _ _)))
                                    intro v185 w50 ho51 hb hg_ hnew_
                                    clear hg_ hnew_
                                    (first | rw [← Ny184.out] at ho51 | (simp only [Int.reduceToNat] at ho51; rw [← Ny184.out] at ho51))
                                    have n0_ := Aside0.mk (Kd.R_below (by (with_reducible repeat (first | apply Kd.R_alloc | apply Kd.R_drewN | apply Kd.R_drew)); exact HO_4.out) hb)
                                    have n1_ := Aside0.mk (Kd.R_elder' (by (with_reducible repeat (first | apply Kd.R_alloc | apply Kd.R_drewN | apply Kd.R_drew)); exact HO_5.out) (Kd.R_base ho51) hb)
                                    have n2_ := Aside0.mk (Kd.R_below (by (with_reducible repeat (first | apply Kd.R_alloc | apply Kd.R_drewN | apply Kd.R_drew)); exact HO_30.out) hb)
                                    have n3_ := Aside0.mk (Kd.R_lower (Kd.R_new' ho51 (Kd.R_lt (by (with_reducible repeat (first | apply Kd.R_alloc | apply Kd.R_drewN | apply Kd.R_drew)); exact HO_5.out))) (below_size (by repeat (first | (with_reducible first | exact HB.out | apply below_alloc | apply pw_below_drewN | apply below_drew1 | refine below_set ?_ GE161.out | refine below_set ?_ GE162.out | refine below_set ?_ GE165.out | refine below_set ?_ GE176.out) | exact HB.out))))
                                    have n4_ := Aside0.mk (blk_below (g := gS) (o := .cells #[.slice (some ad164) l0_0.length c0_0, .slice (some ad183) l0_1.length c0_1] 66 (0, 0)) (by (with_reducible repeat (first | refine blk_drewN ?_ _ | refine blk_drew ?_ | refine blk_alloc ?_ _)); exact BK161.out) hb)
                                    have n5_ := Aside0.mk (blk_below (g := gb162) (o := .cells #[.int .i64 a1_0, .int .i64 a1_1] 30 (0, 0)) (by (with_reducible repeat (first | refine blk_drewN ?_ _ | refine blk_drew ?_ | refine blk_alloc ?_ _)); exact BK162.out) hb)
                                    have n6_ := Aside0.mk (blk_below (g := gb165) (o := .cells #[.int .i64 ((rd_T30 l0_0 x21_1).f0), .int .i64 ((rd_T30 l0_0 x21_1).f1)] 30 (0, 0)) (by (with_reducible repeat (first | refine blk_drewN ?_ _ | refine blk_drew ?_ | refine blk_alloc ?_ _)); exact BK165.out) hb)
                                    have n7_ := Aside0.mk (blk_below (g := gb176) (o := .cells #[.int .i64 ((rd_T30 t172 x32_2).f0), .int .i64 ((rd_T30 t172 x32_2).f1)] 30 (0, 0)) (by (with_reducible repeat (first | refine blk_drewN ?_ _ | refine blk_drew ?_ | refine blk_alloc ?_ _)); exact BK176.out) hb)
                                    have n8_ := Aside0.mk (below_step (by repeat (first | (with_reducible first | exact HB.out | apply below_alloc | apply pw_below_drewN | apply below_drew1 | refine below_set ?_ GE161.out | refine below_set ?_ GE162.out | refine below_set ?_ GE165.out | refine below_set ?_ GE176.out) | exact HB.out)) hb)
                                    clear HO_4
                                    clear HO_5
                                    clear HO_30
                                    clear BK161
                                    clear BK162
                                    clear BK165
                                    clear BK176
                                    clear HB
                                    have HO_4 := n0_
                                    have HO_5 := n1_
                                    have HO_30 := n2_
                                    have HO186 := n3_
                                    have BK161 := n4_
                                    have BK162 := n5_
                                    have BK165 := n6_
                                    have BK176 := n7_
                                    have HB := n8_
                                    clear n0_ n1_ n2_ n3_ n4_ n5_ n6_ n7_ n8_
                                    clear hb ho51
                                    refine hK.out _ _ ⟨(blk_cell BK176.out 0).trans rfl, (blk_cell BK176.out 1).trans rfl, (blk_cell BK161.out 0).trans rfl, (blk_cell BK161.out 1).trans rfl, ((HB.out.cell (World.block_lt_of_cell? w _ hw183_0)).trans hw183_0)⟩ (fun hHeld => ?_)
                                    clear hK K
                                    refine norm_ (a' := ?_) ?_ ?_
                                    rotate_left
                                    · show Act.put _ (some 48) _ = _
                                      simp only [Act.put, List.setIfInBounds_toArray, List.set_cons_zero, List.set_cons_succ, i64_w, i32_w]
                                      rfl
                                    refine one_ (i := 2) (N := some 38) #[true, true, true, false, true, true, true, true, true, true, true, true, true, false, false, false] rfl rfl (one_of HT_.out (by kernel_rfl)) (by decide) (fun K hK => ?_)
                                    refine Kd.R_lit_step k30 _ 30 ?hg (N := 38) ?hd (xs := ([(⟨(rd_T30 t172 x32_2).f0, (rd_T30 t172 x32_2).f1⟩ : S30)] : List (S30))) (inner := [.int .i64 ((rd_T30 t172 x32_2).f0), .int .i64 ((rd_T30 t172 x32_2).f1)]) (ok := fun _ => True) (okp := fun _ => True) ?hr ?hp (fun _ hk => hk) trivial (Below.refl _ _) (Nat.le_refl _) (by simp) ?_; (case hd => rfl); (case hg => rfl); (case hr => first | (go_simp; done) | (go_simp; rfl)); (case hp => exact (Reps.c2 (show Kd.M k30 _ _ _ (⟨(rd_T30 t172 x32_2).f0, (rd_T30 t172 x32_2).f1⟩ : S30) [.int .i64 ((rd_T30 t172 x32_2).f0), .int .i64 ((rd_T30 t172 x32_2).f1)] from (k30_mkM _ _ _ (⟨(rd_T30 t172 x32_2).f0, (rd_T30 t172 x32_2).f1⟩ : S30) )) (Reps.none _ _)))
                                    intro v178 w52 ho53 hb hg_ hnew_
                                    clear hg_ hnew_
                                    (first | rw [← Ny177.out] at ho53 | (simp only [Int.reduceToNat] at ho53; rw [← Ny177.out] at ho53))
                                    have n0_ := Aside0.mk (Kd.R_elder' (by (with_reducible repeat (first | apply Kd.R_alloc | apply Kd.R_drewN | apply Kd.R_drew)); exact HO_4.out) (Kd.R_base ho53) hb)
                                    have n1_ := Aside0.mk (Kd.R_below (by (with_reducible repeat (first | apply Kd.R_alloc | apply Kd.R_drewN | apply Kd.R_drew)); exact HO_5.out) hb)
                                    have n2_ := Aside0.mk (Kd.R_elder' (by (with_reducible repeat (first | apply Kd.R_alloc | apply Kd.R_drewN | apply Kd.R_drew)); exact HO_30.out) (Kd.R_base ho53) hb)
                                    have n3_ := Aside0.mk (Kd.R_below (by (with_reducible repeat (first | apply Kd.R_alloc | apply Kd.R_drewN | apply Kd.R_drew)); exact HO186.out) hb)
                                    have n4_ := Aside0.mk (Kd.R_lower (Kd.R_newB (Kd.R_newB (Kd.R_newB (Kd.R_new' (Kd.R_new' ho53 (Kd.R_lt (by (with_reducible repeat (first | apply Kd.R_alloc | apply Kd.R_drewN | apply Kd.R_drew)); exact HO_4.out))) (Kd.R_lt (by (with_reducible repeat (first | apply Kd.R_alloc | apply Kd.R_drewN | apply Kd.R_drew)); exact HO_30.out))) (g := gb162) (o := .cells #[.int .i64 a1_0, .int .i64 a1_1] 30 (0, 0)) (by (with_reducible repeat (first | refine blk_drewN ?_ _ | refine blk_drew ?_ | refine blk_alloc ?_ _)); exact BK162.out)) (g := gb165) (o := .cells #[.int .i64 ((rd_T30 l0_0 x21_1).f0), .int .i64 ((rd_T30 l0_0 x21_1).f1)] 30 (0, 0)) (by (with_reducible repeat (first | refine blk_drewN ?_ _ | refine blk_drew ?_ | refine blk_alloc ?_ _)); exact BK165.out)) (g := gb176) (o := .cells #[.int .i64 ((rd_T30 t172 x32_2).f0), .int .i64 ((rd_T30 t172 x32_2).f1)] 30 (0, 0)) (by (with_reducible repeat (first | refine blk_drewN ?_ _ | refine blk_drew ?_ | refine blk_alloc ?_ _)); exact BK176.out)) (below_size (by repeat (first | (with_reducible first | exact HB.out | apply below_alloc | apply pw_below_drewN | apply below_drew1 | refine below_set ?_ GE161.out | refine below_set ?_ GE162.out | refine below_set ?_ GE165.out | refine below_set ?_ GE176.out) | exact HB.out))))
                                    have n5_ := Aside0.mk (blk_below (g := gS) (o := .cells #[.slice (some ad164) l0_0.length c0_0, .slice (some ad183) l0_1.length c0_1] 66 (0, 0)) (by (with_reducible repeat (first | refine blk_drewN ?_ _ | refine blk_drew ?_ | refine blk_alloc ?_ _)); exact BK161.out) hb)
                                    have n6_ := Aside0.mk (blk_below (g := gb162) (o := .cells #[.int .i64 a1_0, .int .i64 a1_1] 30 (0, 0)) (by (with_reducible repeat (first | refine blk_drewN ?_ _ | refine blk_drew ?_ | refine blk_alloc ?_ _)); exact BK162.out) hb)
                                    have n7_ := Aside0.mk (blk_below (g := gb165) (o := .cells #[.int .i64 ((rd_T30 l0_0 x21_1).f0), .int .i64 ((rd_T30 l0_0 x21_1).f1)] 30 (0, 0)) (by (with_reducible repeat (first | refine blk_drewN ?_ _ | refine blk_drew ?_ | refine blk_alloc ?_ _)); exact BK165.out) hb)
                                    have n8_ := Aside0.mk (blk_below (g := gb176) (o := .cells #[.int .i64 ((rd_T30 t172 x32_2).f0), .int .i64 ((rd_T30 t172 x32_2).f1)] 30 (0, 0)) (by (with_reducible repeat (first | refine blk_drewN ?_ _ | refine blk_drew ?_ | refine blk_alloc ?_ _)); exact BK176.out) hb)
                                    have n9_ := Aside0.mk (below_step (by repeat (first | (with_reducible first | exact HB.out | apply below_alloc | apply pw_below_drewN | apply below_drew1 | refine below_set ?_ GE161.out | refine below_set ?_ GE162.out | refine below_set ?_ GE165.out | refine below_set ?_ GE176.out) | exact HB.out)) hb)
                                    clear HO_4
                                    clear HO_5
                                    clear HO_30
                                    clear HO186
                                    clear BK161
                                    clear BK162
                                    clear BK165
                                    clear BK176
                                    clear HB
                                    have HO_4 := n0_
                                    have HO_5 := n1_
                                    have HO_30 := n2_
                                    have HO186 := n3_
                                    have HO179 := n4_
                                    have BK161 := n5_
                                    have BK162 := n6_
                                    have BK165 := n7_
                                    have BK176 := n8_
                                    have HB := n9_
                                    clear n0_ n1_ n2_ n3_ n4_ n5_ n6_ n7_ n8_ n9_
                                    clear hb ho53
                                    obtain ⟨Ao55, co55, eo55⟩ := Kd.R_slice HO179.out
                                    (first | subst eo55 | (injection eo55 with f1_ f2_ f3_; have f4_ := f1_.symm; have f5_ := f3_.symm; clear f1_ f2_ f3_; subst f4_; subst f5_))
                                    refine hK.out _ _ ⟨(blk_cell BK176.out 0).trans rfl, (blk_cell BK176.out 1).trans rfl, (blk_cell BK161.out 0).trans rfl, (blk_cell BK161.out 1).trans rfl, ((HB.out.cell (World.block_lt_of_cell? w _ hw183_0)).trans hw183_0)⟩ (fun hHeld => ?_)
                                    clear hK K
                                    refine norm_ (a' := ?_) ?_ ?_
                                    rotate_left
                                    · show Act.put _ (some 38) _ = _
                                      simp only [Act.put, List.setIfInBounds_toArray, List.set_cons_zero, List.set_cons_succ, i64_w, i32_w]
                                      rfl
                                    refine one_ (i := 3) (N := some 39) #[true, true, true, true, true, true, true, true, true, true, true, true, true, false, false, false] rfl rfl (one_of HT_.out (by kernel_rfl)) (by decide) (fun K hK => ?_)
                                    refine Kd.R_append_rows_step k30 (w0 := w) w.heap.size (by rfl) (.tmp 36) (.tmp 38) 22 30 (.agg #[(.int .i64 0), (.int .i64 0)]) 16 rfl Try.underlying22 info30 rfl (by decide) (by omega) (.slice Ao46 x4_2.length co46) x4_2 y177 _ _ _ (fun k_ => some k_ ≠ (.slice (some ad175) t172.length co33 : Value).ownBlock ∧ some k_ ≠ (.slice Ao55 y177.length co55 : Value).ownBlock ∧ k_ ≠ gb162 ∧ k_ ≠ gb165 ∧ k_ ≠ gb176) (fun _ => False) rfl rfl ?aO ?aR (fun _ _ h => h) (fun _ h => h.elim) ?aF ?aB ?aS ?aL ?_
                                    (case aR => repeat (first | exact (Kd.R_reads' HO179.out).2.2 | (with_reducible refine Kd.C_alloc ?_ _) | (with_reducible refine Kd.C_drewN ?_ _) | (with_reducible refine Kd.C_drew ?_)))
                                    (case aB => exact (by repeat (first | (with_reducible first | exact HB.out | apply below_alloc | apply pw_below_drewN | apply below_drew1 | refine below_set ?_ GE161.out | refine below_set ?_ GE162.out | refine below_set ?_ GE165.out | refine below_set ?_ GE176.out) | exact HB.out)))
                                    (case aF => exact (fun k_ hk => ⟨Kd.fresh' (Kd.R_lt (by (with_reducible repeat (first | apply Kd.R_alloc | apply Kd.R_drewN | apply Kd.R_drew)); exact HO_30.out)) k_ hk, Kd.fresh' (Kd.R_lt (by (with_reducible repeat (first | apply Kd.R_alloc | apply Kd.R_drewN | apply Kd.R_drew)); exact HO179.out)) k_ hk, Kd.freshB (g := gb162) (o := .cells #[.int .i64 a1_0, .int .i64 a1_1] 30 (0, 0)) (by (with_reducible repeat (first | refine blk_drewN ?_ _ | refine blk_drew ?_ | refine blk_alloc ?_ _)); exact BK162.out) k_ hk, Kd.freshB (g := gb165) (o := .cells #[.int .i64 ((rd_T30 l0_0 x21_1).f0), .int .i64 ((rd_T30 l0_0 x21_1).f1)] 30 (0, 0)) (by (with_reducible repeat (first | refine blk_drewN ?_ _ | refine blk_drew ?_ | refine blk_alloc ?_ _)); exact BK165.out) k_ hk, Kd.freshB (g := gb176) (o := .cells #[.int .i64 ((rd_T30 t172 x32_2).f0), .int .i64 ((rd_T30 t172 x32_2).f1)] 30 (0, 0)) (by (with_reducible repeat (first | refine blk_drewN ?_ _ | refine blk_drew ?_ | refine blk_alloc ?_ _)); exact BK176.out) k_ hk⟩))
                                    (case aO => exact (by (with_reducible repeat (first | apply Kd.R_alloc | apply Kd.R_drewN | apply Kd.R_drew)); exact Kd.R_mono HO_4.out (fun _ hk => ⟨hk.1.1, ⟨hk.2, ⟨hk.1.2.1, ⟨hk.1.2.2.1, hk.1.2.2.2⟩⟩⟩⟩)))
                                    (case aS => exact (below_size (by repeat (first | (with_reducible first | exact HB.out | apply below_alloc | apply pw_below_drewN | apply below_drew1 | refine below_set ?_ GE161.out | refine below_set ?_ GE162.out | refine below_set ?_ GE165.out | refine below_set ?_ GE176.out) | exact HB.out))))
                                    (case aL => have := LMc37.out; omega)
                                    intro v181 w54 ho hb hg hat
                                    rw [← Ny180.out] at ho
                                    have n0_ := Aside0.mk (Kd.R_over' (by (with_reducible repeat (first | apply Kd.R_alloc | apply Kd.R_drewN | apply Kd.R_drew)); exact HO_5.out) (Kd.R_typed (by (with_reducible repeat (first | apply Kd.R_alloc | apply Kd.R_drewN | apply Kd.R_drew)); exact HO_4.out)) (by decide) hg)
                                    have n1_ := Aside0.mk (Kd.R_after (ok := (fun k_ => some k_ ≠ (.slice Ao55 y177.length co55 : Value).ownBlock ∧ k_ ≠ gb162 ∧ k_ ≠ gb165 ∧ k_ ≠ gb176)) (by (with_reducible repeat (first | apply Kd.R_alloc | apply Kd.R_drewN | apply Kd.R_drew)); exact Kd.R_mono HO_30.out (fun _ hk => ⟨⟨hk.2, ⟨hk.1.2.1, ⟨hk.1.2.2.1, hk.1.2.2.2⟩⟩⟩, hk.1.1⟩)) hg hat)
                                    have n2_ := Aside0.mk (blk_grown (g := gS) (o := .cells #[.slice (some ad164) l0_0.length c0_0, .slice (some ad183) l0_1.length c0_1] 66 (0, 0)) (by (with_reducible repeat (first | refine blk_drewN ?_ _ | refine blk_drew ?_ | refine blk_alloc ?_ _)); exact BK161.out) hg (Kd.R_ne HO_4.out BK161.out (by decide)))
                                    have n3_ := Aside0.mk (blk_grown (g := gb162) (o := .cells #[.int .i64 a1_0, .int .i64 a1_1] 30 (0, 0)) (by (with_reducible repeat (first | refine blk_drewN ?_ _ | refine blk_drew ?_ | refine blk_alloc ?_ _)); exact BK162.out) hg (Kd.R_away HO_4.out (fun _ hk => hk.1.2.1)))
                                    have n4_ := Aside0.mk (blk_grown (g := gb165) (o := .cells #[.int .i64 ((rd_T30 l0_0 x21_1).f0), .int .i64 ((rd_T30 l0_0 x21_1).f1)] 30 (0, 0)) (by (with_reducible repeat (first | refine blk_drewN ?_ _ | refine blk_drew ?_ | refine blk_alloc ?_ _)); exact BK165.out) hg (Kd.R_away HO_4.out (fun _ hk => hk.1.2.2.1)))
                                    have n5_ := Aside0.mk (blk_grown (g := gb176) (o := .cells #[.int .i64 ((rd_T30 t172 x32_2).f0), .int .i64 ((rd_T30 t172 x32_2).f1)] 30 (0, 0)) (by (with_reducible repeat (first | refine blk_drewN ?_ _ | refine blk_drew ?_ | refine blk_alloc ?_ _)); exact BK176.out) hg (Kd.R_away HO_4.out (fun _ hk => hk.1.2.2.2)))
                                    have n6_ := Aside0.mk (Kd.R_over' (by (with_reducible repeat (first | apply Kd.R_alloc | apply Kd.R_drewN | apply Kd.R_drew)); exact HO186.out) (Kd.R_typed (by (with_reducible repeat (first | apply Kd.R_alloc | apply Kd.R_drewN | apply Kd.R_drew)); exact HO_4.out)) (by decide) hg)
                                    have n7_ := Aside0.mk (Kd.R_after (ok := (fun k_ => some k_ ≠ (.slice (some ad175) t172.length co33 : Value).ownBlock ∧ k_ ≠ gb162 ∧ k_ ≠ gb165 ∧ k_ ≠ gb176)) (by (with_reducible repeat (first | apply Kd.R_alloc | apply Kd.R_drewN | apply Kd.R_drew)); exact Kd.R_mono HO179.out (fun _ hk => ⟨⟨hk.1.1.1.2, ⟨hk.1.1.2, ⟨hk.1.2, hk.2⟩⟩⟩, hk.1.1.1.1.2⟩)) hg hat)
                                    have n8_ := Aside0.mk (hb)
                                    have n9_ := Aside0.mk (ho)
                                    clear HO_5
                                    clear HO_30
                                    clear BK161
                                    clear BK162
                                    clear BK165
                                    clear BK176
                                    clear HO186
                                    clear HO179
                                    clear HB
                                    clear HO_4
                                    have HO_5 := n0_
                                    have HO_30 := n1_
                                    have BK161 := n2_
                                    have BK162 := n3_
                                    have BK165 := n4_
                                    have BK176 := n5_
                                    have HO186 := n6_
                                    have HO179 := n7_
                                    have HB := n8_
                                    have HO182 := n9_
                                    clear n0_ n1_ n2_ n3_ n4_ n5_ n6_ n7_ n8_ n9_
                                    clear ho hb hg hat
                                    refine hK.out _ _ ⟨(blk_cell BK176.out 0).trans rfl, (blk_cell BK176.out 1).trans rfl, (blk_cell BK161.out 0).trans rfl, (blk_cell BK161.out 1).trans rfl, ((HB.out.cell (World.block_lt_of_cell? w _ hw183_0)).trans hw183_0)⟩ (fun hHeld => ?_)
                                    clear hK K
                                    refine norm_ (a' := ?_) ?_ ?_
                                    rotate_left
                                    · show Act.put _ (some 39) _ = _
                                      simp only [Act.put, List.setIfInBounds_toArray, List.set_cons_zero, List.set_cons_succ, i64_w, i32_w]
                                      rfl
                                    exact norm_ (by simp only [putAll, Act.put, List.setIfInBounds_toArray, List.set_cons_zero, List.set_cons_succ]) (hCont (.slice Ao55 y177.length co55, v181, v185) _ ⟨hHeld, (by (with_reducible repeat (first | apply Kd.R_alloc | apply Kd.R_drewN | apply Kd.R_drew)); exact Kd.R_mono HO179.out (fun _ hk => ⟨hk.2, ⟨hk.1.1, ⟨hk.1.2.1, ⟨hk.1.2.2.1, hk.1.2.2.2⟩⟩⟩⟩)), (by (with_reducible repeat (first | apply Kd.R_alloc | apply Kd.R_drewN | apply Kd.R_drew)); exact Kd.R_mono HO182.out (fun _ hk => ⟨hk.2.1, ⟨hk.1, ⟨hk.2.2.1, ⟨hk.2.2.2.1, hk.2.2.2.2⟩⟩⟩⟩)), (by (with_reducible repeat (first | apply Kd.R_alloc | apply Kd.R_drewN | apply Kd.R_drew)); exact Kd.R_mono HO186.out (fun _ hk => hk.2)), (by (with_reducible repeat (first | apply Kd.R_alloc | apply Kd.R_drewN | apply Kd.R_drew)); exact Kd.R_mono HO_30.out (fun _ hk => ⟨hk.1.1, ⟨hk.2, ⟨hk.1.2.1, ⟨hk.1.2.2.1, hk.1.2.2.2⟩⟩⟩⟩)), (by (with_reducible repeat (first | apply Kd.R_alloc | apply Kd.R_drewN | apply Kd.R_drew)); exact Kd.R_mono HO_5.out (fun _ hk => hk.2)), (by (with_reducible repeat (first | refine blk_drewN ?_ _ | refine blk_drew ?_ | refine blk_alloc ?_ _)); exact BK161.out), (by (with_reducible repeat (first | refine blk_drewN ?_ _ | refine blk_drew ?_ | refine blk_alloc ?_ _)); exact BK162.out), (by (with_reducible repeat (first | refine blk_drewN ?_ _ | refine blk_drew ?_ | refine blk_alloc ?_ _)); exact BK165.out), (by (with_reducible repeat (first | refine blk_drewN ?_ _ | refine blk_drew ?_ | refine blk_alloc ?_ _)); exact BK176.out), (by repeat (first | (with_reducible first | exact HB.out | apply below_alloc | apply pw_below_drewN | apply below_drew1 | refine below_set ?_ GE161.out | refine below_set ?_ GE162.out | refine below_set ?_ GE165.out | refine below_set ?_ GE176.out) | exact HB.out))⟩)
                                rintro ⟨v178, v181, v185⟩ w56 ⟨hS_, h0_, h1_, h2_, h3_, h4_, h5_, h6_, h7_, h8_, h9_⟩
                                have n0_ : Aside0 (Kd.R k30 30 w56 w.heap.size (fun k_ => some k_ ≠ (v181 : Value).ownBlock ∧ some k_ ≠ (.slice (some ad175) t172.length co33 : Value).ownBlock ∧ k_ ≠ gb162 ∧ k_ ≠ gb165 ∧ k_ ≠ gb176) v178 y177) := ⟨h0_⟩
                                have n1_ : Aside0 (Kd.R k30 30 w56 w.heap.size (fun k_ => some k_ ≠ (v178 : Value).ownBlock ∧ some k_ ≠ (.slice (some ad175) t172.length co33 : Value).ownBlock ∧ k_ ≠ gb162 ∧ k_ ≠ gb165 ∧ k_ ≠ gb176) v181 y180) := ⟨h1_⟩
                                have n2_ : Aside0 (Kd.R Kd.string 9 w56 w.heap.size (fun k_ => some k_ ≠ (.slice Ao47 x5_2.length co47 : Value).ownBlock) v185 y184) := ⟨h2_⟩
                                have n3_ : Aside0 (Kd.R k30 30 w56 w.heap.size (fun k_ => some k_ ≠ (v178 : Value).ownBlock ∧ some k_ ≠ (v181 : Value).ownBlock ∧ k_ ≠ gb162 ∧ k_ ≠ gb165 ∧ k_ ≠ gb176) (.slice (some ad175) t172.length co33) t172) := ⟨h3_⟩
                                have n4_ : Aside0 (Kd.R Kd.string 9 w56 w.heap.size (fun k_ => some k_ ≠ (v185 : Value).ownBlock) (.slice Ao47 x5_2.length co47) x5_2) := ⟨h4_⟩
                                have n5_ : Aside0 (w56.heap[gS]? = some (.cells #[.slice (some ad164) l0_0.length c0_0, .slice (some ad183) l0_1.length c0_1] 66 (0, 0))) := ⟨h5_⟩
                                have n6_ : Aside0 (w56.heap[gb162]? = some (.cells #[.int .i64 a1_0, .int .i64 a1_1] 30 (0, 0))) := ⟨h6_⟩
                                have n7_ : Aside0 (w56.heap[gb165]? = some (.cells #[.int .i64 ((rd_T30 l0_0 x21_1).f0), .int .i64 ((rd_T30 l0_0 x21_1).f1)] 30 (0, 0))) := ⟨h7_⟩
                                have n8_ : Aside0 (w56.heap[gb176]? = some (.cells #[.int .i64 ((rd_T30 t172 x32_2).f0), .int .i64 ((rd_T30 t172 x32_2).f1)] 30 (0, 0))) := ⟨h8_⟩
                                have n9_ : Aside0 (Below w.heap.size w w56) := ⟨h9_⟩
                                clear HO_4
                                clear HO_5
                                clear HO_30
                                clear BK161
                                clear BK162
                                clear BK165
                                clear BK176
                                clear HB
                                clear h0_ h1_ h2_ h3_ h4_ h5_ h6_ h7_ h8_ h9_
                                have HO179 := n0_
                                have HO182 := n1_
                                have HO186 := n2_
                                have HO_30 := n3_
                                have HO_5 := n4_
                                have BK161 := n5_
                                have BK162 := n6_
                                have BK165 := n7_
                                have BK176 := n8_
                                have HB := n9_
                                clear n0_ n1_ n2_ n3_ n4_ n5_ n6_ n7_ n8_ n9_
                                have hHeld : w56.cell? ⟨gb176, 0, none⟩ = some (.int .i64 ((rd_T30 t172 x32_2).f0)) ∧ w56.cell? ⟨gb176, 1, none⟩ = some (.int .i64 ((rd_T30 t172 x32_2).f1)) ∧ w56.cell? ⟨gS, 0, none⟩ = some (.slice (some ad164) l0_0.length c0_0) ∧ w56.cell? ⟨gS, 1, none⟩ = some (.slice (some ad183) l0_1.length c0_1) ∧ w56.cell? (ad183.add (x21_1).toNat) = some (.string (rdOf ByteArray.empty l0_1 x21_1)) := hS_
                                obtain ⟨Ao58, co58, eo58⟩ := Kd.R_slice HO186.out
                                (first | subst eo58 | (injection eo58 with f1_ f2_ f3_; have f4_ := f1_.symm; have f5_ := f3_.symm; clear f1_ f2_ f3_; subst f4_; subst f5_))
                                refine norm_ (a' := ?_) ?_ ?_
                                rotate_left
                                · simp only [putAll, Act.put, List.setIfInBounds_toArray, List.set_cons_zero, List.set_cons_succ]
                                  rfl
                                refine one_ (i := 13) (N := some 49) #[true, true, true, true, true, true, true, true, true, true, true, true, true, true, false, false] rfl rfl (one_of HT_.out (by kernel_rfl)) (by decide) (fun K hK => ?_)
                                refine Kd.R_append_rows_step Kd.string (w0 := w) w.heap.size (by rfl) (.tmp 40) (.tmp 48) 64 9 (.string ByteArray.empty) 16 rfl Try.underlying64 info9 rfl (by decide) (by omega) (.slice Ao47 x5_2.length co47) x5_2 y184 _ _ _ (fun k_ => some k_ ≠ (.slice Ao58 y184.length co58 : Value).ownBlock) (fun _ => False) rfl rfl ?aO ?aR (fun _ _ h => h) (fun _ h => h.elim) ?aF ?aB ?aS ?aL ?_
                                (case aR => repeat (first | exact (Kd.R_reads' HO186.out).2.2 | (with_reducible refine Kd.C_alloc ?_ _) | (with_reducible refine Kd.C_drewN ?_ _) | (with_reducible refine Kd.C_drew ?_)))
                                (case aB => exact (by repeat (first | (with_reducible first | exact HB.out | apply below_alloc | apply pw_below_drewN | apply below_drew1 | refine below_set ?_ GE161.out | refine below_set ?_ GE162.out | refine below_set ?_ GE165.out | refine below_set ?_ GE176.out) | exact HB.out)))
                                (case aF => exact (fun k_ hk => Kd.fresh' (Kd.R_lt (by (with_reducible repeat (first | apply Kd.R_alloc | apply Kd.R_drewN | apply Kd.R_drew)); exact HO186.out)) k_ hk))
                                (case aO => exact (by (with_reducible repeat (first | apply Kd.R_alloc | apply Kd.R_drewN | apply Kd.R_drew)); exact HO_5.out))
                                (case aS => exact (below_size (by repeat (first | (with_reducible first | exact HB.out | apply below_alloc | apply pw_below_drewN | apply below_drew1 | refine below_set ?_ GE161.out | refine below_set ?_ GE162.out | refine below_set ?_ GE165.out | refine below_set ?_ GE176.out) | exact HB.out))))
                                (case aL => have := LMc40.out; omega)
                                intro v188 w57 ho hb hg hat
                                rw [← Ny187.out] at ho
                                have n0_ := Aside0.mk (Kd.R_over' (by (with_reducible repeat (first | apply Kd.R_alloc | apply Kd.R_drewN | apply Kd.R_drew)); exact HO_30.out) (Kd.R_typed (by (with_reducible repeat (first | apply Kd.R_alloc | apply Kd.R_drewN | apply Kd.R_drew)); exact HO_5.out)) (by decide) hg)
                                have n1_ := Aside0.mk (blk_grown (g := gS) (o := .cells #[.slice (some ad164) l0_0.length c0_0, .slice (some ad183) l0_1.length c0_1] 66 (0, 0)) (by (with_reducible repeat (first | refine blk_drewN ?_ _ | refine blk_drew ?_ | refine blk_alloc ?_ _)); exact BK161.out) hg (Kd.R_ne HO_5.out BK161.out (by decide)))
                                have n2_ := Aside0.mk (blk_grown (g := gb162) (o := .cells #[.int .i64 a1_0, .int .i64 a1_1] 30 (0, 0)) (by (with_reducible repeat (first | refine blk_drewN ?_ _ | refine blk_drew ?_ | refine blk_alloc ?_ _)); exact BK162.out) hg (Kd.R_ne HO_5.out BK162.out (by decide)))
                                have n3_ := Aside0.mk (blk_grown (g := gb165) (o := .cells #[.int .i64 ((rd_T30 l0_0 x21_1).f0), .int .i64 ((rd_T30 l0_0 x21_1).f1)] 30 (0, 0)) (by (with_reducible repeat (first | refine blk_drewN ?_ _ | refine blk_drew ?_ | refine blk_alloc ?_ _)); exact BK165.out) hg (Kd.R_ne HO_5.out BK165.out (by decide)))
                                have n4_ := Aside0.mk (blk_grown (g := gb176) (o := .cells #[.int .i64 ((rd_T30 t172 x32_2).f0), .int .i64 ((rd_T30 t172 x32_2).f1)] 30 (0, 0)) (by (with_reducible repeat (first | refine blk_drewN ?_ _ | refine blk_drew ?_ | refine blk_alloc ?_ _)); exact BK176.out) hg (Kd.R_ne HO_5.out BK176.out (by decide)))
                                have n5_ := Aside0.mk (Kd.R_over' (by (with_reducible repeat (first | apply Kd.R_alloc | apply Kd.R_drewN | apply Kd.R_drew)); exact HO179.out) (Kd.R_typed (by (with_reducible repeat (first | apply Kd.R_alloc | apply Kd.R_drewN | apply Kd.R_drew)); exact HO_5.out)) (by decide) hg)
                                have n6_ := Aside0.mk (Kd.R_over' (by (with_reducible repeat (first | apply Kd.R_alloc | apply Kd.R_drewN | apply Kd.R_drew)); exact HO182.out) (Kd.R_typed (by (with_reducible repeat (first | apply Kd.R_alloc | apply Kd.R_drewN | apply Kd.R_drew)); exact HO_5.out)) (by decide) hg)
                                have n7_ := Aside0.mk (Kd.R_after (ok := (fun _ => True)) (by (with_reducible repeat (first | apply Kd.R_alloc | apply Kd.R_drewN | apply Kd.R_drew)); exact Kd.R_mono HO186.out (fun _ hk => ⟨trivial, hk⟩)) hg hat)
                                have n8_ := Aside0.mk (hb)
                                have n9_ := Aside0.mk (ho)
                                clear HO_30
                                clear BK161
                                clear BK162
                                clear BK165
                                clear BK176
                                clear HO179
                                clear HO182
                                clear HO186
                                clear HB
                                clear HO_5
                                have HO_30 := n0_
                                have BK161 := n1_
                                have BK162 := n2_
                                have BK165 := n3_
                                have BK176 := n4_
                                have HO179 := n5_
                                have HO182 := n6_
                                have HO186 := n7_
                                have HB := n8_
                                have HO189 := n9_
                                clear n0_ n1_ n2_ n3_ n4_ n5_ n6_ n7_ n8_ n9_
                                clear ho hb hg hat
                                refine hK.out _ _ ⟨(blk_cell BK176.out 0).trans rfl, (blk_cell BK176.out 1).trans rfl, (blk_cell BK161.out 0).trans rfl, (blk_cell BK161.out 1).trans rfl, ((HB.out.cell (World.block_lt_of_cell? w _ hw183_0)).trans hw183_0)⟩ (fun hHeld => ?_)
                                clear hK K
                                refine norm_ (a' := ?_) ?_ ?_
                                rotate_left
                                · show Act.put _ (some 49) _ = _
                                  simp only [Act.put, List.setIfInBounds_toArray, List.set_cons_zero, List.set_cons_succ, i64_w, i32_w]
                                  rfl
                                refine pure_ (i := 14) (N := some 4) (v := ?_) (a' := ?_) #[true, true, true, true, true, true, true, true, true, true, true, true, true, true, true, false] rfl rfl (any_of HT_.out (by kernel_rfl)) (fun _ _ _ h => h) (Or.inl ⟨by rfl, ?_⟩) ?_ ?_
                                rotate_left
                                · intro w'
                                  go_simp
                                  with_reducible rfl
                                rotate_left
                                · simp only [Act.put, List.setIfInBounds_toArray, List.set_cons_zero, List.set_cons_succ, i64_w, i32_w]
                                  rfl
                                refine pure_ (i := 15) (N := some 5) (v := ?_) (a' := ?_) #[true, true, true, true, true, true, true, true, true, true, true, true, true, true, true, true] rfl rfl (any_of HT_.out (by kernel_rfl)) (fun _ _ _ h => h) (Or.inl ⟨by rfl, ?_⟩) ?_ ?_
                                rotate_left
                                · intro w'
                                  go_simp
                                  with_reducible rfl
                                rotate_left
                                · simp only [Act.put, List.setIfInBounds_toArray, List.set_cons_zero, List.set_cons_succ, i64_w, i32_w]
                                  rfl
                                refine done_ (done_of HT_.out (by kernel_rfl)) ?_
                                try go_wp2
                                go_roundg k2
                                case measure => have := HK1.out; have := HK2.out; omega
                                case rel => exact ⟨(y180), (y187), (wrap64 (x32_2 + 1)), (by first | rfl | (simp; done) | (simp [*]; done)), H', ⟨by have := HK1.out; have := HK2.out; omega⟩, ⟨by (with_reducible repeat (first | apply Kd.R_alloc | apply Kd.R_drewN | apply Kd.R_drew)); exact Kd.R_mono HO182.out (fun _ hk => ⟨hk.2.1, ⟨hk.2.2.1, hk.2.2.2.1⟩⟩)⟩, ⟨by (with_reducible repeat (first | apply Kd.R_alloc | apply Kd.R_drewN | apply Kd.R_drew)); exact Kd.R_mono HO189.out (fun _ hk => trivial)⟩, ⟨by (with_reducible repeat (first | apply Kd.R_alloc | apply Kd.R_drewN | apply Kd.R_drew)); exact Kd.R_mono HO_30.out (fun _ hk => ⟨hk.2.1, ⟨hk.2.2.1, hk.2.2.2.1⟩⟩)⟩, ⟨by (with_reducible repeat (first | refine blk_drewN ?_ _ | refine blk_drew ?_ | refine blk_alloc ?_ _)); exact BK161.out⟩, ⟨by (with_reducible repeat (first | refine blk_drewN ?_ _ | refine blk_drew ?_ | refine blk_alloc ?_ _)); exact BK162.out⟩, ⟨by (with_reducible repeat (first | refine blk_drewN ?_ _ | refine blk_drew ?_ | refine blk_alloc ?_ _)); exact BK165.out⟩, ⟨by repeat (first | (with_reducible first | exact HB.out | apply below_alloc | apply pw_below_drewN | apply below_drew1 | refine below_set ?_ GE161.out | refine below_set ?_ GE162.out | refine below_set ?_ GE165.out | refine below_set ?_ GE176.out) | exact HB.out)⟩⟩
                              · rw [if_neg c40] at H
                                exact absurd H (by simp)
                            · rw [if_neg c39] at H
                              exact absurd H (by simp)
                          · rw [if_neg c38] at H
                            exact absurd H (by simp)
                        · rw [if_neg c37] at H
                          exact absurd H (by simp)
                      · rw [if_neg c36] at H
                        exact absurd H (by simp)
                    · rw [if_neg c35] at H
                      exact absurd H (by simp)
                  · rw [if_neg c34] at H
                    have c34b0 : decide (x32_2 < (t172.length : Int)) = false := decide_eq_false c34
                    clear c34
                    have H' := Aside0.mk H
                    clear H
                    go_wp2
                    go_roundg k2
                    case measure => have := HK1.out; have := HK2.out; omega
                    case rel => exact ⟨(x4_2), (x5_2), (wrap64 (x21_1 + 1)), (by first | rfl | (simp; done) | (simp [*]; done)), H', ⟨by have := HK1.out; have := HK2.out; omega⟩, ⟨by (with_reducible repeat (first | apply Kd.R_alloc | apply Kd.R_drewN | apply Kd.R_drew)); exact Kd.R_mono HO_4.out (fun _ hk => hk.2.1)⟩, ⟨by (with_reducible repeat (first | apply Kd.R_alloc | apply Kd.R_drewN | apply Kd.R_drew)); exact HO_5.out⟩, ⟨by (with_reducible repeat (first | refine blk_drewN ?_ _ | refine blk_drew ?_ | refine blk_alloc ?_ _)); exact BK161.out⟩, ⟨by (with_reducible repeat (first | refine blk_drewN ?_ _ | refine blk_drew ?_ | refine blk_alloc ?_ _)); exact BK162.out⟩, ⟨by repeat (first | (with_reducible first | exact HB.out | apply below_alloc | apply pw_below_drewN | apply below_drew1 | refine below_set ?_ GE161.out | refine below_set ?_ GE162.out | refine below_set ?_ GE165.out) | exact HB.out)⟩⟩
            · rw [if_neg c18] at H
              exact absurd H (by simp)
          · rw [if_neg c17] at H
            exact absurd H (by simp)
        · rw [if_neg c16] at H
          have c16b0 : decide (x21_1 < (l0_0.length : Int)) = false := decide_eq_false c16
          clear c16
          simp only [Option.some.injEq, Prod.mk.injEq] at H
          obtain ⟨rfl, rfl⟩ := H
          obtain ⟨Ae4, ce4, ee4⟩ := Kd.R_slice HO_4.out
          obtain ⟨Ae5, ce5, ee5⟩ := Kd.R_slice HO_5.out
          subst ee4 ee5
          have hq0_ := blk_cell BK161.out 0
          have hq1_ := blk_cell BK161.out 1
          have hf0_ := blk_frozen BK161.out 0
          have hf1_ := blk_frozen BK161.out 1
          simp only [List.getElem?_toArray, List.getElem?_cons_zero, List.getElem?_cons_succ] at hq0_ hq1_
          go_wp2
          first | go_end0 | ((try simp only [Exit.inBlock, Exit.then]); refine bodyPost_ret (results_none rfl _ _ _) rfl ?_)
          exact ⟨rfl, Or.inr ⟨by have h_ := A3.out; unfold span_empty.f at h_; simp at h_; omega, wr, _, _, HB.out, Kd.R_mono HO_4.out (fun _ _ => trivial), Kd.R_mono HO_5.out (fun _ _ => trivial), rfl⟩⟩
end Go.Proofs.Ytgncbhpmnjfhhaa.S
end
section
namespace Go.Proofs.Ytgncbhpmnjfhhaa.S
open Go.RowKit Go.Proofs.YtgncbhpmnjfhhaaW.PrintWords Go.Proofs.YtgncbhpmnjfhhaaW.PrintLast Go.Proofs.YtgncbhpmnjfhhaaW.PrintMore
set_option linter.unusedVariables false
set_option linter.unusedSimpArgs false
theorem dropS.calls (k gS : Nat) (ok : Nat → Prop) (l : List S30) (v : List ByteArray) (a b : Int) (r1 : List S30) (r2 : List ByteArray) (w0 w : World) (HB : Below w0.heap.size w0 w) (HgS : w0.heap.size ≤ gS) (HS : StS gS w0.heap.size ok w l v) (h : span_Map_string_Drop.f k l v a b = some (r1, r2)) (hab : a < b) :
    Calls Try.prog 38 #[.pointer (some ⟨gS, 0, none⟩), .agg #[.int .i64 a, .int .i64 b]] w fun e w' => e = .returned (.tuple #[]) ∧ Below w0.heap.size w0 w' ∧ StS gS w0.heap.size (fun k => w.heap.size ≤ k) w' r1 r2 ∧ Kept w w' (fun k => k = gS) := by
  obtain ⟨vl, vv, h1, h2, h3⟩ := HS
  obtain ⟨A, c, rfl⟩ := Kd.R_slice h2
  obtain ⟨A2, c2, rfl⟩ := Kd.R_slice h3
  refine (span_Map_string_Drop.calls k gS A c l A2 c2 v a b r1 r2 w (Kd.R_reads' h2).2.2 (Kd.R_reads' h2).2.1 (Kd.R_reads' h3).2.2 (Kd.R_reads' h3).2.1 h1 h).mono ?_
  rintro e w' ⟨rfl, hp⟩
  rcases hp with ⟨hn, _⟩ | ⟨_, wm, vl, vv, hb, hl, hv, rfl⟩
  · exact absurd hab hn
  · have hbm := blk_below h1 hb
    have hlt := blk_lt h1
    refine ⟨rfl, below_set (below_set (below_step HB hb) HgS) HgS, ⟨vl, vv, blk_put (blk_put hbm 0 _ rfl) 1 _ rfl, ?_, ?_⟩, ((Kept.of_below hb (fun k => k = gS)).setCell (p := ⟨gS, 0, none⟩) (.inl rfl) _).setCell (p := ⟨gS, 1, none⟩) (.inl rfl) _⟩
    · exact Kd.R_mono (Kd.R_lower (Kd.R_bound (Kd.R_set (Kd.R_set hl hbm (by decide) 0 vl) (blk_put hbm 0 _ rfl) (by decide) 1 vv)) HB.size) (fun k hk => hk.2.1)
    · exact Kd.R_mono (Kd.R_lower (Kd.R_bound (Kd.R_set (Kd.R_set hv hbm (by decide) 0 vl) (blk_put hbm 0 _ rfl) (by decide) 1 vv)) HB.size) (fun k hk => hk.2.1)
set_option maxHeartbeats 8000000 in
set_option maxRecDepth 100000 in
theorem putS.skip (gS : Nat) (l : List S30) (v : List ByteArray) (a b : Int) (x : ByteArray) (vl vv : Value) (w : World) (h1 : w.heap[gS]? = some (.cells #[vl, vv] 66 (0, 0))) (hab : ¬ a < b) :
    Calls Try.prog 39 #[.pointer (some ⟨gS, 0, none⟩), .agg #[.int .i64 a, .int .i64 b], .string x] w fun e w' => e = .returned (.tuple #[]) ∧ Below w.heap.size w w' := by
  have hu30 := Try.underlying30
  have A3 := Aside0.mk (show span_empty.f a b = some true by unfold span_empty.f; simp; omega)
  have HB := Aside0.mk (Below.refl w.heap.size w)
  clear hab h1
  go_enter Try.func39, Try.ntmps39
  go_wp2_with (first
    | ((with_reducible refine gate_dst (N := 4) rfl ?_); refine box_event ?hg (N := 4) ?hd (cs := #[.int .i64 a, .int .i64 b]) (t := 30) ?hr ?_; (case hd => rfl); (case hg => rfl); (case hr => first | (go_simp; done) | (go_simp; rfl)); intro gb hg w1 hbox hb; have HB1 := Aside0.mk (below_step HB.out hb); have BK := Aside0.mk hbox; clear HB hb hbox hg; have hcz0 : w1.cell? ⟨gb, 0, none⟩ = some (.int .i64 a) := (blk_cell BK.out 0).trans rfl; have hcz1 : w1.cell? ⟨gb, 1, none⟩ = some (.int .i64 b) := (blk_cell BK.out 1).trans rfl)
    | (go_at_call 48; (with_reducible refine (span_empty.calls a b true _ A3.out).mono ?_); rintro e w2 ⟨rfl, hb⟩; have HB2 := Aside0.mk (below_step HB1.out hb); clear hb))
  first | go_end0 | ((try simp only [Exit.inBlock, Exit.then]); refine bodyPost_ret (results_none rfl _ _ _) rfl ?_)
  exact ⟨rfl, HB2.out⟩
end Go.Proofs.Ytgncbhpmnjfhhaa.S
end
section
namespace Go.Proofs.Ytgncbhpmnjfhhaa.S
open Go.RowKit Go.Proofs.YtgncbhpmnjfhhaaW.PrintWords Go.Proofs.YtgncbhpmnjfhhaaW.PrintLast Go.Proofs.YtgncbhpmnjfhhaaW.PrintMore
set_option linter.unusedVariables false
set_option linter.unusedSimpArgs false
theorem api_str_62.callsI (v : Value) (xs : List ByteArray) (x : ByteArray) (i : Nat) (vb : Nat) (ok : Nat → Prop) (w0 w : World) (y : Int) (hy : y = (i : Int)) (HB : Below w0.heap.size w0 w) (HO : Kd.string.R 9 w w0.heap.size ok v xs) (hi : i ≤ xs.length) (hl : xs.length < 1000000000000)
    (hv : w.heap[vb]? = some (.cells (pw_strs [x]).toArray 9 (0, 0))) (hvb : some vb ≠ v.ownBlock) :
    Calls Try.prog 62 #[v, .int .i64 y, .slice (some ⟨vb, 0, none⟩) 1 1] w fun e w' => ∃ v', e = .returned v' ∧
      Kd.string.R 9 w' w0.heap.size (fun k => ok k ∨ w.heap.size ≤ k) v' (xs.take i ++ [x] ++ xs.drop i) ∧ Below w0.heap.size w0 w' ∧ Kept w w' (fun k => some k = v.ownBlock) := by
  subst hy; exact api_str_62.calls v xs x i vb ok w0 w HB HO hi hl hv hvb
theorem glueS.callsI (gS i : Nat) (ok : Nat → Prop) (l : List S30) (v : List ByteArray) (w0 w : World) (y : Int) (hy : y = (i : Int)) (HB : Below w0.heap.size w0 w) (HgS : w0.heap.size ≤ gS) (HS : StS gS w0.heap.size ok w l v) (hlv : l.length = v.length) (hl : l.length < 1000000000000) (hi : i < 1000000000000) :
    Calls Try.prog 63 #[.pointer (some ⟨gS, 0, none⟩), .int .i64 y] w fun e w' => e = .returned (.tuple #[]) ∧ Below w0.heap.size w0 w' ∧
      StS gS w0.heap.size ok w' (glueL ByteArray.empty l v i).1 (glueL ByteArray.empty l v i).2 ∧ Kept w w' (fun k => k = gS ∨ ok k) := by
  subst hy; exact glueS.calls gS i ok l v w0 w HB HgS HS hlv hl hi
set_option maxHeartbeats 8000000 in
set_option maxRecDepth 100000 in
theorem putS.main (k gS : Nat) (ok : Nat → Prop) (l : List S30) (v : List ByteArray) (a b : Int) (x : ByteArray) (r1 : List S30) (r2 : List ByteArray) (w0 w : World) (HB : Below w0.heap.size w0 w) (HgS : w0.heap.size ≤ gS) (HS : StS gS w0.heap.size ok w l v) (h : span_Map_string_Drop.f k l v a b = some (r1, r2)) (hab : a < b)
    (hlen : r1.length = r2.length) (hbig : r1.length < 900000000000) :
    Calls Try.prog 39 #[.pointer (some ⟨gS, 0, none⟩), .agg #[.int .i64 a, .int .i64 b], .string x] w fun e w' => e = .returned (.tuple #[]) ∧ Below w0.heap.size w0 w' ∧
      StS gS w0.heap.size (fun k => w.heap.size ≤ k) w' (putL ByteArray.empty r1 r2 ⟨a, b⟩ x).1 (putL ByteArray.empty r1 r2 ⟨a, b⟩ x).2 ∧ Kept w w' (fun k => k = gS) := by
  have hu30 := Try.underlying30
  have A3 := Aside0.mk (show span_empty.f a b = some false by unfold span_empty.f; simp; omega)
  have HBA := Aside0.mk HB
  have HSA := Aside0.mk HS
  have HA := Aside0.mk h
  have HAB := Aside0.mk hab
  have HL := Aside0.mk hlen
  have HG := Aside0.mk hbig
  obtain ⟨vl, vv, h1, h2, h3⟩ := HS
  have hSlt := Aside0.mk (blk_lt h1)
  clear h hab hlen hbig HB h1 h2 h3
  go_enter Try.func39, Try.ntmps39
  go_wp2_with (first
    | ((with_reducible refine gate_dst (N := 4) rfl ?_); refine box_event ?hg (N := 4) ?hd (cs := #[.int .i64 a, .int .i64 b]) (t := 30) ?hr ?_; (case hd => rfl); (case hg => rfl); (case hr => first | (go_simp; done) | (go_simp; rfl)); intro gb hg w1 hbox hb; have HB1 := Aside0.mk hb; have BK := Aside0.mk hbox; have HGB := Aside0.mk hg; clear hb hbox hg; have hcz0 : w1.cell? ⟨gb, 0, none⟩ = some (.int .i64 a) := (blk_cell BK.out 0).trans rfl; have hcz1 : w1.cell? ⟨gb, 1, none⟩ = some (.int .i64 b) := (blk_cell BK.out 1).trans rfl)
    | (go_at_call 48; (with_reducible refine (span_empty.calls a b false _ A3.out).mono ?_); rintro e w2 ⟨rfl, hb⟩; have HB2 := Aside0.mk (below_step HB1.out hb); have BK2 := Aside0.mk (blk_below BK.out hb); clear hb hcz0 hcz1; have hcz0 : w2.cell? ⟨gb, 0, none⟩ = some (.int .i64 a) := (blk_cell BK2.out 0).trans rfl; have hcz1 : w2.cell? ⟨gb, 1, none⟩ = some (.int .i64 b) := (blk_cell BK2.out 1).trans rfl)
    | (go_at_call 38; (with_reducible refine (dropS.calls k gS ok l v a b r1 r2 w0 w2 (below_step HBA.out HB2.out) HgS (HSA.out.kept (Kept.of_below HB2.out (fun _ => False)) (fun _ _ h => h) (fun h => h)) HA.out HAB.out).mono ?_); rintro e w3 ⟨rfl, hb, hs, hk⟩; have HB3 := Aside0.mk hb; have HS3 := Aside0.mk (hs.mono (ok' := fun k => w.heap.size ≤ k) (fun k h => Nat.le_trans HB2.out.size h)); have HK3 := Aside0.mk ((Kept.of_below HB2.out (fun k => k = gS)).then_ hk (fun k h => .inl h)); have BK3 := Aside0.mk (blk_kept BK2.out hk (fun e => by have := HGB.out; have := hSlt.out; omega)); clear hb hs hk hcz0 hcz1; have hcz0 : w3.cell? ⟨gb, 0, none⟩ = some (.int .i64 a) := (blk_cell BK3.out 0).trans rfl; have hcz1 : w3.cell? ⟨gb, 1, none⟩ = some (.int .i64 b) := (blk_cell BK3.out 1).trans rfl))
  obtain ⟨vl3, vv3, d1, d2, d3⟩ := HS3.out
  obtain ⟨A, c, rfl⟩ := Kd.R_slice d2
  obtain ⟨A2, c2, rfl⟩ := Kd.R_slice d3
  have D1 := Aside0.mk d1
  have D2 := Aside0.mk d2
  have D3 := Aside0.mk d3
  have hcs0 : w3.cell? ⟨gS, 0, none⟩ = some (.slice A r1.length c) := (blk_cell d1 0).trans rfl
  have hcs1 : w3.cell? ⟨gS, 1, none⟩ = some (.slice A2 r2.length c2) := (blk_cell d1 1).trans rfl
  have hfs0 := blk_frozen d1 0
  have hfs1 := blk_frozen d1 1
  clear d1 d2 d3 HS3 HSA HA A3 HB1 BK HB2 BK2
  go_loopg [6] r1.length (fun kq v6 w' => ∃ (j : Nat) (q : Nat), v6 = .int .i64 (j : Int) ∧ Aside0 (kq + j = r1.length) ∧ Aside0 (j ≤ atL r1 a) ∧ w' = w3.drewN q)
  case atStart => exact ⟨0, 0, rfl, ⟨by omega⟩, ⟨Nat.zero_le _⟩, rfl⟩
  case round =>
    obtain ⟨j, q, hv6, HJ, HJ2, rfl⟩ := hrel
    obtain ⟨y, hy⟩ : ∃ y : Int, y = (j : Int) := ⟨_, rfl⟩
    rw [← hy] at hv6
    subst hv6
    have HY := Aside0.mk hy
    have hle := Aside0.mk (atL_le r1 a)
    by_cases hja : j < atL r1 a
    · have p0 : 0 ≤ y := by omega
      have q0 : y < (r1.length : Int) := by have := hle.out; omega
      obtain ⟨ad, e, hx0, hx1⟩ := at_T30 (Kd.R_reads' D2.out).2.2 y p0 q0
      cases e
      have c1 : decide (y < (r1.length : Int)) = true := decide_eq_true q0
      have c2d : decide ((rd_T30 r1 y).f0 < a) = true := decide_eq_true (by have := atL_lt r1 a j hja; simp only [rd_T30]; rwa [show y.toNat = j by omega])
      have hw : IntKind.i64.wrap (y + 1) = ((j + 1 : Nat) : Int) := by have := hle.out; have := HG.out; rw [IntKind.wrap_i64]; omega
      have HJA := Aside0.mk hja
      obtain ⟨y1, hy1⟩ : ∃ y1 : Int, y1 = ((j + 1 : Nat) : Int) := ⟨_, rfl⟩
      rw [← hy1] at hw
      have HY1 := Aside0.mk hy1
      clear hja hy hy1
      go_wp2
      go_quiet (fail)
      go_wp2
      go_roundg (gk - 1)
      case measure => have := HJ.out; have := HJA.out; have := hle.out; omega
      case rel => exact ⟨j + 1, _, by rw [HY1.out], ⟨by have := HJ.out; have := HJA.out; have := hle.out; omega⟩, ⟨HJA.out⟩, rfl⟩
    · have hj : j = atL r1 a := by have := HJ2.out; omega
      by_cases hjl : j < r1.length
      · have p0 : 0 ≤ y := by omega
        have q0 : y < (r1.length : Int) := by omega
        obtain ⟨ad, e, hx0, hx1⟩ := at_T30 (Kd.R_reads' D2.out).2.2 y p0 q0
        cases e
        have c1 : decide (y < (r1.length : Int)) = true := decide_eq_true q0
        have c2d : decide ((rd_T30 r1 y).f0 < a) = false := decide_eq_false (by have := atL_end r1 a (by omega); simp only [rd_T30]; rw [show y.toNat = atL r1 a by omega]; exact this)
        have HJE := Aside0.mk hj
        clear hja hy hj hjl
        go_wp2
        go_quiet (fail)
        go_wp2
        have E1 := blk_drewN (blk_drewN D1.out q) nq
        have E2 := Kd.R_drewN (Kd.R_drewN D2.out q) nq
        have E3 := Kd.R_drewN (Kd.R_drewN D3.out q) nq
        have E4 := blk_drewN (blk_drewN BK3.out q) nq
        have E5 := pw_below_drewN (pw_below_drewN HB3.out q) nq
        have E6 := (HK3.out.drewN q).drewN nq
        generalize (w3.drewN q).drewN nq = w4 at *
        have hle2 : j ≤ r1.length := by have := HJE.out; have := hle.out; omega
        have F2 := Aside0.mk E2
        have F1 := Aside0.mk E1
        have F3 := Aside0.mk E3
        have F5 := Aside0.mk E5
        have F6 := Aside0.mk E6
        clear hcz0 hcz1 hcs0 hcs1 hfs0 hfs1 D1 D2 D3 BK3 HB3 HK3
        have hcs0 : w4.cell? ⟨gS, 0, none⟩ = some (.slice (some ad) r1.length c) := (blk_cell E1 0).trans rfl
        have hcs1 : w4.cell? ⟨gS, 1, none⟩ = some (.slice A2 r2.length c2) := (blk_cell E1 1).trans rfl
        have hcz0 : w4.cell? ⟨gb, 0, none⟩ = some (.int .i64 a) := (blk_cell E4 0).trans rfl
        have hcz1 : w4.cell? ⟨gb, 1, none⟩ = some (.int .i64 b) := (blk_cell E4 1).trans rfl
        have hne : some w4.heap.size ≠ (Value.slice (some ad) r1.length c).ownBlock := fun e => absurd (Kd.R_lt E2 _ e.symm) (by omega)
        have HNE := Aside0.mk hne
        have HNS := Aside0.mk (Kd.R_away (Kd.R_types E2 E1 (by decide)) (fun k hk => hk.2))
        have F3a := Aside0.mk (Kd.R_apartR E3 E2 (by decide))
        have HSW := Aside0.mk (blk_lt E1)
        have hS1 := blk_lt E1
        have hb1 := blk_lt E4
        have hS2 : ¬ gS = w4.heap.size := by omega
        have hb2 : ¬ gb = w4.heap.size := by omega
        clear E1 E2 E3 E4 E5 E6 hne
        obtain ⟨l1, hl1⟩ : ∃ l1, l1 = r1.take j ++ [(⟨a, b⟩ : S30)] ++ r1.drop j := ⟨_, rfl⟩
        have NL1 := Aside0.mk hl1
        clear hl1
        go_region_with (go_at_call 57; refine (api_Span_57.callsI _ r1 ⟨a, b⟩ j w4.heap.size (fun k => w.heap.size ≤ k) w0 _ y HY.out (below_alloc (below_drew F5.out) _) (Kd.R_alloc (Kd.R_drew F2.out) _) hle2 (by have := HG.out; omega) (blk_new w4.drew _) HNE.out).mono ?_; rintro e w5 ⟨v5, rfl, hr, hb, hk⟩; rw [← NL1.out] at hr; obtain ⟨A5, c5, rfl⟩ := Kd.R_slice hr; have R5 := Aside0.mk hr; have B5 := Aside0.mk hb; have K5 := Aside0.mk hk; have G5 := Aside0.mk (blk_kept (blk_alloc (blk_drew F1.out) _) hk HNS.out); clear hr hb hk hcs0 hcs1; have hcs0 : w5.cell? ⟨gS, 0, none⟩ = some (.slice (some ad) r1.length c) := (blk_cell G5.out 0).trans rfl; have hcs1 : w5.cell? ⟨gS, 1, none⟩ = some (.slice A2 r2.length c2) := (blk_cell G5.out 1).trans rfl; have hfs0 := blk_frozen G5.out 0; have hfs1 := blk_frozen G5.out 1)
        all_goals (
          have E1 := blk_put G5.out 0 (.slice A5 l1.length c5) rfl
          have E2 := Kd.R_set R5.out G5.out (by decide) 0 (.slice A5 l1.length c5)
          have E3 := Kd.R_set (Kd.R_kept (Kd.R_alloc (Kd.R_drew F3a.out) _) K5.out (fun k hk => hk.2)) G5.out (by decide) 0 (.slice A5 l1.length c5)
          have E5 : Below w0.heap.size w0 (w5.setCell ⟨gS, 0, none⟩ (.slice A5 l1.length c5)) := below_set B5.out HgS
          have E7 : Kept w w5 (fun k => k = gS ∨ w.heap.size ≤ k) := ((F6.out.drew).alloc _).mono (fun k h => .inl h) |>.then_ K5.out (fun k hk => .inl (.inr (F2.out.1 k hk.symm)))
          have E6 := E7.setCell (p := ⟨gS, 0, none⟩) (.inl (.inl rfl)) (.slice A5 l1.length c5)
          clear E7
          replace E2 := Kd.R_mono E2 (ok' := fun k => w.heap.size ≤ k) (fun k hk => hk.elim (fun h => h) (fun h => Nat.le_trans (Nat.le_trans F6.out.1 (by simp [World.alloc])) h))
          replace E3 := Kd.R_mono E3 (ok' := fun k => w.heap.size ≤ k) (fun k hk => hk.1)
          clear hcs0 hcs1 hfs0 hfs1
          generalize w5.setCell ⟨gS, 0, none⟩ (.slice A5 l1.length c5) = w6 at *
          have G6 : Aside0 (w6.heap[gS]? = some (.cells #[.slice A5 l1.length c5, .slice A2 r2.length c2] 66 (0, 0))) := ⟨E1⟩
          have hne6 : some w6.heap.size ≠ (Value.slice A2 r2.length c2).ownBlock := fun e => absurd (Kd.R_lt E3 _ e.symm) (by omega)
          have HNE6 := Aside0.mk hne6
          have HNV := Aside0.mk (Kd.R_away (Kd.R_types E3 E1 (by decide)) (fun k hk => hk.2))
          have E2a := Aside0.mk (Kd.R_apartR E2 E3 (by decide))
          have R6 := Aside0.mk E2
          have V6 := Aside0.mk E3
          have B6 := Aside0.mk E5
          have K6 := Aside0.mk E6
          have hS6 := blk_lt E1
          have hS62 : ¬ gS = w6.heap.size := by omega
          clear hne6 E1 E2 E3 E5 E6
          have hcs0 : w6.cell? ⟨gS, 0, none⟩ = some (.slice A5 l1.length c5) := (blk_cell G6.out 0).trans rfl
          have hcs1 : w6.cell? ⟨gS, 1, none⟩ = some (.slice A2 r2.length c2) := (blk_cell G6.out 1).trans rfl
          obtain ⟨v1, hv1⟩ : ∃ v1, v1 = r2.take j ++ [x] ++ r2.drop j := ⟨_, rfl⟩
          have NV1 := Aside0.mk hv1
          clear hv1
          obtain ⟨y1, hy1⟩ : ∃ y1, y1 = IntKind.i64.wrap (y + 1) := ⟨_, rfl⟩
          have hw := hy1.symm
          have HY1 := Aside0.mk (show y1 = ((j + 1 : Nat) : Int) by rw [hy1, IntKind.wrap_i64]; have := HY.out; have := HG.out; omega)
          clear hy1
          have HLL := Aside0.mk (show l1.length = v1.length by rw [NL1.out, NV1.out, insL_len _ _ _ hle2, insL_len _ _ _ (by have := HL.out; omega)]; have := HL.out; omega)
          have HLB := Aside0.mk (show l1.length < 1000000000000 by rw [NL1.out, insL_len _ _ _ hle2]; have := HG.out; omega)
          have HLG := Aside0.mk (glueL_len ByteArray.empty l1 v1 (j + 1) HLL.out)
          go_wp2_with (first
            | (go_at_call 62; refine (api_str_62.callsI _ r2 x j w6.heap.size (fun k => w.heap.size ≤ k) w0 _ y HY.out (below_alloc B6.out _) (Kd.R_alloc V6.out _) (by have := HL.out; omega) (by have := HL.out; have := HG.out; omega) (blk_new w6 _) HNE6.out).mono ?_; rintro e w7 ⟨v7, rfl, hr, hb, hk⟩; rw [← NV1.out] at hr; obtain ⟨A7, c7, rfl⟩ := Kd.R_slice hr; have V7 := Aside0.mk (Kd.R_mono hr (ok' := fun k => w.heap.size ≤ k) (fun k hk => hk.elim (fun h => h) (fun h => Nat.le_trans (Nat.le_trans K6.out.1 (below_alloc (Below.refl w6.heap.size w6) _).size) h))); have B7 := Aside0.mk hb; have K7 := Aside0.mk ((K6.out.alloc _).then_ hk (fun k hk => .inl (.inr (V6.out.1 k hk.symm)))); have G7 := Aside0.mk (blk_kept (blk_alloc G6.out _) hk HNV.out); have R7 := Aside0.mk (Kd.R_mono (Kd.R_kept (Kd.R_alloc E2a.out _) hk (fun k hk => hk.2)) (ok' := fun k => w.heap.size ≤ k) (fun k h => h.1)); clear hr hb hk hcs0 hcs1; have hcs0 : w7.cell? ⟨gS, 0, none⟩ = some (.slice A5 l1.length c5) := (blk_cell G7.out 0).trans rfl; have hcs1 : w7.cell? ⟨gS, 1, none⟩ = some (.slice A2 r2.length c2) := (blk_cell G7.out 1).trans rfl; have hfs0 := blk_frozen G7.out 0; have hfs1 := blk_frozen G7.out 1)
            | (go_at_call_of 63 (Value.int IntKind.i64 y1); refine (glueS.callsI gS (j + 1) (fun k => w.heap.size ≤ k) l1 v1 w0 _ y1 HY1.out (below_set B7.out HgS) HgS ⟨_, _, blk_put G7.out 1 _ rfl, Kd.R_set R7.out G7.out (by decide) 1 _, Kd.R_set V7.out G7.out (by decide) 1 _⟩ HLL.out HLB.out (by have := HG.out; omega)).mono ?_; rintro e w8 ⟨rfl, hb, hs, hk⟩; have B8 := Aside0.mk hb; have S8 := Aside0.mk hs; have K8 := Aside0.mk ((K7.out.setCell (p := ⟨gS, 1, none⟩) (.inl (.inl rfl)) _).then_ hk (fun k h => .inl h)); clear hb hs hk hcs0 hcs1)
            | (go_at_call_of 63 (Value.int IntKind.i64 y); refine (glueS.callsI gS j (fun k => w.heap.size ≤ k) _ _ w0 _ y HY.out B8.out HgS S8.out HLG.out.1 (Nat.lt_of_le_of_lt HLG.out.2 HLB.out) (by have := HG.out; omega)).mono ?_; rintro e w9 ⟨rfl, hb, hs, hk⟩; have B9 := Aside0.mk hb; have S9 := Aside0.mk hs; have K9 := Aside0.mk (K8.out.then_ hk (fun k h => .inl h)); clear hb hs hk))
          first | go_end0 | ((try simp only [Exit.inBlock, Exit.then]); refine bodyPost_ret (results_none rfl _ _ _) rfl ?_)
          have hput : glueL ByteArray.empty (glueL ByteArray.empty l1 v1 (j + 1)).1 (glueL ByteArray.empty l1 v1 (j + 1)).2 j = putL ByteArray.empty r1 r2 ⟨a, b⟩ x := by
            rw [NL1.out, NV1.out, HJE.out]; rfl
          have S_ := S9.out
          rw [hput] at S_
          exact ⟨rfl, B9.out, S_, K9.out.1, fun k hk hne => K9.out.2 k hk (fun h => h.elim hne (fun h => absurd hk (by omega)))⟩)
      · have HJE := Aside0.mk hj
        have c1 : decide (y < (r1.length : Int)) = false := decide_eq_false (by omega)
        clear hja hy hj hjl
        go_wp2
        go_quiet (fail)
        go_wp2
        have E1 := blk_drewN (blk_drewN D1.out q) nq
        have E2 := Kd.R_drewN (Kd.R_drewN D2.out q) nq
        have E3 := Kd.R_drewN (Kd.R_drewN D3.out q) nq
        have E4 := blk_drewN (blk_drewN BK3.out q) nq
        have E5 := pw_below_drewN (pw_below_drewN HB3.out q) nq
        have E6 := (HK3.out.drewN q).drewN nq
        generalize (w3.drewN q).drewN nq = w4 at *
        have hle2 : j ≤ r1.length := by have := HJE.out; have := hle.out; omega
        have F2 := Aside0.mk E2
        have F1 := Aside0.mk E1
        have F3 := Aside0.mk E3
        have F5 := Aside0.mk E5
        have F6 := Aside0.mk E6
        clear hcz0 hcz1 hcs0 hcs1 hfs0 hfs1 D1 D2 D3 BK3 HB3 HK3
        have hcs0 : w4.cell? ⟨gS, 0, none⟩ = some (.slice A r1.length c) := (blk_cell E1 0).trans rfl
        have hcs1 : w4.cell? ⟨gS, 1, none⟩ = some (.slice A2 r2.length c2) := (blk_cell E1 1).trans rfl
        have hcz0 : w4.cell? ⟨gb, 0, none⟩ = some (.int .i64 a) := (blk_cell E4 0).trans rfl
        have hcz1 : w4.cell? ⟨gb, 1, none⟩ = some (.int .i64 b) := (blk_cell E4 1).trans rfl
        have hne : some w4.heap.size ≠ (Value.slice A r1.length c).ownBlock := fun e => absurd (Kd.R_lt E2 _ e.symm) (by omega)
        have HNE := Aside0.mk hne
        have HNS := Aside0.mk (Kd.R_away (Kd.R_types E2 E1 (by decide)) (fun k hk => hk.2))
        have F3a := Aside0.mk (Kd.R_apartR E3 E2 (by decide))
        have HSW := Aside0.mk (blk_lt E1)
        have hS1 := blk_lt E1
        have hb1 := blk_lt E4
        have hS2 : ¬ gS = w4.heap.size := by omega
        have hb2 : ¬ gb = w4.heap.size := by omega
        clear E1 E2 E3 E4 E5 E6 hne
        obtain ⟨l1, hl1⟩ : ∃ l1, l1 = r1.take j ++ [(⟨a, b⟩ : S30)] ++ r1.drop j := ⟨_, rfl⟩
        have NL1 := Aside0.mk hl1
        clear hl1
        go_region_with (go_at_call 57; refine (api_Span_57.callsI _ r1 ⟨a, b⟩ j w4.heap.size (fun k => w.heap.size ≤ k) w0 _ y HY.out (below_alloc (below_drew F5.out) _) (Kd.R_alloc (Kd.R_drew F2.out) _) hle2 (by have := HG.out; omega) (blk_new w4.drew _) HNE.out).mono ?_; rintro e w5 ⟨v5, rfl, hr, hb, hk⟩; rw [← NL1.out] at hr; obtain ⟨A5, c5, rfl⟩ := Kd.R_slice hr; have R5 := Aside0.mk hr; have B5 := Aside0.mk hb; have K5 := Aside0.mk hk; have G5 := Aside0.mk (blk_kept (blk_alloc (blk_drew F1.out) _) hk HNS.out); clear hr hb hk hcs0 hcs1; have hcs0 : w5.cell? ⟨gS, 0, none⟩ = some (.slice A r1.length c) := (blk_cell G5.out 0).trans rfl; have hcs1 : w5.cell? ⟨gS, 1, none⟩ = some (.slice A2 r2.length c2) := (blk_cell G5.out 1).trans rfl; have hfs0 := blk_frozen G5.out 0; have hfs1 := blk_frozen G5.out 1)
        all_goals (
          have E1 := blk_put G5.out 0 (.slice A5 l1.length c5) rfl
          have E2 := Kd.R_set R5.out G5.out (by decide) 0 (.slice A5 l1.length c5)
          have E3 := Kd.R_set (Kd.R_kept (Kd.R_alloc (Kd.R_drew F3a.out) _) K5.out (fun k hk => hk.2)) G5.out (by decide) 0 (.slice A5 l1.length c5)
          have E5 : Below w0.heap.size w0 (w5.setCell ⟨gS, 0, none⟩ (.slice A5 l1.length c5)) := below_set B5.out HgS
          have E7 : Kept w w5 (fun k => k = gS ∨ w.heap.size ≤ k) := ((F6.out.drew).alloc _).mono (fun k h => .inl h) |>.then_ K5.out (fun k hk => .inl (.inr (F2.out.1 k hk.symm)))
          have E6 := E7.setCell (p := ⟨gS, 0, none⟩) (.inl (.inl rfl)) (.slice A5 l1.length c5)
          clear E7
          replace E2 := Kd.R_mono E2 (ok' := fun k => w.heap.size ≤ k) (fun k hk => hk.elim (fun h => h) (fun h => Nat.le_trans (Nat.le_trans F6.out.1 (by simp [World.alloc])) h))
          replace E3 := Kd.R_mono E3 (ok' := fun k => w.heap.size ≤ k) (fun k hk => hk.1)
          clear hcs0 hcs1 hfs0 hfs1
          generalize w5.setCell ⟨gS, 0, none⟩ (.slice A5 l1.length c5) = w6 at *
          have G6 : Aside0 (w6.heap[gS]? = some (.cells #[.slice A5 l1.length c5, .slice A2 r2.length c2] 66 (0, 0))) := ⟨E1⟩
          have hne6 : some w6.heap.size ≠ (Value.slice A2 r2.length c2).ownBlock := fun e => absurd (Kd.R_lt E3 _ e.symm) (by omega)
          have HNE6 := Aside0.mk hne6
          have HNV := Aside0.mk (Kd.R_away (Kd.R_types E3 E1 (by decide)) (fun k hk => hk.2))
          have E2a := Aside0.mk (Kd.R_apartR E2 E3 (by decide))
          have R6 := Aside0.mk E2
          have V6 := Aside0.mk E3
          have B6 := Aside0.mk E5
          have K6 := Aside0.mk E6
          have hS6 := blk_lt E1
          have hS62 : ¬ gS = w6.heap.size := by omega
          clear hne6 E1 E2 E3 E5 E6
          have hcs0 : w6.cell? ⟨gS, 0, none⟩ = some (.slice A5 l1.length c5) := (blk_cell G6.out 0).trans rfl
          have hcs1 : w6.cell? ⟨gS, 1, none⟩ = some (.slice A2 r2.length c2) := (blk_cell G6.out 1).trans rfl
          obtain ⟨v1, hv1⟩ : ∃ v1, v1 = r2.take j ++ [x] ++ r2.drop j := ⟨_, rfl⟩
          have NV1 := Aside0.mk hv1
          clear hv1
          obtain ⟨y1, hy1⟩ : ∃ y1, y1 = IntKind.i64.wrap (y + 1) := ⟨_, rfl⟩
          have hw := hy1.symm
          have HY1 := Aside0.mk (show y1 = ((j + 1 : Nat) : Int) by rw [hy1, IntKind.wrap_i64]; have := HY.out; have := HG.out; omega)
          clear hy1
          have HLL := Aside0.mk (show l1.length = v1.length by rw [NL1.out, NV1.out, insL_len _ _ _ hle2, insL_len _ _ _ (by have := HL.out; omega)]; have := HL.out; omega)
          have HLB := Aside0.mk (show l1.length < 1000000000000 by rw [NL1.out, insL_len _ _ _ hle2]; have := HG.out; omega)
          have HLG := Aside0.mk (glueL_len ByteArray.empty l1 v1 (j + 1) HLL.out)
          go_wp2_with (first
            | (go_at_call 62; refine (api_str_62.callsI _ r2 x j w6.heap.size (fun k => w.heap.size ≤ k) w0 _ y HY.out (below_alloc B6.out _) (Kd.R_alloc V6.out _) (by have := HL.out; omega) (by have := HL.out; have := HG.out; omega) (blk_new w6 _) HNE6.out).mono ?_; rintro e w7 ⟨v7, rfl, hr, hb, hk⟩; rw [← NV1.out] at hr; obtain ⟨A7, c7, rfl⟩ := Kd.R_slice hr; have V7 := Aside0.mk (Kd.R_mono hr (ok' := fun k => w.heap.size ≤ k) (fun k hk => hk.elim (fun h => h) (fun h => Nat.le_trans (Nat.le_trans K6.out.1 (below_alloc (Below.refl w6.heap.size w6) _).size) h))); have B7 := Aside0.mk hb; have K7 := Aside0.mk ((K6.out.alloc _).then_ hk (fun k hk => .inl (.inr (V6.out.1 k hk.symm)))); have G7 := Aside0.mk (blk_kept (blk_alloc G6.out _) hk HNV.out); have R7 := Aside0.mk (Kd.R_mono (Kd.R_kept (Kd.R_alloc E2a.out _) hk (fun k hk => hk.2)) (ok' := fun k => w.heap.size ≤ k) (fun k h => h.1)); clear hr hb hk hcs0 hcs1; have hcs0 : w7.cell? ⟨gS, 0, none⟩ = some (.slice A5 l1.length c5) := (blk_cell G7.out 0).trans rfl; have hcs1 : w7.cell? ⟨gS, 1, none⟩ = some (.slice A2 r2.length c2) := (blk_cell G7.out 1).trans rfl; have hfs0 := blk_frozen G7.out 0; have hfs1 := blk_frozen G7.out 1)
            | (go_at_call_of 63 (Value.int IntKind.i64 y1); refine (glueS.callsI gS (j + 1) (fun k => w.heap.size ≤ k) l1 v1 w0 _ y1 HY1.out (below_set B7.out HgS) HgS ⟨_, _, blk_put G7.out 1 _ rfl, Kd.R_set R7.out G7.out (by decide) 1 _, Kd.R_set V7.out G7.out (by decide) 1 _⟩ HLL.out HLB.out (by have := HG.out; omega)).mono ?_; rintro e w8 ⟨rfl, hb, hs, hk⟩; have B8 := Aside0.mk hb; have S8 := Aside0.mk hs; have K8 := Aside0.mk ((K7.out.setCell (p := ⟨gS, 1, none⟩) (.inl (.inl rfl)) _).then_ hk (fun k h => .inl h)); clear hb hs hk hcs0 hcs1)
            | (go_at_call_of 63 (Value.int IntKind.i64 y); refine (glueS.callsI gS j (fun k => w.heap.size ≤ k) _ _ w0 _ y HY.out B8.out HgS S8.out HLG.out.1 (Nat.lt_of_le_of_lt HLG.out.2 HLB.out) (by have := HG.out; omega)).mono ?_; rintro e w9 ⟨rfl, hb, hs, hk⟩; have B9 := Aside0.mk hb; have S9 := Aside0.mk hs; have K9 := Aside0.mk (K8.out.then_ hk (fun k h => .inl h)); clear hb hs hk))
          first | go_end0 | ((try simp only [Exit.inBlock, Exit.then]); refine bodyPost_ret (results_none rfl _ _ _) rfl ?_)
          have hput : glueL ByteArray.empty (glueL ByteArray.empty l1 v1 (j + 1)).1 (glueL ByteArray.empty l1 v1 (j + 1)).2 j = putL ByteArray.empty r1 r2 ⟨a, b⟩ x := by
            rw [NL1.out, NV1.out, HJE.out]; rfl
          have S_ := S9.out
          rw [hput] at S_
          exact ⟨rfl, B9.out, S_, K9.out.1, fun k hk hne => K9.out.2 k hk (fun h => h.elim hne (fun h => absurd hk (by omega)))⟩)
end Go.Proofs.Ytgncbhpmnjfhhaa.S
end
section
namespace Go.Proofs.Ytgncbhpmnjfhhaa.S
open Go.RowKit Go.Proofs.YtgncbhpmnjfhhaaW.PrintWords Go.Proofs.YtgncbhpmnjfhhaaW.PrintLast Go.Proofs.YtgncbhpmnjfhhaaW.PrintMore
set_option linter.unusedVariables false
set_option linter.unusedSimpArgs false
def api_str_96.f (l0 : List ByteArray) : Option (List ByteArray) := if l0.length < 8796093022208 then some l0 else none
set_option maxHeartbeats 1000000 in
set_option maxRecDepth 100000 in
theorem api_str_96.calls (A0 : Option Addr) (c0 : Nat) (l0 : List ByteArray) (r : List ByteArray) (w : World) (hr0 : Kd.C Kd.string w A0 l0.length l0) (hc0 : l0.length ≤ c0) (h : api_str_96.f l0 = some r) :
    Calls Try.prog 96 #[.slice A0 l0.length c0] w fun e w' => ∃ v0_ : Value, e = .returned (v0_) ∧ Kd.R Kd.string 9 w' w.heap.size (fun _ => True) v0_ r ∧ Below w.heap.size w w' := by
  unfold api_str_96.f at h
  split at h
  · rename_i hlen
    injection h with h
    subst h
    have q22 : ∀ (w : World) (a : Option Addr) (n c n' c' : Nat), (binOp .eql 64 (.slice a n c) (.slice none n' c')).run Try.prog w = .ok (.bool a.isNone) w := fun w a n c n' c' => Lib.run_eql_slice_nil w _ _ a n c n' c' Try.underlying64
    have LM := Aside0.mk hlen
    clear hlen
    have HR0 := Aside0.mk hr0
    have HC0 := Aside0.mk hc0
    clear hr0 hc0
    cases A0 with
    | none =>
      have h0 : l0 = [] := by
        rcases Nat.eq_zero_or_pos l0.length with h | h
        · exact List.eq_nil_of_length_eq_zero h
        · obtain ⟨ad, e, _⟩ := HR0.out.2.2 h
          cases e
      subst h0
      clear LM HR0 HC0
      go_enter Try.func96, Try.ntmps96
      go_wp2
      go_ret
      exact ⟨_, rfl, Kd.R_nil _ _ _ _ _, Below.refl _ _⟩
    | some ad =>
      have HB := Aside0.mk (Below.refl w.heap.size w)
      go_enter Try.func96, Try.ntmps96
      go_wp2_with (first | ((with_reducible refine gate_dst (N := 5) rfl ?_); refine Kd.R_lit Kd.string _ 9 ?hg (N := 5) ?hd (xs := ([] : List ByteArray)) (inner := []) (ok := fun _ => True) (okp := fun _ => True) ?hr ?hp (fun _ hk => hk) trivial (Below.refl _ _) (Nat.le_refl _) (by simp) ?_; (case hd => rfl); (case hg => rfl); (case hr => first | (go_simp; done) | (go_simp; rfl)); (case hp => exact (Reps.none _ _)); intro v102 w3 ho4 hb hg_ hnew_; clear hg_ hnew_; have n0_ := Aside0.mk (Kd.R_lower ho4 (below_size (by repeat (first | (with_reducible first | exact HB.out | apply below_alloc | apply pw_below_drewN | apply below_drew1) | exact HB.out)))); have n1_ := Aside0.mk (below_step (by repeat (first | (with_reducible first | exact HB.out | apply below_alloc | apply pw_below_drewN | apply below_drew1) | exact HB.out)) hb); clear HB; have HO103 := n0_; have HB := n1_; clear n0_ n1_; clear hb ho4) | ((with_reducible refine gate_builtin (b := .append) (xs := #[.tmp 5, .tmp 6]) rfl ?_); at_builtin; refine Kd.R_append_rows Kd.string (w0 := w) w.heap.size rfl (.tmp 5) (.tmp 6) 64 9 (.string ByteArray.empty) 16 rfl Try.underlying64 info9 rfl (by decide) (by omega) v102 ([] : List ByteArray) l0 _ _ _ (fun _ => True) (fun _ => False) rfl rfl ?aO ?aR (fun _ _ h => h) (fun _ h => h.elim) ?aF ?aB ?aS ?aL ?_; (case aR => repeat (first | exact (Kd.C_below HR0.out HB.out) | (with_reducible refine Kd.C_alloc ?_ _) | (with_reducible refine Kd.C_drewN ?_ _) | (with_reducible refine Kd.C_drew ?_))); (case aB => exact (by repeat (first | (with_reducible first | exact HB.out | apply below_alloc | apply pw_below_drewN | apply below_drew1) | exact HB.out))); (case aF => exact (fun _ _ => trivial)); (case aO => exact (by (with_reducible repeat (first | apply Kd.R_alloc | apply Kd.R_drewN | apply Kd.R_drew)); exact HO103.out)); (case aS => exact (below_size (by repeat (first | (with_reducible first | exact HB.out | apply below_alloc | apply pw_below_drewN | apply below_drew1) | exact HB.out)))); (case aL => have := LM.out; simp only [List.length_nil]; omega); intro v105 w5 ho hb hg hat; have n0_ := Aside0.mk (hb); have n1_ := Aside0.mk (ho); clear HB; clear HO103; have HB := n0_; have HO106 := n1_; clear n0_ n1_; clear ho hb hg hat))
      go_ret
      exact ⟨_, rfl, HO106.out, HB.out⟩
  · cases h
set_option maxHeartbeats 4000000 in
set_option maxRecDepth 100000 in
theorem cloneS.nil (w : World) : Calls Try.prog 81 #[.pointer none] w fun e w' => ∃ gC, e = .returned (.pointer (some ⟨gC, 0, none⟩)) ∧ Below w.heap.size w w' ∧ w.heap.size ≤ gC ∧ StS gC w.heap.size (fun _ => True) w' [] [] := by
  have hu41 := Try.underlying66
  go_enter Try.func81, Try.ntmps81
  go_wp2
  go_ret
  exact ⟨_, rfl, below_alloc (Below.refl _ _) _, Nat.le_refl _, _, _, blk_new _ _, Kd.R_nil _ _ _ _ _, Kd.R_nil _ _ _ _ _⟩
set_option maxHeartbeats 4000000 in
set_option maxRecDepth 100000 in
theorem cloneS.calls (gS base : Nat) (ok : Nat → Prop) (l : List S30) (v : List ByteArray) (w : World) (HS : StS gS base ok w l v) (hl : l.length < 8796093022208) (hv : v.length < 8796093022208) :
    Calls Try.prog 81 #[.pointer (some ⟨gS, 0, none⟩)] w fun e w' => ∃ gC, e = .returned (.pointer (some ⟨gC, 0, none⟩)) ∧ Below w.heap.size w w' ∧ w.heap.size ≤ gC ∧ StS gC w.heap.size (fun _ => True) w' l v := by
  have hu41 := Try.underlying66
  obtain ⟨vl, vv, h1, h2, h3⟩ := HS
  obtain ⟨A, c, rfl⟩ := Kd.R_slice h2
  obtain ⟨A2, c2, rfl⟩ := Kd.R_slice h3
  have H1 := Aside0.mk h1
  have HL := Aside0.mk (Kd.R_reads' h2).2
  have HV := Aside0.mk (Kd.R_reads' h3).2
  have HB := Aside0.mk (Below.refl w.heap.size w)
  have hf47 := Aside0.mk (show api_Span_47.f l = some l from if_pos hl)
  have hf61 := Aside0.mk (show api_str_96.f v = some v from if_pos (by omega))
  have hcz0 : w.cell? ⟨gS, 0, none⟩ = some (.slice A l.length c) := (blk_cell h1 0).trans rfl
  have hcz1 : w.cell? ⟨gS, 1, none⟩ = some (.slice A2 v.length c2) := (blk_cell h1 1).trans rfl
  clear h1 h2 h3 hl hv
  go_enter Try.func81, Try.ntmps81
  go_wp2
  go_region_with (first
    | (go_at_call 47; refine (api_Span_47.calls A c l l _ (Kd.C_below HL.out.2 (by repeat (first | (with_reducible first | exact HB.out | apply below_alloc | apply pw_below_drewN | apply below_drew1 | apply below_drew) | exact HB.out))) HL.out.1 hf47.out).mono ?_; rintro e w5 ⟨v5, rfl, hr, hb⟩; have n0 := Aside0.mk (Kd.R_lower hr (below_size (by repeat (first | (with_reducible first | exact HB.out | apply below_alloc | apply pw_below_drewN | apply below_drew1 | apply below_drew) | exact HB.out)))); obtain ⟨A5, c5, rfl⟩ := Kd.R_slice hr; have R5 := n0; have n1 := Aside0.mk (below_step (by repeat (first | (with_reducible first | exact HB.out | apply below_alloc | apply pw_below_drewN | apply below_drew1 | apply below_drew) | exact HB.out)) hb); (try (have n2 := Aside0.mk (Kd.R_below R6.out hb); clear R6; have R6 := n2; clear n2)); have n3 := Aside0.mk (blk_below H1.out n1.out); clear HB hcz0 hcz1; have HB := n1; have hcz0 : w5.cell? ⟨gS, 0, none⟩ = some (.slice A l.length c) := (blk_cell n3.out 0).trans rfl; have hcz1 : w5.cell? ⟨gS, 1, none⟩ = some (.slice A2 v.length c2) := (blk_cell n3.out 1).trans rfl; clear n0 n1 n3 hr hb)
    | (go_at_call 96; refine (api_str_96.calls A2 c2 v v _ (Kd.C_below HV.out.2 (by repeat (first | (with_reducible first | exact HB.out | apply below_alloc | apply pw_below_drewN | apply below_drew1 | apply below_drew) | exact HB.out))) HV.out.1 hf61.out).mono ?_; rintro e w6 ⟨v6, rfl, hr, hb⟩; have n0 := Aside0.mk (Kd.R_lower hr (below_size (by repeat (first | (with_reducible first | exact HB.out | apply below_alloc | apply pw_below_drewN | apply below_drew1 | apply below_drew) | exact HB.out)))); obtain ⟨A6, c6, rfl⟩ := Kd.R_slice hr; have R6 := n0; have n1 := Aside0.mk (below_step (by repeat (first | (with_reducible first | exact HB.out | apply below_alloc | apply pw_below_drewN | apply below_drew1 | apply below_drew) | exact HB.out)) hb); (try (have n2 := Aside0.mk (Kd.R_below R5.out hb); clear R5; have R5 := n2; clear n2)); have n3 := Aside0.mk (blk_below H1.out n1.out); clear HB hcz0 hcz1; have HB := n1; have hcz0 : w6.cell? ⟨gS, 0, none⟩ = some (.slice A l.length c) := (blk_cell n3.out 0).trans rfl; have hcz1 : w6.cell? ⟨gS, 1, none⟩ = some (.slice A2 v.length c2) := (blk_cell n3.out 1).trans rfl; clear n0 n1 n3 hr hb))
  all_goals (
    go_wp2
    go_ret
    exact ⟨_, rfl, below_alloc HB.out _, HB.out.size, _, _, blk_new _ _, Kd.R_alloc R5.out _, Kd.R_alloc R6.out _⟩)
end Go.Proofs.Ytgncbhpmnjfhhaa.S
end
section
namespace Go.Proofs.Ytgncbhpmnjfhhaa.S
open Go.RowKit Go.Proofs.YtgncbhpmnjfhhaaW.PrintWords Go.Proofs.YtgncbhpmnjfhhaaW.PrintLast Go.Proofs.YtgncbhpmnjfhhaaW.PrintMore
set_option linter.unusedVariables false
set_option linter.unusedSimpArgs false
attribute [local go_sem] Oper.semAt_some
theorem zip_snocS (l : List S30) (v : List ByteArray) (k : Nat) (h1 : k < l.length) (h2 : k < v.length) (x : Int) (hx : x = (k : Int)) : (l.zip v).take k ++ [(rd_T30 l x, rdOf ByteArray.empty v x)] = (l.zip v).take (k + 1) := by
  have hk : k < (l.zip v).length := by rw [List.length_zip]; omega
  rw [List.take_succ_eq_append_getElem hk, List.getElem_zip]
  have : x.toNat = k := by omega
  simp only [rd_T30, rdOf, this, List.getD_eq_getElem?_getD, List.getElem?_eq_getElem h1, List.getElem?_eq_getElem h2, Option.getD_some]
set_option maxHeartbeats 8000000 in
set_option maxRecDepth 100000 in
theorem eachS.calls (p : Option Addr) (w : World) : Calls Try.prog 64 #[.pointer p] w fun e w' => e = .returned (.func (.func 80) #[] #[.pointer (some ⟨w.heap.size, 0, none⟩)]) ∧ w' = w.alloc (.cells #[.pointer p] 93) := by
  go_enter Try.func64, Try.ntmps64
  go_wp2
  go_ret
  exact ⟨rfl, rfl⟩
set_option maxHeartbeats 4000000 in
set_option maxRecDepth 100000 in
theorem eachS.walk (n : Nat) (hn : 1 ≤ n) (y Bs : Nat) (p : Option Addr) (l : List S30) (v : List ByteArray) (Own : World → Nat → Prop) (J Jx : List (S30 × ByteArray) → World → Prop)
    (hY : ∀ pre x W1, J pre W1 → pre.length < (l.zip v).length → YieldAt Fence.wide (n - 1) Try.prog y #[.agg #[.int .i64 x.1.f0, .int .i64 x.1.f1], .string x.2] W1 fun e W' =>
      (e = .returned (.bool true) ∧ J (pre ++ [x]) W' ∧ KpO Own W1 W') ∨ (e = .returned (.bool false) ∧ Jx (pre ++ [x]) W'))
    (W : World) (hBs : W.cell? ⟨Bs, 0, none⟩ = some (.pointer p))
    (hC : Calls Try.prog 81 #[.pointer p] W fun e w' => ∃ gC, e = .returned (.pointer (some ⟨gC, 0, none⟩)) ∧ Below W.heap.size W w' ∧ W.heap.size ≤ gC ∧ StS gC W.heap.size (fun _ => True) w' l v)
    (hOwn : ∀ W2, Below W.heap.size W W2 → ∀ k, Own W2 k → k < W.heap.size) (hOwnB : ∀ A B, W.heap.size ≤ A.heap.size → Below A.heap.size A B → ∀ k, k < A.heap.size → Own B k → Own A k) (hlv : l.length = v.length) (hl : l.length < 1000000000000) (hJ : AbidesFrom W.heap.size J) (h0 : J [] W) :
    CallsIn Fence.wide n Try.prog 80 #[.func (.yield y) #[] #[], .pointer (some ⟨Bs, 0, none⟩)] W fun e W' => (∃ v, e = .returned v) ∧ ((∃ ys, ys = l.zip v ∧ J ys W') ∨ (∃ pre, pre <+: l.zip v ∧ Jx pre W')) := by
  have hu30 := Try.underlying30
  have hu41 := Try.underlying66
  refine callsIn_of_wp Try.func80 rfl trivial ?_ rfl
  simp only [Try.ntmps80, List.size_toArray, List.length_cons, List.length_nil, Nat.reduceAdd, Nat.reduceSub, Array.replicate_succ, Array.replicate_zero, List.push_toArray, List.append_toArray, List.nil_append, List.cons_append]
  have HL := Aside0.mk hlv
  have HLL := Aside0.mk hl
  have hzl := Aside0.mk (show (l.zip v).length = l.length by rw [List.length_zip]; omega)
  clear hlv hl
  gi_wp2_with (refine ⟨trivial, ?_⟩; gi_at_call 81; refine (callsIn_wide.2 hC).mono ?_; rintro e wc ⟨gC, rfl, hb, hg, hs⟩; obtain ⟨vl, vv, d1, d2, d3⟩ := hs; obtain ⟨A, c, rfl⟩ := Kd.R_slice d2; obtain ⟨A2, c2, rfl⟩ := Kd.R_slice d3; have hcz0 : wc.cell? ⟨gC, 0, none⟩ = some (.slice A l.length c) := (blk_cell d1 0).trans rfl)
  have HKC := Aside0.mk hb
  have hJc : J [] wc := hJ [] W wc none h0 (grown_of_below hb none) (fun r e => by cases e)
  have D1 := Aside0.mk d1
  have D2 := Aside0.mk d2
  have D3 := Aside0.mk d3
  clear d1 d2 d3 hcz0
  gi_loopw [13] (fun i wr => ∃ k : Nat, k ≤ l.length ∧ i = .int .i64 (k : Int) ∧ J ((l.zip v).take k) wr ∧ KpO Own wc wr ∧ W.heap.size ≤ wr.heap.size)
    (fun i _ => l.length - (intOf i).toNat)
  case atStart => exact ⟨0, Nat.zero_le _, rfl, hJc, KpO.refl _ _, hb.size⟩
  case round =>
    obtain ⟨k, hk, rfl, hJs, hKs, hsz⟩ := hrel
    have hno : ∀ k, W.heap.size ≤ k → ¬ Own wc k := fun k hk ho => absurd (hOwn wc HKC.out k ho) (by omega)
    have e1 := hKs.2.2 _ _ _ _ D1.out (hno _ hg)
    have e2 := KpO.row D2.out hKs hno
    have e3 := KpO.row D3.out hKs hno
    have HK := Aside0.mk hk
    have HKs := Aside0.mk hKs
    obtain ⟨x, hx⟩ : ∃ x : Int, x = (k : Int) := ⟨_, rfl⟩
    rw [← hx]
    by_cases hlt : k < l.length
    · have p0 : 0 ≤ x := by omega
      have q0 : x < (l.length : Int) := by omega
      have q1 : x < (v.length : Int) := by have := HL.out; omega
      obtain ⟨ad, e4, hx0, hx1⟩ := at_T30 (Kd.R_reads' e2).2.2 x p0 q0
      obtain ⟨bd, e5, hz0⟩ := Kd.at_string (Kd.R_reads' e3).2.2 x p0 q1
      cases e4; cases e5
      have c1 : decide (x < (l.length : Int)) = true := decide_eq_true q0
      obtain ⟨hgC⟩ : Aside0 (gC < wr.heap.size) := ⟨blk_lt e1⟩
      have hcz0 : wr.cell? ⟨gC, 0, none⟩ = some (.slice (some ad) l.length c) := (blk_cell e1 0).trans rfl
      have hcz1 : wr.cell? ⟨gC, 1, none⟩ = some (.slice (some bd) v.length c2) := (blk_cell e1 1).trans rfl
      have HXA := Aside0.mk hx
      have E1 := Aside0.mk e1
      have E2 := Aside0.mk e2
      have E3 := Aside0.mk e3
      have hbd := Aside0.mk (World.block_lt_of_cell? wr _ hz0)
      clear hx e1 e2 e3 hk hKs
      have hJ1 := hJ _ wr ((wr.alloc (.cells #[.int .i64 (rd_T30 l x).f0, .int .i64 (rd_T30 l x).f1] 30)).drew) none hJs (grown_of_below (below_drew (below_alloc (Below.refl _ _) _)) none) (fun r e => by cases e)
      obtain ⟨fn, tmps, assign, body, hy, hRd⟩ := hY _ (rd_T30 l x, rdOf ByteArray.empty v x) _ hJ1 (by rw [List.length_take, hzl.out]; omega)
      dsimp only at hy
      have hz1 : (wr.alloc (.cells #[.int .i64 (rd_T30 l x).f0, .int .i64 (rd_T30 l x).f1] 30)).cell? (bd.add x.toNat) = some (.string (rdOf ByteArray.empty v x)) := ((below_alloc (Below.refl wr.heap.size wr) _).cell hbd.out).trans hz0
      have hR2 := hRd.mono (R' := fun e W' => ∃ b : Bool, e = .returned (.bool b) ∧ ((b = true ∧ J ((l.zip v).take k ++ [(rd_T30 l x, rdOf ByteArray.empty v x)]) W' ∧ KpO Own _ W') ∨ (b = false ∧ Jx ((l.zip v).take k ++ [(rd_T30 l x, rdOf ByteArray.empty v x)]) W'))) (fun e W' h => by
        rcases h with ⟨rfl, h1, h2⟩ | ⟨rfl, h1⟩
        · exact ⟨true, rfl, .inl ⟨rfl, h1, h2⟩⟩
        · exact ⟨false, rfl, .inr ⟨rfl, h1⟩⟩)
      have mixed : Try.prog.follows .mixedOrders = true := by kernel_rfl
      clear hRd
      have hBA0 : Below wr.heap.size wr ((wr.alloc (.cells #[.int .i64 (rd_T30 l x).f0, .int .i64 (rd_T30 l x).f1] 30)).drew) := below_drew (below_alloc (Below.refl _ _) _)
      have hBA := Aside0.mk hBA0
      clear hBA0
      have hzs := zip_snocS l v k hlt (by have := HL.out; omega) x HXA.out
      have hw : IntKind.i64.wrap (x + 1) = ((k + 1 : Nat) : Int) := by have := HXA.out; have := HLL.out; rw [IntKind.wrap_i64]; omega
      gi_wp2
      gi_region_with_o (refine hR2.mono ?_; rintro e W3 ⟨b, rfl, hr⟩)
      all_goals (
        rw [hzs] at hr
        rcases hr with ⟨rfl, hJ3, hk3⟩ | ⟨rfl, hJx3⟩
        · have hkp := HKs.out.trans ((KpO.of_below hBA.out (hOwnB wr _ hsz hBA.out)).trans hk3)
          have hsz3 : W.heap.size ≤ W3.heap.size := Nat.le_trans hsz (Nat.le_trans hBA.out.size hk3.1)
          clear hY hR2 hJ1 hy
          gi_wp2
          go_roundw
          case rel => exact ⟨k + 1, by omega, by simp [hw], hJ3, hkp, hsz3⟩
          case measure => have := HXA.out; simp [intOf]; omega
        · gi_wp2
          refine bodyPost_ret (results_none rfl _ _ _) rfl ?_
          exact ⟨⟨_, rfl⟩, .inr ⟨_, List.take_prefix _ _, hJx3⟩⟩)
    · have hkl : k = l.length := by have := HK.out; omega
      have c1 : decide (x < (l.length : Int)) = false := decide_eq_false (by omega)
      clear hx e1 e2 e3 hk hKs
      gi_wp2
      go_end0
      exact ⟨⟨_, rfl⟩, .inl ⟨_, by rw [hkl, ← hzl.out, List.take_length], hJs⟩⟩
end Go.Proofs.Ytgncbhpmnjfhhaa.S
end
section
namespace Go.Proofs.Ytgncbhpmnjfhhaa.S
open Go.RowKit Go.Shelf Go.Proofs.YtgncbhpmnjfhhaaW.PrintWords Go.Proofs.YtgncbhpmnjfhhaaW.PrintLast Go.Proofs.YtgncbhpmnjfhhaaW.PrintMore
set_option linter.unusedVariables false
set_option linter.unusedSimpArgs false
attribute [local go_sem] Oper.semAt_some
def encS (x : S30 × ByteArray) : Array Value := #[.agg #[.int .i64 x.1.f0, .int .i64 x.1.f1], .string x.2]
def OptS (p : Option Addr) (w : World) (l : List S30) (v : List ByteArray) : Prop :=
  (p = none ∧ l = [] ∧ v = []) ∨ ∃ gS base ok, p = some ⟨gS, 0, none⟩ ∧ StS gS base ok w l v
theorem OptS.below {p : Option Addr} {w w' : World} {l : List S30} {v : List ByteArray} (h : OptS p w l v) (hb : Below w.heap.size w w') : OptS p w' l v := by
  rcases h with h | ⟨gS, base, ok, rfl, h⟩
  · exact .inl h
  · exact .inr ⟨gS, base, ok, rfl, h.kept (Kept.of_below hb (fun _ => False)) (fun _ _ h => h) (fun h => h)⟩
theorem OptS.clone {p : Option Addr} {w : World} {l : List S30} {v : List ByteArray} (h : OptS p w l v) (hl : l.length < 1000000000000) (hlv : l.length = v.length) :
    Calls Try.prog 81 #[.pointer p] w fun e w' => ∃ gC, e = .returned (.pointer (some ⟨gC, 0, none⟩)) ∧ Below w.heap.size w w' ∧ w.heap.size ≤ gC ∧ StS gC w.heap.size (fun _ => True) w' l v := by
  rcases h with ⟨rfl, rfl, rfl⟩ | ⟨gS, base, ok, rfl, h⟩
  · exact cloneS.nil w
  · exact cloneS.calls gS base ok l v w h (by omega) (by omega)
theorem eachS.stops (n : Nat) (hn : 1 ≤ n) (Bs : Nat) (p : Option Addr) (l : List S30) (v : List ByteArray) (Own : World → Nat → Prop) (w : World) (hBs : w.cell? ⟨Bs, 0, none⟩ = some (.pointer p)) (hS : OptS p w l v)
    (hOwn : ∀ W2, Below w.heap.size w W2 → ∀ k, Own W2 k → k < w.heap.size)
    (hOwnB : ∀ A B, w.heap.size ≤ A.heap.size → Below A.heap.size A B → ∀ k, k < A.heap.size → Own B k → Own A k) (hlv : l.length = v.length) (hl : l.length < 1000000000000) :
    SeqStopsK Fence.wide n Try.prog 80 #[.pointer (some ⟨Bs, 0, none⟩)] encS (KpO Own) (fun xs => xs = l.zip v) (fun pre => pre <+: l.zip v) (l.zip v).length w := fun y J Jx W hW hJ _ hY h0 =>
  eachS.walk n hn y Bs p l v Own J Jx hY W ((hW.cell (World.block_lt_of_cell? w _ hBs)).trans hBs) ((hS.below hW).clone hl hlv)
    (fun W2 hb k hk => Nat.lt_of_lt_of_le (hOwn W2 (hW.trans (hb.mono hW.size)) k hk) hW.size) (fun A B hA => hOwnB A B (Nat.le_trans hW.size hA)) hlv hl hJ h0
set_option maxHeartbeats 4000000 in
set_option maxRecDepth 100000 in
theorem lenS.calls (p : Option Addr) (l : List S30) (v : List ByteArray) (w : World) (hS : OptS p w l v) (hlv : l.length = v.length) (hl : l.length < 1000000000000) :
    Calls Try.prog 40 #[.pointer p] w fun e W' => e = .returned (.int .i64 (l.length : Int)) ∧ Below w.heap.size w W' := by
  have HS := Aside0.mk hS
  have HL := Aside0.mk hlv
  have HLL := Aside0.mk hl
  have hzl := Aside0.mk (show (l.zip v).length = l.length by rw [List.length_zip]; omega)
  clear hS hlv hl
  refine (callsIn_wide (n := 3)).1 ?_
  refine callsIn_of_wp_marks Try.func40 rfl trivial ?_ rfl
  simp only [Try.ntmps40, List.size_toArray, List.length_cons, List.length_nil, Nat.reduceAdd, Nat.reduceSub, Array.replicate_succ, Array.replicate_zero, List.push_toArray, List.append_toArray, List.nil_append, List.cons_append]
  gi_wp2_with (refine ⟨trivial, ?_⟩; gi_at_call 64; refine (callsIn_wide.2 (eachS.calls p _)).mono ?_; rintro e w' ⟨rfl, rfl⟩)
  have c0 := newCell w (.int .i64 0) 3
  have c1 := newCell (w.alloc (.cells #[.int .i64 0] 3)) (.pointer p) 93
  rw [World.size_alloc] at c1
  have hB0 : Below w.heap.size w ((w.alloc (.cells #[.int .i64 0] 3)).alloc (.cells #[.pointer p] 93)) := ((Below.refl _ w).alloc (Nat.le_refl _) _).alloc (by simp) _
  refine wpIn_rangeFunc_ownF rfl (by omega) (gf := 80) (lb := #[.pointer (some ⟨w.heap.size + 1, 0, none⟩)]) rfl trivial (enters_of Try.func80 (by kernel_rfl) rfl)
    (eachS.stops 2 (by omega) (w.heap.size + 1) p l v (fun _ k => k = w.heap.size) _ c1.1 (HS.out.below hB0) (fun W2 hb k hk => by rw [hk]; simp; omega) (fun _ _ _ _ _ _ h => h) HL.out HLL.out) KpO.trans (fun W y o o' _ h hc _ => KpO.putObj (fun _ _ _ _ h => h) W y o o' h hc) (Below.refl _ _) (fun _ => rfl)
    (fun pre W => (W.cell? ⟨w.heap.size, 0, none⟩ = some (.int .i64 (pre.length : Int)) ∧ W.frozen? ⟨w.heap.size, 0, none⟩ = false) ∧ Below w.heap.size w W)
    (fun _ _ _ => False)
    (OwnFrom.and (Own.from (fun s A B row hs hg hr => ⟨cell_kept hs.1 hg hr, (frozen_kept hs.1 hg hr).trans hs.2⟩) _) (ownFrom_below (Nat.le_refl _) (by simp; omega)))
    (fun _ _ _ _ _ hs _ _ => hs)
    ⟨⟨allocCell _ c0.1, allocFrozen _ c0.1 c0.2⟩, hB0⟩
    (fun x => { tmps := #[.pointer p, undef, .int .i64 0, .pointer (some ⟨w.heap.size, 0, none⟩), .pointer p, .func (.func 80) #[] #[.pointer (some ⟨w.heap.size + 1, 0, none⟩)], .agg #[.int .i64 x.1.f0, .int .i64 x.1.f1], .string x.2, undef, undef, undef], defers := [] }) ?assign ?body ?done ?stop
  case assign =>
    intro y x W K hK
    unfold encS
    gi_wp2
    simp
    exact hK
  case body =>
    rintro y pre x W ⟨⟨hc, hf⟩, hB⟩ hlen
    have hw : IntKind.i64.wrap ((pre.length : Int) + 1) = ((pre.length + 1 : Nat) : Int) := by have := hzl.out; have := HLL.out; rw [IntKind.wrap_i64]; omega
    gi_wp2
    refine ⟨KeepsOthers.setCell _ _ _, ?_, ⟨?_, ?_⟩, ?_⟩
    · exact ⟨by simp [World.setCell], fun _ _ h => h, fun k cs t fr h hk => (Below.heap_setCell W ⟨w.heap.size, 0, none⟩ _ k hk).trans h⟩
    · rw [List.length_append]
      have := World.cell?_setCell_same' W ⟨w.heap.size, 0, none⟩ (.int .i64 ((pre.length + 1 : Nat) : Int)) (by rw [hc]; rfl)
      simpa using this
    · rw [World.frozen?_setCell]; exact hf
    · exact hB.setCell (p := ⟨w.heap.size, 0, none⟩) (Nat.le_refl _) _
  case done =>
    rintro D ys W hD rfl ⟨⟨hc, _⟩, hB⟩ hK
    rw [hzl.out] at hc
    gi_wp2
    refine ⟨by simp, .inl ⟨_, _, rfl, run_takeDeferred hK, ?_⟩⟩
    exact ⟨_, results_tmp rfl _ _ _, rfl, hB.trans (belowK_b (w := w) (Nat.le_refl _) W D _ _ (by simp at hD; omega) hK rfl rfl)⟩
  case stop =>
    rintro D c pre W _ _ h _
    exact h.elim
end Go.Proofs.Ytgncbhpmnjfhhaa.S
end
section
namespace Go.Proofs.Ytgncbhpmnjfhhaa.S
open Go.RowKit Go.Proofs.YtgncbhpmnjfhhaaW.PrintWords Go.Proofs.YtgncbhpmnjfhhaaW.PrintLast Go.Proofs.YtgncbhpmnjfhhaaW.PrintMore
attribute [local go_sem] max2_int min2_int max_two min_two max_three min_three max_four min_four
set_option linter.unusedVariables false
set_option linter.unusedSimpArgs false
def span_Map_string_Get.l0 : Nat → Int → ByteArray → List (S30) → Int → Int → List (S30) → List ByteArray → Option (ByteArray × Bool)
  | 0, _, _, _, _, _, _, _ => none
  | k + 1, x1, x6, x15, x16, x17, x227000, x227001 => if x17 < x16 then (if 0 ≤ x17 then (if x17 < (x15.length : Int) then (if ((rd_T30 x15 x17).f0) ≤ x1 then (if x1 < ((rd_T30 x15 x17).f1) then (if x17 < (x227001.length : Int) then (some (rdOf ByteArray.empty x227001 x17, true)) else (none)) else (span_Map_string_Get.l0 k x1 x6 x15 x16 (wrap64 (x17 + 1)) x227000 x227001)) else (span_Map_string_Get.l0 k x1 x6 x15 x16 (wrap64 (x17 + 1)) x227000 x227001)) else (none)) else (none)) else (some (x6, false))
def span_Map_string_Get.f (k : Nat) (l0_0 : List (S30)) (l0_1 : List ByteArray) (a1 : Int) : Option (ByteArray × Bool) := span_Map_string_Get.l0 k a1 ByteArray.empty l0_0 (l0_0.length : Int) 0 l0_0 l0_1
theorem span_Map_string_Get.mono_l : ∀ k, (∀ y0 y1 y2 y3 y4 y5 y6, LeO (span_Map_string_Get.l0 k y0 y1 y2 y3 y4 y5 y6) (span_Map_string_Get.l0 (k + 1) y0 y1 y2 y3 y4 y5 y6))
  | 0 => fun _ _ _ _ _ _ _ r h => by simp [span_Map_string_Get.l0] at h
  | k + 1 => by
    have ih0 := span_Map_string_Get.mono_l k
    · intro y0 y1 y2 y3 y4 y5 y6
      unfold span_Map_string_Get.l0
      repeat' first
      | (with_reducible exact ih0 _ _ _ _ _ _ _)
      | (with_reducible exact LeO.refl _)
      | (with_reducible exact LeO.none _)
      | (with_reducible refine LeO.ite ?_ ?_)
      | (with_reducible refine LeO.bind ?_ (fun _ => ?_))
      | exact ih0 _ _ _ _ _ _ _
      | exact LeO.none _
      | refine LeO.ite ?_ ?_
      | refine LeO.bind ?_ (fun _ => ?_)
theorem span_Map_string_Get.mono : ∀ a0 a1 a2 k, LeO (span_Map_string_Get.f k a0 a1 a2) (span_Map_string_Get.f (k + 1) a0 a1 a2) := by
  intro a0 a1 a2 k
  have ih0 := span_Map_string_Get.mono_l k
  unfold span_Map_string_Get.f
  repeat' first
      | (with_reducible exact ih0 _ _ _ _ _ _ _)
      | (with_reducible exact LeO.refl _)
      | (with_reducible exact LeO.none _)
      | (with_reducible refine LeO.ite ?_ ?_)
      | (with_reducible refine LeO.bind ?_ (fun _ => ?_))
      | exact ih0 _ _ _ _ _ _ _
      | exact LeO.none _
      | refine LeO.ite ?_ ?_
      | refine LeO.bind ?_ (fun _ => ?_)
set_option maxHeartbeats 8000000 in
set_option maxRecDepth 100000 in
theorem span_Map_string_Get.calls (k gS : Nat) (A0_0 : Option Addr) (c0_0 : Nat) (l0_0 : List (S30)) (A0_1 : Option Addr) (c0_1 : Nat) (l0_1 : List ByteArray) (a1 : Int) (r1 : ByteArray) (r2 : Bool) (w : World) (hr0_0 : Kd.C k30 w A0_0 l0_0.length l0_0) (hc0_0 : l0_0.length ≤ c0_0) (hr0_1 : Kd.C Kd.string w A0_1 l0_1.length l0_1) (hc0_1 : l0_1.length ≤ c0_1) (hgS : w.heap[gS]? = some (.cells #[.slice A0_0 l0_0.length c0_0, .slice A0_1 l0_1.length c0_1] 66 (0, 0))) (h : span_Map_string_Get.f k l0_0 l0_1 a1 = some (r1, r2)) :
    Calls Try.prog 41 #[.pointer (some ⟨gS, 0, none⟩), .int .i64 a1] w fun e w' => e = .returned (.tuple #[.string r1, .bool r2]) ∧ Below w.heap.size w w' := by
  have hu41 := Try.underlying66
  have hu30 := Try.underlying30
  have HR0_0 := Aside0.mk hr0_0
  have HC0_0 := Aside0.mk hc0_0
  clear hr0_0 hc0_0
  have HR0_1 := Aside0.mk hr0_1
  have HC0_1 := Aside0.mk hc0_1
  clear hr0_1 hc0_1
  have HB := Aside0.mk (Below.refl w.heap.size w)
  have BK226 := Aside0.mk hgS
  clear hgS
  have H : (span_Map_string_Get.l0 k a1 ByteArray.empty l0_0 (l0_0.length : Int) 0 l0_0 l0_1) = some (r1, r2) := h
  clear h
  have H' := Aside0.mk H
  clear H
  go_enter Try.func41, Try.ntmps41
  have hcz4_0 : w.cell? ⟨gS, 0, none⟩ = some (.slice A0_0 l0_0.length c0_0) := (blk_cell BK226.out 0).trans rfl
  have hcz4_1 : w.cell? ⟨gS, 1, none⟩ = some (.slice A0_1 l0_1.length c0_1) := (blk_cell BK226.out 1).trans rfl
  have hfz4_0 := blk_frozen BK226.out 0
  have hfz4_1 := blk_frozen BK226.out 1
  go_wp2
  go_loopg [17] k (fun kq v17 w' => ∃ (x17_1 : Int), v17 = .int .i64 x17_1 ∧ Aside0 (span_Map_string_Get.l0 kq a1 ByteArray.empty l0_0 (l0_0.length : Int) x17_1 l0_0 l0_1 = some (r1, r2)) ∧ Aside0 (kq ≤ k) ∧ Aside0 (w'.heap[gS]? = some (.cells #[(.slice A0_0 l0_0.length c0_0), (.slice A0_1 l0_1.length c0_1)] 66 (0, 0))) ∧ Aside0 (Below w.heap.size w w'))
  case atStart => exact ⟨(0), (by first | rfl | (simp; done) | (simp [*]; done)), H', ⟨Nat.le_refl _⟩, ⟨by (with_reducible repeat (first | refine blk_drewN ?_ _ | refine blk_drew ?_ | refine blk_alloc ?_ _)); exact BK226.out⟩, ⟨by repeat (first | (with_reducible first | exact HB.out | apply below_alloc | apply pw_below_drewN | apply below_drew1 | refine below_set ?_ GE226.out) | exact HB.out)⟩⟩
  case round =>
    clear H'
    try clear p2
    try clear c3
    try clear hcz4_0
    try clear hcz4_1
    try clear hfz4_0
    try clear hfz4_1
    obtain ⟨x17_1, rfl, HA, HK1, BK226, HB⟩ := hrel
    cases gk with
    | zero => exact absurd HA.out (by simp [span_Map_string_Get.l0])
    | succ k1 =>
      have H := HA.out
      clear HA
      simp only [span_Map_string_Get.l0] at H
      by_cases c5 : x17_1 < (l0_0.length : Int)
      · rw [if_pos c5] at H
        have c5b0 : decide (x17_1 < (l0_0.length : Int)) = true := decide_eq_true c5
        clear c5
        by_cases c6 : 0 ≤ x17_1
        · rw [if_pos c6] at H
          have c6b0 : decide (0 ≤ x17_1) = true := decide_eq_true c6
          clear c6
          by_cases c7 : x17_1 < (l0_0.length : Int)
          · rw [if_pos c7] at H
            have c7b0 : decide (x17_1 < (l0_0.length : Int)) = true := decide_eq_true c7
            clear c7
            by_cases c8 : ((rd_T30 l0_0 x17_1).f0) ≤ a1
            · rw [if_pos c8] at H
              have c8b0 : decide (((rd_T30 l0_0 x17_1).f0) ≤ a1) = true := decide_eq_true c8
              clear c8
              by_cases c9 : a1 < ((rd_T30 l0_0 x17_1).f1)
              · rw [if_pos c9] at H
                have c9b0 : decide (a1 < ((rd_T30 l0_0 x17_1).f1)) = true := decide_eq_true c9
                clear c9
                by_cases c10 : x17_1 < (l0_1.length : Int)
                · rw [if_pos c10] at H
                  have c10b0 : decide (x17_1 < (l0_1.length : Int)) = true := decide_eq_true c10
                  clear c10
                  simp only [Option.some.injEq, Prod.mk.injEq] at H
                  obtain ⟨rfl, rfl⟩ := H
                  have p227 : 0 ≤ (x17_1 : Int) := of_decide_eq_true (by first | (with_reducible assumption) | assumption)
                  have q227 : x17_1 < (l0_0.length : Int) := of_decide_eq_true (by first | (with_reducible assumption) | assumption)
                  obtain ⟨ad227, e227, hx227_0, hx227_1⟩ := at_T30 HR0_0.out x17_1 p227 q227
                  cases e227
                  replace hx227_0 := (HB.out.cell (World.block_lt_of_cell? w _ hx227_0)).trans hx227_0
                  replace hx227_1 := (HB.out.cell (World.block_lt_of_cell? w _ hx227_1)).trans hx227_1
                  replace p227 := eq_true p227
                  replace q227 := eq_true q227
                  go_wp2_with (first | ((with_reducible refine gate_dst (N := 8) rfl ?_); refine box_event ?hg (N := 8) ?hd (cs := #[.int .i64 0, .int .i64 0]) (t := 30) ?hr ?_; (case hd => rfl); (case hg => rfl); (case hr => first | (go_simp; done) | (go_simp; rfl)); intro gb228 hg w11 hbox hb; have n0_ := Aside0.mk (blk_below (g := gS) (o := .cells #[.slice (some ad227) l0_0.length c0_0, .slice A0_1 l0_1.length c0_1] 66 (0, 0)) (by (with_reducible repeat (first | refine blk_drewN ?_ _ | refine blk_drew ?_ | refine blk_alloc ?_ _)); exact BK226.out) hb); have n1_ := Aside0.mk (below_step (by repeat (first | (with_reducible first | exact HB.out | apply below_alloc | apply pw_below_drewN | apply below_drew1 | refine below_set ?_ GE226.out) | exact HB.out)) hb); have n2_ := Aside0.mk (hbox); have n3_ := Aside0.mk ((by rw [hg]; exact (below_size (by repeat (first | (with_reducible first | exact HB.out | apply below_alloc | apply pw_below_drewN | apply below_drew1 | refine below_set ?_ GE226.out) | exact HB.out))) : w.heap.size ≤ gb228)); have n4_ := Aside0.mk ((by rw [hg]; exact (below_size (by repeat (first | (with_reducible first | exact HB.out | apply below_alloc | apply pw_below_drewN | apply below_drew1 | refine below_set ?_ GE226.out) | exact HB.out))) : w.heap.size ≤ gb228)); have n5_ := Aside0.mk ((by rw [hg]; exact Nat.ne_of_lt (blk_lt (g := gS) (o := .cells #[.slice (some ad227) l0_0.length c0_0, .slice A0_1 l0_1.length c0_1] 66 (0, 0)) (by (with_reducible repeat (first | refine blk_drewN ?_ _ | refine blk_drew ?_ | refine blk_alloc ?_ _)); exact BK226.out)) : gS ≠ gb228)); have n6_ := Aside0.mk ((by rw [hg]; exact Nat.ne_of_gt (blk_lt (g := gS) (o := .cells #[.slice (some ad227) l0_0.length c0_0, .slice A0_1 l0_1.length c0_1] 66 (0, 0)) (by (with_reducible repeat (first | refine blk_drewN ?_ _ | refine blk_drew ?_ | refine blk_alloc ?_ _)); exact BK226.out)) : gb228 ≠ gS)); clear BK226; clear HB; have BK226 := n0_; have HB := n1_; have BK228 := n2_; have GW228 := n3_; have GE228 := n4_; have NB226_228 := n5_; have NB228_226 := n6_; clear n0_ n1_ n2_ n3_ n4_ n5_ n6_; clear hb hbox hg; have hnb12 := NB228_226.out; have hnc12 := NB226_228.out; have hcz13_0 : w11.cell? ⟨gb228, 0, none⟩ = some (.int .i64 0) := (blk_cell BK228.out 0).trans rfl; have hcz13_1 : w11.cell? ⟨gb228, 1, none⟩ = some (.int .i64 0) := (blk_cell BK228.out 1).trans rfl; have hfz13_0 := blk_frozen BK228.out 0; have hfz13_1 := blk_frozen BK228.out 1; have hcz14_0 : w11.cell? ⟨gS, 0, none⟩ = some (.slice (some ad227) l0_0.length c0_0) := (blk_cell BK226.out 0).trans rfl; have hcz14_1 : w11.cell? ⟨gS, 1, none⟩ = some (.slice A0_1 l0_1.length c0_1) := (blk_cell BK226.out 1).trans rfl; have hfz14_0 := blk_frozen BK226.out 0; have hfz14_1 := blk_frozen BK226.out 1; have p229 : 0 ≤ (x17_1 : Int) := of_decide_eq_true (by first | (with_reducible assumption) | assumption); have q229 : x17_1 < (l0_1.length : Int) := of_decide_eq_true (by first | (with_reducible assumption) | assumption); obtain ⟨ad229, e229, hx229_0⟩ := Kd.at_string HR0_1.out x17_1 p229 q229; cases e229; have hn229_0 : ad229.block ≠ gb228 := Nat.ne_of_lt (Nat.lt_of_lt_of_le (by have := World.block_lt_of_cell? _ _ hx229_0; first | rwa [add_block] at this | exact this) GW228.out); have hn229_1 : ad229.block ≠ gb228 := Nat.ne_of_lt (Nat.lt_of_lt_of_le (by have := World.block_lt_of_cell? _ _ hx229_0; first | rwa [add_block] at this | exact this) GW228.out); replace hx229_0 := (HB.out.cell (World.block_lt_of_cell? w _ hx229_0)).trans hx229_0; replace hx229_0 := (cell_far (p := ⟨gb228, 0, none⟩) (by first | (rw [add_block]; exact hn229_0) | (show (Addr.add _ _).block ≠ _; rw [add_block]; exact hn229_0) | exact hn229_0) (.int .i64 ((rd_T30 l0_0 x17_1).f0))).trans hx229_0; replace hx229_0 := (cell_far (p := ⟨gb228, 1, none⟩) (by first | (rw [add_block]; exact hn229_1) | (show (Addr.add _ _).block ≠ _; rw [add_block]; exact hn229_1) | exact hn229_1) (.int .i64 ((rd_T30 l0_0 x17_1).f1))).trans hx229_0; clear hn229_0; clear hn229_1; replace p229 := eq_true p229; replace q229 := eq_true q229))
                  go_ret2
                  exact ⟨by first | rfl | (simp [errW_none, errW_some] <;> rfl) | (simp [*, errW_none, errW_some] <;> rfl), by repeat (first | (with_reducible first | exact HB.out | apply below_alloc | apply pw_below_drewN | apply below_drew1 | refine below_set ?_ GE226.out | refine below_set ?_ GE228.out) | exact HB.out)⟩
                · rw [if_neg c10] at H
                  exact absurd H (by simp)
              · rw [if_neg c9] at H
                have c9b0 : decide (a1 < ((rd_T30 l0_0 x17_1).f1)) = false := decide_eq_false c9
                clear c9
                have H' := Aside0.mk H
                clear H
                have p227 : 0 ≤ (x17_1 : Int) := of_decide_eq_true (by first | (with_reducible assumption) | assumption)
                have q227 : x17_1 < (l0_0.length : Int) := of_decide_eq_true (by first | (with_reducible assumption) | assumption)
                obtain ⟨ad227, e227, hx227_0, hx227_1⟩ := at_T30 HR0_0.out x17_1 p227 q227
                cases e227
                replace hx227_0 := (HB.out.cell (World.block_lt_of_cell? w _ hx227_0)).trans hx227_0
                replace hx227_1 := (HB.out.cell (World.block_lt_of_cell? w _ hx227_1)).trans hx227_1
                replace p227 := eq_true p227
                replace q227 := eq_true q227
                go_wp2_with (first | ((with_reducible refine gate_dst (N := 8) rfl ?_); refine box_event ?hg (N := 8) ?hd (cs := #[.int .i64 0, .int .i64 0]) (t := 30) ?hr ?_; (case hd => rfl); (case hg => rfl); (case hr => first | (go_simp; done) | (go_simp; rfl)); intro gb228 hg w15 hbox hb; have n0_ := Aside0.mk (blk_below (g := gS) (o := .cells #[.slice (some ad227) l0_0.length c0_0, .slice A0_1 l0_1.length c0_1] 66 (0, 0)) (by (with_reducible repeat (first | refine blk_drewN ?_ _ | refine blk_drew ?_ | refine blk_alloc ?_ _)); exact BK226.out) hb); have n1_ := Aside0.mk (below_step (by repeat (first | (with_reducible first | exact HB.out | apply below_alloc | apply pw_below_drewN | apply below_drew1 | refine below_set ?_ GE226.out) | exact HB.out)) hb); have n2_ := Aside0.mk (hbox); have n3_ := Aside0.mk ((by rw [hg]; exact (below_size (by repeat (first | (with_reducible first | exact HB.out | apply below_alloc | apply pw_below_drewN | apply below_drew1 | refine below_set ?_ GE226.out) | exact HB.out))) : w.heap.size ≤ gb228)); have n4_ := Aside0.mk ((by rw [hg]; exact (below_size (by repeat (first | (with_reducible first | exact HB.out | apply below_alloc | apply pw_below_drewN | apply below_drew1 | refine below_set ?_ GE226.out) | exact HB.out))) : w.heap.size ≤ gb228)); have n5_ := Aside0.mk ((by rw [hg]; exact Nat.ne_of_lt (blk_lt (g := gS) (o := .cells #[.slice (some ad227) l0_0.length c0_0, .slice A0_1 l0_1.length c0_1] 66 (0, 0)) (by (with_reducible repeat (first | refine blk_drewN ?_ _ | refine blk_drew ?_ | refine blk_alloc ?_ _)); exact BK226.out)) : gS ≠ gb228)); have n6_ := Aside0.mk ((by rw [hg]; exact Nat.ne_of_gt (blk_lt (g := gS) (o := .cells #[.slice (some ad227) l0_0.length c0_0, .slice A0_1 l0_1.length c0_1] 66 (0, 0)) (by (with_reducible repeat (first | refine blk_drewN ?_ _ | refine blk_drew ?_ | refine blk_alloc ?_ _)); exact BK226.out)) : gb228 ≠ gS)); clear BK226; clear HB; have BK226 := n0_; have HB := n1_; have BK228 := n2_; have GW228 := n3_; have GE228 := n4_; have NB226_228 := n5_; have NB228_226 := n6_; clear n0_ n1_ n2_ n3_ n4_ n5_ n6_; clear hb hbox hg; have hnb16 := NB228_226.out; have hnc16 := NB226_228.out; have hcz17_0 : w15.cell? ⟨gb228, 0, none⟩ = some (.int .i64 0) := (blk_cell BK228.out 0).trans rfl; have hcz17_1 : w15.cell? ⟨gb228, 1, none⟩ = some (.int .i64 0) := (blk_cell BK228.out 1).trans rfl; have hfz17_0 := blk_frozen BK228.out 0; have hfz17_1 := blk_frozen BK228.out 1))
                go_roundg k1
                case measure => have := HK1.out; omega
                case rel => exact ⟨(wrap64 (x17_1 + 1)), (by first | rfl | (simp; done) | (simp [*]; done)), H', ⟨by have := HK1.out; omega⟩, ⟨by (with_reducible repeat (first | refine blk_drewN ?_ _ | refine blk_drew ?_ | refine blk_alloc ?_ _)); refine blk_far ?_ NB226_228.out _; (with_reducible repeat (first | refine blk_drewN ?_ _ | refine blk_drew ?_ | refine blk_alloc ?_ _)); refine blk_far ?_ NB226_228.out _; (with_reducible repeat (first | refine blk_drewN ?_ _ | refine blk_drew ?_ | refine blk_alloc ?_ _)); exact BK226.out⟩, ⟨by repeat (first | (with_reducible first | exact HB.out | apply below_alloc | apply pw_below_drewN | apply below_drew1 | refine below_set ?_ GE226.out | refine below_set ?_ GE228.out) | exact HB.out)⟩⟩
            · rw [if_neg c8] at H
              have c8b0 : decide (((rd_T30 l0_0 x17_1).f0) ≤ a1) = false := decide_eq_false c8
              clear c8
              have H' := Aside0.mk H
              clear H
              have p227 : 0 ≤ (x17_1 : Int) := of_decide_eq_true (by first | (with_reducible assumption) | assumption)
              have q227 : x17_1 < (l0_0.length : Int) := of_decide_eq_true (by first | (with_reducible assumption) | assumption)
              obtain ⟨ad227, e227, hx227_0, hx227_1⟩ := at_T30 HR0_0.out x17_1 p227 q227
              cases e227
              replace hx227_0 := (HB.out.cell (World.block_lt_of_cell? w _ hx227_0)).trans hx227_0
              replace hx227_1 := (HB.out.cell (World.block_lt_of_cell? w _ hx227_1)).trans hx227_1
              replace p227 := eq_true p227
              replace q227 := eq_true q227
              go_wp2_with (first | ((with_reducible refine gate_dst (N := 8) rfl ?_); refine box_event ?hg (N := 8) ?hd (cs := #[.int .i64 0, .int .i64 0]) (t := 30) ?hr ?_; (case hd => rfl); (case hg => rfl); (case hr => first | (go_simp; done) | (go_simp; rfl)); intro gb228 hg w18 hbox hb; have n0_ := Aside0.mk (blk_below (g := gS) (o := .cells #[.slice (some ad227) l0_0.length c0_0, .slice A0_1 l0_1.length c0_1] 66 (0, 0)) (by (with_reducible repeat (first | refine blk_drewN ?_ _ | refine blk_drew ?_ | refine blk_alloc ?_ _)); exact BK226.out) hb); have n1_ := Aside0.mk (below_step (by repeat (first | (with_reducible first | exact HB.out | apply below_alloc | apply pw_below_drewN | apply below_drew1 | refine below_set ?_ GE226.out) | exact HB.out)) hb); have n2_ := Aside0.mk (hbox); have n3_ := Aside0.mk ((by rw [hg]; exact (below_size (by repeat (first | (with_reducible first | exact HB.out | apply below_alloc | apply pw_below_drewN | apply below_drew1 | refine below_set ?_ GE226.out) | exact HB.out))) : w.heap.size ≤ gb228)); have n4_ := Aside0.mk ((by rw [hg]; exact (below_size (by repeat (first | (with_reducible first | exact HB.out | apply below_alloc | apply pw_below_drewN | apply below_drew1 | refine below_set ?_ GE226.out) | exact HB.out))) : w.heap.size ≤ gb228)); have n5_ := Aside0.mk ((by rw [hg]; exact Nat.ne_of_lt (blk_lt (g := gS) (o := .cells #[.slice (some ad227) l0_0.length c0_0, .slice A0_1 l0_1.length c0_1] 66 (0, 0)) (by (with_reducible repeat (first | refine blk_drewN ?_ _ | refine blk_drew ?_ | refine blk_alloc ?_ _)); exact BK226.out)) : gS ≠ gb228)); have n6_ := Aside0.mk ((by rw [hg]; exact Nat.ne_of_gt (blk_lt (g := gS) (o := .cells #[.slice (some ad227) l0_0.length c0_0, .slice A0_1 l0_1.length c0_1] 66 (0, 0)) (by (with_reducible repeat (first | refine blk_drewN ?_ _ | refine blk_drew ?_ | refine blk_alloc ?_ _)); exact BK226.out)) : gb228 ≠ gS)); clear BK226; clear HB; have BK226 := n0_; have HB := n1_; have BK228 := n2_; have GW228 := n3_; have GE228 := n4_; have NB226_228 := n5_; have NB228_226 := n6_; clear n0_ n1_ n2_ n3_ n4_ n5_ n6_; clear hb hbox hg; have hnb19 := NB228_226.out; have hnc19 := NB226_228.out; have hcz20_0 : w18.cell? ⟨gb228, 0, none⟩ = some (.int .i64 0) := (blk_cell BK228.out 0).trans rfl; have hcz20_1 : w18.cell? ⟨gb228, 1, none⟩ = some (.int .i64 0) := (blk_cell BK228.out 1).trans rfl; have hfz20_0 := blk_frozen BK228.out 0; have hfz20_1 := blk_frozen BK228.out 1))
              go_roundg k1
              case measure => have := HK1.out; omega
              case rel => exact ⟨(wrap64 (x17_1 + 1)), (by first | rfl | (simp; done) | (simp [*]; done)), H', ⟨by have := HK1.out; omega⟩, ⟨by (with_reducible repeat (first | refine blk_drewN ?_ _ | refine blk_drew ?_ | refine blk_alloc ?_ _)); refine blk_far ?_ NB226_228.out _; (with_reducible repeat (first | refine blk_drewN ?_ _ | refine blk_drew ?_ | refine blk_alloc ?_ _)); refine blk_far ?_ NB226_228.out _; (with_reducible repeat (first | refine blk_drewN ?_ _ | refine blk_drew ?_ | refine blk_alloc ?_ _)); exact BK226.out⟩, ⟨by repeat (first | (with_reducible first | exact HB.out | apply below_alloc | apply pw_below_drewN | apply below_drew1 | refine below_set ?_ GE226.out | refine below_set ?_ GE228.out) | exact HB.out)⟩⟩
          · rw [if_neg c7] at H
            exact absurd H (by simp)
        · rw [if_neg c6] at H
          exact absurd H (by simp)
      · rw [if_neg c5] at H
        have c5b0 : decide (x17_1 < (l0_0.length : Int)) = false := decide_eq_false c5
        clear c5
        simp only [Option.some.injEq, Prod.mk.injEq] at H
        obtain ⟨rfl, rfl⟩ := H
        go_wp2
        go_ret2
        exact ⟨by first | rfl | (simp [errW_none, errW_some] <;> rfl) | (simp [*, errW_none, errW_some] <;> rfl), by repeat (first | (with_reducible first | exact HB.out | apply below_alloc | apply pw_below_drewN | apply below_drew1 | refine below_set ?_ GE226.out) | exact HB.out)⟩
end Go.Proofs.Ytgncbhpmnjfhhaa.S
end
section
namespace Go.Proofs.Ytgncbhpmnjfhhaa.S
open Go.RowKit Go.Proofs.YtgncbhpmnjfhhaaW.PrintWords
set_option linter.unusedVariables false
theorem vsS_at (z : Zs ByteArray) (i : Nat) (h : i < z.length) : rdOf ByteArray.empty (vs z) (i : Int) = (z[i]).2 := by
  unfold rdOf
  rw [Int.toNat_natCast, List.getD_eq_getElem?_getD, List.getElem?_eq_getElem (by rw [vs_len]; exact h)]; simp [vs]
def getZS (z : Zs ByteArray) (b : Int) : ByteArray × Bool := match z.find? (fun p => decide (p.1.f0 ≤ b) && decide (b < p.1.f1)) with
  | some p => (p.2, true)
  | none => (ByteArray.empty, false)
theorem getZ_dropS (z : Zs ByteArray) (b : Int) (i : Nat) (h : i < z.length) : getZS (z.drop i) b = if (z[i]).1.f0 ≤ b ∧ b < (z[i]).1.f1 then ((z[i]).2, true) else getZS (z.drop (i + 1)) b := by
  rw [List.drop_eq_getElem_cons h]
  unfold getZS
  rw [List.find?_cons]
  by_cases h1 : (z[i]).1.f0 ≤ b <;> by_cases h2 : b < (z[i]).1.f1 <;> simp [h1, h2]
theorem get_loopS (z : Zs ByteArray) (b : Int) (hb : z.length < 1000000000) : ∀ (m k i : Nat), i ≤ z.length → z.length - i = m → m < k → span_Map_string_Get.l0 k b ByteArray.empty (ls z) ((ls z).length : Int) (i : Int) (ls z) (vs z) = some (getZS (z.drop i) b) := by
  intro m
  induction m with
  | zero =>
    intro k i hi hm hk
    obtain ⟨k, rfl⟩ : ∃ j, k = j + 1 := ⟨k - 1, by omega⟩
    have := ls_len z
    unfold span_Map_string_Get.l0
    rw [if_neg (by omega), List.drop_of_length_le (by omega)]
    rfl
  | succ m ih =>
    intro k i hi hm hk
    obtain ⟨k, rfl⟩ : ∃ j, k = j + 1 := ⟨k - 1, by omega⟩
    have h1 := ls_len z
    have h2 := vs_len z
    have hil : i < z.length := by omega
    have hih := ih k (i + 1) (by omega) (by omega) (by omega)
    unfold span_Map_string_Get.l0
    rw [if_pos (by omega), if_pos (by omega), if_pos (by omega), ls_at z i hil, getZ_dropS z b i hil, wrap_in ((i : Int) + 1) (by omega) (by omega)]
    by_cases c1 : (z[i]).1.f0 ≤ b
    · rw [if_pos c1]
      by_cases c2 : b < (z[i]).1.f1
      · rw [if_pos c2, if_pos (by omega), vsS_at z i hil, if_pos ⟨c1, c2⟩]
      · rw [if_neg c2, if_neg (fun h => c2 h.2)]
        exact hih
    · rw [if_neg c1, if_neg (fun h => c1 h.1)]
      exact hih
theorem get_specS (z : Zs ByteArray) (b : Int) (hb : z.length < 1000000000) (k : Nat) (hk : z.length < k) : span_Map_string_Get.f k (ls z) (vs z) b = some (getZS z b) := get_loopS z b hb z.length k 0 (by omega) (by omega) hk
theorem getZ_iffS {z : Zs ByteArray} (h : PlainM z) (b : Int) : (∀ y, getZS z b = (y, true) ↔ hasV z b y) ∧ (∀ y, getZS z b = (y, false) ↔ y = ByteArray.empty ∧ ∀ u, ¬ hasV z b u) := by
  induction z with
  | nil =>
    have e : getZS [] b = (ByteArray.empty, false) := rfl
    rw [e]
    refine ⟨fun y => ⟨fun h => by simp at h, fun h => absurd h (hasV_nil b y)⟩, fun y => ⟨fun h => by simp at h; exact ⟨h.symm, fun u => hasV_nil b u⟩, fun h => by rw [h.1]⟩⟩
  | cons p z ih =>
    obtain ⟨h1, h2, h3⟩ := PlainM_cons.1 h
    have e := getZ_dropS (p :: z) b 0 (by simp)
    simp only [List.drop_zero, List.getElem_cons_zero, Nat.zero_add, List.drop_succ_cons] at e
    rw [e]
    obtain ⟨i1, i2⟩ := ih h3
    by_cases hc : p.1.f0 ≤ b ∧ b < p.1.f1
    · rw [if_pos hc]
      have hv : hasV (p :: z) b p.2 := ⟨p, List.mem_cons_self, hc, rfl⟩
      refine ⟨fun y => ⟨fun h => ?_, fun hy => ?_⟩, fun y => ⟨fun h => by simp at h, fun hy => absurd hv (hy.2 p.2)⟩⟩
      · obtain rfl : p.2 = y := (Prod.mk.inj h).1
        exact hv
      · rw [hasV_fun h hv hy]
    · rw [if_neg hc]
      have hno : ∀ y, hasV (p :: z) b y ↔ hasV z b y := fun y => by
        rw [hasV_cons]
        constructor
        · rintro (⟨h, _⟩ | h)
          · exact absurd h hc
          · exact h
        · exact .inr
      exact ⟨fun y => by rw [i1, hno], fun y => by rw [i2]; simp only [hno]⟩
theorem drop_l1S (z : Zs ByteArray) (i : Nat) (hi : i < z.length) (P : List S30) (hP : P.length ≤ 2) (hz : z.length < 1000000) (a b : Int) : ∀ (m k : Nat) (acc : Zs ByteArray) (j : Nat), j ≤ P.length → P.length - j = m → acc.length + m < 8000000 → m < k →
    ∃ k', k ≤ k' + m + 1 ∧ span_Map_string_Drop.l1 k (ls acc) (vs acc) (i : Int) (ls z) ((ls z).length : Int) (i : Int) P (P.length : Int) (j : Int) (ls z) (vs z) a b =
      span_Map_string_Drop.l0 k' (ls (acc ++ (P.drop j).map fun t => (t, (z[i]).2))) (vs (acc ++ (P.drop j).map fun t => (t, (z[i]).2))) (ls z) ((ls z).length : Int) ((i + 1 : Nat) : Int) (ls z) (vs z) a b := by
  intro m
  induction m with
  | zero =>
    intro k acc j hj hm ha hk
    obtain ⟨k, rfl⟩ : ∃ q, k = q + 1 := ⟨k - 1, by omega⟩
    refine ⟨k, by omega, ?_⟩
    rw [span_Map_string_Drop.l1, if_neg (by omega), List.drop_of_length_le (by omega), List.map_nil, List.append_nil, wrap_in ((i : Int) + 1) (by omega) (by omega)]
    rfl
  | succ m ih =>
    intro k acc j hj hm ha hk
    obtain ⟨k, rfl⟩ : ∃ q, k = q + 1 := ⟨k - 1, by omega⟩
    have hjl : j < P.length := by omega
    have h2 := vs_len z
    obtain ⟨k', e1, e2⟩ := ih k (acc ++ [(P[j], (z[i]).2)]) (j + 1) (by omega) (by omega) (by simp; omega) (by omega)
    refine ⟨k', by omega, ?_⟩
    rw [span_Map_string_Drop.l1, if_pos (by omega), if_pos (by omega), if_pos (by omega), rd_nat, getD_at P j hjl, Option.bind_some, if_pos (by rw [ls_len]; simp; omega), if_pos (by omega), if_pos (by omega), Option.bind_some, if_pos (by rw [vs_len]; simp; omega),
      vsS_at z i hi, wrap_in ((j : Int) + 1) (by omega) (by omega)]
    have el : ls acc ++ [P[j]] = ls (acc ++ [(P[j], (z[i]).2)]) := by rw [ls_app]; rfl
    have ev : vs acc ++ [(z[i]).2] = vs (acc ++ [(P[j], (z[i]).2)]) := by rw [vs_app]; rfl
    have es : (⟨(P[j]).f0, (P[j]).f1⟩ : S30) = P[j] := rfl
    rw [es, el, ev, List.drop_eq_getElem_cons hjl, List.map_cons]
    rw [List.append_assoc] at e2
    exact e2
theorem drop_l0S (z : Zs ByteArray) (hz : z.length < 1000000) (a b : Int) : ∀ (m k i : Nat), i ≤ z.length → z.length - i = m → 4 * m + 20 < k →
    span_Map_string_Drop.l0 k (ls (dropZ (z.take i) ⟨a, b⟩)) (vs (dropZ (z.take i) ⟨a, b⟩)) (ls z) ((ls z).length : Int) (i : Int) (ls z) (vs z) a b = some (ls (dropZ z ⟨a, b⟩), vs (dropZ z ⟨a, b⟩)) := by
  intro m
  induction m with
  | zero =>
    intro k i hi hm hk
    obtain ⟨k, rfl⟩ : ∃ q, k = q + 1 := ⟨k - 1, by omega⟩
    have := ls_len z
    have e : z.take i = z := List.take_of_length_le (by omega)
    rw [span_Map_string_Drop.l0, if_neg (by omega), e]
  | succ m ih =>
    intro k i hi hm hk
    obtain ⟨k, rfl⟩ : ∃ q, k = q + 1 := ⟨k - 1, by omega⟩
    have h1 := ls_len z
    have hil : i < z.length := by omega
    have hc := (cutL_plain [(z[i]).1] [(⟨a, b⟩ : S30)]).2.2
    simp only [List.length_cons, List.length_nil] at hc
    have hdl := dropZ_len (z.take i) ⟨a, b⟩
    have htl : (z.take i).length = i := by rw [List.length_take]; omega
    obtain ⟨k', e1, e2⟩ := drop_l1S z i hil (cutL [(z[i]).1] [⟨a, b⟩]) (by omega) hz a b (cutL [(z[i]).1] [⟨a, b⟩]).length k (dropZ (z.take i) ⟨a, b⟩) 0 (by omega) (by omega) (by omega) (by omega)
    have hih := ih k' (i + 1) (by omega) (by omega) (by omega)
    have es : (⟨((z[i]).1).f0, ((z[i]).1).f1⟩ : S30) = (z[i]).1 := rfl
    rw [span_Map_string_Drop.l0, if_pos (by omega), if_pos (by omega), if_pos (by omega), ls_at z i hil, es, cut_spec [(z[i]).1] [(⟨a, b⟩ : S30)] (by simp) (by simp) k (by simp; omega), Option.bind_some]
    rw [List.drop_zero] at e2
    have ed : dropZ (z.take i) ⟨a, b⟩ ++ ((cutL [(z[i]).1] [⟨a, b⟩]).map fun t => (t, (z[i]).2)) = dropZ (z.take (i + 1)) ⟨a, b⟩ := by
      unfold dropZ
      rw [List.take_succ_eq_append_getElem hil, List.flatMap_append]
      simp
    rw [ed] at e2
    exact e2.trans hih
theorem drop_specS (z : Zs ByteArray) (hz : z.length < 1000000) (a b : Int) (hab : a < b) (k : Nat) (hk : 4 * z.length + 20 < k) : span_Map_string_Drop.f k (ls z) (vs z) a b = some (ls (dropZ z ⟨a, b⟩), vs (dropZ z ⟨a, b⟩)) := by
  unfold span_Map_string_Drop.f span_empty.f
  rw [Option.bind_some, if_neg (by simp; omega)]
  exact drop_l0S z hz a b z.length k 0 (by omega) (by omega) hk
end Go.Proofs.Ytgncbhpmnjfhhaa.S
end
section
namespace Go.Proofs.Ytgncbhpmnjfhhaa.S
open Go.RowKit Go.Proofs.YtgncbhpmnjfhhaaW.PrintWords Go.Proofs.YtgncbhpmnjfhhaaW.PrintLast Go.Proofs.YtgncbhpmnjfhhaaW.PrintMore
set_option linter.unusedVariables false
def MapS (g base : Nat) (ok : Nat → Prop) (w : World) (z : Zs ByteArray) : Prop := StS g base ok w (ls z) (vs z)
theorem MapS.kept {g base : Nat} {ok S : Nat → Prop} {w w' : World} {z : Zs ByteArray} (h : MapS g base ok w z) (hk : Kept w w' S) (hS : ∀ k, ok k → ¬ S k) (hg : ¬ S g) : MapS g base ok w' z := StS.kept h hk hS hg
theorem MapS.below {g base : Nat} {ok : Nat → Prop} {w w' : World} {z : Zs ByteArray} (h : MapS g base ok w z) (hb : Below w.heap.size w w') : MapS g base ok w' z := StS.kept h (Kept.of_below hb (fun _ => False)) (fun _ _ h => h) (fun h => h)
theorem MapS.mono {g base : Nat} {ok ok' : Nat → Prop} {w : World} {z : Zs ByteArray} (h : MapS g base ok w z) (hk : ∀ k, ok k → ok' k) : MapS g base ok' w z := StS.mono h hk
theorem MapS.lt {g base : Nat} {ok : Nat → Prop} {w : World} {z : Zs ByteArray} (h : MapS g base ok w z) : g < w.heap.size := by
  obtain ⟨vl, vv, h1, _⟩ := h
  exact blk_lt h1
theorem dropMS (g : Nat) (ok : Nat → Prop) (z : Zs ByteArray) (s : S30) (w0 w : World) (HB : Below w0.heap.size w0 w) (Hg : w0.heap.size ≤ g) (HS : MapS g w0.heap.size ok w z) (hz : z.length < 1000000) :
    Calls Try.prog 38 #[.pointer (some ⟨g, 0, none⟩), .agg #[.int .i64 s.f0, .int .i64 s.f1]] w fun e w' => e = .returned (.tuple #[]) ∧ Below w0.heap.size w0 w' ∧ MapS g w0.heap.size (fun k => ok k ∨ w.heap.size ≤ k) w' (stepZ z s none) ∧ Kept w w' (fun k => k = g) := by
  unfold stepZ
  by_cases hs : s.f0 < s.f1
  · rw [if_pos hs]
    refine (dropS.calls (4 * z.length + 21) g ok (ls z) (vs z) s.f0 s.f1 _ _ w0 w HB Hg HS (drop_specS z hz s.f0 s.f1 hs _ (by omega)) hs).mono ?_
    rintro e w' ⟨he, hb, hst, hk⟩
    exact ⟨he, hb, StS.mono hst (fun k hk => .inr hk), hk⟩
  · rw [if_neg hs]
    have HS' := HS
    obtain ⟨vl, vv, h1, h2, h3⟩ := HS
    obtain ⟨A, c, rfl⟩ := Kd.R_slice h2
    obtain ⟨A2, c2, rfl⟩ := Kd.R_slice h3
    have hf : span_Map_string_Drop.f 1 (ls z) (vs z) s.f0 s.f1 = some ([], []) := by
      unfold span_Map_string_Drop.f span_empty.f
      rw [Option.bind_some, if_pos (by simp; omega)]
    refine (span_Map_string_Drop.calls 1 g A c (ls z) A2 c2 (vs z) s.f0 s.f1 [] [] w (Kd.R_reads' h2).2.2 (Kd.R_reads' h2).2.1 (Kd.R_reads' h3).2.2 (Kd.R_reads' h3).2.1 h1 hf).mono ?_
    rintro e w' ⟨he, hp⟩
    rcases hp with ⟨_, hb⟩ | ⟨hn, _⟩
    · exact ⟨he, below_step HB hb, (MapS.below HS' hb).mono (fun k h => .inl h), Kept.of_below hb _⟩
    · exact absurd hn hs
theorem putMS (g : Nat) (ok : Nat → Prop) (z : Zs ByteArray) (s : S30) (x : ByteArray) (w0 w : World) (HB : Below w0.heap.size w0 w) (Hg : w0.heap.size ≤ g) (HS : MapS g w0.heap.size ok w z) (hz : z.length < 1000000) :
    Calls Try.prog 39 #[.pointer (some ⟨g, 0, none⟩), .agg #[.int .i64 s.f0, .int .i64 s.f1], .string x] w fun e w' => e = .returned (.tuple #[]) ∧ Below w0.heap.size w0 w' ∧ MapS g w0.heap.size (fun k => ok k ∨ w.heap.size ≤ k) w' (stepZ z s (some x)) ∧ Kept w w' (fun k => k = g) := by
  unfold stepZ
  by_cases hs : s.f0 < s.f1
  · rw [if_pos hs]
    have hl := dropZ_len z s
    refine (putS.main (4 * z.length + 21) g ok (ls z) (vs z) s.f0 s.f1 x _ _ w0 w HB Hg HS (drop_specS z hz s.f0 s.f1 hs _ (by omega)) hs (by rw [ls_len, vs_len]) (by rw [ls_len]; exact Nat.lt_of_le_of_lt hl (by omega))).mono ?_
    rintro e w' ⟨he, hb, hst, hk⟩
    have e1 := putL_of ByteArray.empty (dropZ z s) s x
    have es : (⟨s.f0, s.f1⟩ : S30) = s := rfl
    rw [es, e1] at hst
    exact ⟨he, hb, StS.mono hst (fun k hk => .inr hk), hk⟩
  · rw [if_neg hs]
    have HS' := HS
    obtain ⟨vl, vv, h1, h2, h3⟩ := HS
    refine (putS.skip g (ls z) (vs z) s.f0 s.f1 x vl vv w h1 hs).mono ?_
    rintro e w' ⟨he, hb⟩
    exact ⟨he, below_step HB hb, (MapS.below HS' hb).mono (fun k h => .inl h), Kept.of_below hb _⟩
theorem getMS (g base : Nat) (ok : Nat → Prop) (z : Zs ByteArray) (b : Int) (w : World) (HS : MapS g base ok w z) (hz : z.length < 1000000) {r : ByteArray} {is : Bool} (hr : getZS z b = (r, is)) :
    Calls Try.prog 41 #[.pointer (some ⟨g, 0, none⟩), .int .i64 b] w fun e w' => e = .returned (.tuple #[.string r, .bool is]) ∧ Below w.heap.size w w' := by
  obtain ⟨vl, vv, h1, h2, h3⟩ := HS
  obtain ⟨A, c, rfl⟩ := Kd.R_slice h2
  obtain ⟨A2, c2, rfl⟩ := Kd.R_slice h3
  exact span_Map_string_Get.calls (z.length + 1) g A c (ls z) A2 c2 (vs z) b r is w (Kd.R_reads' h2).2.2 (Kd.R_reads' h2).2.1 (Kd.R_reads' h3).2.2 (Kd.R_reads' h3).2.1 h1 (by rw [get_specS z b (by omega) _ (by omega), hr])
theorem lenMS (g base : Nat) (ok : Nat → Prop) (z : Zs ByteArray) (w : World) (HS : MapS g base ok w z) (hz : z.length < 1000000) :
    Calls Try.prog 40 #[.pointer (some ⟨g, 0, none⟩)] w fun e w' => e = .returned (.int .i64 (z.length : Int)) ∧ Below w.heap.size w w' := by
  have := lenS.calls (some ⟨g, 0, none⟩) (ls z) (vs z) w (.inr ⟨g, base, ok, rfl, HS⟩) (by rw [ls_len, vs_len]) (by rw [ls_len]; omega)
  rwa [ls_len] at this
end Go.Proofs.Ytgncbhpmnjfhhaa.S
end
section
namespace Go.Proofs.Ytgncbhpmnjfhhaa.S
open Go.RowKit Go.Proofs.YtgncbhpmnjfhhaaW.PrintWords Go.Proofs.YtgncbhpmnjfhhaaW.PrintLast Go.Proofs.YtgncbhpmnjfhhaaW.PrintMore
set_option linter.unusedVariables false
theorem MapS.own {g base : Nat} {ok : Nat → Prop} {W W' : World} {z : Zs ByteArray} {row : Option Nat} (h : MapS g base ok W z) (hg : W.grownBy W' row) (hr : ∀ r, row = some r → ∃ o : Obj, W.heap[r]? = some o ∧ o.isCells = false) : MapS g base ok W' z := by
  obtain ⟨vl, vv, h1, h2, h3⟩ := h
  exact ⟨vl, vv, blk_own h1 hg hr, R_own h2 hg hr, R_own h3 hg hr⟩
theorem MapS.new (w : World) (base : Nat) (hb : base ≤ w.heap.size) (ok : Nat → Prop) : MapS w.heap.size base ok (w.alloc (.cells #[.slice none 0 0, .slice none 0 0] 66)) [] :=
  ⟨_, _, blk_new _ _, Kd.R_nil _ _ _ _ _, Kd.R_nil _ _ _ _ _⟩
def SapAt (Av : Nat → Prop) (g base : Nat) (W : World) (z : Zs ByteArray) : Prop := ∃ ok : Nat → Prop, (∀ k, ok k → ¬ Av k) ∧ MapS g base ok W z
section
variable {Av Av' : Nat → Prop}
theorem SapAt.kept {g base : Nat} {S : Nat → Prop} {W W' : World} {z : Zs ByteArray} (h : SapAt Av g base W z) (hk : Kept W W' S) (hq : ∀ k, S k → Av k) (hg : ¬ S g) : SapAt Av g base W' z := by
  obtain ⟨ok, h1, h2⟩ := h
  exact ⟨ok, h1, h2.kept hk (fun k hk hs => h1 k hk (hq k hs)) hg⟩
theorem SapAt.below {g base : Nat} {W W' : World} {z : Zs ByteArray} (h : SapAt Av g base W z) (hb : Below W.heap.size W W') : SapAt Av g base W' z := by
  obtain ⟨ok, h1, h2⟩ := h
  exact ⟨ok, h1, h2.below hb⟩
theorem SapAt.own {g base : Nat} {W W' : World} {z : Zs ByteArray} {row : Option Nat} (h : SapAt Av g base W z) (hg : W.grownBy W' row) (hr : ∀ r, row = some r → ∃ o : Obj, W.heap[r]? = some o ∧ o.isCells = false) : SapAt Av g base W' z := by
  obtain ⟨ok, h1, h2⟩ := h
  exact ⟨ok, h1, h2.own hg hr⟩
theorem putAS (g : Nat) (z : Zs ByteArray) (s : S30) (x : ByteArray) (w0 w : World) (HB : Below w0.heap.size w0 w) (Hg : w0.heap.size ≤ g) (HS : SapAt Av g w0.heap.size w z) (hlo : ∀ k, Av k → k < w.heap.size) (hz : z.length < 1000000) :
    Calls Try.prog 39 #[.pointer (some ⟨g, 0, none⟩), .agg #[.int .i64 s.f0, .int .i64 s.f1], .string x] w fun e w' => e = .returned (.tuple #[]) ∧ Below w0.heap.size w0 w' ∧ SapAt Av g w0.heap.size w' (stepZ z s (some x)) ∧ Kept w w' (fun k => k = g) := by
  obtain ⟨ok, h1, h2⟩ := HS
  refine (putMS g ok z s x w0 w HB Hg h2 hz).mono ?_
  rintro e w' ⟨he, hb, hm, hk⟩
  exact ⟨he, hb, ⟨_, fun k hk hv => hk.elim (fun h => h1 k h hv) (fun h => by have := hlo k hv; omega), hm⟩, hk⟩
theorem dropAS (g : Nat) (z : Zs ByteArray) (s : S30) (w0 w : World) (HB : Below w0.heap.size w0 w) (Hg : w0.heap.size ≤ g) (HS : SapAt Av g w0.heap.size w z) (hlo : ∀ k, Av k → k < w.heap.size) (hz : z.length < 1000000) :
    Calls Try.prog 38 #[.pointer (some ⟨g, 0, none⟩), .agg #[.int .i64 s.f0, .int .i64 s.f1]] w fun e w' => e = .returned (.tuple #[]) ∧ Below w0.heap.size w0 w' ∧ SapAt Av g w0.heap.size w' (stepZ z s none) ∧ Kept w w' (fun k => k = g) := by
  obtain ⟨ok, h1, h2⟩ := HS
  refine (dropMS g ok z s w0 w HB Hg h2 hz).mono ?_
  rintro e w' ⟨he, hb, hm, hk⟩
  exact ⟨he, hb, ⟨_, fun k hk hv => hk.elim (fun h => h1 k h hv) (fun h => by have := hlo k hv; omega), hm⟩, hk⟩
theorem lenAS (g base : Nat) (z : Zs ByteArray) (w : World) (HS : SapAt Av g base w z) (hz : z.length < 1000000) :
    Calls Try.prog 40 #[.pointer (some ⟨g, 0, none⟩)] w fun e w' => e = .returned (.int .i64 (z.length : Int)) ∧ Below w.heap.size w w' := by
  obtain ⟨ok, h1, h2⟩ := HS
  exact lenMS g base ok z w h2 hz
theorem getAS (g base : Nat) (z : Zs ByteArray) (b : Int) (w : World) (HS : SapAt Av g base w z) (hz : z.length < 1000000) {r : ByteArray} {is : Bool} (hr : getZS z b = (r, is)) :
    Calls Try.prog 41 #[.pointer (some ⟨g, 0, none⟩), .int .i64 b] w fun e w' => e = .returned (.tuple #[.string r, .bool is]) ∧ Below w.heap.size w w' := by
  obtain ⟨ok, h1, h2⟩ := HS
  exact getMS g base ok z b w h2 hz hr
end
end Go.Proofs.Ytgncbhpmnjfhhaa.S
end
section
namespace Go.Proofs.Ytgncbhpmnjfhhaa.S
open Go.RowKit Go.Proofs.YtgncbhpmnjfhhaaW.PrintWords
set_option linter.unusedVariables false
section
variable {β γ : Type} [DecidableEq β] [DecidableEq γ]
def mapZ (f : β → γ) (z : Zs β) : Zs γ := z.map fun p => (p.1, f p.2)
omit [DecidableEq β] [DecidableEq γ] in
theorem mapZ_len (f : β → γ) (z : Zs β) : (mapZ f z).length = z.length := List.length_map ..
omit [DecidableEq β] [DecidableEq γ] in
theorem mapZ_has (f : β → γ) (z : Zs β) (b : Int) (y : γ) : hasV (mapZ f z) b y ↔ ∃ x, hasV z b x ∧ f x = y := by
  constructor
  · rintro ⟨p, hp, hb, rfl⟩
    obtain ⟨q, hq, rfl⟩ := List.mem_map.1 hp
    exact ⟨q.2, ⟨q, hq, hb, rfl⟩, rfl⟩
  · rintro ⟨x, ⟨p, hp, hb, rfl⟩, rfl⟩
    exact ⟨(p.1, f p.2), List.mem_map.2 ⟨p, hp, rfl⟩, hb, rfl⟩
omit [DecidableEq β] [DecidableEq γ] in
theorem mapZ_plain {f : β → γ} {D : β → Prop} (hf : ∀ x y, D x → D y → f x = f y → x = y) : ∀ {z : Zs β}, PlainM z → (∀ p ∈ z, D p.2) → PlainM (mapZ f z)
  | [], _, _ => PlainM_nil
  | p :: z, hz, hD => by
    obtain ⟨h1, h2, h3⟩ := PlainM_cons.1 hz
    refine PlainM_cons.2 ⟨h1, fun q hq => ?_, mapZ_plain hf h3 (fun q hq => hD q (List.mem_cons_of_mem _ hq))⟩
    obtain ⟨q, hq2, rfl⟩ := List.mem_map.1 hq
    obtain ⟨k1, k2⟩ := h2 q hq2
    exact ⟨k1, fun e e2 => k2 e (hf _ _ (hD p List.mem_cons_self) (hD q (List.mem_cons_of_mem _ hq2)) e2)⟩
omit [DecidableEq β] in
theorem vals_has {D : β → Prop} {z : Zs β} (hz : PlainM z) : (∀ p ∈ z, D p.2) ↔ ∀ b x, hasV z b x → D x := by
  constructor
  · rintro h b x ⟨p, hp, _, rfl⟩
    exact h p hp
  · intro h p hp
    exact h p.1.f0 p.2 ⟨p, hp, ⟨Int.le_refl _, hz.1 p hp⟩, rfl⟩
theorem stepZ_vals {D : β → Prop} {z : Zs β} (hz : PlainM z) (hD : ∀ p ∈ z, D p.2) (s : S30) (o : Option β) (ho : ∀ x, o = some x → D x) : ∀ p ∈ stepZ z s o, D p.2 := by
  obtain ⟨h1, h2⟩ := stepZ_ok hz s o
  rw [vals_has h1]
  intro b x hx
  rcases (h2 b x).1 hx with ⟨_, e⟩ | ⟨_, hx⟩
  · exact ho x e
  · exact (vals_has hz).1 hD b x hx
theorem mapZ_step {f : β → γ} {D : β → Prop} (hf : ∀ x y, D x → D y → f x = f y → x = y) {z : Zs β} (hz : PlainM z) (hD : ∀ p ∈ z, D p.2) (s : S30) (o : Option β) (ho : ∀ x, o = some x → D x) : stepZ (mapZ f z) s (o.map f) = mapZ f (stepZ z s o) := by
  obtain ⟨h1, h2⟩ := stepZ_ok hz s o
  obtain ⟨k1, k2⟩ := stepZ_ok (mapZ_plain hf hz hD) s (o.map f)
  refine mapM_ext k1 (mapZ_plain hf h1 (stepZ_vals hz hD s o ho)) fun b y => ?_
  rw [k2, mapZ_has, mapZ_has]
  constructor
  · rintro (⟨hb, e⟩ | ⟨hb, x, hx, rfl⟩)
    · cases o with
      | none => cases e
      | some x => exact ⟨x, (h2 b x).2 (.inl ⟨hb, rfl⟩), Option.some.inj e⟩
    · exact ⟨x, (h2 b x).2 (.inr ⟨hb, hx⟩), rfl⟩
  · rintro ⟨x, hx, rfl⟩
    rcases (h2 b x).1 hx with ⟨hb, rfl⟩ | ⟨hb, hx⟩
    · exact .inl ⟨hb, rfl⟩
    · exact .inr ⟨hb, x, hx, rfl⟩
end
end Go.Proofs.Ytgncbhpmnjfhhaa.S
end
section
namespace Go.Proofs.Ytgncbhpmnjfhhaa.S
open Go.RowKit Go.Proofs.YtgncbhpmnjfhhaaW.PrintWords
set_option linter.unusedVariables false
def txtL (v : Int) : List UInt8 := [UInt8.ofNat (v % 256).toNat, UInt8.ofNat (v / 256 % 256).toNat]
def txt (v : Int) : ByteArray := ⟨(txtL v).toArray⟩
theorem txt_mod (v : Int) : txt (v % 65536) = txt v := by
  unfold txt txtL
  have h1 : v % 65536 % 256 = v % 256 := by omega
  have h2 : v % 65536 / 256 % 256 = v / 256 % 256 := by omega
  rw [h1, h2]
def D16 (v : Int) : Prop := 0 ≤ v ∧ v < 65536
theorem txt_inj (x y : Int) (hx : D16 x) (hy : D16 y) (h : txt x = txt y) : x = y := by
  unfold txt txtL at h
  have h0 := congrArg (fun b : ByteArray => b.data.toList) h
  simp only [List.cons.injEq, and_true] at h0
  obtain ⟨a, b⟩ := h0
  have a := congrArg UInt8.toNat a
  have b := congrArg UInt8.toNat b
  simp only [UInt8.toNat_ofNat'] at a b
  unfold D16 at *
  omega
theorem txtL_byte (v : Int) : ((UInt8.ofNat (v % 256).toNat).toNat : Int) = v % 256 := by
  simp only [UInt8.toNat_ofNat']
  omega
theorem mod16 (v : Int) : D16 (v % 65536) := by unfold D16; omega
theorem i64_and65535 (n : Int) : bits .and .i64 n 65535 = n % 65536 := by
  have h16 : (BitVec.ofInt 64 65535).toNat = 2 ^ 16 - 1 := by decide
  have key : (BitVec.ofInt 64 n &&& BitVec.ofInt 64 65535).toNat = (n % ((2 ^ 64 : Nat) : Int)).toNat % 2 ^ 16 := by
    rw [BitVec.toNat_and, BitVec.toNat_ofInt, h16, Nat.and_two_pow_sub_one_eq_mod]
  show IntKind.i64.wrap ((BitVec.ofInt 64 n &&& BitVec.ofInt 64 65535).toNat : Nat) = n % 65536
  rw [key, IntKind.wrap_i64]
  omega
def op16 (o : Op47) : Option Int := if o.d then none else some (o.v % 65536)
def texZ (l : List Op47) : Zs Int := l.foldl (fun z o => stepZ z o.s (op16 o)) []
theorem texZ_snoc (l : List Op47) (o : Op47) : texZ (l ++ [o]) = stepZ (texZ l) o.s (op16 o) := by unfold texZ; rw [List.foldl_append]; rfl
theorem texZ_ok (l : List Op47) : PlainM (texZ l) ∧ (texZ l).length ≤ 2 * l.length := by
  have := fold_ok op16 l [] PlainM_nil
  exact ⟨this.1, Nat.le_trans this.2 (by simp)⟩
theorem fold_vals : ∀ (l : List Op47) (z : Zs Int), PlainM z → (∀ p ∈ z, D16 p.2) → ∀ p ∈ l.foldl (fun z o => stepZ z o.s (op16 o)) z, D16 p.2
  | [], _, _, h => h
  | o :: l, z, hz, h => fold_vals l _ (stepZ_ok hz o.s (op16 o)).1 (stepZ_vals hz h o.s (op16 o) (fun x e => by
      unfold op16 at e
      split at e
      · cases e
      · obtain rfl := Option.some.inj e
        exact mod16 _))
theorem texZ_vals (l : List Op47) : ∀ p ∈ texZ l, D16 p.2 := fold_vals l [] PlainM_nil (fun p h => by cases h)
theorem texZ_step (l : List Op47) (o : Op47) : stepZ (mapZ txt (texZ l)) o.s (if o.d then none else some (txt o.v)) = mapZ txt (texZ (l ++ [o])) := by
  rw [texZ_snoc, ← mapZ_step txt_inj (texZ_ok l).1 (texZ_vals l) o.s (op16 o) (fun x e => by
      unfold op16 at e
      split at e
      · cases e
      · obtain rfl := Option.some.inj e
        exact mod16 _)]
  congr 1
  unfold op16
  cases o.d with
  | true => rfl
  | false => show some (txt o.v) = some (txt (o.v % 65536)); rw [txt_mod]
end Go.Proofs.Ytgncbhpmnjfhhaa.S
end
section
namespace Go.Proofs.Ytgncbhpmnjfhhaa.S
open Go.RowKit Go.Proofs.YtgncbhpmnjfhhaaW.PrintWords Go.Proofs.YtgncbhpmnjfhhaaW.PrintLast Go.Proofs.YtgncbhpmnjfhhaaW.PrintMore
set_option linter.unusedVariables false
set_option linter.unusedSimpArgs false
def RefM (g base : Nat) (ok : Nat → Prop) (w : World) (L : List S30) (V : List Int) (O : List Bool) : Prop :=
  ∃ vl vv vo, w.heap[g]? = some (.cells #[vl, vv, vo] 45 (0, 0)) ∧ k30.R 30 w base ok vl L ∧ (Kd.int .i64).R 3 w base ok vv V ∧ Kd.bool.R 4 w base ok vo O
theorem RefM.kept {g base : Nat} {ok S : Nat → Prop} {w w' : World} {L : List S30} {V : List Int} {O : List Bool} (h : RefM g base ok w L V O) (hk : Kept w w' S) (hS : ∀ k, ok k → ¬ S k) (hg : ¬ S g) : RefM g base ok w' L V O := by
  obtain ⟨vl, vv, vo, h1, h2, h3, h4⟩ := h
  exact ⟨vl, vv, vo, blk_kept h1 hk hg, Kd.R_kept h2 hk hS, Kd.R_kept h3 hk hS, Kd.R_kept h4 hk hS⟩
theorem RefM.below {g base : Nat} {ok : Nat → Prop} {w w' : World} {L : List S30} {V : List Int} {O : List Bool} (h : RefM g base ok w L V O) (hb : Below w.heap.size w w') : RefM g base ok w' L V O := h.kept (Kept.of_below hb (fun _ => False)) (fun _ _ h => h) (fun h => h)
theorem row_ne {W : World} {g base e size n : Nat} {cs : Array Value} {t : TypeId} {fr : Nat × Nat} {v : Value} {xs : List Value} (hb : W.heap[g]? = some (Obj.cells cs t fr)) (hr : W.ownsRow base e size v n xs) (hte : t ≠ e) : some g ≠ v.ownBlock := by
  rcases hr.2 with ⟨rfl, _⟩ | ⟨k, cap, cur, rfl, _, hk, _⟩
  · simp [Value.ownBlock]
  · intro e'
    obtain rfl : g = k := by simpa [Value.ownBlock] using e'
    rw [hb] at hk
    injection hk with hk
    injection hk with _ hk _
    exact hte hk
theorem R_other {α : Type} {d : Kd α} {e base : Nat} {ok : Nat → Prop} {W w1 : World} {v v' : Value} {xs : List α} {b' e' s' n' : Nat} {ys : List Value} (h : d.R e W base ok v xs) (hne : ∀ q ∈ e :: d.E, q ≠ e') (hr' : W.ownsRow b' e' s' v' n' ys) (hg : W.grownBy w1 v'.ownBlock) : d.R e w1 base ok v xs := by
  refine Kd.R_mono (Kd.R_move (Kd.R_bound h) (fun k hb => ?_)) (fun k hb => hb.1)
  obtain ⟨_, h5, _, q, hq, cs, hc⟩ := hb
  exact hg.block k (blk_lt hc) (row_ne hc hr' (hne q hq))
end Go.Proofs.Ytgncbhpmnjfhhaa.S
end
section
namespace Go.Proofs.Ytgncbhpmnjfhhaa.S
open Go.RowKit Go.Proofs.YtgncbhpmnjfhhaaW.PrintWords Go.Proofs.YtgncbhpmnjfhhaaW.PrintLast Go.Proofs.YtgncbhpmnjfhhaaW.PrintMore
set_option linter.unusedVariables false
set_option linter.unusedSimpArgs false
def joinsP (l : List S30) (v : List Int) (e x : Int) : Prop := 1 ≤ l.length ∧ (l.getD (l.length - 1) z30).f1 = e ∧ v.getD (l.length - 1) 0 = x
instance (l : List S30) (v : List Int) (e x : Int) : Decidable (joinsP l v e x) := by unfold joinsP; infer_instance
structure PcsRows (w w1 W : World) (v5 v6 vE : Value) (l : List S30) (v E : List Int) : Prop where
  r5 : k30.R 30 W w.heap.size (fun k => w1.heap.size ≤ k) v5 l
  r6 : (Kd.int .i64).R 3 W w.heap.size (fun k => w1.heap.size ≤ k) v6 v
  rE : (Kd.int .i64).R 3 W w.heap.size (fun k => k < w1.heap.size) vE E
  b : Below w.heap.size w W
  z : w1.heap.size ≤ W.heap.size
theorem PcsRows.below {w w1 W W' : World} {v5 v6 vE : Value} {l : List S30} {v E : List Int} (h : PcsRows w w1 W v5 v6 vE l v E) (hb : Below W.heap.size W W') : PcsRows w w1 W' v5 v6 vE l v E :=
  ⟨Kd.R_below h.r5 hb, Kd.R_below h.r6 hb, Kd.R_below h.rE hb, below_step h.b hb, Nat.le_trans h.z hb.size⟩
theorem PcsRows.drewN {w w1 W : World} {v5 v6 vE : Value} {l : List S30} {v E : List Int} (h : PcsRows w w1 W v5 v6 vE l v E) (m : Nat) : PcsRows w w1 (W.drewN m) v5 v6 vE l v E := h.below (pw_below_drewN (Below.refl _ _) m)
theorem PcsRows.app5 {w w1 W W' : World} {v5 v6 vE v7 : Value} {l l' : List S30} {v E : List Int} (h : PcsRows w w1 W v5 v6 vE l v E) (ho : k30.R 30 W' w.heap.size (fun k => w1.heap.size ≤ k) v7 l') (hb : Below w.heap.size w W') (hg : W.grownBy W' v5.ownBlock) : PcsRows w w1 W' v7 v6 vE l' v E := by
  obtain ⟨in5, ow5, _⟩ := h.r5.2
  exact ⟨ho, R_other h.r6 (by decide) ow5 hg, R_other h.rE (by decide) ow5 hg, hb, Nat.le_trans h.z hg.size⟩
theorem PcsRows.set {w w1 W : World} {g5 n c : Nat} {v6 vE : Value} {l : List S30} {v E : List Int} (h : PcsRows w w1 W (.slice (some ⟨g5, 0, none⟩) n c) v6 vE l v E) (y : Int) (h0 : 0 ≤ y) (h1 : y < n) (hg : w.heap.size ≤ g5) (t : Int) :
    PcsRows w w1 (W.setCell ⟨g5, y.toNat * 2 + 1, none⟩ (.int .i64 t)) (.slice (some ⟨g5, 0, none⟩) n c) v6 vE (l.set y.toNat ⟨(l.getD y.toNat z30).f0, t⟩) v E := by
  obtain ⟨k1, k2⟩ := R30_setTo h.r5 y h0 h1 t
  exact h.app5 k1 (below_set h.b hg) k2
end Go.Proofs.Ytgncbhpmnjfhhaa.S
end
section
namespace Go.Proofs.Ytgncbhpmnjfhhaa.S
open Go.RowKit Go.Proofs.YtgncbhpmnjfhhaaW.PrintWords
set_option linter.unusedVariables false
def kept_ (l : List Op47) : List Op47 := l.filter fun o => decide (o.s.f0 < o.s.f1)
def oL (l : List Op47) : List S30 := (kept_ l).map (·.s)
def oV (l : List Op47) : List Int := (kept_ l).map (·.v)
def oO (l : List Op47) : List Bool := (kept_ l).map (fun o => !o.d)
end Go.Proofs.Ytgncbhpmnjfhhaa.S
end
section
namespace Go.Proofs.Ytgncbhpmnjfhhaa.S
open Go.RowKit Go.Proofs.YtgncbhpmnjfhhaaW.PrintWords Go.Proofs.YtgncbhpmnjfhhaaW.PrintLast Go.Proofs.YtgncbhpmnjfhhaaW.PrintMore
set_option linter.unusedVariables false
set_option linter.unusedSimpArgs false
def Two (g gR base : Nat) (W : World) (z : Zs Int) (l : List Op47) : Prop := ∃ okM okR : Nat → Prop, (∀ k, okM k → ¬ okR k ∧ k ≠ g ∧ k ≠ gR) ∧ (∀ k, okR k → k ≠ g ∧ k ≠ gR) ∧ g ≠ gR ∧ MapI g base okM W z ∧ True ∧ RefM gR base okR W (oL l) (oV l) (oO l)
theorem Two.below {g gR base : Nat} {W W' : World} {z : Zs Int} {l : List Op47} (h : Two g gR base W z l) (hb : Below W.heap.size W W') : Two g gR base W' z l := by
  obtain ⟨a, b, h1, h2, h3, h4, _, h5⟩ := h
  exact ⟨a, b, h1, h2, h3, h4.below hb, trivial, h5.below hb⟩
theorem RefM.lt {g base : Nat} {ok : Nat → Prop} {w : World} {L : List S30} {V : List Int} {O : List Bool} (h : RefM g base ok w L V O) : g < w.heap.size := by
  obtain ⟨vl, vv, vo, h1, _⟩ := h
  exact blk_lt h1
theorem Two.m {g gR base : Nat} {W : World} {z : Zs Int} {l : List Op47} (h : Two g gR base W z l) : ∃ ok, (∀ k, ok k → k ≠ g) ∧ MapI g base ok W z := by
  obtain ⟨a, b, h1, h2, h3, h4, _, h5⟩ := h
  exact ⟨a, fun k hk => (h1 k hk).2.1, h4⟩
theorem Two.own {g gR base : Nat} {W W' : World} {z : Zs Int} {l : List Op47} {row : Option Nat} (h : Two g gR base W z l) (hg : W.grownBy W' row) (hr : ∀ r, row = some r → ∃ o : Obj, W.heap[r]? = some o ∧ o.isCells = false) : Two g gR base W' z l := by
  obtain ⟨a, b, h1, h2, h3, h4, _, vl, vv, vo, k1, k2, k3, k4⟩ := h
  exact ⟨a, b, h1, h2, h3, h4.own hg hr, trivial, vl, vv, vo, blk_own k1 hg hr, R_own k2 hg hr, R_own k3 hg hr, R_own k4 hg hr⟩
end Go.Proofs.Ytgncbhpmnjfhhaa.S
end
section
namespace Go.Proofs.Ytgncbhpmnjfhhaa.S
open Go.RowKit Go.Shelf Go.Proofs.YtgncbhpmnjfhhaaW.PrintWords Go.Proofs.YtgncbhpmnjfhhaaW.PrintLast Go.Proofs.YtgncbhpmnjfhhaaW.PrintMore
set_option linter.unusedVariables false
set_option linter.unusedSimpArgs false
attribute [local go_sem] Oper.semAt_some
structure MS (w : World) (l : List Op47) (k : Nat) (W : World) : Prop where
  two : Two (w.heap.size + 1) (w.heap.size + 1 + 1) (w.alloc (.cells #[.bool false] 4)).heap.size W (runZ (l.take k)) (l.take k)
  b : Below (w.alloc (.cells #[.bool false] 4)).heap.size (w.alloc (.cells #[.bool false] 4)) W
  k : k ≤ 60
theorem MS.below {w W W' : World} {l : List Op47} {k : Nat} (h : MS w l k W) (hb : Below W.heap.size W W') : MS w l k W' := ⟨h.two.below hb, below_step h.b hb, h.k⟩
theorem MS.below0 {w W : World} {l : List Op47} {k : Nat} (h : MS w l k W) : Below w.heap.size w W := below_step (below_alloc (Below.refl _ _) _) h.b
theorem take_snoc (l : List Op47) (k : Nat) (q : Op47) (h : l[k]? = some q) : l.take (k + 1) = l.take k ++ [q] := by
  rw [List.take_add_one, h]; rfl
structure CM (w : World) (gP : Nat) (z : Zs Int) (vl vv : Value) (n : Int) (W : World) : Prop where
  b : Below (w.alloc (.cells #[.bool false] 4)).heap.size (w.alloc (.cells #[.bool false] 4)) W
  m : MapAt (fun k => k = gP + 1 + 1) (w.heap.size + 1) (w.alloc (.cells #[.bool false] 4)).heap.size W z
  b15 : Boxed W gP 22 vl
  b16 : Boxed W (gP + 1) 37 vv
  b17 : Boxed W (gP + 1 + 1) 3 (.int .i64 n)
  rl : k30.R 30 W (w.alloc (.cells #[.bool false] 4)).heap.size (fun k => k < gP) vl (ls z)
  rv : (Kd.int .i64).R 3 W (w.alloc (.cells #[.bool false] 4)).heap.size (fun k => k < gP) vv (vs z)
  lo : w.heap.size + 1 < gP
section
variable {w W W' : World} {gP : Nat} {z : Zs Int} {vl vv : Value} {n : Int}
theorem CM.below (h : CM w gP z vl vv n W) (hb : Below W.heap.size W W') : CM w gP z vl vv n W' :=
  ⟨below_step h.b hb, h.m.below hb, blk_below h.b15 hb, blk_below h.b16 hb, blk_below h.b17 hb, Kd.R_below h.rl hb, Kd.R_below h.rv hb, h.lo⟩
theorem CM.own {row : Option Nat} {B : Nat} (hB : (w.alloc (.cells #[.bool false] 4)).heap.size ≤ B) (h : CM w gP z vl vv n W) (hg : W.grownBy W' row) (hr : ∀ r, row = some r → B ≤ r ∧ ∃ o : Obj, W.heap[r]? = some o ∧ o.isCells = false) : CM w gP z vl vv n W' := by
  have hr' := fun r e => (hr r e).2
  exact ⟨ownFrom_below (β := Unit) (Nat.le_refl _) hB () W W' row h.b hg hr, h.m.own hg hr', blk_own h.b15 hg hr', blk_own h.b16 hg hr', blk_own h.b17 hg hr', R_own h.rl hg hr', R_own h.rv hg hr', h.lo⟩
theorem CM.res (h : CM w gP z vl vv n W) : Boxed W w.heap.size 4 (.bool false) := blk_below (blk_new w _) h.b
theorem CM.set (h : CM w gP z vl vv n W) (m : Int) : Kept W (W.setCell ⟨gP + 1 + 1, 0, none⟩ (.int .i64 m)) (fun k => k = gP + 1 + 1) ∧ CM w gP z vl vv m (W.setCell ⟨gP + 1 + 1, 0, none⟩ (.int .i64 m)) := by
  have hk1 : Kept W (W.setCell ⟨gP + 1 + 1, 0, none⟩ (.int .i64 m)) (fun k => k = gP + 1 + 1) := (Kept.refl W (fun k => k = gP + 1 + 1)).setCell (p := ⟨gP + 1 + 1, 0, none⟩) (.inl rfl) _
  have hlo := h.lo
  refine ⟨hk1, below_set h.b (by rw [World.size_alloc]; omega), h.m.kept hk1 (fun k h => h) (by omega), blk_kept h.b15 hk1 (by omega), blk_kept h.b16 hk1 (by omega), h.b17.set _, Kd.R_kept h.rl hk1 (fun k hk => by omega), Kd.R_kept h.rv hk1 (fun k hk => by omega), hlo⟩
end
end Go.Proofs.Ytgncbhpmnjfhhaa.S
end
