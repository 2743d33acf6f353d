/- Core, part 4 of 4: a part of the proof of several rows: what its walks and laws lean on. No condition. -/
import Derived.Test.YtgncbhpmnjfhhaaCore2
import Derived.Deep.RegionWith
import Derived.WalkSpells
import Derived.RangeFuncBox
import Derived.RangeFuncNested
import Derived.RangeFuncBound
import Derived.RangeFuncCalls
import Derived.RangeFuncLeaves
import Derived.RangeFuncFrom
import Derived.RangeFuncWrites
import Derived.WalkKit
import Derived.OwnWalkIn
import Derived.TacticsInMore
import Derived.LoopNIn
import Derived.LoopIn
import Derived.Shelf.RegionOpen
import Derived.Shelf.Abstract
import Derived.KernelRfl
import Derived.Test.YtgncbhpmnjfhhaaRows
import Derived.ProofKit
import Derived.OpenShut
import Derived.ShutString
import Derived.ChangeOld
import Derived.Below
import Derived.SizedLaws
import Derived.Lib.SmallJoins
section
namespace Go.Proofs.Ytgncbhpmnjfhhaa.S
open Go.RowKit Go.Proofs.YtgncbhpmnjfhhaaW.PrintWords Go.Proofs.YtgncbhpmnjfhhaaW.PrintLast Go.Proofs.YtgncbhpmnjfhhaaW.PrintMore
attribute [local go_sem] max2_int min2_int max_two min_two max_three min_three max_four min_four
set_option linter.unusedVariables false
set_option linter.unusedSimpArgs false
def DropPostI (gS : Nat) (a1_0 a1_1 : Int) (r1 : List S30) (r2 : List Int) (w w' : World) : Prop :=
  (¬ a1_0 < a1_1 ∧ Below w.heap.size w w') ∨ (a1_0 < a1_1 ∧ ∃ (wm : World) (vl vv : Value), Below w.heap.size w wm ∧ Kd.R k30 30 wm w.heap.size (fun _ => True) vl r1 ∧ Kd.R (Kd.int .i64) 3 wm w.heap.size (fun _ => True) vv r2 ∧ w' = (wm.setCell ⟨gS, 0, none⟩ vl).setCell ⟨gS, 1, none⟩ vv)
mutual
def span_Map_int_Drop.l0 : Nat → List (S30) → List Int → List (S30) → Int → Int → List (S30) → List Int → Int → Int → Option ((List (S30)) × List Int)
  | 0, _, _, _, _, _, _, _, _, _ => none
  | k + 1, x4, x5, x19, x20, x21, x162000, x162001, x163000, x163001 => if x21 < x20 then (if 0 ≤ x21 then (if x21 < (x19.length : Int) then ((span_Cut.f k (([(⟨(rd_T30 x19 x21).f0, (rd_T30 x19 x21).f1⟩ : S30)] : List (S30))) (([(⟨x163000, x163001⟩ : S30)] : List (S30)))).bind fun t172 => (span_Map_int_Drop.l1 k x4 x5 x21 x19 x20 x21 t172 (t172.length : Int) 0 x162000 x162001 x163000 x163001)) else (none)) else (none)) else (some (x4, x5))
def span_Map_int_Drop.l1 : Nat → List (S30) → List Int → Int → List (S30) → Int → Int → List (S30) → Int → Int → List (S30) → List Int → Int → Int → Option ((List (S30)) × List Int)
  | 0, _, _, _, _, _, _, _, _, _, _, _, _, _ => none
  | k + 1, x4, x5, x6, x19, x20, x21, x30, x31, x32, x162000, x162001, x163000, x163001 => if x32 < x31 then (if 0 ≤ x32 then (if x32 < (x30.length : Int) then ((some (([(⟨(rd_T30 x30 x32).f0, (rd_T30 x30 x32).f1⟩ : S30)] : List (S30)) : List (S30))).bind fun y177 => (if x4.length + y177.length < 8796093022208 then (if 0 ≤ x6 then (if x6 < (x162001.length : Int) then ((some (([rd x162001 x6] : List Int) : List Int)).bind fun y184 => (if x5.length + y184.length < 17592186044416 then (span_Map_int_Drop.l1 k (x4 ++ y177) (x5 ++ y184) x6 x19 x20 x21 x30 x31 (wrap64 (x32 + 1)) x162000 x162001 x163000 x163001) else (none))) else (none)) else (none)) else (none))) else (none)) else (none)) else (span_Map_int_Drop.l0 k x4 x5 x19 x20 (wrap64 (x21 + 1)) x162000 x162001 x163000 x163001)
end
def span_Map_int_Drop.f (k : Nat) (l0_0 : List (S30)) (l0_1 : List Int) (a1_0 : Int) (a1_1 : Int) : Option ((List (S30)) × List Int) := (span_empty.f a1_0 a1_1).bind fun t163 => (if t163 = true then (some (([] : List (S30)), ([] : List Int))) else (span_Map_int_Drop.l0 k ([] : List (S30)) ([] : List Int) l0_0 (l0_0.length : Int) 0 l0_0 l0_1 a1_0 a1_1))
theorem span_Map_int_Drop.mono_l : ∀ k, (∀ y0 y1 y2 y3 y4 y5 y6 y7 y8, LeO (span_Map_int_Drop.l0 k y0 y1 y2 y3 y4 y5 y6 y7 y8) (span_Map_int_Drop.l0 (k + 1) y0 y1 y2 y3 y4 y5 y6 y7 y8)) ∧ (∀ y0 y1 y2 y3 y4 y5 y6 y7 y8 y9 y10 y11 y12, LeO (span_Map_int_Drop.l1 k y0 y1 y2 y3 y4 y5 y6 y7 y8 y9 y10 y11 y12) (span_Map_int_Drop.l1 (k + 1) y0 y1 y2 y3 y4 y5 y6 y7 y8 y9 y10 y11 y12))
  | 0 => ⟨fun _ _ _ _ _ _ _ _ _ r h => by simp [span_Map_int_Drop.l0] at h, fun _ _ _ _ _ _ _ _ _ _ _ _ _ r h => by simp [span_Map_int_Drop.l1] at h⟩
  | k + 1 => by
    obtain ⟨ih0, ih1⟩ := span_Map_int_Drop.mono_l k
    refine ⟨?_, ?_⟩
    · intro y0 y1 y2 y3 y4 y5 y6 y7 y8
      unfold span_Map_int_Drop.l0
      repeat' first
      | (with_reducible exact ih0 _ _ _ _ _ _ _ _ _)
      | (with_reducible exact ih1 _ _ _ _ _ _ _ _ _ _ _ _ _)
      | (with_reducible exact span_Cut.mono _ _ _)
      | (with_reducible exact LeO.refl _)
      | (with_reducible exact LeO.none _)
      | (with_reducible refine LeO.ite ?_ ?_)
      | (with_reducible refine LeO.bind ?_ (fun _ => ?_))
      | exact ih0 _ _ _ _ _ _ _ _ _
      | exact ih1 _ _ _ _ _ _ _ _ _ _ _ _ _
      | exact span_Cut.mono _ _ _
      | exact LeO.none _
      | refine LeO.ite ?_ ?_
      | refine LeO.bind ?_ (fun _ => ?_)
    · intro y0 y1 y2 y3 y4 y5 y6 y7 y8 y9 y10 y11 y12
      unfold span_Map_int_Drop.l1
      repeat' first
      | (with_reducible exact ih0 _ _ _ _ _ _ _ _ _)
      | (with_reducible exact ih1 _ _ _ _ _ _ _ _ _ _ _ _ _)
      | (with_reducible exact span_Cut.mono _ _ _)
      | (with_reducible exact LeO.refl _)
      | (with_reducible exact LeO.none _)
      | (with_reducible refine LeO.ite ?_ ?_)
      | (with_reducible refine LeO.bind ?_ (fun _ => ?_))
      | exact ih0 _ _ _ _ _ _ _ _ _
      | exact ih1 _ _ _ _ _ _ _ _ _ _ _ _ _
      | exact span_Cut.mono _ _ _
      | exact LeO.none _
      | refine LeO.ite ?_ ?_
      | refine LeO.bind ?_ (fun _ => ?_)
theorem span_Map_int_Drop.mono : ∀ a0 a1 a2 a3 k, LeO (span_Map_int_Drop.f k a0 a1 a2 a3) (span_Map_int_Drop.f (k + 1) a0 a1 a2 a3) := by
  intro a0 a1 a2 a3 k
  obtain ⟨ih0, ih1⟩ := span_Map_int_Drop.mono_l k
  unfold span_Map_int_Drop.f
  repeat' first
      | (with_reducible exact ih0 _ _ _ _ _ _ _ _ _)
      | (with_reducible exact ih1 _ _ _ _ _ _ _ _ _ _ _ _ _)
      | (with_reducible exact span_Cut.mono _ _ _)
      | (with_reducible exact LeO.refl _)
      | (with_reducible exact LeO.none _)
      | (with_reducible refine LeO.ite ?_ ?_)
      | (with_reducible refine LeO.bind ?_ (fun _ => ?_))
      | exact ih0 _ _ _ _ _ _ _ _ _
      | exact ih1 _ _ _ _ _ _ _ _ _ _ _ _ _
      | exact span_Cut.mono _ _ _
      | exact LeO.none _
      | refine LeO.ite ?_ ?_
      | refine LeO.bind ?_ (fun _ => ?_)
def span_Map_int_Drop.T10 : Bool × List (List Nat × List Nat) := (true, [([], []), ([], []), ([1], [1]), ([0, 2], [0, 2]), ([], []), ([], []), ([5], [5]), ([6], [6]), ([7], [7]), ([], []), ([8, 9], [8, 9]), ([10], [10]), ([11], [11]), ([4, 12, 3], [4, 12]), ([3, 13, 0, 1, 2, 3], [0, 3]), ([13, 14, 0, 1, 2, 3, 4, 5, 6, 7, 8, 9, 10, 11, 12, 13, 14], [4, 13])])
def span_Map_int_Drop.B10 : List Nat := [0, 0, 2, 7, 0, 0, 32, 96, 224, 0, 992, 2016, 4064, 8191, 16383, 32767]
theorem span_Map_int_Drop.tab10 : rtab .any (opsOf Try.f29 10) = span_Map_int_Drop.T10 := by kernel_rfl
theorem span_Map_int_Drop.bits10 : waitsOk span_Map_int_Drop.T10.2 span_Map_int_Drop.B10 = true := by kernel_rfl
set_option maxHeartbeats 8000000 in
set_option maxRecDepth 100000 in
theorem span_Map_int_Drop.calls (k gS : Nat) (A0_0 : Option Addr) (c0_0 : Nat) (l0_0 : List (S30)) (A0_1 : Option Addr) (c0_1 : Nat) (l0_1 : List Int) (a1_0 : Int) (a1_1 : Int) (r1 : List (S30)) (r2 : List Int) (w : World) (hr0_0 : Kd.C k30 w A0_0 l0_0.length l0_0) (hc0_0 : l0_0.length ≤ c0_0) (hr0_1 : Kd.C (Kd.int .i64) w A0_1 l0_1.length l0_1) (hc0_1 : l0_1.length ≤ c0_1) (hgS : w.heap[gS]? = some (.cells #[.slice A0_0 l0_0.length c0_0, .slice A0_1 l0_1.length c0_1] 41 (0, 0))) (h : span_Map_int_Drop.f k l0_0 l0_1 a1_0 a1_1 = some (r1, r2)) :
    Calls Try.prog 29 #[.pointer (some ⟨gS, 0, none⟩), .agg #[.int .i64 a1_0, .int .i64 a1_1]] w fun e w' => e = .returned (.tuple #[]) ∧ DropPostI gS a1_0 a1_1 r1 r2 w w' := by
  have hu41 := Try.underlying41
  have hu30 := Try.underlying30
  have HR0_0 := Aside0.mk hr0_0
  have HC0_0 := Aside0.mk hc0_0
  clear hr0_0 hc0_0
  have HR0_1 := Aside0.mk hr0_1
  have HC0_1 := Aside0.mk hc0_1
  clear hr0_1 hc0_1
  have HB := Aside0.mk (Below.refl w.heap.size w)
  have BK161 := Aside0.mk hgS
  clear hgS
  have H : ((span_empty.f a1_0 a1_1).bind fun t163 => (if t163 = true then (some (([] : List (S30)), ([] : List Int))) else (span_Map_int_Drop.l0 k ([] : List (S30)) ([] : List Int) l0_0 (l0_0.length : Int) 0 l0_0 l0_1 a1_0 a1_1))) = some (r1, r2) := h
  clear h
  replace H := Option.bind_eq_some_iff.mp H
  obtain ⟨t163, A30, H⟩ := H
  replace H : (if t163 = true then (some (([] : List (S30)), ([] : List Int))) else (span_Map_int_Drop.l0 k ([] : List (S30)) ([] : List Int) l0_0 (l0_0.length : Int) 0 l0_0 l0_1 a1_0 a1_1)) = some (r1, r2) := H
  have A3 := Aside0.mk A30
  clear A30
  by_cases c4 : t163 = true
  · subst c4
    have H1 : (some (([] : List (S30)), ([] : List Int))) = some (r1, r2) := by rw [if_pos rfl] at H; exact H
    clear H
    have H := H1
    clear H1
    simp only [Option.some.injEq, Prod.mk.injEq] at H
    obtain ⟨rfl, rfl⟩ := H
    go_enter Try.func29, Try.ntmps29
    go_wp2_with (first | ((with_reducible refine gate_dst (N := 3) rfl ?_); refine box_event ?hg (N := 3) ?hd (cs := #[.int .i64 a1_0, .int .i64 a1_1]) (t := 30) ?hr ?_; (case hd => rfl); (case hg => rfl); (case hr => first | (go_simp; done) | (go_simp; rfl)); intro gb162 hg w6 hbox hb; have n0_ := Aside0.mk (blk_below (g := gS) (o := .cells #[.slice A0_0 l0_0.length c0_0, .slice A0_1 l0_1.length c0_1] 41 (0, 0)) (by (with_reducible repeat (first | refine blk_drewN ?_ _ | refine blk_drew ?_ | refine blk_alloc ?_ _)); exact BK161.out) hb); have n1_ := Aside0.mk (below_step (by repeat (first | (with_reducible first | exact HB.out | apply below_alloc | apply pw_below_drewN | apply below_drew1 | refine below_set ?_ GE161.out) | exact HB.out)) hb); have n2_ := Aside0.mk (hbox); have n3_ := Aside0.mk ((by rw [hg]; exact (below_size (by repeat (first | (with_reducible first | exact HB.out | apply below_alloc | apply pw_below_drewN | apply below_drew1 | refine below_set ?_ GE161.out) | exact HB.out))) : w.heap.size ≤ gb162)); have n4_ := Aside0.mk ((by rw [hg]; exact (below_size (by repeat (first | (with_reducible first | exact HB.out | apply below_alloc | apply pw_below_drewN | apply below_drew1 | refine below_set ?_ GE161.out) | exact HB.out))) : w.heap.size ≤ gb162)); have n5_ := Aside0.mk ((by rw [hg]; exact Nat.ne_of_lt (blk_lt (g := gS) (o := .cells #[.slice A0_0 l0_0.length c0_0, .slice A0_1 l0_1.length c0_1] 41 (0, 0)) (by (with_reducible repeat (first | refine blk_drewN ?_ _ | refine blk_drew ?_ | refine blk_alloc ?_ _)); exact BK161.out)) : gS ≠ gb162)); have n6_ := Aside0.mk ((by rw [hg]; exact Nat.ne_of_gt (blk_lt (g := gS) (o := .cells #[.slice A0_0 l0_0.length c0_0, .slice A0_1 l0_1.length c0_1] 41 (0, 0)) (by (with_reducible repeat (first | refine blk_drewN ?_ _ | refine blk_drew ?_ | refine blk_alloc ?_ _)); exact BK161.out)) : gb162 ≠ gS)); clear BK161; clear HB; have BK161 := n0_; have HB := n1_; have BK162 := n2_; have GW162 := n3_; have GE162 := n4_; have NB161_162 := n5_; have NB162_161 := n6_; clear n0_ n1_ n2_ n3_ n4_ n5_ n6_; clear hb hbox hg; have hnb7 := NB162_161.out; have hnc7 := NB161_162.out; have hcz8_0 : w6.cell? ⟨gb162, 0, none⟩ = some (.int .i64 a1_0) := (blk_cell BK162.out 0).trans rfl; have hcz8_1 : w6.cell? ⟨gb162, 1, none⟩ = some (.int .i64 a1_1) := (blk_cell BK162.out 1).trans rfl; have hfz8_0 := blk_frozen BK162.out 0; have hfz8_1 := blk_frozen BK162.out 1) | (go_at_call 48; (with_reducible refine (span_empty.calls a1_0 a1_1 true _ A3.out).mono ?_); rintro e w9 ⟨rfl, hb⟩; have n0_ := Aside0.mk (blk_below (g := gS) (o := .cells #[.slice A0_0 l0_0.length c0_0, .slice A0_1 l0_1.length c0_1] 41 (0, 0)) (by (with_reducible repeat (first | refine blk_drewN ?_ _ | refine blk_drew ?_ | refine blk_alloc ?_ _)); exact BK161.out) hb); have n1_ := Aside0.mk (blk_below (g := gb162) (o := .cells #[.int .i64 a1_0, .int .i64 a1_1] 30 (0, 0)) (by (with_reducible repeat (first | refine blk_drewN ?_ _ | refine blk_drew ?_ | refine blk_alloc ?_ _)); exact BK162.out) hb); have n2_ := Aside0.mk (below_step (by repeat (first | (with_reducible first | exact HB.out | apply below_alloc | apply pw_below_drewN | apply below_drew1 | refine below_set ?_ GE161.out | refine below_set ?_ GE162.out) | exact HB.out)) hb); clear BK161; clear BK162; clear HB; have BK161 := n0_; have BK162 := n1_; have HB := n2_; clear n0_ n1_ n2_; (try clear hb); (try clear hb2); (try clear hk); (try clear hi)))
    first | go_end0 | ((try simp only [Exit.inBlock, Exit.then]); refine bodyPost_ret (results_none rfl _ _ _) rfl ?_)
    exact ⟨by first | rfl | (simp; done), Or.inl ⟨by have h_ := A3.out; unfold span_empty.f at h_; simp at h_; omega, by repeat (first | (with_reducible first | exact HB.out | apply below_alloc | apply pw_below_drewN | apply below_drew1 | refine below_set ?_ GE162.out) | exact HB.out)⟩⟩
  · replace c4 := Bool.eq_false_iff.mpr c4
    subst c4
    have H1 : (span_Map_int_Drop.l0 k ([] : List (S30)) ([] : List Int) l0_0 (l0_0.length : Int) 0 l0_0 l0_1 a1_0 a1_1) = some (r1, r2) := by rw [if_neg (show ¬ (false = true) by decide)] at H; exact H
    clear H
    have H := H1
    clear H1
    have H' := Aside0.mk H
    clear H
    go_enter Try.func29, Try.ntmps29
    go_wp2_with (first | ((with_reducible refine gate_dst (N := 3) rfl ?_); refine box_event ?hg (N := 3) ?hd (cs := #[.int .i64 a1_0, .int .i64 a1_1]) (t := 30) ?hr ?_; (case hd => rfl); (case hg => rfl); (case hr => first | (go_simp; done) | (go_simp; rfl)); intro gb162 hg w11 hbox hb; have n0_ := Aside0.mk (blk_below (g := gS) (o := .cells #[.slice A0_0 l0_0.length c0_0, .slice A0_1 l0_1.length c0_1] 41 (0, 0)) (by (with_reducible repeat (first | refine blk_drewN ?_ _ | refine blk_drew ?_ | refine blk_alloc ?_ _)); exact BK161.out) hb); have n1_ := Aside0.mk (below_step (by repeat (first | (with_reducible first | exact HB.out | apply below_alloc | apply pw_below_drewN | apply below_drew1 | refine below_set ?_ GE161.out) | exact HB.out)) hb); have n2_ := Aside0.mk (hbox); have n3_ := Aside0.mk ((by rw [hg]; exact (below_size (by repeat (first | (with_reducible first | exact HB.out | apply below_alloc | apply pw_below_drewN | apply below_drew1 | refine below_set ?_ GE161.out) | exact HB.out))) : w.heap.size ≤ gb162)); have n4_ := Aside0.mk ((by rw [hg]; exact (below_size (by repeat (first | (with_reducible first | exact HB.out | apply below_alloc | apply pw_below_drewN | apply below_drew1 | refine below_set ?_ GE161.out) | exact HB.out))) : w.heap.size ≤ gb162)); have n5_ := Aside0.mk ((by rw [hg]; exact Nat.ne_of_lt (blk_lt (g := gS) (o := .cells #[.slice A0_0 l0_0.length c0_0, .slice A0_1 l0_1.length c0_1] 41 (0, 0)) (by (with_reducible repeat (first | refine blk_drewN ?_ _ | refine blk_drew ?_ | refine blk_alloc ?_ _)); exact BK161.out)) : gS ≠ gb162)); have n6_ := Aside0.mk ((by rw [hg]; exact Nat.ne_of_gt (blk_lt (g := gS) (o := .cells #[.slice A0_0 l0_0.length c0_0, .slice A0_1 l0_1.length c0_1] 41 (0, 0)) (by (with_reducible repeat (first | refine blk_drewN ?_ _ | refine blk_drew ?_ | refine blk_alloc ?_ _)); exact BK161.out)) : gb162 ≠ gS)); clear BK161; clear HB; have BK161 := n0_; have HB := n1_; have BK162 := n2_; have GW162 := n3_; have GE162 := n4_; have NB161_162 := n5_; have NB162_161 := n6_; clear n0_ n1_ n2_ n3_ n4_ n5_ n6_; clear hb hbox hg; have hnb12 := NB162_161.out; have hnc12 := NB161_162.out; have hcz13_0 : w11.cell? ⟨gb162, 0, none⟩ = some (.int .i64 a1_0) := (blk_cell BK162.out 0).trans rfl; have hcz13_1 : w11.cell? ⟨gb162, 1, none⟩ = some (.int .i64 a1_1) := (blk_cell BK162.out 1).trans rfl; have hfz13_0 := blk_frozen BK162.out 0; have hfz13_1 := blk_frozen BK162.out 1) | (go_at_call 48; (with_reducible refine (span_empty.calls a1_0 a1_1 false _ A3.out).mono ?_); rintro e w14 ⟨rfl, hb⟩; have n0_ := Aside0.mk (blk_below (g := gS) (o := .cells #[.slice A0_0 l0_0.length c0_0, .slice A0_1 l0_1.length c0_1] 41 (0, 0)) (by (with_reducible repeat (first | refine blk_drewN ?_ _ | refine blk_drew ?_ | refine blk_alloc ?_ _)); exact BK161.out) hb); have n1_ := Aside0.mk (blk_below (g := gb162) (o := .cells #[.int .i64 a1_0, .int .i64 a1_1] 30 (0, 0)) (by (with_reducible repeat (first | refine blk_drewN ?_ _ | refine blk_drew ?_ | refine blk_alloc ?_ _)); exact BK162.out) hb); have n2_ := Aside0.mk (below_step (by repeat (first | (with_reducible first | exact HB.out | apply below_alloc | apply pw_below_drewN | apply below_drew1 | refine below_set ?_ GE161.out | refine below_set ?_ GE162.out) | exact HB.out)) hb); clear BK161; clear BK162; clear HB; have BK161 := n0_; have BK162 := n1_; have HB := n2_; clear n0_ n1_ n2_; (try clear hb); (try clear hb2); (try clear hk); (try clear hi); have hcz15_0 : w14.cell? ⟨gS, 0, none⟩ = some (.slice A0_0 l0_0.length c0_0) := (blk_cell BK161.out 0).trans rfl; have hcz15_1 : w14.cell? ⟨gS, 1, none⟩ = some (.slice A0_1 l0_1.length c0_1) := (blk_cell BK161.out 1).trans rfl; have hfz15_0 := blk_frozen BK161.out 0; have hfz15_1 := blk_frozen BK161.out 1))
    go_loopg [4, 5, 21] k (fun kq v4 v5 v21 w' => ∃ (x4_1 : List (S30)) (x5_1 : List Int) (x21_1 : Int), v21 = .int .i64 x21_1 ∧ Aside0 (span_Map_int_Drop.l0 kq x4_1 x5_1 l0_0 (l0_0.length : Int) x21_1 l0_0 l0_1 a1_0 a1_1 = some (r1, r2)) ∧ Aside0 (kq ≤ k) ∧ Aside0 (Kd.R k30 30 w' w.heap.size (fun k_ => k_ ≠ gb162) v4 x4_1) ∧ Aside0 (Kd.R (Kd.int .i64) 3 w' w.heap.size (fun _ => True) v5 x5_1) ∧ Aside0 (w'.heap[gS]? = some (.cells #[(.slice A0_0 l0_0.length c0_0), (.slice A0_1 l0_1.length c0_1)] 41 (0, 0))) ∧ Aside0 (w'.heap[gb162]? = some (.cells #[.int .i64 a1_0, .int .i64 a1_1] 30 (0, 0))) ∧ Aside0 (Below w.heap.size w w'))
    case atStart => exact ⟨(([] : List (S30))), (([] : List Int)), (0), (by first | rfl | (simp; done) | (simp [*]; done)), H', ⟨Nat.le_refl _⟩, ⟨by first | exact Kd.R_nil _ _ _ _ _ | exact Kd.N_nil _ _ _ _ _ | exact Kd.V_nil _ _ _ _ _ | exact Kd.Q_nil _ _ _ _ _ | exact Kd.S_nil _ _ _ _ _⟩, ⟨by first | exact Kd.R_nil _ _ _ _ _ | exact Kd.N_nil _ _ _ _ _ | exact Kd.V_nil _ _ _ _ _ | exact Kd.Q_nil _ _ _ _ _ | exact Kd.S_nil _ _ _ _ _⟩, ⟨by (with_reducible repeat (first | refine blk_drewN ?_ _ | refine blk_drew ?_ | refine blk_alloc ?_ _)); exact BK161.out⟩, ⟨by (with_reducible repeat (first | refine blk_drewN ?_ _ | refine blk_drew ?_ | refine blk_alloc ?_ _)); exact BK162.out⟩, ⟨by repeat (first | (with_reducible first | exact HB.out | apply below_alloc | apply pw_below_drewN | apply below_drew1 | refine below_set ?_ GE161.out | refine below_set ?_ GE162.out) | exact HB.out)⟩⟩
    case round =>
      clear H'
      try clear c1
      try clear c2
      try clear p2
      try clear c4
      try clear c7
      try clear c12
      try clear hcz13_0
      try clear hcz13_1
      try clear hcz15_0
      try clear hcz15_1
      try clear hcz8_0
      try clear hcz8_1
      try clear hfz13_0
      try clear hfz13_1
      try clear hfz15_0
      try clear hfz15_1
      try clear hfz8_0
      try clear hfz8_1
      obtain ⟨x4_1, x5_1, x21_1, rfl, HA, HK1, HO_4, HO_5, BK161, BK162, HB⟩ := hrel
      cases gk with
      | zero => exact absurd HA.out (by simp [span_Map_int_Drop.l0])
      | succ k1 =>
        have H := HA.out
        clear HA
        simp only [span_Map_int_Drop.l0] at H
        by_cases c16 : x21_1 < (l0_0.length : Int)
        · rw [if_pos c16] at H
          have c16b0 : decide (x21_1 < (l0_0.length : Int)) = true := decide_eq_true c16
          clear c16
          by_cases c17 : 0 ≤ x21_1
          · rw [if_pos c17] at H
            have c17b0 : decide (0 ≤ x21_1) = true := decide_eq_true c17
            clear c17
            by_cases c18 : x21_1 < (l0_0.length : Int)
            · rw [if_pos c18] at H
              have c18b0 : decide (x21_1 < (l0_0.length : Int)) = true := decide_eq_true c18
              clear c18
              obtain ⟨y166, hy166⟩ : ∃ y_ : List (S30), y_ = (([(⟨(rd_T30 l0_0 x21_1).f0, (rd_T30 l0_0 x21_1).f1⟩ : S30)] : List (S30))) := ⟨_, rfl⟩
              replace H : ((span_Cut.f k1 y166 (([(⟨a1_0, a1_1⟩ : S30)] : List (S30)))).bind fun t172 => (span_Map_int_Drop.l1 k1 x4_1 x5_1 x21_1 l0_0 (l0_0.length : Int) x21_1 t172 (t172.length : Int) 0 l0_0 l0_1 a1_0 a1_1)) = some (r1, r2) := by first | (rw [hy166]; with_reducible exact H) | (have H2_ := (Option.bind_some _ _).symm.trans H; rw [hy166]; with_reducible exact H2_) | (have H2_ := (Option.bind_some _ _).symm.trans H; with_reducible exact H2_) | with_reducible exact H | (rw [hy166]; exact H) | exact H
              have Ny166 := Aside0.mk hy166
              clear hy166
              obtain ⟨y169, hy169⟩ : ∃ y_ : List (S30), y_ = (([(⟨a1_0, a1_1⟩ : S30)] : List (S30))) := ⟨_, rfl⟩
              replace H : ((span_Cut.f k1 y166 y169).bind fun t172 => (span_Map_int_Drop.l1 k1 x4_1 x5_1 x21_1 l0_0 (l0_0.length : Int) x21_1 t172 (t172.length : Int) 0 l0_0 l0_1 a1_0 a1_1)) = some (r1, r2) := by first | (rw [hy169]; with_reducible exact H) | (have H2_ := (Option.bind_some _ _).symm.trans H; rw [hy169]; with_reducible exact H2_) | (have H2_ := (Option.bind_some _ _).symm.trans H; with_reducible exact H2_) | with_reducible exact H | (rw [hy169]; exact H) | exact H
              have Ny169 := Aside0.mk hy169
              clear hy169
              replace H := Option.bind_eq_some_iff.mp H
              obtain ⟨t172, A190, H⟩ := H
              replace H : (span_Map_int_Drop.l1 k1 x4_1 x5_1 x21_1 l0_0 (l0_0.length : Int) x21_1 t172 (t172.length : Int) 0 l0_0 l0_1 a1_0 a1_1) = some (r1, r2) := H
              have A19 := Aside0.mk A190
              clear A190
              have H' := Aside0.mk H
              clear H
              have p164 : 0 ≤ (x21_1 : Int) := of_decide_eq_true (by first | (with_reducible assumption) | assumption)
              have q164 : x21_1 < (l0_0.length : Int) := of_decide_eq_true (by first | (with_reducible assumption) | assumption)
              obtain ⟨ad164, e164, hx164_0, hx164_1⟩ := at_T30 HR0_0.out x21_1 p164 q164
              cases e164
              replace hx164_0 := (HB.out.cell (World.block_lt_of_cell? w _ hx164_0)).trans hx164_0
              replace hx164_1 := (HB.out.cell (World.block_lt_of_cell? w _ hx164_1)).trans hx164_1
              replace p164 := eq_true p164
              replace q164 := eq_true q164
              go_wp2_with (first | ((with_reducible refine gate_dst (N := 7) rfl ?_); refine box_event ?hg (N := 7) ?hd (cs := #[.int .i64 0, .int .i64 0]) (t := 30) ?hr ?_; (case hd => rfl); (case hg => rfl); (case hr => first | (go_simp; done) | (go_simp; rfl)); intro gb165 hg w20 hbox hb; have n0_ := Aside0.mk (Kd.R_below (Kd.R_elderB (by (with_reducible repeat (first | apply Kd.R_alloc | apply Kd.R_drewN | apply Kd.R_drew)); exact HO_4.out) gb165 (Nat.le_of_eq hg.symm)) hb); have n1_ := Aside0.mk (Kd.R_below (by (with_reducible repeat (first | apply Kd.R_alloc | apply Kd.R_drewN | apply Kd.R_drew)); exact HO_5.out) hb); have n2_ := Aside0.mk (blk_below (g := gS) (o := .cells #[.slice (some ad164) l0_0.length c0_0, .slice A0_1 l0_1.length c0_1] 41 (0, 0)) (by (with_reducible repeat (first | refine blk_drewN ?_ _ | refine blk_drew ?_ | refine blk_alloc ?_ _)); exact BK161.out) hb); have n3_ := Aside0.mk (blk_below (g := gb162) (o := .cells #[.int .i64 a1_0, .int .i64 a1_1] 30 (0, 0)) (by (with_reducible repeat (first | refine blk_drewN ?_ _ | refine blk_drew ?_ | refine blk_alloc ?_ _)); exact BK162.out) hb); have n4_ := Aside0.mk (below_step (by repeat (first | (with_reducible first | exact HB.out | apply below_alloc | apply pw_below_drewN | apply below_drew1 | refine below_set ?_ GE161.out | refine below_set ?_ GE162.out) | exact HB.out)) hb); have n5_ := Aside0.mk (hbox); have n6_ := Aside0.mk ((by rw [hg]; exact (below_size (by repeat (first | (with_reducible first | exact HB.out | apply below_alloc | apply pw_below_drewN | apply below_drew1 | refine below_set ?_ GE161.out | refine below_set ?_ GE162.out) | exact HB.out))) : w.heap.size ≤ gb165)); have n7_ := Aside0.mk ((by rw [hg]; exact (below_size (by repeat (first | (with_reducible first | exact HB.out | apply below_alloc | apply pw_below_drewN | apply below_drew1 | refine below_set ?_ GE161.out | refine below_set ?_ GE162.out) | exact HB.out))) : w.heap.size ≤ gb165)); have n8_ := Aside0.mk ((by rw [hg]; exact Nat.ne_of_lt (blk_lt (g := gS) (o := .cells #[.slice (some ad164) l0_0.length c0_0, .slice A0_1 l0_1.length c0_1] 41 (0, 0)) (by (with_reducible repeat (first | refine blk_drewN ?_ _ | refine blk_drew ?_ | refine blk_alloc ?_ _)); exact BK161.out)) : gS ≠ gb165)); have n9_ := Aside0.mk ((by rw [hg]; exact Nat.ne_of_gt (blk_lt (g := gS) (o := .cells #[.slice (some ad164) l0_0.length c0_0, .slice A0_1 l0_1.length c0_1] 41 (0, 0)) (by (with_reducible repeat (first | refine blk_drewN ?_ _ | refine blk_drew ?_ | refine blk_alloc ?_ _)); exact BK161.out)) : gb165 ≠ gS)); have n10_ := Aside0.mk ((by rw [hg]; exact Nat.ne_of_lt (blk_lt (g := gb162) (o := .cells #[.int .i64 a1_0, .int .i64 a1_1] 30 (0, 0)) (by (with_reducible repeat (first | refine blk_drewN ?_ _ | refine blk_drew ?_ | refine blk_alloc ?_ _)); exact BK162.out)) : gb162 ≠ gb165)); have n11_ := Aside0.mk ((by rw [hg]; exact Nat.ne_of_gt (blk_lt (g := gb162) (o := .cells #[.int .i64 a1_0, .int .i64 a1_1] 30 (0, 0)) (by (with_reducible repeat (first | refine blk_drewN ?_ _ | refine blk_drew ?_ | refine blk_alloc ?_ _)); exact BK162.out)) : gb165 ≠ gb162)); clear HO_4; clear HO_5; clear BK161; clear BK162; clear HB; have HO_4 := n0_; have HO_5 := n1_; have BK161 := n2_; have BK162 := n3_; have HB := n4_; have BK165 := n5_; have GW165 := n6_; have GE165 := n7_; have NB161_165 := n8_; have NB165_161 := n9_; have NB162_165 := n10_; have NB165_162 := n11_; clear n0_ n1_ n2_ n3_ n4_ n5_ n6_ n7_ n8_ n9_ n10_ n11_; clear hb hbox hg; have hnb21 := NB165_161.out; have hnc21 := NB161_165.out; have hnb22 := NB165_162.out; have hnc22 := NB162_165.out; have hcz23_0 : w20.cell? ⟨gb165, 0, none⟩ = some (.int .i64 0) := (blk_cell BK165.out 0).trans rfl; have hcz23_1 : w20.cell? ⟨gb165, 1, none⟩ = some (.int .i64 0) := (blk_cell BK165.out 1).trans rfl; have hfz23_0 := blk_frozen BK165.out 0; have hfz23_1 := blk_frozen BK165.out 1) | ((with_reducible refine gate_dst (N := 27) rfl ?_); refine Kd.R_lit k30 _ 30 ?hg (N := 27) ?hd (xs := ([(⟨(rd_T30 l0_0 x21_1).f0, (rd_T30 l0_0 x21_1).f1⟩ : S30)] : List (S30))) (inner := [.int .i64 ((rd_T30 l0_0 x21_1).f0), .int .i64 ((rd_T30 l0_0 x21_1).f1)]) (ok := fun _ => True) (okp := fun _ => True) ?hr ?hp (fun _ hk => hk) trivial (Below.refl _ _) (Nat.le_refl _) (by simp) ?_; (case hd => rfl); (case hg => rfl); (case hr => first | (go_simp; done) | (go_simp; rfl)); (case hp => exact (Reps.c2 (show Kd.M k30 _ _ _ (⟨(rd_T30 l0_0 x21_1).f0, (rd_T30 l0_0 x21_1).f1⟩ : S30) [.int .i64 ((rd_T30 l0_0 x21_1).f0), .int .i64 ((rd_T30 l0_0 x21_1).f1)] from (k30_mkM _ _ _ (⟨(rd_T30 l0_0 x21_1).f0, (rd_T30 l0_0 x21_1).f1⟩ : S30) )) (Reps.none _ _))); intro v167 w24 ho25 hb hg_ hnew_; clear hg_ hnew_; (first | rw [← Ny166.out] at ho25 | (simp only [Int.reduceToNat] at ho25; rw [← Ny166.out] at ho25)); have n0_ := Aside0.mk (Kd.R_elder' (by (with_reducible repeat (first | apply Kd.R_alloc | apply Kd.R_drewN | apply Kd.R_drew)); exact (Kd.R_mono (Kd.R_far (p := ⟨gb165, 1, none⟩) (Kd.R_far (p := ⟨gb165, 0, none⟩) (Kd.R_mono HO_4.out (fun k_ hk => (⟨hk, hk.2⟩ : _ ∧ k_ ≠ gb165))) (fun _ hk => hk.2) (.int .i64 ((rd_T30 l0_0 x21_1).f0))) (fun _ hk => hk.2) (.int .i64 ((rd_T30 l0_0 x21_1).f1))) (fun _ h_ => h_.1))) (Kd.R_base ho25) hb); have n1_ := Aside0.mk (Kd.R_below (by (with_reducible repeat (first | apply Kd.R_alloc | apply Kd.R_drewN | apply Kd.R_drew)); exact (Kd.R_mono (Kd.R_far (p := ⟨gb165, 1, none⟩) (Kd.R_far (p := ⟨gb165, 0, none⟩) (Kd.R_types HO_5.out BK165.out (by decide)) (fun _ hk => hk.2) (.int .i64 ((rd_T30 l0_0 x21_1).f0))) (fun _ hk => hk.2) (.int .i64 ((rd_T30 l0_0 x21_1).f1))) (fun _ h_ => h_.1))) hb); have n2_ := Aside0.mk (Kd.R_lower (Kd.R_newB (Kd.R_newB (Kd.R_new' ho25 (Kd.R_lt (by (with_reducible repeat (first | apply Kd.R_alloc | apply Kd.R_drewN | apply Kd.R_drew)); exact (Kd.R_mono (Kd.R_far (p := ⟨gb165, 1, none⟩) (Kd.R_far (p := ⟨gb165, 0, none⟩) (Kd.R_mono HO_4.out (fun k_ hk => (⟨hk, hk.2⟩ : _ ∧ k_ ≠ gb165))) (fun _ hk => hk.2) (.int .i64 ((rd_T30 l0_0 x21_1).f0))) (fun _ hk => hk.2) (.int .i64 ((rd_T30 l0_0 x21_1).f1))) (fun _ h_ => h_.1))))) (g := gb162) (o := .cells #[.int .i64 a1_0, .int .i64 a1_1] 30 (0, 0)) (by (with_reducible repeat (first | refine blk_drewN ?_ _ | refine blk_drew ?_ | refine blk_alloc ?_ _)); refine blk_far ?_ NB162_165.out _; (with_reducible repeat (first | refine blk_drewN ?_ _ | refine blk_drew ?_ | refine blk_alloc ?_ _)); refine blk_far ?_ NB162_165.out _; (with_reducible repeat (first | refine blk_drewN ?_ _ | refine blk_drew ?_ | refine blk_alloc ?_ _)); exact BK162.out)) (g := gb165) (o := .cells #[.int .i64 ((rd_T30 l0_0 x21_1).f0), .int .i64 ((rd_T30 l0_0 x21_1).f1)] 30 (0, 0)) (by (with_reducible repeat (first | refine blk_drewN ?_ _ | refine blk_drew ?_ | refine blk_alloc ?_ _)); refine blk_put (cs := #[.int .i64 ((rd_T30 l0_0 x21_1).f0), .int .i64 0]) ?_ 1 _ rfl; (with_reducible repeat (first | refine blk_drewN ?_ _ | refine blk_drew ?_ | refine blk_alloc ?_ _)); refine blk_put (cs := #[.int .i64 0, .int .i64 0]) ?_ 0 _ rfl; (with_reducible repeat (first | refine blk_drewN ?_ _ | refine blk_drew ?_ | refine blk_alloc ?_ _)); exact BK165.out)) (below_size (by repeat (first | (with_reducible first | exact HB.out | apply below_alloc | apply pw_below_drewN | apply below_drew1 | refine below_set ?_ GE161.out | refine below_set ?_ GE162.out | refine below_set ?_ GE165.out) | exact HB.out)))); have n3_ := Aside0.mk (blk_below (g := gS) (o := .cells #[.slice (some ad164) l0_0.length c0_0, .slice A0_1 l0_1.length c0_1] 41 (0, 0)) (by (with_reducible repeat (first | refine blk_drewN ?_ _ | refine blk_drew ?_ | refine blk_alloc ?_ _)); refine blk_far ?_ NB161_165.out _; (with_reducible repeat (first | refine blk_drewN ?_ _ | refine blk_drew ?_ | refine blk_alloc ?_ _)); refine blk_far ?_ NB161_165.out _; (with_reducible repeat (first | refine blk_drewN ?_ _ | refine blk_drew ?_ | refine blk_alloc ?_ _)); exact BK161.out) hb); have n4_ := Aside0.mk (blk_below (g := gb162) (o := .cells #[.int .i64 a1_0, .int .i64 a1_1] 30 (0, 0)) (by (with_reducible repeat (first | refine blk_drewN ?_ _ | refine blk_drew ?_ | refine blk_alloc ?_ _)); refine blk_far ?_ NB162_165.out _; (with_reducible repeat (first | refine blk_drewN ?_ _ | refine blk_drew ?_ | refine blk_alloc ?_ _)); refine blk_far ?_ NB162_165.out _; (with_reducible repeat (first | refine blk_drewN ?_ _ | refine blk_drew ?_ | refine blk_alloc ?_ _)); exact BK162.out) hb); have n5_ := Aside0.mk (blk_below (g := gb165) (o := .cells #[.int .i64 ((rd_T30 l0_0 x21_1).f0), .int .i64 ((rd_T30 l0_0 x21_1).f1)] 30 (0, 0)) (by (with_reducible repeat (first | refine blk_drewN ?_ _ | refine blk_drew ?_ | refine blk_alloc ?_ _)); refine blk_put (cs := #[.int .i64 ((rd_T30 l0_0 x21_1).f0), .int .i64 0]) ?_ 1 _ rfl; (with_reducible repeat (first | refine blk_drewN ?_ _ | refine blk_drew ?_ | refine blk_alloc ?_ _)); refine blk_put (cs := #[.int .i64 0, .int .i64 0]) ?_ 0 _ rfl; (with_reducible repeat (first | refine blk_drewN ?_ _ | refine blk_drew ?_ | refine blk_alloc ?_ _)); exact BK165.out) hb); have n6_ := Aside0.mk (below_step (by repeat (first | (with_reducible first | exact HB.out | apply below_alloc | apply pw_below_drewN | apply below_drew1 | refine below_set ?_ GE161.out | refine below_set ?_ GE162.out | refine below_set ?_ GE165.out) | exact HB.out)) hb); clear HO_4; clear HO_5; clear BK161; clear BK162; clear BK165; clear HB; have HO_4 := n0_; have HO_5 := n1_; have HO168 := n2_; have BK161 := n3_; have BK162 := n4_; have BK165 := n5_; have HB := n6_; clear n0_ n1_ n2_ n3_ n4_ n5_ n6_; clear hb ho25; have hnb26 := NB162_161.out; have hnc26 := NB161_162.out; have hcz27_0 : w24.cell? ⟨gb162, 0, none⟩ = some (.int .i64 a1_0) := (blk_cell BK162.out 0).trans rfl; have hcz27_1 : w24.cell? ⟨gb162, 1, none⟩ = some (.int .i64 a1_1) := (blk_cell BK162.out 1).trans rfl; have hfz27_0 := blk_frozen BK162.out 0; have hfz27_1 := blk_frozen BK162.out 1) | ((with_reducible refine gate_dst (N := 29) rfl ?_); refine Kd.R_lit k30 _ 30 ?hg (N := 29) ?hd (xs := ([(⟨a1_0, a1_1⟩ : S30)] : List (S30))) (inner := [.int .i64 a1_0, .int .i64 a1_1]) (ok := fun _ => True) (okp := fun _ => True) ?hr ?hp (fun _ hk => hk) trivial (Below.refl _ _) (Nat.le_refl _) (by simp) ?_; (case hd => rfl); (case hg => rfl); (case hr => first | (go_simp; done) | (go_simp; rfl)); (case hp => exact (Reps.c2 (show Kd.M k30 _ _ _ (⟨a1_0, a1_1⟩ : S30) [.int .i64 a1_0, .int .i64 a1_1] from (k30_mkM _ _ _ (⟨a1_0, a1_1⟩ : S30) )) (Reps.none _ _))); intro v170 w28 ho29 hb hg_ hnew_; clear hg_ hnew_; (first | rw [← Ny169.out] at ho29 | (simp only [Int.reduceToNat] at ho29; rw [← Ny169.out] at ho29)); have n0_ := Aside0.mk (Kd.R_elder' (by (with_reducible repeat (first | apply Kd.R_alloc | apply Kd.R_drewN | apply Kd.R_drew)); exact HO_4.out) (Kd.R_base ho29) hb); have n1_ := Aside0.mk (Kd.R_below (by (with_reducible repeat (first | apply Kd.R_alloc | apply Kd.R_drewN | apply Kd.R_drew)); exact HO_5.out) hb); have n2_ := Aside0.mk (Kd.R_elder' (by (with_reducible repeat (first | apply Kd.R_alloc | apply Kd.R_drewN | apply Kd.R_drew)); exact HO168.out) (Kd.R_base ho29) hb); have n3_ := Aside0.mk (Kd.R_lower (Kd.R_newB (Kd.R_newB (Kd.R_new' (Kd.R_new' ho29 (Kd.R_lt (by (with_reducible repeat (first | apply Kd.R_alloc | apply Kd.R_drewN | apply Kd.R_drew)); exact HO_4.out))) (Kd.R_lt (by (with_reducible repeat (first | apply Kd.R_alloc | apply Kd.R_drewN | apply Kd.R_drew)); exact HO168.out))) (g := gb162) (o := .cells #[.int .i64 a1_0, .int .i64 a1_1] 30 (0, 0)) (by (with_reducible repeat (first | refine blk_drewN ?_ _ | refine blk_drew ?_ | refine blk_alloc ?_ _)); exact BK162.out)) (g := gb165) (o := .cells #[.int .i64 ((rd_T30 l0_0 x21_1).f0), .int .i64 ((rd_T30 l0_0 x21_1).f1)] 30 (0, 0)) (by (with_reducible repeat (first | refine blk_drewN ?_ _ | refine blk_drew ?_ | refine blk_alloc ?_ _)); exact BK165.out)) (below_size (by repeat (first | (with_reducible first | exact HB.out | apply below_alloc | apply pw_below_drewN | apply below_drew1 | refine below_set ?_ GE161.out | refine below_set ?_ GE162.out | refine below_set ?_ GE165.out) | exact HB.out)))); have n4_ := Aside0.mk (blk_below (g := gS) (o := .cells #[.slice (some ad164) l0_0.length c0_0, .slice A0_1 l0_1.length c0_1] 41 (0, 0)) (by (with_reducible repeat (first | refine blk_drewN ?_ _ | refine blk_drew ?_ | refine blk_alloc ?_ _)); exact BK161.out) hb); have n5_ := Aside0.mk (blk_below (g := gb162) (o := .cells #[.int .i64 a1_0, .int .i64 a1_1] 30 (0, 0)) (by (with_reducible repeat (first | refine blk_drewN ?_ _ | refine blk_drew ?_ | refine blk_alloc ?_ _)); exact BK162.out) hb); have n6_ := Aside0.mk (blk_below (g := gb165) (o := .cells #[.int .i64 ((rd_T30 l0_0 x21_1).f0), .int .i64 ((rd_T30 l0_0 x21_1).f1)] 30 (0, 0)) (by (with_reducible repeat (first | refine blk_drewN ?_ _ | refine blk_drew ?_ | refine blk_alloc ?_ _)); exact BK165.out) hb); have n7_ := Aside0.mk (below_step (by repeat (first | (with_reducible first | exact HB.out | apply below_alloc | apply pw_below_drewN | apply below_drew1 | refine below_set ?_ GE161.out | refine below_set ?_ GE162.out | refine below_set ?_ GE165.out) | exact HB.out)) hb); clear HO_4; clear HO_5; clear HO168; clear BK161; clear BK162; clear BK165; clear HB; have HO_4 := n0_; have HO_5 := n1_; have HO168 := n2_; have HO171 := n3_; have BK161 := n4_; have BK162 := n5_; have BK165 := n6_; have HB := n7_; clear n0_ n1_ n2_ n3_ n4_ n5_ n6_ n7_; clear hb ho29; obtain ⟨Ao30, co30, eo30⟩ := Kd.R_slice HO168.out; subst eo30; obtain ⟨Ao31, co31, eo31⟩ := Kd.R_slice HO171.out; subst eo31) | ((with_reducible refine gate_callee (f := 23) rfl ?_); refine goesL_ (some 30) rfl rfl Try.func23 (by kernel_rfl) rfl #[.slice Ao30 y166.length co30, .slice Ao31 y169.length co31] rfl (by (try simp only [List.map_toArray, List.map_cons, List.map_nil]); first | done | rfl | (simp only [List.length_drop, List.length_take]; rfl)) ?_; (with_reducible refine (span_Cut.calls k1 _ _ y166 _ _ y169 t172 _ ?side1 ?side2 ?side3 ?side4 A19.out).mono ?_); (case side1 => repeat (first | exact (Kd.R_reads' HO168.out).2.2 | (with_reducible refine Kd.C_alloc ?_ _) | (with_reducible refine Kd.C_drewN ?_ _) | (with_reducible refine Kd.C_drew ?_))); (case side2 => exact (Kd.R_reads' HO168.out).2.1); (case side3 => repeat (first | exact (Kd.R_reads' HO171.out).2.2 | (with_reducible refine Kd.C_alloc ?_ _) | (with_reducible refine Kd.C_drewN ?_ _) | (with_reducible refine Kd.C_drew ?_))); (case side4 => exact (Kd.R_reads' HO171.out).2.1); rintro e w32 ⟨v173, rfl, ho0, hb⟩; refine ⟨_, rfl, ?_⟩; have n0_ := Aside0.mk (Kd.R_elder' (by (with_reducible repeat (first | apply Kd.R_alloc | apply Kd.R_drewN | apply Kd.R_drew)); exact HO_4.out) (Kd.R_base ho0) hb); have n1_ := Aside0.mk (Kd.R_below (by (with_reducible repeat (first | apply Kd.R_alloc | apply Kd.R_drewN | apply Kd.R_drew)); exact HO_5.out) hb); have n2_ := Aside0.mk (Kd.R_elder' (by (with_reducible repeat (first | apply Kd.R_alloc | apply Kd.R_drewN | apply Kd.R_drew)); exact HO168.out) (Kd.R_base ho0) hb); have n3_ := Aside0.mk (Kd.R_elder' (by (with_reducible repeat (first | apply Kd.R_alloc | apply Kd.R_drewN | apply Kd.R_drew)); exact HO171.out) (Kd.R_base ho0) hb); have n4_ := Aside0.mk (Kd.R_lower (Kd.R_newB (Kd.R_newB (Kd.R_new' (Kd.R_new' (Kd.R_new' ho0 (Kd.R_lt (by (with_reducible repeat (first | apply Kd.R_alloc | apply Kd.R_drewN | apply Kd.R_drew)); exact HO_4.out))) (Kd.R_lt (by (with_reducible repeat (first | apply Kd.R_alloc | apply Kd.R_drewN | apply Kd.R_drew)); exact HO168.out))) (Kd.R_lt (by (with_reducible repeat (first | apply Kd.R_alloc | apply Kd.R_drewN | apply Kd.R_drew)); exact HO171.out))) (g := gb162) (o := .cells #[.int .i64 a1_0, .int .i64 a1_1] 30 (0, 0)) (by (with_reducible repeat (first | refine blk_drewN ?_ _ | refine blk_drew ?_ | refine blk_alloc ?_ _)); exact BK162.out)) (g := gb165) (o := .cells #[.int .i64 ((rd_T30 l0_0 x21_1).f0), .int .i64 ((rd_T30 l0_0 x21_1).f1)] 30 (0, 0)) (by (with_reducible repeat (first | refine blk_drewN ?_ _ | refine blk_drew ?_ | refine blk_alloc ?_ _)); exact BK165.out)) (below_size (by repeat (first | (with_reducible first | exact HB.out | apply below_alloc | apply pw_below_drewN | apply below_drew1 | refine below_set ?_ GE161.out | refine below_set ?_ GE162.out | refine below_set ?_ GE165.out) | exact HB.out)))); have n5_ := Aside0.mk (blk_below (g := gS) (o := .cells #[.slice (some ad164) l0_0.length c0_0, .slice A0_1 l0_1.length c0_1] 41 (0, 0)) (by (with_reducible repeat (first | refine blk_drewN ?_ _ | refine blk_drew ?_ | refine blk_alloc ?_ _)); exact BK161.out) hb); have n6_ := Aside0.mk (blk_below (g := gb162) (o := .cells #[.int .i64 a1_0, .int .i64 a1_1] 30 (0, 0)) (by (with_reducible repeat (first | refine blk_drewN ?_ _ | refine blk_drew ?_ | refine blk_alloc ?_ _)); exact BK162.out) hb); have n7_ := Aside0.mk (blk_below (g := gb165) (o := .cells #[.int .i64 ((rd_T30 l0_0 x21_1).f0), .int .i64 ((rd_T30 l0_0 x21_1).f1)] 30 (0, 0)) (by (with_reducible repeat (first | refine blk_drewN ?_ _ | refine blk_drew ?_ | refine blk_alloc ?_ _)); exact BK165.out) hb); have n8_ := Aside0.mk (below_step (by repeat (first | (with_reducible first | exact HB.out | apply below_alloc | apply pw_below_drewN | apply below_drew1 | refine below_set ?_ GE161.out | refine below_set ?_ GE162.out | refine below_set ?_ GE165.out) | exact HB.out)) hb); clear HO_4; clear HO_5; clear HO168; clear HO171; clear BK161; clear BK162; clear BK165; clear HB; have HO_4 := n0_; have HO_5 := n1_; have HO168 := n2_; have HO171 := n3_; have HO174 := n4_; have BK161 := n5_; have BK162 := n6_; have BK165 := n7_; have HB := n8_; clear n0_ n1_ n2_ n3_ n4_ n5_ n6_ n7_ n8_; (try clear hb); (try clear hb2); (try clear hk); (try clear hi); (try clear ho0); obtain ⟨Ao33, co33, eo33⟩ := Kd.R_slice HO174.out; subst eo33))
              go_loopg [4, 5, 32] k1 (fun kq v4 v5 v32 w' => ∃ (x4_2 : List (S30)) (x5_2 : List Int) (x32_2 : Int), v32 = .int .i64 x32_2 ∧ Aside0 (span_Map_int_Drop.l1 kq x4_2 x5_2 x21_1 l0_0 (l0_0.length : Int) x21_1 t172 (t172.length : Int) x32_2 l0_0 l0_1 a1_0 a1_1 = some (r1, r2)) ∧ Aside0 (kq ≤ k1) ∧ Aside0 (Kd.R k30 30 w' w.heap.size (fun k_ => some k_ ≠ ((.slice Ao33 t172.length co33) : Value).ownBlock ∧ k_ ≠ gb162 ∧ k_ ≠ gb165) v4 x4_2) ∧ Aside0 (Kd.R (Kd.int .i64) 3 w' w.heap.size (fun _ => True) v5 x5_2) ∧ Aside0 (Kd.R k30 30 w' w.heap.size (fun k_ => some k_ ≠ (v4 : Value).ownBlock ∧ k_ ≠ gb162 ∧ k_ ≠ gb165) (.slice Ao33 t172.length co33) t172) ∧ Aside0 (w'.heap[gS]? = some (.cells #[(.slice (some ad164) l0_0.length c0_0), (.slice A0_1 l0_1.length c0_1)] 41 (0, 0))) ∧ Aside0 (w'.heap[gb162]? = some (.cells #[.int .i64 a1_0, .int .i64 a1_1] 30 (0, 0))) ∧ Aside0 (w'.heap[gb165]? = some (.cells #[.int .i64 ((rd_T30 l0_0 x21_1).f0), .int .i64 ((rd_T30 l0_0 x21_1).f1)] 30 (0, 0))) ∧ Aside0 (Below w.heap.size w w'))
              case atStart => exact ⟨(x4_1), (x5_1), (0), (by first | rfl | (simp; done) | (simp [*]; done)), H', ⟨Nat.le_refl _⟩, ⟨by (with_reducible repeat (first | apply Kd.R_alloc | apply Kd.R_drewN | apply Kd.R_drew)); exact Kd.R_mono HO_4.out (fun _ hk => ⟨hk.2, ⟨hk.1.1.1.1, hk.1.1.1.2⟩⟩)⟩, ⟨by (with_reducible repeat (first | apply Kd.R_alloc | apply Kd.R_drewN | apply Kd.R_drew)); exact HO_5.out⟩, ⟨by (with_reducible repeat (first | apply Kd.R_alloc | apply Kd.R_drewN | apply Kd.R_drew)); exact Kd.R_mono HO174.out (fun _ hk => ⟨hk.1.1.1.1.2, ⟨hk.1.2, hk.2⟩⟩)⟩, ⟨by (with_reducible repeat (first | refine blk_drewN ?_ _ | refine blk_drew ?_ | refine blk_alloc ?_ _)); exact BK161.out⟩, ⟨by (with_reducible repeat (first | refine blk_drewN ?_ _ | refine blk_drew ?_ | refine blk_alloc ?_ _)); exact BK162.out⟩, ⟨by (with_reducible repeat (first | refine blk_drewN ?_ _ | refine blk_drew ?_ | refine blk_alloc ?_ _)); exact BK165.out⟩, ⟨by repeat (first | (with_reducible first | exact HB.out | apply below_alloc | apply pw_below_drewN | apply below_drew1 | refine below_set ?_ GE161.out | refine below_set ?_ GE162.out | refine below_set ?_ GE165.out) | exact HB.out)⟩⟩
              case round =>
                clear H'
                try clear c1
                try clear p1
                try clear q1
                try clear hx1
                try clear c2
                try clear p2
                try clear c4
                try clear c7
                try clear c12
                try clear c16
                try clear c16b0
                try clear p16
                try clear q16
                try clear hx16
                try clear c17
                try clear c17b0
                try clear c18
                try clear c18b0
                try clear c21
                try clear c22
                try clear c23
                try clear c26
                try clear c29
                try clear hcz13_0
                try clear hcz13_1
                try clear hcz15_0
                try clear hcz15_1
                try clear hcz23_0
                try clear hcz23_1
                try clear hcz27_0
                try clear hcz27_1
                try clear hcz8_0
                try clear hcz8_1
                try clear hfz13_0
                try clear hfz13_1
                try clear hfz15_0
                try clear hfz15_1
                try clear hfz23_0
                try clear hfz23_1
                try clear hfz27_0
                try clear hfz27_1
                try clear hfz8_0
                try clear hfz8_1
                try clear hx164_0
                try clear hx164_1
                try clear p164
                try clear p2
                try clear q164
                obtain ⟨x4_2, x5_2, x32_2, rfl, HA, HK2, HO_4, HO_5, HO_30, BK161, BK162, BK165, HB⟩ := hrel
                cases gk with
                | zero => exact absurd HA.out (by simp [span_Map_int_Drop.l1])
                | succ k2 =>
                  have H := HA.out
                  clear HA
                  simp only [span_Map_int_Drop.l1] at H
                  by_cases c34 : x32_2 < (t172.length : Int)
                  · rw [if_pos c34] at H
                    have c34b0 : decide (x32_2 < (t172.length : Int)) = true := decide_eq_true c34
                    clear c34
                    by_cases c35 : 0 ≤ x32_2
                    · rw [if_pos c35] at H
                      have c35b0 : decide (0 ≤ x32_2) = true := decide_eq_true c35
                      clear c35
                      by_cases c36 : x32_2 < (t172.length : Int)
                      · rw [if_pos c36] at H
                        have c36b0 : decide (x32_2 < (t172.length : Int)) = true := decide_eq_true c36
                        clear c36
                        obtain ⟨y177, hy177⟩ : ∃ y_ : List (S30), y_ = (([(⟨(rd_T30 t172 x32_2).f0, (rd_T30 t172 x32_2).f1⟩ : S30)] : List (S30))) := ⟨_, rfl⟩
                        replace H : (if x4_2.length + y177.length < 8796093022208 then (if 0 ≤ x21_1 then (if x21_1 < (l0_1.length : Int) then ((some (([rd l0_1 x21_1] : List Int) : List Int)).bind fun y184 => (if x5_2.length + y184.length < 17592186044416 then (span_Map_int_Drop.l1 k2 (x4_2 ++ y177) (x5_2 ++ y184) x21_1 l0_0 (l0_0.length : Int) x21_1 t172 (t172.length : Int) (wrap64 (x32_2 + 1)) l0_0 l0_1 a1_0 a1_1) else (none))) else (none)) else (none)) else (none)) = some (r1, r2) := by first | (rw [hy177]; with_reducible exact H) | (have H2_ := (Option.bind_some _ _).symm.trans H; rw [hy177]; with_reducible exact H2_) | (have H2_ := (Option.bind_some _ _).symm.trans H; with_reducible exact H2_) | with_reducible exact H | (rw [hy177]; exact H) | exact H
                        have Ny177 := Aside0.mk hy177
                        clear hy177
                        by_cases c37 : x4_2.length + y177.length < 8796093022208
                        · rw [if_pos c37] at H
                          have LMc37 := Aside0.mk c37
                          clear c37
                          obtain ⟨y180, hy180⟩ : ∃ y_ : List (S30), y_ = (x4_2 ++ y177) := ⟨_, rfl⟩
                          replace H : (if 0 ≤ x21_1 then (if x21_1 < (l0_1.length : Int) then ((some (([rd l0_1 x21_1] : List Int) : List Int)).bind fun y184 => (if x5_2.length + y184.length < 17592186044416 then (span_Map_int_Drop.l1 k2 y180 (x5_2 ++ y184) x21_1 l0_0 (l0_0.length : Int) x21_1 t172 (t172.length : Int) (wrap64 (x32_2 + 1)) l0_0 l0_1 a1_0 a1_1) else (none))) else (none)) else (none)) = some (r1, r2) := by first | (rw [hy180]; with_reducible exact H) | (have H2_ := (Option.bind_some _ _).symm.trans H; rw [hy180]; with_reducible exact H2_) | (have H2_ := (Option.bind_some _ _).symm.trans H; with_reducible exact H2_) | with_reducible exact H | (rw [hy180]; exact H) | exact H
                          have Ny180 := Aside0.mk hy180
                          clear hy180
                          by_cases c38 : 0 ≤ x21_1
                          · rw [if_pos c38] at H
                            have c38b0 : decide (0 ≤ x21_1) = true := decide_eq_true c38
                            clear c38
                            by_cases c39 : x21_1 < (l0_1.length : Int)
                            · rw [if_pos c39] at H
                              have c39b0 : decide (x21_1 < (l0_1.length : Int)) = true := decide_eq_true c39
                              clear c39
                              obtain ⟨y184, hy184⟩ : ∃ y_ : List Int, y_ = (([rd l0_1 x21_1] : List Int)) := ⟨_, rfl⟩
                              replace H : (if x5_2.length + y184.length < 17592186044416 then (span_Map_int_Drop.l1 k2 y180 (x5_2 ++ y184) x21_1 l0_0 (l0_0.length : Int) x21_1 t172 (t172.length : Int) (wrap64 (x32_2 + 1)) l0_0 l0_1 a1_0 a1_1) else (none)) = some (r1, r2) := by first | (rw [hy184]; with_reducible exact H) | (have H2_ := (Option.bind_some _ _).symm.trans H; rw [hy184]; with_reducible exact H2_) | (have H2_ := (Option.bind_some _ _).symm.trans H; with_reducible exact H2_) | with_reducible exact H | (rw [hy184]; exact H) | exact H
                              have Ny184 := Aside0.mk hy184
                              clear hy184
                              by_cases c40 : x5_2.length + y184.length < 17592186044416
                              · rw [if_pos c40] at H
                                have LMc40 := Aside0.mk c40
                                clear c40
                                obtain ⟨y187, hy187⟩ : ∃ y_ : List Int, y_ = (x5_2 ++ y184) := ⟨_, rfl⟩
                                replace H : (span_Map_int_Drop.l1 k2 y180 y187 x21_1 l0_0 (l0_0.length : Int) x21_1 t172 (t172.length : Int) (wrap64 (x32_2 + 1)) l0_0 l0_1 a1_0 a1_1) = some (r1, r2) := by first | (rw [hy187]; with_reducible exact H) | (have H2_ := (Option.bind_some _ _).symm.trans H; rw [hy187]; with_reducible exact H2_) | (have H2_ := (Option.bind_some _ _).symm.trans H; with_reducible exact H2_) | with_reducible exact H | (rw [hy187]; exact H) | exact H
                                have Ny187 := Aside0.mk hy187
                                clear hy187
                                have H' := Aside0.mk H
                                clear H
                                have p175 : 0 ≤ (x32_2 : Int) := of_decide_eq_true (by first | (with_reducible assumption) | assumption)
                                have q175 : x32_2 < (t172.length : Int) := of_decide_eq_true (by first | (with_reducible assumption) | assumption)
                                obtain ⟨ad175, e175, hx175_0, hx175_1⟩ := at_T30 (Kd.R_reads' HO_30.out).2.2 x32_2 p175 q175
                                cases e175
                                replace p175 := eq_true p175
                                replace q175 := eq_true q175
                                try go_wp2_with (first | ((with_reducible refine gate_dst (N := 9) rfl ?_); refine box_event ?hg (N := 9) ?hd (cs := #[.int .i64 0, .int .i64 0]) (t := 30) ?hr ?_; (case hd => rfl); (case hg => rfl); (case hr => first | (go_simp; done) | (go_simp; rfl)); intro gb176 hg w41 hbox hb; have n0_ := Aside0.mk (Kd.R_below (Kd.R_elderB (by (with_reducible repeat (first | apply Kd.R_alloc | apply Kd.R_drewN | apply Kd.R_drew)); exact HO_4.out) gb176 (Nat.le_of_eq hg.symm)) hb); have n1_ := Aside0.mk (Kd.R_below (by (with_reducible repeat (first | apply Kd.R_alloc | apply Kd.R_drewN | apply Kd.R_drew)); exact HO_5.out) hb); have n2_ := Aside0.mk (Kd.R_below (Kd.R_elderB (by (with_reducible repeat (first | apply Kd.R_alloc | apply Kd.R_drewN | apply Kd.R_drew)); exact HO_30.out) gb176 (Nat.le_of_eq hg.symm)) hb); have n3_ := Aside0.mk (blk_below (g := gS) (o := .cells #[.slice (some ad164) l0_0.length c0_0, .slice A0_1 l0_1.length c0_1] 41 (0, 0)) (by (with_reducible repeat (first | refine blk_drewN ?_ _ | refine blk_drew ?_ | refine blk_alloc ?_ _)); exact BK161.out) hb); have n4_ := Aside0.mk (blk_below (g := gb162) (o := .cells #[.int .i64 a1_0, .int .i64 a1_1] 30 (0, 0)) (by (with_reducible repeat (first | refine blk_drewN ?_ _ | refine blk_drew ?_ | refine blk_alloc ?_ _)); exact BK162.out) hb); have n5_ := Aside0.mk (blk_below (g := gb165) (o := .cells #[.int .i64 ((rd_T30 l0_0 x21_1).f0), .int .i64 ((rd_T30 l0_0 x21_1).f1)] 30 (0, 0)) (by (with_reducible repeat (first | refine blk_drewN ?_ _ | refine blk_drew ?_ | refine blk_alloc ?_ _)); exact BK165.out) hb); have n6_ := Aside0.mk (below_step (by repeat (first | (with_reducible first | exact HB.out | apply below_alloc | apply pw_below_drewN | apply below_drew1 | refine below_set ?_ GE161.out | refine below_set ?_ GE162.out | refine below_set ?_ GE165.out) | exact HB.out)) hb); have n7_ := Aside0.mk (hbox); have n8_ := Aside0.mk ((by rw [hg]; exact (below_size (by repeat (first | (with_reducible first | exact HB.out | apply below_alloc | apply pw_below_drewN | apply below_drew1 | refine below_set ?_ GE161.out | refine below_set ?_ GE162.out | refine below_set ?_ GE165.out) | exact HB.out))) : w.heap.size ≤ gb176)); have n9_ := Aside0.mk ((by rw [hg]; exact (below_size (by repeat (first | (with_reducible first | exact HB.out | apply below_alloc | apply pw_below_drewN | apply below_drew1 | refine below_set ?_ GE161.out | refine below_set ?_ GE162.out | refine below_set ?_ GE165.out) | exact HB.out))) : w.heap.size ≤ gb176)); have n10_ := Aside0.mk ((by rw [hg]; exact Nat.ne_of_lt (blk_lt (g := gS) (o := .cells #[.slice (some ad164) l0_0.length c0_0, .slice A0_1 l0_1.length c0_1] 41 (0, 0)) (by (with_reducible repeat (first | refine blk_drewN ?_ _ | refine blk_drew ?_ | refine blk_alloc ?_ _)); exact BK161.out)) : gS ≠ gb176)); have n11_ := Aside0.mk ((by rw [hg]; exact Nat.ne_of_gt (blk_lt (g := gS) (o := .cells #[.slice (some ad164) l0_0.length c0_0, .slice A0_1 l0_1.length c0_1] 41 (0, 0)) (by (with_reducible repeat (first | refine blk_drewN ?_ _ | refine blk_drew ?_ | refine blk_alloc ?_ _)); exact BK161.out)) : gb176 ≠ gS)); have n12_ := Aside0.mk ((by rw [hg]; exact Nat.ne_of_lt (blk_lt (g := gb162) (o := .cells #[.int .i64 a1_0, .int .i64 a1_1] 30 (0, 0)) (by (with_reducible repeat (first | refine blk_drewN ?_ _ | refine blk_drew ?_ | refine blk_alloc ?_ _)); exact BK162.out)) : gb162 ≠ gb176)); have n13_ := Aside0.mk ((by rw [hg]; exact Nat.ne_of_gt (blk_lt (g := gb162) (o := .cells #[.int .i64 a1_0, .int .i64 a1_1] 30 (0, 0)) (by (with_reducible repeat (first | refine blk_drewN ?_ _ | refine blk_drew ?_ | refine blk_alloc ?_ _)); exact BK162.out)) : gb176 ≠ gb162)); have n14_ := Aside0.mk ((by rw [hg]; exact Nat.ne_of_lt (blk_lt (g := gb165) (o := .cells #[.int .i64 ((rd_T30 l0_0 x21_1).f0), .int .i64 ((rd_T30 l0_0 x21_1).f1)] 30 (0, 0)) (by (with_reducible repeat (first | refine blk_drewN ?_ _ | refine blk_drew ?_ | refine blk_alloc ?_ _)); exact BK165.out)) : gb165 ≠ gb176)); have n15_ := Aside0.mk ((by rw [hg]; exact Nat.ne_of_gt (blk_lt (g := gb165) (o := .cells #[.int .i64 ((rd_T30 l0_0 x21_1).f0), .int .i64 ((rd_T30 l0_0 x21_1).f1)] 30 (0, 0)) (by (with_reducible repeat (first | refine blk_drewN ?_ _ | refine blk_drew ?_ | refine blk_alloc ?_ _)); exact BK165.out)) : gb176 ≠ gb165)); clear HO_4; clear HO_5; clear HO_30; clear BK161; clear BK162; clear BK165; clear HB; have HO_4 := n0_; have HO_5 := n1_; have HO_30 := n2_; have BK161 := n3_; have BK162 := n4_; have BK165 := n5_; have HB := n6_; have BK176 := n7_; have GW176 := n8_; have GE176 := n9_; have NB161_176 := n10_; have NB176_161 := n11_; have NB162_176 := n12_; have NB176_162 := n13_; have NB165_176 := n14_; have NB176_165 := n15_; clear n0_ n1_ n2_ n3_ n4_ n5_ n6_ n7_ n8_ n9_ n10_ n11_ n12_ n13_ n14_ n15_; clear hb hbox hg; have hnb42 := NB176_161.out; have hnc42 := NB161_176.out; have hnb43 := NB176_162.out; have hnc43 := NB162_176.out; have hnb44 := NB176_165.out; have hnc44 := NB165_176.out; have hcz45_0 : w41.cell? ⟨gb176, 0, none⟩ = some (.int .i64 0) := (blk_cell BK176.out 0).trans rfl; have hcz45_1 : w41.cell? ⟨gb176, 1, none⟩ = some (.int .i64 0) := (blk_cell BK176.out 1).trans rfl; have hfz45_0 := blk_frozen BK176.out 0; have hfz45_1 := blk_frozen BK176.out 1; obtain ⟨Ao46, co46, eo46⟩ := Kd.R_slice HO_4.out; subst eo46; obtain ⟨Ao47, co47, eo47⟩ := Kd.R_slice HO_5.out; subst eo47))
                                have n0_ : Aside0 (Kd.R k30 30 ((w41.setCell ⟨gb176, 0, none⟩ (.int .i64 ((rd_T30 t172 x32_2).f0))).setCell ⟨gb176, 1, none⟩ (.int .i64 ((rd_T30 t172 x32_2).f1))) w.heap.size (fun k_ => some k_ ≠ (.slice (some ad175) t172.length co33 : Value).ownBlock ∧ k_ ≠ gb162 ∧ k_ ≠ gb165 ∧ k_ ≠ gb176) (.slice Ao46 x4_2.length co46) x4_2) := ⟨by (with_reducible repeat (first | apply Kd.R_alloc | apply Kd.R_drewN | apply Kd.R_drew)); exact Kd.R_mono (Kd.R_far (p := ⟨gb176, 1, none⟩) (Kd.R_far (p := ⟨gb176, 0, none⟩) (Kd.R_mono HO_4.out (fun k_ hk => (⟨hk, hk.2⟩ : _ ∧ k_ ≠ gb176))) (fun _ hk => hk.2) (.int .i64 ((rd_T30 t172 x32_2).f0))) (fun _ hk => hk.2) (.int .i64 ((rd_T30 t172 x32_2).f1))) (fun _ hk => ⟨hk.1.1.1, ⟨hk.1.1.2.1, ⟨hk.1.1.2.2, hk.1.2⟩⟩⟩)⟩
                                have n1_ : Aside0 (Kd.R (Kd.int .i64) 3 ((w41.setCell ⟨gb176, 0, none⟩ (.int .i64 ((rd_T30 t172 x32_2).f0))).setCell ⟨gb176, 1, none⟩ (.int .i64 ((rd_T30 t172 x32_2).f1))) w.heap.size (fun _ => True) (.slice Ao47 x5_2.length co47) x5_2) := ⟨by (with_reducible repeat (first | apply Kd.R_alloc | apply Kd.R_drewN | apply Kd.R_drew)); exact Kd.R_mono (Kd.R_far (p := ⟨gb176, 1, none⟩) (Kd.R_far (p := ⟨gb176, 0, none⟩) (Kd.R_types HO_5.out BK176.out (by decide)) (fun _ hk => hk.2) (.int .i64 ((rd_T30 t172 x32_2).f0))) (fun _ hk => hk.2) (.int .i64 ((rd_T30 t172 x32_2).f1))) (fun _ hk => trivial)⟩
                                have n2_ : Aside0 (Kd.R k30 30 ((w41.setCell ⟨gb176, 0, none⟩ (.int .i64 ((rd_T30 t172 x32_2).f0))).setCell ⟨gb176, 1, none⟩ (.int .i64 ((rd_T30 t172 x32_2).f1))) w.heap.size (fun k_ => some k_ ≠ (.slice Ao46 x4_2.length co46 : Value).ownBlock ∧ k_ ≠ gb162 ∧ k_ ≠ gb165 ∧ k_ ≠ gb176) (.slice (some ad175) t172.length co33) t172) := ⟨by (with_reducible repeat (first | apply Kd.R_alloc | apply Kd.R_drewN | apply Kd.R_drew)); exact Kd.R_mono (Kd.R_far (p := ⟨gb176, 1, none⟩) (Kd.R_far (p := ⟨gb176, 0, none⟩) (Kd.R_mono HO_30.out (fun k_ hk => (⟨hk, hk.2⟩ : _ ∧ k_ ≠ gb176))) (fun _ hk => hk.2) (.int .i64 ((rd_T30 t172 x32_2).f0))) (fun _ hk => hk.2) (.int .i64 ((rd_T30 t172 x32_2).f1))) (fun _ hk => ⟨hk.1.1.1, ⟨hk.1.1.2.1, ⟨hk.1.1.2.2, hk.1.2⟩⟩⟩)⟩
                                have n3_ : Aside0 (((w41.setCell ⟨gb176, 0, none⟩ (.int .i64 ((rd_T30 t172 x32_2).f0))).setCell ⟨gb176, 1, none⟩ (.int .i64 ((rd_T30 t172 x32_2).f1))).heap[gS]? = some (.cells #[.slice (some ad164) l0_0.length c0_0, .slice A0_1 l0_1.length c0_1] 41 (0, 0))) := ⟨by (with_reducible repeat (first | refine blk_drewN ?_ _ | refine blk_drew ?_ | refine blk_alloc ?_ _)); refine blk_far ?_ NB161_176.out _; (with_reducible repeat (first | refine blk_drewN ?_ _ | refine blk_drew ?_ | refine blk_alloc ?_ _)); refine blk_far ?_ NB161_176.out _; (with_reducible repeat (first | refine blk_drewN ?_ _ | refine blk_drew ?_ | refine blk_alloc ?_ _)); exact BK161.out⟩
                                have n4_ : Aside0 (((w41.setCell ⟨gb176, 0, none⟩ (.int .i64 ((rd_T30 t172 x32_2).f0))).setCell ⟨gb176, 1, none⟩ (.int .i64 ((rd_T30 t172 x32_2).f1))).heap[gb162]? = some (.cells #[.int .i64 a1_0, .int .i64 a1_1] 30 (0, 0))) := ⟨by (with_reducible repeat (first | refine blk_drewN ?_ _ | refine blk_drew ?_ | refine blk_alloc ?_ _)); refine blk_far ?_ NB162_176.out _; (with_reducible repeat (first | refine blk_drewN ?_ _ | refine blk_drew ?_ | refine blk_alloc ?_ _)); refine blk_far ?_ NB162_176.out _; (with_reducible repeat (first | refine blk_drewN ?_ _ | refine blk_drew ?_ | refine blk_alloc ?_ _)); exact BK162.out⟩
                                have n5_ : Aside0 (((w41.setCell ⟨gb176, 0, none⟩ (.int .i64 ((rd_T30 t172 x32_2).f0))).setCell ⟨gb176, 1, none⟩ (.int .i64 ((rd_T30 t172 x32_2).f1))).heap[gb165]? = some (.cells #[.int .i64 ((rd_T30 l0_0 x21_1).f0), .int .i64 ((rd_T30 l0_0 x21_1).f1)] 30 (0, 0))) := ⟨by (with_reducible repeat (first | refine blk_drewN ?_ _ | refine blk_drew ?_ | refine blk_alloc ?_ _)); refine blk_far ?_ NB165_176.out _; (with_reducible repeat (first | refine blk_drewN ?_ _ | refine blk_drew ?_ | refine blk_alloc ?_ _)); refine blk_far ?_ NB165_176.out _; (with_reducible repeat (first | refine blk_drewN ?_ _ | refine blk_drew ?_ | refine blk_alloc ?_ _)); exact BK165.out⟩
                                have n6_ : Aside0 (((w41.setCell ⟨gb176, 0, none⟩ (.int .i64 ((rd_T30 t172 x32_2).f0))).setCell ⟨gb176, 1, none⟩ (.int .i64 ((rd_T30 t172 x32_2).f1))).heap[gb176]? = some (.cells #[.int .i64 ((rd_T30 t172 x32_2).f0), .int .i64 ((rd_T30 t172 x32_2).f1)] 30 (0, 0))) := ⟨by (with_reducible repeat (first | refine blk_drewN ?_ _ | refine blk_drew ?_ | refine blk_alloc ?_ _)); refine blk_put (cs := #[.int .i64 ((rd_T30 t172 x32_2).f0), .int .i64 0]) ?_ 1 _ rfl; (with_reducible repeat (first | refine blk_drewN ?_ _ | refine blk_drew ?_ | refine blk_alloc ?_ _)); refine blk_put (cs := #[.int .i64 0, .int .i64 0]) ?_ 0 _ rfl; (with_reducible repeat (first | refine blk_drewN ?_ _ | refine blk_drew ?_ | refine blk_alloc ?_ _)); exact BK176.out⟩
                                have n7_ : Aside0 (Below w.heap.size w ((w41.setCell ⟨gb176, 0, none⟩ (.int .i64 ((rd_T30 t172 x32_2).f0))).setCell ⟨gb176, 1, none⟩ (.int .i64 ((rd_T30 t172 x32_2).f1)))) := ⟨by repeat (first | (with_reducible first | exact HB.out | apply below_alloc | apply pw_below_drewN | apply below_drew1 | refine below_set ?_ GE161.out | refine below_set ?_ GE162.out | refine below_set ?_ GE165.out | refine below_set ?_ GE176.out) | exact HB.out)⟩
                                (try clear HO_4)
                                (try clear HO_5)
                                (try clear HO_30)
                                (try clear BK161)
                                (try clear BK162)
                                (try clear BK165)
                                (try clear BK176)
                                (try clear HB)
                                generalize ((w41.setCell ⟨gb176, 0, none⟩ (.int .i64 ((rd_T30 t172 x32_2).f0))).setCell ⟨gb176, 1, none⟩ (.int .i64 ((rd_T30 t172 x32_2).f1))) = w48 at n0_ n1_ n2_ n3_ n4_ n5_ n6_ n7_ ⊢
                                have HO_4 := n0_
                                have HO_5 := n1_
                                have HO_30 := n2_
                                have BK161 := n3_
                                have BK162 := n4_
                                have BK165 := n5_
                                have BK176 := n6_
                                have HB := n7_
                                clear n0_ n1_ n2_ n3_ n4_ n5_ n6_ n7_
                                have n0_ := Aside0.mk (Kd.R_drew HO_4.out)
                                have n1_ := Aside0.mk (Kd.R_drew HO_5.out)
                                have n2_ := Aside0.mk (Kd.R_drew HO_30.out)
                                have n3_ := Aside0.mk (blk_drew BK161.out)
                                have n4_ := Aside0.mk (blk_drew BK162.out)
                                have n5_ := Aside0.mk (blk_drew BK165.out)
                                have n6_ := Aside0.mk (blk_drew BK176.out)
                                have n7_ := Aside0.mk (below_drew1 HB.out)
                                clear HO_4
                                clear HO_5
                                clear HO_30
                                clear BK161
                                clear BK162
                                clear BK165
                                clear BK176
                                clear HB
                                have HO_4 := n0_
                                have HO_5 := n1_
                                have HO_30 := n2_
                                have BK161 := n3_
                                have BK162 := n4_
                                have BK165 := n5_
                                have BK176 := n6_
                                have HB := n7_
                                clear n0_ n1_ n2_ n3_ n4_ n5_ n6_ n7_
                                have p183 : 0 ≤ (x21_1 : Int) := of_decide_eq_true (by first | (with_reducible assumption) | assumption)
                                have q183 : x21_1 < (l0_1.length : Int) := of_decide_eq_true (by first | (with_reducible assumption) | assumption)
                                obtain ⟨ad183, e183, hx183_0⟩ := Kd.at_int HR0_1.out x21_1 p183 q183
                                have hw183_0 := hx183_0
                                cases e183
                                replace hx183_0 := (HB.out.cell (World.block_lt_of_cell? w _ hx183_0)).trans hx183_0
                                replace p183 := eq_true p183
                                replace q183 := eq_true q183
                                refine start_ (n := 16) (S := fun w' => w'.cell? ⟨gb176, 0, none⟩ = some (.int .i64 ((rd_T30 t172 x32_2).f0)) ∧ w'.cell? ⟨gb176, 1, none⟩ = some (.int .i64 ((rd_T30 t172 x32_2).f1)) ∧ w'.cell? ⟨gS, 0, none⟩ = some (.slice (some ad164) l0_0.length c0_0) ∧ w'.cell? ⟨gS, 1, none⟩ = some (.slice (some ad183) l0_1.length c0_1) ∧ w'.cell? (ad183.add (x21_1).toNat) = some (.int .i64 (rd l0_1 x21_1))) (ds := []) #[false, false, false, false, false, false, false, false, false, false, false, false, false, false, false, false] (by kernel_rfl) rfl rfl ⟨(blk_cell BK176.out 0).trans rfl, (blk_cell BK176.out 1).trans rfl, (blk_cell BK161.out 0).trans rfl, (blk_cell BK161.out 1).trans rfl, ((HB.out.cell (World.block_lt_of_cell? w _ hw183_0)).trans hw183_0)⟩ (fun hHeld => ?_); refine with_tabW span_Map_int_Drop.tab10 span_Map_int_Drop.bits10 (fun HT_ HW_ => ?_)
                                generalize w48.drew = w49 at HO_4 HO_5 HO_30 BK161 BK162 BK165 BK176 HB hx183_0 hHeld ⊢
                                refine pure_ (i := 0) (N := some 36) (v := ?_) (a' := ?_) #[true, false, false, false, false, false, false, false, false, false, false, false, false, false, false, false] rfl rfl (any_of HT_.out (by kernel_rfl)) (fun _ _ _ h => h) (Or.inl ⟨by rfl, ?_⟩) ?_ ?_
                                rotate_left
                                · intro w'
                                  go_simp
                                  with_reducible rfl
                                rotate_left
                                · simp only [Act.put, List.setIfInBounds_toArray, List.set_cons_zero, List.set_cons_succ, i64_w, i32_w]
                                  rfl
                                refine pure_ (i := 4) (N := some 40) (v := ?_) (a' := ?_) #[true, false, false, false, true, false, false, false, false, false, false, false, false, false, false, false] rfl rfl (any_of HT_.out (by kernel_rfl)) (fun _ _ _ h => h) (Or.inl ⟨by rfl, ?_⟩) ?_ ?_
                                rotate_left
                                · intro w'
                                  go_simp
                                  with_reducible rfl
                                rotate_left
                                · simp only [Act.put, List.setIfInBounds_toArray, List.set_cons_zero, List.set_cons_succ, i64_w, i32_w]
                                  rfl
                                refine pure_ (i := 5) (N := some 41) (v := ?_) (a' := ?_) #[true, false, false, false, true, true, false, false, false, false, false, false, false, false, false, false] rfl rfl (any_of HT_.out (by kernel_rfl)) (fun _ _ _ h => h) (Or.inl ⟨by rfl, ?_⟩) ?_ ?_
                                rotate_left
                                · intro w'
                                  go_simp
                                  with_reducible rfl
                                rotate_left
                                · simp only [Act.put, List.setIfInBounds_toArray, List.set_cons_zero, List.set_cons_succ, i64_w, i32_w]
                                  rfl
                                refine pure_ (i := 6) (N := some 42) (v := ?_) (a' := ?_) #[true, false, false, false, true, true, true, false, false, false, false, false, false, false, false, false] rfl rfl (any_of HT_.out (by kernel_rfl)) (fun _ _ _ h => h) (Or.inl ⟨by rfl, ?_⟩) ?_ ?_
                                rotate_left
                                · intro w'
                                  go_simp
                                  with_reducible rfl
                                rotate_left
                                · simp only [Act.put, List.setIfInBounds_toArray, List.set_cons_zero, List.set_cons_succ, i64_w, i32_w]
                                  rfl
                                refine pure_ (i := 7) (N := some 43) (v := ?_) (a' := ?_) #[true, false, false, false, true, true, true, true, false, false, false, false, false, false, false, false] rfl rfl (any_of HT_.out (by kernel_rfl)) (fun _ _ _ h => h) (Or.inl ⟨by rfl, ?_⟩) ?_ ?_
                                rotate_left
                                · intro w'
                                  go_simp
                                  with_reducible rfl
                                rotate_left
                                · simp only [Act.put, List.setIfInBounds_toArray, List.set_cons_zero, List.set_cons_succ, i64_w, i32_w]
                                  rfl
                                refine pure_ (i := 9) (N := some 45) (v := ?_) (a' := ?_) #[true, false, false, false, true, true, true, true, false, true, false, false, false, false, false, false] rfl rfl (any_of HT_.out (by kernel_rfl)) (fun _ _ _ h => h) (Or.inl ⟨by rfl, ?_⟩) ?_ ?_
                                rotate_left
                                · intro w'
                                  go_simp
                                  with_reducible rfl
                                rotate_left
                                · simp only [Act.put, List.setIfInBounds_toArray, List.set_cons_zero, List.set_cons_succ, i64_w, i32_w]
                                  rfl
                                refine take_ (i := 1) (N := some 37) (v := ?_) (a' := ?_) #[true, true, false, false, true, true, true, true, false, true, false, false, false, false, false, false] rfl rfl (take_ofW HT_.out HW_.out (by kernel_rfl)) (fun _ _ _ h => h) (Or.inl ⟨by rfl, ?_⟩) hHeld ?_ ?_
                                rotate_left
                                · rintro w' ⟨s0, s1, s2, s3, s4⟩
                                  go_simp
                                  with_reducible rfl
                                rotate_left
                                · simp only [Act.put, List.setIfInBounds_toArray, List.set_cons_zero, List.set_cons_succ, i64_w, i32_w]
                                  rfl
                                refine take_ (i := 8) (N := some 44) (v := ?_) (a' := ?_) #[true, true, false, false, true, true, true, true, true, true, false, false, false, false, false, false] rfl rfl (take_ofW HT_.out HW_.out (by kernel_rfl)) (fun _ _ _ h => h) (Or.inl ⟨by rfl, ?_⟩) hHeld ?_ ?_
                                rotate_left
                                · rintro w' ⟨s0, s1, s2, s3, s4⟩
                                  go_simp
                                  with_reducible rfl
                                rotate_left
                                · simp only [Act.put, List.setIfInBounds_toArray, List.set_cons_zero, List.set_cons_succ, i64_w, i32_w]
                                  rfl
                                refine pure_ (i := 10) (N := some 46) (v := ?_) (a' := ?_) #[true, true, false, false, true, true, true, true, true, true, true, false, false, false, false, false] rfl rfl (any_of HT_.out (by kernel_rfl)) (fun _ _ _ h => h) (Or.inl ⟨by rfl, ?_⟩) ?_ ?_
                                rotate_left
                                · intro w'
                                  go_simp
                                  with_reducible rfl
                                rotate_left
                                · simp only [Act.put, List.setIfInBounds_toArray, List.set_cons_zero, List.set_cons_succ, i64_w, i32_w]
                                  rfl
                                refine take_ (i := 11) (N := some 47) (v := ?_) (a' := ?_) #[true, true, false, false, true, true, true, true, true, true, true, true, false, false, false, false] rfl rfl (take_ofW HT_.out HW_.out (by kernel_rfl)) (fun _ _ _ h => h) (Or.inl ⟨by rfl, ?_⟩) hHeld ?_ ?_
                                rotate_left
                                · rintro w' ⟨s0, s1, s2, s3, s4⟩
                                  go_simp
                                  with_reducible rfl
                                rotate_left
                                · simp only [Act.put, List.setIfInBounds_toArray, List.set_cons_zero, List.set_cons_succ, i64_w, i32_w]
                                  rfl
                                refine join_ (σ := Value × Value × Value) 3 #[true, true, true, true, true, true, true, true, true, true, true, true, true, false, false, false] (fun s_ => [(38, s_.1), (39, s_.2.1), (48, s_.2.2)]) (fun s_ w' => (w'.cell? ⟨gb176, 0, none⟩ = some (.int .i64 ((rd_T30 t172 x32_2).f0)) ∧ w'.cell? ⟨gb176, 1, none⟩ = some (.int .i64 ((rd_T30 t172 x32_2).f1)) ∧ w'.cell? ⟨gS, 0, none⟩ = some (.slice (some ad164) l0_0.length c0_0) ∧ w'.cell? ⟨gS, 1, none⟩ = some (.slice (some ad183) l0_1.length c0_1) ∧ w'.cell? (ad183.add (x21_1).toNat) = some (.int .i64 (rd l0_1 x21_1))) ∧ (Kd.R k30 30 w' w.heap.size (fun k_ => some k_ ≠ (s_.2.1 : Value).ownBlock ∧ some k_ ≠ (.slice (some ad175) t172.length co33 : Value).ownBlock ∧ k_ ≠ gb162 ∧ k_ ≠ gb165 ∧ k_ ≠ gb176) s_.1 y177) ∧ (Kd.R k30 30 w' w.heap.size (fun k_ => some k_ ≠ (s_.1 : Value).ownBlock ∧ some k_ ≠ (.slice (some ad175) t172.length co33 : Value).ownBlock ∧ k_ ≠ gb162 ∧ k_ ≠ gb165 ∧ k_ ≠ gb176) s_.2.1 y180) ∧ (Kd.R (Kd.int .i64) 3 w' w.heap.size (fun k_ => some k_ ≠ (.slice Ao47 x5_2.length co47 : Value).ownBlock) s_.2.2 y184) ∧ (Kd.R k30 30 w' w.heap.size (fun k_ => some k_ ≠ (s_.1 : Value).ownBlock ∧ some k_ ≠ (s_.2.1 : Value).ownBlock ∧ k_ ≠ gb162 ∧ k_ ≠ gb165 ∧ k_ ≠ gb176) (.slice (some ad175) t172.length co33) t172) ∧ (Kd.R (Kd.int .i64) 3 w' w.heap.size (fun k_ => some k_ ≠ (s_.2.2 : Value).ownBlock) (.slice Ao47 x5_2.length co47) x5_2) ∧ (w'.heap[gS]? = some (.cells #[.slice (some ad164) l0_0.length c0_0, .slice (some ad183) l0_1.length c0_1] 41 (0, 0))) ∧ (w'.heap[gb162]? = some (.cells #[.int .i64 a1_0, .int .i64 a1_1] 30 (0, 0))) ∧ (w'.heap[gb165]? = some (.cells #[.int .i64 ((rd_T30 l0_0 x21_1).f0), .int .i64 ((rd_T30 l0_0 x21_1).f1)] 30 (0, 0))) ∧ (w'.heap[gb176]? = some (.cells #[.int .i64 ((rd_T30 t172 x32_2).f0), .int .i64 ((rd_T30 t172 x32_2).f1)] 30 (0, 0))) ∧ (Below w.heap.size w w')) ?_ ?_
                                rotate_left
                                · intro hCont
                                  refine two_ (i := 2) (j := 12) (Ni := some 38) (Nj := some 48) #[true, true, true, false, true, true, true, true, true, true, true, true, false, false, false, false] #[true, true, false, false, true, true, true, true, true, true, true, true, true, false, false, false] rfl rfl rfl rfl (two_of HT_.out (by kernel_rfl)) (by decide) (by decide) (fun K hK => ?_) (fun K hK => ?_)
                                  · skip
                                    refine Kd.R_lit_step k30 _ 30 ?hg (N := 38) ?hd (xs := ([(⟨(rd_T30 t172 x32_2).f0, (rd_T30 t172 x32_2).f1⟩ : S30)] : List (S30))) (inner := [.int .i64 ((rd_T30 t172 x32_2).f0), .int .i64 ((rd_T30 t172 x32_2).f1)]) (ok := fun _ => True) (okp := fun _ => True) ?hr ?hp (fun _ hk => hk) trivial (Below.refl _ _) (Nat.le_refl _) (by simp) ?_; (case hd => rfl); (case hg => rfl); (case hr => first | (go_simp; done) | (go_simp; rfl)); (case hp => exact (Reps.c2 (show Kd.M k30 _ _ _ (⟨(rd_T30 t172 x32_2).f0, (rd_T30 t172 x32_2).f1⟩ : S30) [.int .i64 ((rd_T30 t172 x32_2).f0), .int .i64 ((rd_T30 t172 x32_2).f1)] from (k30_mkM _ _ _ (⟨(rd_T30 t172 x32_2).f0, (rd_T30 t172 x32_2).f1⟩ : S30) )) (Reps.none _ _)))
                                    intro v178 w50 ho51 hb hg_ hnew_
                                    clear hg_ hnew_
                                    (first | rw [← Ny177.out] at ho51 | (simp only [Int.reduceToNat] at ho51; rw [← Ny177.out] at ho51))
                                    have n0_ := Aside0.mk (Kd.R_elder' (by (with_reducible repeat (first | apply Kd.R_alloc | apply Kd.R_drewN | apply Kd.R_drew)); exact HO_4.out) (Kd.R_base ho51) hb)
                                    have n1_ := Aside0.mk (Kd.R_below (by (with_reducible repeat (first | apply Kd.R_alloc | apply Kd.R_drewN | apply Kd.R_drew)); exact HO_5.out) hb)
                                    have n2_ := Aside0.mk (Kd.R_elder' (by (with_reducible repeat (first | apply Kd.R_alloc | apply Kd.R_drewN | apply Kd.R_drew)); exact HO_30.out) (Kd.R_base ho51) hb)
                                    have n3_ := Aside0.mk (Kd.R_lower (Kd.R_newB (Kd.R_newB (Kd.R_newB (Kd.R_new' (Kd.R_new' ho51 (Kd.R_lt (by (with_reducible repeat (first | apply Kd.R_alloc | apply Kd.R_drewN | apply Kd.R_drew)); exact HO_4.out))) (Kd.R_lt (by (with_reducible repeat (first | apply Kd.R_alloc | apply Kd.R_drewN | apply Kd.R_drew)); exact HO_30.out))) (g := gb162) (o := .cells #[.int .i64 a1_0, .int .i64 a1_1] 30 (0, 0)) (by (with_reducible repeat (first | refine blk_drewN ?_ _ | refine blk_drew ?_ | refine blk_alloc ?_ _)); exact BK162.out)) (g := gb165) (o := .cells #[.int .i64 ((rd_T30 l0_0 x21_1).f0), .int .i64 ((rd_T30 l0_0 x21_1).f1)] 30 (0, 0)) (by (with_reducible repeat (first | refine blk_drewN ?_ _ | refine blk_drew ?_ | refine blk_alloc ?_ _)); exact BK165.out)) (g := gb176) (o := .cells #[.int .i64 ((rd_T30 t172 x32_2).f0), .int .i64 ((rd_T30 t172 x32_2).f1)] 30 (0, 0)) (by (with_reducible repeat (first | refine blk_drewN ?_ _ | refine blk_drew ?_ | refine blk_alloc ?_ _)); exact BK176.out)) (below_size (by repeat (first | (with_reducible first | exact HB.out | apply below_alloc | apply pw_below_drewN | apply below_drew1 | refine below_set ?_ GE161.out | refine below_set ?_ GE162.out | refine below_set ?_ GE165.out | refine below_set ?_ GE176.out) | exact HB.out))))
                                    have n4_ := Aside0.mk (blk_below (g := gS) (o := .cells #[.slice (some ad164) l0_0.length c0_0, .slice (some ad183) l0_1.length c0_1] 41 (0, 0)) (by (with_reducible repeat (first | refine blk_drewN ?_ _ | refine blk_drew ?_ | refine blk_alloc ?_ _)); exact BK161.out) hb)
                                    have n5_ := Aside0.mk (blk_below (g := gb162) (o := .cells #[.int .i64 a1_0, .int .i64 a1_1] 30 (0, 0)) (by (with_reducible repeat (first | refine blk_drewN ?_ _ | refine blk_drew ?_ | refine blk_alloc ?_ _)); exact BK162.out) hb)
                                    have n6_ := Aside0.mk (blk_below (g := gb165) (o := .cells #[.int .i64 ((rd_T30 l0_0 x21_1).f0), .int .i64 ((rd_T30 l0_0 x21_1).f1)] 30 (0, 0)) (by (with_reducible repeat (first | refine blk_drewN ?_ _ | refine blk_drew ?_ | refine blk_alloc ?_ _)); exact BK165.out) hb)
                                    have n7_ := Aside0.mk (blk_below (g := gb176) (o := .cells #[.int .i64 ((rd_T30 t172 x32_2).f0), .int .i64 ((rd_T30 t172 x32_2).f1)] 30 (0, 0)) (by (with_reducible repeat (first | refine blk_drewN ?_ _ | refine blk_drew ?_ | refine blk_alloc ?_ _)); exact BK176.out) hb)
                                    have n8_ := Aside0.mk (below_step (by repeat (first | (with_reducible first | exact HB.out | apply below_alloc | apply pw_below_drewN | apply below_drew1 | refine below_set ?_ GE161.out | refine below_set ?_ GE162.out | refine below_set ?_ GE165.out | refine below_set ?_ GE176.out) | exact HB.out)) hb)
                                    clear HO_4
                                    clear HO_5
                                    clear HO_30
                                    clear BK161
                                    clear BK162
                                    clear BK165
                                    clear BK176
                                    clear HB
                                    have HO_4 := n0_
                                    have HO_5 := n1_
                                    have HO_30 := n2_
                                    have HO179 := n3_
                                    have BK161 := n4_
                                    have BK162 := n5_
                                    have BK165 := n6_
                                    have BK176 := n7_
                                    have HB := n8_
                                    clear n0_ n1_ n2_ n3_ n4_ n5_ n6_ n7_ n8_
                                    clear hb ho51
                                    obtain ⟨Ao53, co53, eo53⟩ := Kd.R_slice HO179.out
                                    (first | subst eo53 | (injection eo53 with f1_ f2_ f3_; have f4_ := f1_.symm; have f5_ := f3_.symm; clear f1_ f2_ f3_; subst f4_; subst f5_))
                                    refine hK.out _ _ ⟨(blk_cell BK176.out 0).trans rfl, (blk_cell BK176.out 1).trans rfl, (blk_cell BK161.out 0).trans rfl, (blk_cell BK161.out 1).trans rfl, ((HB.out.cell (World.block_lt_of_cell? w _ hw183_0)).trans hw183_0)⟩ (fun hHeld => ?_)
                                    clear hK K
                                    refine norm_ (a' := ?_) ?_ ?_
                                    rotate_left
                                    · show Act.put _ (some 38) _ = _
                                      simp only [Act.put, List.setIfInBounds_toArray, List.set_cons_zero, List.set_cons_succ, i64_w, i32_w]
                                      rfl
                                    refine two_ (i := 3) (j := 12) (Ni := some 39) (Nj := some 48) #[true, true, true, true, true, true, true, true, true, true, true, true, false, false, false, false] #[true, true, true, false, true, true, true, true, true, true, true, true, true, false, false, false] rfl rfl rfl rfl (two_of HT_.out (by kernel_rfl)) (by decide) (by decide) (fun K hK => ?_) (fun K hK => ?_)
                                    · skip
                                      refine Kd.R_append_rows_step k30 (w0 := w) w.heap.size (by rfl) (.tmp 36) (.tmp 38) 22 30 (.agg #[(.int .i64 0), (.int .i64 0)]) 16 rfl Try.underlying22 info30 rfl (by decide) (by omega) (.slice Ao46 x4_2.length co46) x4_2 y177 _ _ _ (fun k_ => some k_ ≠ (.slice (some ad175) t172.length co33 : Value).ownBlock ∧ some k_ ≠ (.slice Ao53 y177.length co53 : Value).ownBlock ∧ k_ ≠ gb162 ∧ k_ ≠ gb165 ∧ k_ ≠ gb176) (fun _ => False) rfl rfl ?aO ?aR (fun _ _ h => h) (fun _ h => h.elim) ?aF ?aB ?aS ?aL ?_
                                      (case aR => repeat (first | exact (Kd.R_reads' HO179.out).2.2 | (with_reducible refine Kd.C_alloc ?_ _) | (with_reducible refine Kd.C_drewN ?_ _) | (with_reducible refine Kd.C_drew ?_)))
                                      (case aB => exact (by repeat (first | (with_reducible first | exact HB.out | apply below_alloc | apply pw_below_drewN | apply below_drew1 | refine below_set ?_ GE161.out | refine below_set ?_ GE162.out | refine below_set ?_ GE165.out | refine below_set ?_ GE176.out) | exact HB.out)))
                                      (case aF => exact (fun k_ hk => ⟨Kd.fresh' (Kd.R_lt (by (with_reducible repeat (first | apply Kd.R_alloc | apply Kd.R_drewN | apply Kd.R_drew)); exact HO_30.out)) k_ hk, Kd.fresh' (Kd.R_lt (by (with_reducible repeat (first | apply Kd.R_alloc | apply Kd.R_drewN | apply Kd.R_drew)); exact HO179.out)) k_ hk, Kd.freshB (g := gb162) (o := .cells #[.int .i64 a1_0, .int .i64 a1_1] 30 (0, 0)) (by (with_reducible repeat (first | refine blk_drewN ?_ _ | refine blk_drew ?_ | refine blk_alloc ?_ _)); exact BK162.out) k_ hk, Kd.freshB (g := gb165) (o := .cells #[.int .i64 ((rd_T30 l0_0 x21_1).f0), .int .i64 ((rd_T30 l0_0 x21_1).f1)] 30 (0, 0)) (by (with_reducible repeat (first | refine blk_drewN ?_ _ | refine blk_drew ?_ | refine blk_alloc ?_ _)); exact BK165.out) k_ hk, Kd.freshB (g := gb176) (o := .cells #[.int .i64 ((rd_T30 t172 x32_2).f0), .int .i64 ((rd_T30 t172 x32_2).f1)] 30 (0, 0)) (by (with_reducible repeat (first | refine blk_drewN ?_ _ | refine blk_drew ?_ | refine blk_alloc ?_ _)); exact BK176.out) k_ hk⟩))
                                      (case aO => exact (by (with_reducible repeat (first | apply Kd.R_alloc | apply Kd.R_drewN | apply Kd.R_drew)); exact Kd.R_mono HO_4.out (fun _ hk => ⟨hk.1.1, ⟨hk.2, ⟨hk.1.2.1, ⟨hk.1.2.2.1, hk.1.2.2.2⟩⟩⟩⟩)))
                                      (case aS => exact (below_size (by repeat (first | (with_reducible first | exact HB.out | apply below_alloc | apply pw_below_drewN | apply below_drew1 | refine below_set ?_ GE161.out | refine below_set ?_ GE162.out | refine below_set ?_ GE165.out | refine below_set ?_ GE176.out) | exact HB.out))))
                                      (case aL => have := LMc37.out; omega)
                                      intro v181 w52 ho hb hg hat
                                      rw [← Ny180.out] at ho
                                      have n0_ := Aside0.mk (Kd.R_over' (by (with_reducible repeat (first | apply Kd.R_alloc | apply Kd.R_drewN | apply Kd.R_drew)); exact HO_5.out) (Kd.R_typed (by (with_reducible repeat (first | apply Kd.R_alloc | apply Kd.R_drewN | apply Kd.R_drew)); exact HO_4.out)) (by decide) hg)
                                      have n1_ := Aside0.mk (Kd.R_after (ok := (fun k_ => some k_ ≠ (.slice Ao53 y177.length co53 : Value).ownBlock ∧ k_ ≠ gb162 ∧ k_ ≠ gb165 ∧ k_ ≠ gb176)) (by (with_reducible repeat (first | apply Kd.R_alloc | apply Kd.R_drewN | apply Kd.R_drew)); exact Kd.R_mono HO_30.out (fun _ hk => ⟨⟨hk.2, ⟨hk.1.2.1, ⟨hk.1.2.2.1, hk.1.2.2.2⟩⟩⟩, hk.1.1⟩)) hg hat)
                                      have n2_ := Aside0.mk (blk_grown (g := gS) (o := .cells #[.slice (some ad164) l0_0.length c0_0, .slice (some ad183) l0_1.length c0_1] 41 (0, 0)) (by (with_reducible repeat (first | refine blk_drewN ?_ _ | refine blk_drew ?_ | refine blk_alloc ?_ _)); exact BK161.out) hg (Kd.R_ne HO_4.out BK161.out (by decide)))
                                      have n3_ := Aside0.mk (blk_grown (g := gb162) (o := .cells #[.int .i64 a1_0, .int .i64 a1_1] 30 (0, 0)) (by (with_reducible repeat (first | refine blk_drewN ?_ _ | refine blk_drew ?_ | refine blk_alloc ?_ _)); exact BK162.out) hg (Kd.R_away HO_4.out (fun _ hk => hk.1.2.1)))
                                      have n4_ := Aside0.mk (blk_grown (g := gb165) (o := .cells #[.int .i64 ((rd_T30 l0_0 x21_1).f0), .int .i64 ((rd_T30 l0_0 x21_1).f1)] 30 (0, 0)) (by (with_reducible repeat (first | refine blk_drewN ?_ _ | refine blk_drew ?_ | refine blk_alloc ?_ _)); exact BK165.out) hg (Kd.R_away HO_4.out (fun _ hk => hk.1.2.2.1)))
                                      have n5_ := Aside0.mk (blk_grown (g := gb176) (o := .cells #[.int .i64 ((rd_T30 t172 x32_2).f0), .int .i64 ((rd_T30 t172 x32_2).f1)] 30 (0, 0)) (by (with_reducible repeat (first | refine blk_drewN ?_ _ | refine blk_drew ?_ | refine blk_alloc ?_ _)); exact BK176.out) hg (Kd.R_away HO_4.out (fun _ hk => hk.1.2.2.2)))
                                      have n6_ := Aside0.mk (Kd.R_after (ok := (fun k_ => some k_ ≠ (.slice (some ad175) t172.length co33 : Value).ownBlock ∧ k_ ≠ gb162 ∧ k_ ≠ gb165 ∧ k_ ≠ gb176)) (by (with_reducible repeat (first | apply Kd.R_alloc | apply Kd.R_drewN | apply Kd.R_drew)); exact Kd.R_mono HO179.out (fun _ hk => ⟨⟨hk.1.1.1.2, ⟨hk.1.1.2, ⟨hk.1.2, hk.2⟩⟩⟩, hk.1.1.1.1.2⟩)) hg hat)
                                      have n7_ := Aside0.mk (hb)
                                      have n8_ := Aside0.mk (ho)
                                      clear HO_5
                                      clear HO_30
                                      clear BK161
                                      clear BK162
                                      clear BK165
                                      clear BK176
                                      clear HO179
                                      clear HB
                                      clear HO_4
                                      have HO_5 := n0_
                                      have HO_30 := n1_
                                      have BK161 := n2_
                                      have BK162 := n3_
                                      have BK165 := n4_
                                      have BK176 := n5_
                                      have HO179 := n6_
                                      have HB := n7_
                                      have HO182 := n8_
                                      clear n0_ n1_ n2_ n3_ n4_ n5_ n6_ n7_ n8_
                                      clear ho hb hg hat
                                      refine hK.out _ _ ⟨(blk_cell BK176.out 0).trans rfl, (blk_cell BK176.out 1).trans rfl, (blk_cell BK161.out 0).trans rfl, (blk_cell BK161.out 1).trans rfl, ((HB.out.cell (World.block_lt_of_cell? w _ hw183_0)).trans hw183_0)⟩ (fun hHeld => ?_)
                                      clear hK K
                                      refine norm_ (a' := ?_) ?_ ?_
                                      rotate_left
                                      · show Act.put _ (some 39) _ = _
                                        simp only [Act.put, List.setIfInBounds_toArray, List.set_cons_zero, List.set_cons_succ, i64_w, i32_w]
                                        rfl
                                      refine one_ (i := 12) (N := some 48) #[true, true, true, true, true, true, true, true, true, true, true, true, true, false, false, false] rfl rfl (one_of HT_.out (by kernel_rfl)) (by decide) (fun K hK => ?_)
                                      refine Kd.R_lit_step (Kd.int .i64) _ 3 ?hg (N := 48) ?hd (xs := ([rd l0_1 x21_1] : List Int)) (inner := [.int .i64 (rd l0_1 x21_1)]) (ok := fun _ => True) (okp := fun _ => True) ?hr ?hp (fun _ hk => hk) trivial (Below.refl _ _) (Nat.le_refl _) (by simp) ?_; (case hd => rfl); (case hg => rfl); (case hr => first | (go_simp; done) | (go_simp; rfl)); (case hp => exact (Reps.one (show Kd.M (Kd.int .i64) _ _ _ (rd l0_1 x21_1) [.int .i64 (rd l0_1 x21_1)] from rfl) (Reps.none _ _)))
                                      intro v185 w54 ho55 hb hg_ hnew_
                                      clear hg_ hnew_
                                      (first | rw [← Ny184.out] at ho55 | (simp only [Int.reduceToNat] at ho55; rw [← Ny184.out] at ho55))
                                      have n0_ := Aside0.mk (Kd.R_elder' (by (with_reducible repeat (first | apply Kd.R_alloc | apply Kd.R_drewN | apply Kd.R_drew)); exact HO_5.out) (Kd.R_base ho55) hb)
                                      have n1_ := Aside0.mk (Kd.R_below (by (with_reducible repeat (first | apply Kd.R_alloc | apply Kd.R_drewN | apply Kd.R_drew)); exact HO_30.out) hb)
                                      have n2_ := Aside0.mk (Kd.R_below (by (with_reducible repeat (first | apply Kd.R_alloc | apply Kd.R_drewN | apply Kd.R_drew)); exact HO179.out) hb)
                                      have n3_ := Aside0.mk (Kd.R_below (by (with_reducible repeat (first | apply Kd.R_alloc | apply Kd.R_drewN | apply Kd.R_drew)); exact HO182.out) hb)
                                      have n4_ := Aside0.mk (Kd.R_lower (Kd.R_new' ho55 (Kd.R_lt (by (with_reducible repeat (first | apply Kd.R_alloc | apply Kd.R_drewN | apply Kd.R_drew)); exact HO_5.out))) (below_size (by repeat (first | (with_reducible first | exact HB.out | apply below_alloc | apply pw_below_drewN | apply below_drew1 | refine below_set ?_ GE161.out | refine below_set ?_ GE162.out | refine below_set ?_ GE165.out | refine below_set ?_ GE176.out) | exact HB.out))))
                                      have n5_ := Aside0.mk (blk_below (g := gS) (o := .cells #[.slice (some ad164) l0_0.length c0_0, .slice (some ad183) l0_1.length c0_1] 41 (0, 0)) (by (with_reducible repeat (first | refine blk_drewN ?_ _ | refine blk_drew ?_ | refine blk_alloc ?_ _)); exact BK161.out) hb)
                                      have n6_ := Aside0.mk (blk_below (g := gb162) (o := .cells #[.int .i64 a1_0, .int .i64 a1_1] 30 (0, 0)) (by (with_reducible repeat (first | refine blk_drewN ?_ _ | refine blk_drew ?_ | refine blk_alloc ?_ _)); exact BK162.out) hb)
                                      have n7_ := Aside0.mk (blk_below (g := gb165) (o := .cells #[.int .i64 ((rd_T30 l0_0 x21_1).f0), .int .i64 ((rd_T30 l0_0 x21_1).f1)] 30 (0, 0)) (by (with_reducible repeat (first | refine blk_drewN ?_ _ | refine blk_drew ?_ | refine blk_alloc ?_ _)); exact BK165.out) hb)
                                      have n8_ := Aside0.mk (blk_below (g := gb176) (o := .cells #[.int .i64 ((rd_T30 t172 x32_2).f0), .int .i64 ((rd_T30 t172 x32_2).f1)] 30 (0, 0)) (by (with_reducible repeat (first | refine blk_drewN ?_ _ | refine blk_drew ?_ | refine blk_alloc ?_ _)); exact BK176.out) hb)
                                      have n9_ := Aside0.mk (below_step (by repeat (first | (with_reducible first | exact HB.out | apply below_alloc | apply pw_below_drewN | apply below_drew1 | refine below_set ?_ GE161.out | refine below_set ?_ GE162.out | refine below_set ?_ GE165.out | refine below_set ?_ GE176.out) | exact HB.out)) hb)
                                      clear HO_5
                                      clear HO_30
                                      clear HO179
                                      clear HO182
                                      clear BK161
                                      clear BK162
                                      clear BK165
                                      clear BK176
                                      clear HB
                                      have HO_5 := n0_
                                      have HO_30 := n1_
                                      have HO179 := n2_
                                      have HO182 := n3_
                                      have HO186 := n4_
                                      have BK161 := n5_
                                      have BK162 := n6_
                                      have BK165 := n7_
                                      have BK176 := n8_
                                      have HB := n9_
                                      clear n0_ n1_ n2_ n3_ n4_ n5_ n6_ n7_ n8_ n9_
                                      clear hb ho55
                                      refine hK.out _ _ ⟨(blk_cell BK176.out 0).trans rfl, (blk_cell BK176.out 1).trans rfl, (blk_cell BK161.out 0).trans rfl, (blk_cell BK161.out 1).trans rfl, ((HB.out.cell (World.block_lt_of_cell? w _ hw183_0)).trans hw183_0)⟩ (fun hHeld => ?_)
                                      clear hK K
                                      refine norm_ (a' := ?_) ?_ ?_
                                      rotate_left
                                      · show Act.put _ (some 48) _ = _
                                        simp only [Act.put, List.setIfInBounds_toArray, List.set_cons_zero, List.set_cons_succ, i64_w, i32_w]
                                        rfl
                                      exact norm_ (by simp only [putAll, Act.put, List.setIfInBounds_toArray, List.set_cons_zero, List.set_cons_succ]) (hCont (.slice Ao53 y177.length co53, v181, v185) _ ⟨hHeld, (by (with_reducible repeat (first | apply Kd.R_alloc | apply Kd.R_drewN | apply Kd.R_drew)); exact Kd.R_mono HO179.out (fun _ hk => ⟨hk.2, ⟨hk.1.1, ⟨hk.1.2.1, ⟨hk.1.2.2.1, hk.1.2.2.2⟩⟩⟩⟩)), (by (with_reducible repeat (first | apply Kd.R_alloc | apply Kd.R_drewN | apply Kd.R_drew)); exact Kd.R_mono HO182.out (fun _ hk => ⟨hk.2.1, ⟨hk.1, ⟨hk.2.2.1, ⟨hk.2.2.2.1, hk.2.2.2.2⟩⟩⟩⟩)), (by (with_reducible repeat (first | apply Kd.R_alloc | apply Kd.R_drewN | apply Kd.R_drew)); exact Kd.R_mono HO186.out (fun _ hk => hk.2)), (by (with_reducible repeat (first | apply Kd.R_alloc | apply Kd.R_drewN | apply Kd.R_drew)); exact Kd.R_mono HO_30.out (fun _ hk => ⟨hk.1.1, ⟨hk.2, ⟨hk.1.2.1, ⟨hk.1.2.2.1, hk.1.2.2.2⟩⟩⟩⟩)), (by (with_reducible repeat (first | apply Kd.R_alloc | apply Kd.R_drewN | apply Kd.R_drew)); exact Kd.R_mono HO_5.out (fun _ hk => hk.2)), (by (with_reducible repeat (first | refine blk_drewN ?_ _ | refine blk_drew ?_ | refine blk_alloc ?_ _)); exact BK161.out), (by (with_reducible repeat (first | refine blk_drewN ?_ _ | refine blk_drew ?_ | refine blk_alloc ?_ _)); exact BK162.out), (by (with_reducible repeat (first | refine blk_drewN ?_ _ | refine blk_drew ?_ | refine blk_alloc ?_ _)); exact BK165.out), (by (with_reducible repeat (first | refine blk_drewN ?_ _ | refine blk_drew ?_ | refine blk_alloc ?_ _)); exact BK176.out), (by repeat (first | (with_reducible first | exact HB.out | apply below_alloc | apply pw_below_drewN | apply below_drew1 | refine below_set ?_ GE161.out | refine below_set ?_ GE162.out | refine below_set ?_ GE165.out | refine below_set ?_ GE176.out) | exact HB.out))⟩)
                                    · skip
                                      refine Kd.R_lit_step (Kd.int .i64) _ 3 ?hg (N := 48) ?hd (xs := ([rd l0_1 x21_1] : List Int)) (inner := [.int .i64 (rd l0_1 x21_1)]) (ok := fun _ => True) (okp := fun _ => True) ?hr ?hp (fun _ hk => hk) trivial (Below.refl _ _) (Nat.le_refl _) (by simp) ?_; (case hd => rfl); (case hg => rfl); (case hr => first | (go_simp; done) | (go_simp; rfl)); (case hp => exact (Reps.one (show Kd.M (Kd.int .i64) _ _ _ (rd l0_1 x21_1) [.int .i64 (rd l0_1 x21_1)] from rfl) (Reps.none _ _)))
                                      intro v185 w52 ho53 hb hg_ hnew_
                                      clear hg_ hnew_
                                      (first | rw [← Ny184.out] at ho53 | (simp only [Int.reduceToNat] at ho53; rw [← Ny184.out] at ho53))
                                      have n0_ := Aside0.mk (Kd.R_below (by (with_reducible repeat (first | apply Kd.R_alloc | apply Kd.R_drewN | apply Kd.R_drew)); exact HO_4.out) hb)
                                      have n1_ := Aside0.mk (Kd.R_elder' (by (with_reducible repeat (first | apply Kd.R_alloc | apply Kd.R_drewN | apply Kd.R_drew)); exact HO_5.out) (Kd.R_base ho53) hb)
                                      have n2_ := Aside0.mk (Kd.R_below (by (with_reducible repeat (first | apply Kd.R_alloc | apply Kd.R_drewN | apply Kd.R_drew)); exact HO_30.out) hb)
                                      have n3_ := Aside0.mk (Kd.R_below (by (with_reducible repeat (first | apply Kd.R_alloc | apply Kd.R_drewN | apply Kd.R_drew)); exact HO179.out) hb)
                                      have n4_ := Aside0.mk (Kd.R_lower (Kd.R_new' ho53 (Kd.R_lt (by (with_reducible repeat (first | apply Kd.R_alloc | apply Kd.R_drewN | apply Kd.R_drew)); exact HO_5.out))) (below_size (by repeat (first | (with_reducible first | exact HB.out | apply below_alloc | apply pw_below_drewN | apply below_drew1 | refine below_set ?_ GE161.out | refine below_set ?_ GE162.out | refine below_set ?_ GE165.out | refine below_set ?_ GE176.out) | exact HB.out))))
                                      have n5_ := Aside0.mk (blk_below (g := gS) (o := .cells #[.slice (some ad164) l0_0.length c0_0, .slice (some ad183) l0_1.length c0_1] 41 (0, 0)) (by (with_reducible repeat (first | refine blk_drewN ?_ _ | refine blk_drew ?_ | refine blk_alloc ?_ _)); exact BK161.out) hb)
                                      have n6_ := Aside0.mk (blk_below (g := gb162) (o := .cells #[.int .i64 a1_0, .int .i64 a1_1] 30 (0, 0)) (by (with_reducible repeat (first | refine blk_drewN ?_ _ | refine blk_drew ?_ | refine blk_alloc ?_ _)); exact BK162.out) hb)
                                      have n7_ := Aside0.mk (blk_below (g := gb165) (o := .cells #[.int .i64 ((rd_T30 l0_0 x21_1).f0), .int .i64 ((rd_T30 l0_0 x21_1).f1)] 30 (0, 0)) (by (with_reducible repeat (first | refine blk_drewN ?_ _ | refine blk_drew ?_ | refine blk_alloc ?_ _)); exact BK165.out) hb)
                                      have n8_ := Aside0.mk (blk_below (g := gb176) (o := .cells #[.int .i64 ((rd_T30 t172 x32_2).f0), .int .i64 ((rd_T30 t172 x32_2).f1)] 30 (0, 0)) (by (with_reducible repeat (first | refine blk_drewN ?_ _ | refine blk_drew ?_ | refine blk_alloc ?_ _)); exact BK176.out) hb)
                                      have n9_ := Aside0.mk (below_step (by repeat (first | (with_reducible first | exact HB.out | apply below_alloc | apply pw_below_drewN | apply below_drew1 | refine below_set ?_ GE161.out | refine below_set ?_ GE162.out | refine below_set ?_ GE165.out | refine below_set ?_ GE176.out) | exact HB.out)) hb)
                                      clear HO_4
                                      clear HO_5
                                      clear HO_30
                                      clear HO179
                                      clear BK161
                                      clear BK162
                                      clear BK165
                                      clear BK176
                                      clear HB
                                      have HO_4 := n0_
                                      have HO_5 := n1_
                                      have HO_30 := n2_
                                      have HO179 := n3_
                                      have HO186 := n4_
                                      have BK161 := n5_
                                      have BK162 := n6_
                                      have BK165 := n7_
                                      have BK176 := n8_
                                      have HB := n9_
                                      clear n0_ n1_ n2_ n3_ n4_ n5_ n6_ n7_ n8_ n9_
                                      clear hb ho53
                                      obtain ⟨Ao55, co55, eo55⟩ := Kd.R_slice HO179.out
                                      (first | subst eo55 | (injection eo55 with f1_ f2_ f3_; have f4_ := f1_.symm; have f5_ := f3_.symm; clear f1_ f2_ f3_; subst f4_; subst f5_))
                                      refine hK.out _ _ ⟨(blk_cell BK176.out 0).trans rfl, (blk_cell BK176.out 1).trans rfl, (blk_cell BK161.out 0).trans rfl, (blk_cell BK161.out 1).trans rfl, ((HB.out.cell (World.block_lt_of_cell? w _ hw183_0)).trans hw183_0)⟩ (fun hHeld => ?_)
                                      clear hK K
                                      refine norm_ (a' := ?_) ?_ ?_
                                      rotate_left
                                      · show Act.put _ (some 48) _ = _
                                        simp only [Act.put, List.setIfInBounds_toArray, List.set_cons_zero, List.set_cons_succ, i64_w, i32_w]
                                        rfl
                                      refine one_ (i := 3) (N := some 39) #[true, true, true, true, true, true, true, true, true, true, true, true, true, false, false, false] rfl rfl (one_of HT_.out (by kernel_rfl)) (by decide) (fun K hK => ?_)
                                      refine Kd.R_append_rows_step k30 (w0 := w) w.heap.size (by rfl) (.tmp 36) (.tmp 38) 22 30 (.agg #[(.int .i64 0), (.int .i64 0)]) 16 rfl Try.underlying22 info30 rfl (by decide) (by omega) (.slice Ao46 x4_2.length co46) x4_2 y177 _ _ _ (fun k_ => some k_ ≠ (.slice (some ad175) t172.length co33 : Value).ownBlock ∧ some k_ ≠ (.slice Ao55 y177.length co55 : Value).ownBlock ∧ k_ ≠ gb162 ∧ k_ ≠ gb165 ∧ k_ ≠ gb176) (fun _ => False) rfl rfl ?aO ?aR (fun _ _ h => h) (fun _ h => h.elim) ?aF ?aB ?aS ?aL ?_
                                      (case aR => repeat (first | exact (Kd.R_reads' HO179.out).2.2 | (with_reducible refine Kd.C_alloc ?_ _) | (with_reducible refine Kd.C_drewN ?_ _) | (with_reducible refine Kd.C_drew ?_)))
                                      (case aB => exact (by repeat (first | (with_reducible first | exact HB.out | apply below_alloc | apply pw_below_drewN | apply below_drew1 | refine below_set ?_ GE161.out | refine below_set ?_ GE162.out | refine below_set ?_ GE165.out | refine below_set ?_ GE176.out) | exact HB.out)))
                                      (case aF => exact (fun k_ hk => ⟨Kd.fresh' (Kd.R_lt (by (with_reducible repeat (first | apply Kd.R_alloc | apply Kd.R_drewN | apply Kd.R_drew)); exact HO_30.out)) k_ hk, Kd.fresh' (Kd.R_lt (by (with_reducible repeat (first | apply Kd.R_alloc | apply Kd.R_drewN | apply Kd.R_drew)); exact HO179.out)) k_ hk, Kd.freshB (g := gb162) (o := .cells #[.int .i64 a1_0, .int .i64 a1_1] 30 (0, 0)) (by (with_reducible repeat (first | refine blk_drewN ?_ _ | refine blk_drew ?_ | refine blk_alloc ?_ _)); exact BK162.out) k_ hk, Kd.freshB (g := gb165) (o := .cells #[.int .i64 ((rd_T30 l0_0 x21_1).f0), .int .i64 ((rd_T30 l0_0 x21_1).f1)] 30 (0, 0)) (by (with_reducible repeat (first | refine blk_drewN ?_ _ | refine blk_drew ?_ | refine blk_alloc ?_ _)); exact BK165.out) k_ hk, Kd.freshB (g := gb176) (o := .cells #[.int .i64 ((rd_T30 t172 x32_2).f0), .int .i64 ((rd_T30 t172 x32_2).f1)] 30 (0, 0)) (by (with_reducible repeat (first | refine blk_drewN ?_ _ | refine blk_drew ?_ | refine blk_alloc ?_ _)); exact BK176.out) k_ hk⟩))
                                      (case aO => exact (by (with_reducible repeat (first | apply Kd.R_alloc | apply Kd.R_drewN | apply Kd.R_drew)); exact Kd.R_mono HO_4.out (fun _ hk => ⟨hk.1.1, ⟨hk.2, ⟨hk.1.2.1, ⟨hk.1.2.2.1, hk.1.2.2.2⟩⟩⟩⟩)))
                                      (case aS => exact (below_size (by repeat (first | (with_reducible first | exact HB.out | apply below_alloc | apply pw_below_drewN | apply below_drew1 | refine below_set ?_ GE161.out | refine below_set ?_ GE162.out | refine below_set ?_ GE165.out | refine below_set ?_ GE176.out) | exact HB.out))))
                                      (case aL => have := LMc37.out; omega)
                                      intro v181 w54 ho hb hg hat
                                      rw [← Ny180.out] at ho
                                      have n0_ := Aside0.mk (Kd.R_over' (by (with_reducible repeat (first | apply Kd.R_alloc | apply Kd.R_drewN | apply Kd.R_drew)); exact HO_5.out) (Kd.R_typed (by (with_reducible repeat (first | apply Kd.R_alloc | apply Kd.R_drewN | apply Kd.R_drew)); exact HO_4.out)) (by decide) hg)
                                      have n1_ := Aside0.mk (Kd.R_after (ok := (fun k_ => some k_ ≠ (.slice Ao55 y177.length co55 : Value).ownBlock ∧ k_ ≠ gb162 ∧ k_ ≠ gb165 ∧ k_ ≠ gb176)) (by (with_reducible repeat (first | apply Kd.R_alloc | apply Kd.R_drewN | apply Kd.R_drew)); exact Kd.R_mono HO_30.out (fun _ hk => ⟨⟨hk.2, ⟨hk.1.2.1, ⟨hk.1.2.2.1, hk.1.2.2.2⟩⟩⟩, hk.1.1⟩)) hg hat)
                                      have n2_ := Aside0.mk (blk_grown (g := gS) (o := .cells #[.slice (some ad164) l0_0.length c0_0, .slice (some ad183) l0_1.length c0_1] 41 (0, 0)) (by (with_reducible repeat (first | refine blk_drewN ?_ _ | refine blk_drew ?_ | refine blk_alloc ?_ _)); exact BK161.out) hg (Kd.R_ne HO_4.out BK161.out (by decide)))
                                      have n3_ := Aside0.mk (blk_grown (g := gb162) (o := .cells #[.int .i64 a1_0, .int .i64 a1_1] 30 (0, 0)) (by (with_reducible repeat (first | refine blk_drewN ?_ _ | refine blk_drew ?_ | refine blk_alloc ?_ _)); exact BK162.out) hg (Kd.R_away HO_4.out (fun _ hk => hk.1.2.1)))
                                      have n4_ := Aside0.mk (blk_grown (g := gb165) (o := .cells #[.int .i64 ((rd_T30 l0_0 x21_1).f0), .int .i64 ((rd_T30 l0_0 x21_1).f1)] 30 (0, 0)) (by (with_reducible repeat (first | refine blk_drewN ?_ _ | refine blk_drew ?_ | refine blk_alloc ?_ _)); exact BK165.out) hg (Kd.R_away HO_4.out (fun _ hk => hk.1.2.2.1)))
                                      have n5_ := Aside0.mk (blk_grown (g := gb176) (o := .cells #[.int .i64 ((rd_T30 t172 x32_2).f0), .int .i64 ((rd_T30 t172 x32_2).f1)] 30 (0, 0)) (by (with_reducible repeat (first | refine blk_drewN ?_ _ | refine blk_drew ?_ | refine blk_alloc ?_ _)); exact BK176.out) hg (Kd.R_away HO_4.out (fun _ hk => hk.1.2.2.2)))
                                      have n6_ := Aside0.mk (Kd.R_after (ok := (fun k_ => some k_ ≠ (.slice (some ad175) t172.length co33 : Value).ownBlock ∧ k_ ≠ gb162 ∧ k_ ≠ gb165 ∧ k_ ≠ gb176)) (by (with_reducible repeat (first | apply Kd.R_alloc | apply Kd.R_drewN | apply Kd.R_drew)); exact Kd.R_mono HO179.out (fun _ hk => ⟨⟨hk.1.1.1.2, ⟨hk.1.1.2, ⟨hk.1.2, hk.2⟩⟩⟩, hk.1.1.1.1.2⟩)) hg hat)
                                      have n7_ := Aside0.mk (Kd.R_over' (by (with_reducible repeat (first | apply Kd.R_alloc | apply Kd.R_drewN | apply Kd.R_drew)); exact HO186.out) (Kd.R_typed (by (with_reducible repeat (first | apply Kd.R_alloc | apply Kd.R_drewN | apply Kd.R_drew)); exact HO_4.out)) (by decide) hg)
                                      have n8_ := Aside0.mk (hb)
                                      have n9_ := Aside0.mk (ho)
                                      clear HO_5
                                      clear HO_30
                                      clear BK161
                                      clear BK162
                                      clear BK165
                                      clear BK176
                                      clear HO179
                                      clear HO186
                                      clear HB
                                      clear HO_4
                                      have HO_5 := n0_
                                      have HO_30 := n1_
                                      have BK161 := n2_
                                      have BK162 := n3_
                                      have BK165 := n4_
                                      have BK176 := n5_
                                      have HO179 := n6_
                                      have HO186 := n7_
                                      have HB := n8_
                                      have HO182 := n9_
                                      clear n0_ n1_ n2_ n3_ n4_ n5_ n6_ n7_ n8_ n9_
                                      clear ho hb hg hat
                                      refine hK.out _ _ ⟨(blk_cell BK176.out 0).trans rfl, (blk_cell BK176.out 1).trans rfl, (blk_cell BK161.out 0).trans rfl, (blk_cell BK161.out 1).trans rfl, ((HB.out.cell (World.block_lt_of_cell? w _ hw183_0)).trans hw183_0)⟩ (fun hHeld => ?_)
                                      clear hK K
                                      refine norm_ (a' := ?_) ?_ ?_
                                      rotate_left
                                      · show Act.put _ (some 39) _ = _
                                        simp only [Act.put, List.setIfInBounds_toArray, List.set_cons_zero, List.set_cons_succ, i64_w, i32_w]
                                        rfl
                                      exact norm_ (by simp only [putAll, Act.put, List.setIfInBounds_toArray, List.set_cons_zero, List.set_cons_succ]) (hCont (.slice Ao55 y177.length co55, v181, v185) _ ⟨hHeld, (by (with_reducible repeat (first | apply Kd.R_alloc | apply Kd.R_drewN | apply Kd.R_drew)); exact Kd.R_mono HO179.out (fun _ hk => ⟨hk.2, ⟨hk.1.1, ⟨hk.1.2.1, ⟨hk.1.2.2.1, hk.1.2.2.2⟩⟩⟩⟩)), (by (with_reducible repeat (first | apply Kd.R_alloc | apply Kd.R_drewN | apply Kd.R_drew)); exact Kd.R_mono HO182.out (fun _ hk => ⟨hk.2.1, ⟨hk.1, ⟨hk.2.2.1, ⟨hk.2.2.2.1, hk.2.2.2.2⟩⟩⟩⟩)), (by (with_reducible repeat (first | apply Kd.R_alloc | apply Kd.R_drewN | apply Kd.R_drew)); exact Kd.R_mono HO186.out (fun _ hk => hk.2)), (by (with_reducible repeat (first | apply Kd.R_alloc | apply Kd.R_drewN | apply Kd.R_drew)); exact Kd.R_mono HO_30.out (fun _ hk => ⟨hk.1.1, ⟨hk.2, ⟨hk.1.2.1, ⟨hk.1.2.2.1, hk.1.2.2.2⟩⟩⟩⟩)), (by (with_reducible repeat (first | apply Kd.R_alloc | apply Kd.R_drewN | apply Kd.R_drew)); exact Kd.R_mono HO_5.out (fun _ hk => hk.2)), (by (with_reducible repeat (first | refine blk_drewN ?_ _ | refine blk_drew ?_ | refine blk_alloc ?_ _)); exact BK161.out), (by (with_reducible repeat (first | refine blk_drewN ?_ _ | refine blk_drew ?_ | refine blk_alloc ?_ _)); exact BK162.out), (by (with_reducible repeat (first | refine blk_drewN ?_ _ | refine blk_drew ?_ | refine blk_alloc ?_ _)); exact BK165.out), (by (with_reducible repeat (first | refine blk_drewN ?_ _ | refine blk_drew ?_ | refine blk_alloc ?_ _)); exact BK176.out), (by repeat (first | (with_reducible first | exact HB.out | apply below_alloc | apply pw_below_drewN | apply below_drew1 | refine below_set ?_ GE161.out | refine below_set ?_ GE162.out | refine below_set ?_ GE165.out | refine below_set ?_ GE176.out) | exact HB.out))⟩)
                                  · skip
                                    refine Kd.R_lit_step (Kd.int .i64) _ 3 ?hg (N := 48) ?hd (xs := ([rd l0_1 x21_1] : List Int)) (inner := [.int .i64 (rd l0_1 x21_1)]) (ok := fun _ => True) (okp := fun _ => True) ?hr ?hp (fun _ hk => hk) trivial (Below.refl _ _) (Nat.le_refl _) (by simp) ?_; (case hd => rfl); (case hg => rfl); (case hr => first | (go_simp; done) | (go_simp; rfl)); (case hp => exact (Reps.one (show Kd.M (Kd.int .i64) _ _ _ (rd l0_1 x21_1) [.int .i64 (rd l0_1 x21_1)] from rfl) (Reps.none _ _)))
                                    intro v185 w50 ho51 hb hg_ hnew_
                                    clear hg_ hnew_
                                    (first | rw [← Ny184.out] at ho51 | (simp only [Int.reduceToNat] at ho51; rw [← Ny184.out] at ho51))
                                    have n0_ := Aside0.mk (Kd.R_below (by (with_reducible repeat (first | apply Kd.R_alloc | apply Kd.R_drewN | apply Kd.R_drew)); exact HO_4.out) hb)
                                    have n1_ := Aside0.mk (Kd.R_elder' (by (with_reducible repeat (first | apply Kd.R_alloc | apply Kd.R_drewN | apply Kd.R_drew)); exact HO_5.out) (Kd.R_base ho51) hb)
                                    have n2_ := Aside0.mk (Kd.R_below (by (with_reducible repeat (first | apply Kd.R_alloc | apply Kd.R_drewN | apply Kd.R_drew)); exact HO_30.out) hb)
                                    have n3_ := Aside0.mk (Kd.R_lower (Kd.R_new' ho51 (Kd.R_lt (by (with_reducible repeat (first | apply Kd.R_alloc | apply Kd.R_drewN | apply Kd.R_drew)); exact HO_5.out))) (below_size (by repeat (first | (with_reducible first | exact HB.out | apply below_alloc | apply pw_below_drewN | apply below_drew1 | refine below_set ?_ GE161.out | refine below_set ?_ GE162.out | refine below_set ?_ GE165.out | refine below_set ?_ GE176.out) | exact HB.out))))
                                    have n4_ := Aside0.mk (blk_below (g := gS) (o := .cells #[.slice (some ad164) l0_0.length c0_0, .slice (some ad183) l0_1.length c0_1] 41 (0, 0)) (by (with_reducible repeat (first | refine blk_drewN ?_ _ | refine blk_drew ?_ | refine blk_alloc ?_ _)); exact BK161.out) hb)
                                    have n5_ := Aside0.mk (blk_below (g := gb162) (o := .cells #[.int .i64 a1_0, .int .i64 a1_1] 30 (0, 0)) (by (with_reducible repeat (first | refine blk_drewN ?_ _ | refine blk_drew ?_ | refine blk_alloc ?_ _)); exact BK162.out) hb)
                                    have n6_ := Aside0.mk (blk_below (g := gb165) (o := .cells #[.int .i64 ((rd_T30 l0_0 x21_1).f0), .int .i64 ((rd_T30 l0_0 x21_1).f1)] 30 (0, 0)) (by (with_reducible repeat (first | refine blk_drewN ?_ _ | refine blk_drew ?_ | refine blk_alloc ?_ _)); exact BK165.out) hb)
                                    have n7_ := Aside0.mk (blk_below (g := gb176) (o := .cells #[.int .i64 ((rd_T30 t172 x32_2).f0), .int .i64 ((rd_T30 t172 x32_2).f1)] 30 (0, 0)) (by (with_reducible repeat (first | refine blk_drewN ?_ _ | refine blk_drew ?_ | refine blk_alloc ?_ _)); exact BK176.out) hb)
                                    have n8_ := Aside0.mk (below_step (by repeat (first | (with_reducible first | exact HB.out | apply below_alloc | apply pw_below_drewN | apply below_drew1 | refine below_set ?_ GE161.out | refine below_set ?_ GE162.out | refine below_set ?_ GE165.out | refine below_set ?_ GE176.out) | exact HB.out)) hb)
                                    clear HO_4
                                    clear HO_5
                                    clear HO_30
                                    clear BK161
                                    clear BK162
                                    clear BK165
                                    clear BK176
                                    clear HB
                                    have HO_4 := n0_
                                    have HO_5 := n1_
                                    have HO_30 := n2_
                                    have HO186 := n3_
                                    have BK161 := n4_
                                    have BK162 := n5_
                                    have BK165 := n6_
                                    have BK176 := n7_
                                    have HB := n8_
                                    clear n0_ n1_ n2_ n3_ n4_ n5_ n6_ n7_ n8_
                                    clear hb ho51
                                    refine hK.out _ _ ⟨(blk_cell BK176.out 0).trans rfl, (blk_cell BK176.out 1).trans rfl, (blk_cell BK161.out 0).trans rfl, (blk_cell BK161.out 1).trans rfl, ((HB.out.cell (World.block_lt_of_cell? w _ hw183_0)).trans hw183_0)⟩ (fun hHeld => ?_)
                                    clear hK K
                                    refine norm_ (a' := ?_) ?_ ?_
                                    rotate_left
                                    · show Act.put _ (some 48) _ = _
                                      simp only [Act.put, List.setIfInBounds_toArray, List.set_cons_zero, List.set_cons_succ, i64_w, i32_w]
                                      rfl
                                    refine one_ (i := 2) (N := some 38) #[true, true, true, false, true, true, true, true, true, true, true, true, true, false, false, false] rfl rfl (one_of HT_.out (by kernel_rfl)) (by decide) (fun K hK => ?_)
                                    refine Kd.R_lit_step k30 _ 30 ?hg (N := 38) ?hd (xs := ([(⟨(rd_T30 t172 x32_2).f0, (rd_T30 t172 x32_2).f1⟩ : S30)] : List (S30))) (inner := [.int .i64 ((rd_T30 t172 x32_2).f0), .int .i64 ((rd_T30 t172 x32_2).f1)]) (ok := fun _ => True) (okp := fun _ => True) ?hr ?hp (fun _ hk => hk) trivial (Below.refl _ _) (Nat.le_refl _) (by simp) ?_; (case hd => rfl); (case hg => rfl); (case hr => first | (go_simp; done) | (go_simp; rfl)); (case hp => exact (Reps.c2 (show Kd.M k30 _ _ _ (⟨(rd_T30 t172 x32_2).f0, (rd_T30 t172 x32_2).f1⟩ : S30) [.int .i64 ((rd_T30 t172 x32_2).f0), .int .i64 ((rd_T30 t172 x32_2).f1)] from (k30_mkM _ _ _ (⟨(rd_T30 t172 x32_2).f0, (rd_T30 t172 x32_2).f1⟩ : S30) )) (Reps.none _ _)))
                                    intro v178 w52 ho53 hb hg_ hnew_
                                    clear hg_ hnew_
                                    (first | rw [← Ny177.out] at ho53 | (simp only [Int.reduceToNat] at ho53; rw [← Ny177.out] at ho53))
                                    have n0_ := Aside0.mk (Kd.R_elder' (by (with_reducible repeat (first | apply Kd.R_alloc | apply Kd.R_drewN | apply Kd.R_drew)); exact HO_4.out) (Kd.R_base ho53) hb)
                                    have n1_ := Aside0.mk (Kd.R_below (by (with_reducible repeat (first | apply Kd.R_alloc | apply Kd.R_drewN | apply Kd.R_drew)); exact HO_5.out) hb)
                                    have n2_ := Aside0.mk (Kd.R_elder' (by (with_reducible repeat (first | apply Kd.R_alloc | apply Kd.R_drewN | apply Kd.R_drew)); exact HO_30.out) (Kd.R_base ho53) hb)
                                    have n3_ := Aside0.mk (Kd.R_below (by (with_reducible repeat (first | apply Kd.R_alloc | apply Kd.R_drewN | apply Kd.R_drew)); exact HO186.out) hb)
                                    have n4_ := Aside0.mk (Kd.R_lower (Kd.R_newB (Kd.R_newB (Kd.R_newB (Kd.R_new' (Kd.R_new' ho53 (Kd.R_lt (by (with_reducible repeat (first | apply Kd.R_alloc | apply Kd.R_drewN | apply Kd.R_drew)); exact HO_4.out))) (Kd.R_lt (by (with_reducible repeat (first | apply Kd.R_alloc | apply Kd.R_drewN | apply Kd.R_drew)); exact HO_30.out))) (g := gb162) (o := .cells #[.int .i64 a1_0, .int .i64 a1_1] 30 (0, 0)) (by (with_reducible repeat (first | refine blk_drewN ?_ _ | refine blk_drew ?_ | refine blk_alloc ?_ _)); exact BK162.out)) (g := gb165) (o := .cells #[.int .i64 ((rd_T30 l0_0 x21_1).f0), .int .i64 ((rd_T30 l0_0 x21_1).f1)] 30 (0, 0)) (by (with_reducible repeat (first | refine blk_drewN ?_ _ | refine blk_drew ?_ | refine blk_alloc ?_ _)); exact BK165.out)) (g := gb176) (o := .cells #[.int .i64 ((rd_T30 t172 x32_2).f0), .int .i64 ((rd_T30 t172 x32_2).f1)] 30 (0, 0)) (by (with_reducible repeat (first | refine blk_drewN ?_ _ | refine blk_drew ?_ | refine blk_alloc ?_ _)); exact BK176.out)) (below_size (by repeat (first | (with_reducible first | exact HB.out | apply below_alloc | apply pw_below_drewN | apply below_drew1 | refine below_set ?_ GE161.out | refine below_set ?_ GE162.out | refine below_set ?_ GE165.out | refine below_set ?_ GE176.out) | exact HB.out))))
                                    have n5_ := Aside0.mk (blk_below (g := gS) (o := .cells #[.slice (some ad164) l0_0.length c0_0, .slice (some ad183) l0_1.length c0_1] 41 (0, 0)) (by (with_reducible repeat (first | refine blk_drewN ?_ _ | refine blk_drew ?_ | refine blk_alloc ?_ _)); exact BK161.out) hb)
                                    have n6_ := Aside0.mk (blk_below (g := gb162) (o := .cells #[.int .i64 a1_0, .int .i64 a1_1] 30 (0, 0)) (by (with_reducible repeat (first | refine blk_drewN ?_ _ | refine blk_drew ?_ | refine blk_alloc ?_ _)); exact BK162.out) hb)
                                    have n7_ := Aside0.mk (blk_below (g := gb165) (o := .cells #[.int .i64 ((rd_T30 l0_0 x21_1).f0), .int .i64 ((rd_T30 l0_0 x21_1).f1)] 30 (0, 0)) (by (with_reducible repeat (first | refine blk_drewN ?_ _ | refine blk_drew ?_ | refine blk_alloc ?_ _)); exact BK165.out) hb)
                                    have n8_ := Aside0.mk (blk_below (g := gb176) (o := .cells #[.int .i64 ((rd_T30 t172 x32_2).f0), .int .i64 ((rd_T30 t172 x32_2).f1)] 30 (0, 0)) (by (with_reducible repeat (first | refine blk_drewN ?_ _ | refine blk_drew ?_ | refine blk_alloc ?_ _)); exact BK176.out) hb)
                                    have n9_ := Aside0.mk (below_step (by repeat (first | (with_reducible first | exact HB.out | apply below_alloc | apply pw_below_drewN | apply below_drew1 | refine below_set ?_ GE161.out | refine below_set ?_ GE162.out | refine below_set ?_ GE165.out | refine below_set ?_ GE176.out) | exact HB.out)) hb)
                                    clear HO_4
                                    clear HO_5
                                    clear HO_30
                                    clear HO186
                                    clear BK161
                                    clear BK162
                                    clear BK165
                                    clear BK176
                                    clear HB
                                    have HO_4 := n0_
                                    have HO_5 := n1_
                                    have HO_30 := n2_
                                    have HO186 := n3_
                                    have HO179 := n4_
                                    have BK161 := n5_
                                    have BK162 := n6_
                                    have BK165 := n7_
                                    have BK176 := n8_
                                    have HB := n9_
                                    clear n0_ n1_ n2_ n3_ n4_ n5_ n6_ n7_ n8_ n9_
                                    clear hb ho53
                                    obtain ⟨Ao55, co55, eo55⟩ := Kd.R_slice HO179.out
                                    (first | subst eo55 | (injection eo55 with f1_ f2_ f3_; have f4_ := f1_.symm; have f5_ := f3_.symm; clear f1_ f2_ f3_; subst f4_; subst f5_))
                                    refine hK.out _ _ ⟨(blk_cell BK176.out 0).trans rfl, (blk_cell BK176.out 1).trans rfl, (blk_cell BK161.out 0).trans rfl, (blk_cell BK161.out 1).trans rfl, ((HB.out.cell (World.block_lt_of_cell? w _ hw183_0)).trans hw183_0)⟩ (fun hHeld => ?_)
                                    clear hK K
                                    refine norm_ (a' := ?_) ?_ ?_
                                    rotate_left
                                    · show Act.put _ (some 38) _ = _
                                      simp only [Act.put, List.setIfInBounds_toArray, List.set_cons_zero, List.set_cons_succ, i64_w, i32_w]
                                      rfl
                                    refine one_ (i := 3) (N := some 39) #[true, true, true, true, true, true, true, true, true, true, true, true, true, false, false, false] rfl rfl (one_of HT_.out (by kernel_rfl)) (by decide) (fun K hK => ?_)
                                    refine Kd.R_append_rows_step k30 (w0 := w) w.heap.size (by rfl) (.tmp 36) (.tmp 38) 22 30 (.agg #[(.int .i64 0), (.int .i64 0)]) 16 rfl Try.underlying22 info30 rfl (by decide) (by omega) (.slice Ao46 x4_2.length co46) x4_2 y177 _ _ _ (fun k_ => some k_ ≠ (.slice (some ad175) t172.length co33 : Value).ownBlock ∧ some k_ ≠ (.slice Ao55 y177.length co55 : Value).ownBlock ∧ k_ ≠ gb162 ∧ k_ ≠ gb165 ∧ k_ ≠ gb176) (fun _ => False) rfl rfl ?aO ?aR (fun _ _ h => h) (fun _ h => h.elim) ?aF ?aB ?aS ?aL ?_
                                    (case aR => repeat (first | exact (Kd.R_reads' HO179.out).2.2 | (with_reducible refine Kd.C_alloc ?_ _) | (with_reducible refine Kd.C_drewN ?_ _) | (with_reducible refine Kd.C_drew ?_)))
                                    (case aB => exact (by repeat (first | (with_reducible first | exact HB.out | apply below_alloc | apply pw_below_drewN | apply below_drew1 | refine below_set ?_ GE161.out | refine below_set ?_ GE162.out | refine below_set ?_ GE165.out | refine below_set ?_ GE176.out) | exact HB.out)))
                                    (case aF => exact (fun k_ hk => ⟨Kd.fresh' (Kd.R_lt (by (with_reducible repeat (first | apply Kd.R_alloc | apply Kd.R_drewN | apply Kd.R_drew)); exact HO_30.out)) k_ hk, Kd.fresh' (Kd.R_lt (by (with_reducible repeat (first | apply Kd.R_alloc | apply Kd.R_drewN | apply Kd.R_drew)); exact HO179.out)) k_ hk, Kd.freshB (g := gb162) (o := .cells #[.int .i64 a1_0, .int .i64 a1_1] 30 (0, 0)) (by (with_reducible repeat (first | refine blk_drewN ?_ _ | refine blk_drew ?_ | refine blk_alloc ?_ _)); exact BK162.out) k_ hk, Kd.freshB (g := gb165) (o := .cells #[.int .i64 ((rd_T30 l0_0 x21_1).f0), .int .i64 ((rd_T30 l0_0 x21_1).f1)] 30 (0, 0)) (by (with_reducible repeat (first | refine blk_drewN ?_ _ | refine blk_drew ?_ | refine blk_alloc ?_ _)); exact BK165.out) k_ hk, Kd.freshB (g := gb176) (o := .cells #[.int .i64 ((rd_T30 t172 x32_2).f0), .int .i64 ((rd_T30 t172 x32_2).f1)] 30 (0, 0)) (by (with_reducible repeat (first | refine blk_drewN ?_ _ | refine blk_drew ?_ | refine blk_alloc ?_ _)); exact BK176.out) k_ hk⟩))
                                    (case aO => exact (by (with_reducible repeat (first | apply Kd.R_alloc | apply Kd.R_drewN | apply Kd.R_drew)); exact Kd.R_mono HO_4.out (fun _ hk => ⟨hk.1.1, ⟨hk.2, ⟨hk.1.2.1, ⟨hk.1.2.2.1, hk.1.2.2.2⟩⟩⟩⟩)))
                                    (case aS => exact (below_size (by repeat (first | (with_reducible first | exact HB.out | apply below_alloc | apply pw_below_drewN | apply below_drew1 | refine below_set ?_ GE161.out | refine below_set ?_ GE162.out | refine below_set ?_ GE165.out | refine below_set ?_ GE176.out) | exact HB.out))))
                                    (case aL => have := LMc37.out; omega)
                                    intro v181 w54 ho hb hg hat
                                    rw [← Ny180.out] at ho
                                    have n0_ := Aside0.mk (Kd.R_over' (by (with_reducible repeat (first | apply Kd.R_alloc | apply Kd.R_drewN | apply Kd.R_drew)); exact HO_5.out) (Kd.R_typed (by (with_reducible repeat (first | apply Kd.R_alloc | apply Kd.R_drewN | apply Kd.R_drew)); exact HO_4.out)) (by decide) hg)
                                    have n1_ := Aside0.mk (Kd.R_after (ok := (fun k_ => some k_ ≠ (.slice Ao55 y177.length co55 : Value).ownBlock ∧ k_ ≠ gb162 ∧ k_ ≠ gb165 ∧ k_ ≠ gb176)) (by (with_reducible repeat (first | apply Kd.R_alloc | apply Kd.R_drewN | apply Kd.R_drew)); exact Kd.R_mono HO_30.out (fun _ hk => ⟨⟨hk.2, ⟨hk.1.2.1, ⟨hk.1.2.2.1, hk.1.2.2.2⟩⟩⟩, hk.1.1⟩)) hg hat)
                                    have n2_ := Aside0.mk (blk_grown (g := gS) (o := .cells #[.slice (some ad164) l0_0.length c0_0, .slice (some ad183) l0_1.length c0_1] 41 (0, 0)) (by (with_reducible repeat (first | refine blk_drewN ?_ _ | refine blk_drew ?_ | refine blk_alloc ?_ _)); exact BK161.out) hg (Kd.R_ne HO_4.out BK161.out (by decide)))
                                    have n3_ := Aside0.mk (blk_grown (g := gb162) (o := .cells #[.int .i64 a1_0, .int .i64 a1_1] 30 (0, 0)) (by (with_reducible repeat (first | refine blk_drewN ?_ _ | refine blk_drew ?_ | refine blk_alloc ?_ _)); exact BK162.out) hg (Kd.R_away HO_4.out (fun _ hk => hk.1.2.1)))
                                    have n4_ := Aside0.mk (blk_grown (g := gb165) (o := .cells #[.int .i64 ((rd_T30 l0_0 x21_1).f0), .int .i64 ((rd_T30 l0_0 x21_1).f1)] 30 (0, 0)) (by (with_reducible repeat (first | refine blk_drewN ?_ _ | refine blk_drew ?_ | refine blk_alloc ?_ _)); exact BK165.out) hg (Kd.R_away HO_4.out (fun _ hk => hk.1.2.2.1)))
                                    have n5_ := Aside0.mk (blk_grown (g := gb176) (o := .cells #[.int .i64 ((rd_T30 t172 x32_2).f0), .int .i64 ((rd_T30 t172 x32_2).f1)] 30 (0, 0)) (by (with_reducible repeat (first | refine blk_drewN ?_ _ | refine blk_drew ?_ | refine blk_alloc ?_ _)); exact BK176.out) hg (Kd.R_away HO_4.out (fun _ hk => hk.1.2.2.2)))
                                    have n6_ := Aside0.mk (Kd.R_over' (by (with_reducible repeat (first | apply Kd.R_alloc | apply Kd.R_drewN | apply Kd.R_drew)); exact HO186.out) (Kd.R_typed (by (with_reducible repeat (first | apply Kd.R_alloc | apply Kd.R_drewN | apply Kd.R_drew)); exact HO_4.out)) (by decide) hg)
                                    have n7_ := Aside0.mk (Kd.R_after (ok := (fun k_ => some k_ ≠ (.slice (some ad175) t172.length co33 : Value).ownBlock ∧ k_ ≠ gb162 ∧ k_ ≠ gb165 ∧ k_ ≠ gb176)) (by (with_reducible repeat (first | apply Kd.R_alloc | apply Kd.R_drewN | apply Kd.R_drew)); exact Kd.R_mono HO179.out (fun _ hk => ⟨⟨hk.1.1.1.2, ⟨hk.1.1.2, ⟨hk.1.2, hk.2⟩⟩⟩, hk.1.1.1.1.2⟩)) hg hat)
                                    have n8_ := Aside0.mk (hb)
                                    have n9_ := Aside0.mk (ho)
                                    clear HO_5
                                    clear HO_30
                                    clear BK161
                                    clear BK162
                                    clear BK165
                                    clear BK176
                                    clear HO186
                                    clear HO179
                                    clear HB
                                    clear HO_4
                                    have HO_5 := n0_
                                    have HO_30 := n1_
                                    have BK161 := n2_
                                    have BK162 := n3_
                                    have BK165 := n4_
                                    have BK176 := n5_
                                    have HO186 := n6_
                                    have HO179 := n7_
                                    have HB := n8_
                                    have HO182 := n9_
                                    clear n0_ n1_ n2_ n3_ n4_ n5_ n6_ n7_ n8_ n9_
                                    clear ho hb hg hat
                                    refine hK.out _ _ ⟨(blk_cell BK176.out 0).trans rfl, (blk_cell BK176.out 1).trans rfl, (blk_cell BK161.out 0).trans rfl, (blk_cell BK161.out 1).trans rfl, ((HB.out.cell (World.block_lt_of_cell? w _ hw183_0)).trans hw183_0)⟩ (fun hHeld => ?_)
                                    clear hK K
                                    refine norm_ (a' := ?_) ?_ ?_
                                    rotate_left
                                    · show Act.put _ (some 39) _ = _
                                      simp only [Act.put, List.setIfInBounds_toArray, List.set_cons_zero, List.set_cons_succ, i64_w, i32_w]
                                      rfl
                                    exact norm_ (by simp only [putAll, Act.put, List.setIfInBounds_toArray, List.set_cons_zero, List.set_cons_succ]) (hCont (.slice Ao55 y177.length co55, v181, v185) _ ⟨hHeld, (by (with_reducible repeat (first | apply Kd.R_alloc | apply Kd.R_drewN | apply Kd.R_drew)); exact Kd.R_mono HO179.out (fun _ hk => ⟨hk.2, ⟨hk.1.1, ⟨hk.1.2.1, ⟨hk.1.2.2.1, hk.1.2.2.2⟩⟩⟩⟩)), (by (with_reducible repeat (first | apply Kd.R_alloc | apply Kd.R_drewN | apply Kd.R_drew)); exact Kd.R_mono HO182.out (fun _ hk => ⟨hk.2.1, ⟨hk.1, ⟨hk.2.2.1, ⟨hk.2.2.2.1, hk.2.2.2.2⟩⟩⟩⟩)), (by (with_reducible repeat (first | apply Kd.R_alloc | apply Kd.R_drewN | apply Kd.R_drew)); exact Kd.R_mono HO186.out (fun _ hk => hk.2)), (by (with_reducible repeat (first | apply Kd.R_alloc | apply Kd.R_drewN | apply Kd.R_drew)); exact Kd.R_mono HO_30.out (fun _ hk => ⟨hk.1.1, ⟨hk.2, ⟨hk.1.2.1, ⟨hk.1.2.2.1, hk.1.2.2.2⟩⟩⟩⟩)), (by (with_reducible repeat (first | apply Kd.R_alloc | apply Kd.R_drewN | apply Kd.R_drew)); exact Kd.R_mono HO_5.out (fun _ hk => hk.2)), (by (with_reducible repeat (first | refine blk_drewN ?_ _ | refine blk_drew ?_ | refine blk_alloc ?_ _)); exact BK161.out), (by (with_reducible repeat (first | refine blk_drewN ?_ _ | refine blk_drew ?_ | refine blk_alloc ?_ _)); exact BK162.out), (by (with_reducible repeat (first | refine blk_drewN ?_ _ | refine blk_drew ?_ | refine blk_alloc ?_ _)); exact BK165.out), (by (with_reducible repeat (first | refine blk_drewN ?_ _ | refine blk_drew ?_ | refine blk_alloc ?_ _)); exact BK176.out), (by repeat (first | (with_reducible first | exact HB.out | apply below_alloc | apply pw_below_drewN | apply below_drew1 | refine below_set ?_ GE161.out | refine below_set ?_ GE162.out | refine below_set ?_ GE165.out | refine below_set ?_ GE176.out) | exact HB.out))⟩)
                                rintro ⟨v178, v181, v185⟩ w56 ⟨hS_, h0_, h1_, h2_, h3_, h4_, h5_, h6_, h7_, h8_, h9_⟩
                                have n0_ : Aside0 (Kd.R k30 30 w56 w.heap.size (fun k_ => some k_ ≠ (v181 : Value).ownBlock ∧ some k_ ≠ (.slice (some ad175) t172.length co33 : Value).ownBlock ∧ k_ ≠ gb162 ∧ k_ ≠ gb165 ∧ k_ ≠ gb176) v178 y177) := ⟨h0_⟩
                                have n1_ : Aside0 (Kd.R k30 30 w56 w.heap.size (fun k_ => some k_ ≠ (v178 : Value).ownBlock ∧ some k_ ≠ (.slice (some ad175) t172.length co33 : Value).ownBlock ∧ k_ ≠ gb162 ∧ k_ ≠ gb165 ∧ k_ ≠ gb176) v181 y180) := ⟨h1_⟩
                                have n2_ : Aside0 (Kd.R (Kd.int .i64) 3 w56 w.heap.size (fun k_ => some k_ ≠ (.slice Ao47 x5_2.length co47 : Value).ownBlock) v185 y184) := ⟨h2_⟩
                                have n3_ : Aside0 (Kd.R k30 30 w56 w.heap.size (fun k_ => some k_ ≠ (v178 : Value).ownBlock ∧ some k_ ≠ (v181 : Value).ownBlock ∧ k_ ≠ gb162 ∧ k_ ≠ gb165 ∧ k_ ≠ gb176) (.slice (some ad175) t172.length co33) t172) := ⟨h3_⟩
                                have n4_ : Aside0 (Kd.R (Kd.int .i64) 3 w56 w.heap.size (fun k_ => some k_ ≠ (v185 : Value).ownBlock) (.slice Ao47 x5_2.length co47) x5_2) := ⟨h4_⟩
                                have n5_ : Aside0 (w56.heap[gS]? = some (.cells #[.slice (some ad164) l0_0.length c0_0, .slice (some ad183) l0_1.length c0_1] 41 (0, 0))) := ⟨h5_⟩
                                have n6_ : Aside0 (w56.heap[gb162]? = some (.cells #[.int .i64 a1_0, .int .i64 a1_1] 30 (0, 0))) := ⟨h6_⟩
                                have n7_ : Aside0 (w56.heap[gb165]? = some (.cells #[.int .i64 ((rd_T30 l0_0 x21_1).f0), .int .i64 ((rd_T30 l0_0 x21_1).f1)] 30 (0, 0))) := ⟨h7_⟩
                                have n8_ : Aside0 (w56.heap[gb176]? = some (.cells #[.int .i64 ((rd_T30 t172 x32_2).f0), .int .i64 ((rd_T30 t172 x32_2).f1)] 30 (0, 0))) := ⟨h8_⟩
                                have n9_ : Aside0 (Below w.heap.size w w56) := ⟨h9_⟩
                                clear HO_4
                                clear HO_5
                                clear HO_30
                                clear BK161
                                clear BK162
                                clear BK165
                                clear BK176
                                clear HB
                                clear h0_ h1_ h2_ h3_ h4_ h5_ h6_ h7_ h8_ h9_
                                have HO179 := n0_
                                have HO182 := n1_
                                have HO186 := n2_
                                have HO_30 := n3_
                                have HO_5 := n4_
                                have BK161 := n5_
                                have BK162 := n6_
                                have BK165 := n7_
                                have BK176 := n8_
                                have HB := n9_
                                clear n0_ n1_ n2_ n3_ n4_ n5_ n6_ n7_ n8_ n9_
                                have hHeld : w56.cell? ⟨gb176, 0, none⟩ = some (.int .i64 ((rd_T30 t172 x32_2).f0)) ∧ w56.cell? ⟨gb176, 1, none⟩ = some (.int .i64 ((rd_T30 t172 x32_2).f1)) ∧ w56.cell? ⟨gS, 0, none⟩ = some (.slice (some ad164) l0_0.length c0_0) ∧ w56.cell? ⟨gS, 1, none⟩ = some (.slice (some ad183) l0_1.length c0_1) ∧ w56.cell? (ad183.add (x21_1).toNat) = some (.int .i64 (rd l0_1 x21_1)) := hS_
                                obtain ⟨Ao58, co58, eo58⟩ := Kd.R_slice HO186.out
                                (first | subst eo58 | (injection eo58 with f1_ f2_ f3_; have f4_ := f1_.symm; have f5_ := f3_.symm; clear f1_ f2_ f3_; subst f4_; subst f5_))
                                refine norm_ (a' := ?_) ?_ ?_
                                rotate_left
                                · simp only [putAll, Act.put, List.setIfInBounds_toArray, List.set_cons_zero, List.set_cons_succ]
                                  rfl
                                refine one_ (i := 13) (N := some 49) #[true, true, true, true, true, true, true, true, true, true, true, true, true, true, false, false] rfl rfl (one_of HT_.out (by kernel_rfl)) (by decide) (fun K hK => ?_)
                                refine Kd.R_append_rows_step (Kd.int .i64) (w0 := w) w.heap.size (by rfl) (.tmp 40) (.tmp 48) 37 3 (.int .i64 0) 8 rfl Try.underlying37 info3 rfl (by decide) (by omega) (.slice Ao47 x5_2.length co47) x5_2 y184 _ _ _ (fun k_ => some k_ ≠ (.slice Ao58 y184.length co58 : Value).ownBlock) (fun _ => False) rfl rfl ?aO ?aR (fun _ _ h => h) (fun _ h => h.elim) ?aF ?aB ?aS ?aL ?_
                                (case aR => repeat (first | exact (Kd.R_reads' HO186.out).2.2 | (with_reducible refine Kd.C_alloc ?_ _) | (with_reducible refine Kd.C_drewN ?_ _) | (with_reducible refine Kd.C_drew ?_)))
                                (case aB => exact (by repeat (first | (with_reducible first | exact HB.out | apply below_alloc | apply pw_below_drewN | apply below_drew1 | refine below_set ?_ GE161.out | refine below_set ?_ GE162.out | refine below_set ?_ GE165.out | refine below_set ?_ GE176.out) | exact HB.out)))
                                (case aF => exact (fun k_ hk => Kd.fresh' (Kd.R_lt (by (with_reducible repeat (first | apply Kd.R_alloc | apply Kd.R_drewN | apply Kd.R_drew)); exact HO186.out)) k_ hk))
                                (case aO => exact (by (with_reducible repeat (first | apply Kd.R_alloc | apply Kd.R_drewN | apply Kd.R_drew)); exact HO_5.out))
                                (case aS => exact (below_size (by repeat (first | (with_reducible first | exact HB.out | apply below_alloc | apply pw_below_drewN | apply below_drew1 | refine below_set ?_ GE161.out | refine below_set ?_ GE162.out | refine below_set ?_ GE165.out | refine below_set ?_ GE176.out) | exact HB.out))))
                                (case aL => have := LMc40.out; omega)
                                intro v188 w57 ho hb hg hat
                                rw [← Ny187.out] at ho
                                have n0_ := Aside0.mk (Kd.R_over' (by (with_reducible repeat (first | apply Kd.R_alloc | apply Kd.R_drewN | apply Kd.R_drew)); exact HO_30.out) (Kd.R_typed (by (with_reducible repeat (first | apply Kd.R_alloc | apply Kd.R_drewN | apply Kd.R_drew)); exact HO_5.out)) (by decide) hg)
                                have n1_ := Aside0.mk (blk_grown (g := gS) (o := .cells #[.slice (some ad164) l0_0.length c0_0, .slice (some ad183) l0_1.length c0_1] 41 (0, 0)) (by (with_reducible repeat (first | refine blk_drewN ?_ _ | refine blk_drew ?_ | refine blk_alloc ?_ _)); exact BK161.out) hg (Kd.R_ne HO_5.out BK161.out (by decide)))
                                have n2_ := Aside0.mk (blk_grown (g := gb162) (o := .cells #[.int .i64 a1_0, .int .i64 a1_1] 30 (0, 0)) (by (with_reducible repeat (first | refine blk_drewN ?_ _ | refine blk_drew ?_ | refine blk_alloc ?_ _)); exact BK162.out) hg (Kd.R_ne HO_5.out BK162.out (by decide)))
                                have n3_ := Aside0.mk (blk_grown (g := gb165) (o := .cells #[.int .i64 ((rd_T30 l0_0 x21_1).f0), .int .i64 ((rd_T30 l0_0 x21_1).f1)] 30 (0, 0)) (by (with_reducible repeat (first | refine blk_drewN ?_ _ | refine blk_drew ?_ | refine blk_alloc ?_ _)); exact BK165.out) hg (Kd.R_ne HO_5.out BK165.out (by decide)))
                                have n4_ := Aside0.mk (blk_grown (g := gb176) (o := .cells #[.int .i64 ((rd_T30 t172 x32_2).f0), .int .i64 ((rd_T30 t172 x32_2).f1)] 30 (0, 0)) (by (with_reducible repeat (first | refine blk_drewN ?_ _ | refine blk_drew ?_ | refine blk_alloc ?_ _)); exact BK176.out) hg (Kd.R_ne HO_5.out BK176.out (by decide)))
                                have n5_ := Aside0.mk (Kd.R_over' (by (with_reducible repeat (first | apply Kd.R_alloc | apply Kd.R_drewN | apply Kd.R_drew)); exact HO179.out) (Kd.R_typed (by (with_reducible repeat (first | apply Kd.R_alloc | apply Kd.R_drewN | apply Kd.R_drew)); exact HO_5.out)) (by decide) hg)
                                have n6_ := Aside0.mk (Kd.R_over' (by (with_reducible repeat (first | apply Kd.R_alloc | apply Kd.R_drewN | apply Kd.R_drew)); exact HO182.out) (Kd.R_typed (by (with_reducible repeat (first | apply Kd.R_alloc | apply Kd.R_drewN | apply Kd.R_drew)); exact HO_5.out)) (by decide) hg)
                                have n7_ := Aside0.mk (Kd.R_after (ok := (fun _ => True)) (by (with_reducible repeat (first | apply Kd.R_alloc | apply Kd.R_drewN | apply Kd.R_drew)); exact Kd.R_mono HO186.out (fun _ hk => ⟨trivial, hk⟩)) hg hat)
                                have n8_ := Aside0.mk (hb)
                                have n9_ := Aside0.mk (ho)
                                clear HO_30
                                clear BK161
                                clear BK162
                                clear BK165
                                clear BK176
                                clear HO179
                                clear HO182
                                clear HO186
                                clear HB
                                clear HO_5
                                have HO_30 := n0_
                                have BK161 := n1_
                                have BK162 := n2_
                                have BK165 := n3_
                                have BK176 := n4_
                                have HO179 := n5_
                                have HO182 := n6_
                                have HO186 := n7_
                                have HB := n8_
                                have HO189 := n9_
                                clear n0_ n1_ n2_ n3_ n4_ n5_ n6_ n7_ n8_ n9_
                                clear ho hb hg hat
                                refine hK.out _ _ ⟨(blk_cell BK176.out 0).trans rfl, (blk_cell BK176.out 1).trans rfl, (blk_cell BK161.out 0).trans rfl, (blk_cell BK161.out 1).trans rfl, ((HB.out.cell (World.block_lt_of_cell? w _ hw183_0)).trans hw183_0)⟩ (fun hHeld => ?_)
                                clear hK K
                                refine norm_ (a' := ?_) ?_ ?_
                                rotate_left
                                · show Act.put _ (some 49) _ = _
                                  simp only [Act.put, List.setIfInBounds_toArray, List.set_cons_zero, List.set_cons_succ, i64_w, i32_w]
                                  rfl
                                refine pure_ (i := 14) (N := some 4) (v := ?_) (a' := ?_) #[true, true, true, true, true, true, true, true, true, true, true, true, true, true, true, false] rfl rfl (any_of HT_.out (by kernel_rfl)) (fun _ _ _ h => h) (Or.inl ⟨by rfl, ?_⟩) ?_ ?_
                                rotate_left
                                · intro w'
                                  go_simp
                                  with_reducible rfl
                                rotate_left
                                · simp only [Act.put, List.setIfInBounds_toArray, List.set_cons_zero, List.set_cons_succ, i64_w, i32_w]
                                  rfl
                                refine pure_ (i := 15) (N := some 5) (v := ?_) (a' := ?_) #[true, true, true, true, true, true, true, true, true, true, true, true, true, true, true, true] rfl rfl (any_of HT_.out (by kernel_rfl)) (fun _ _ _ h => h) (Or.inl ⟨by rfl, ?_⟩) ?_ ?_
                                rotate_left
                                · intro w'
                                  go_simp
                                  with_reducible rfl
                                rotate_left
                                · simp only [Act.put, List.setIfInBounds_toArray, List.set_cons_zero, List.set_cons_succ, i64_w, i32_w]
                                  rfl
                                refine done_ (done_of HT_.out (by kernel_rfl)) ?_
                                try go_wp2
                                go_roundg k2
                                case measure => have := HK1.out; have := HK2.out; omega
                                case rel => exact ⟨(y180), (y187), (wrap64 (x32_2 + 1)), (by first | rfl | (simp; done) | (simp [*]; done)), H', ⟨by have := HK1.out; have := HK2.out; omega⟩, ⟨by (with_reducible repeat (first | apply Kd.R_alloc | apply Kd.R_drewN | apply Kd.R_drew)); exact Kd.R_mono HO182.out (fun _ hk => ⟨hk.2.1, ⟨hk.2.2.1, hk.2.2.2.1⟩⟩)⟩, ⟨by (with_reducible repeat (first | apply Kd.R_alloc | apply Kd.R_drewN | apply Kd.R_drew)); exact Kd.R_mono HO189.out (fun _ hk => trivial)⟩, ⟨by (with_reducible repeat (first | apply Kd.R_alloc | apply Kd.R_drewN | apply Kd.R_drew)); exact Kd.R_mono HO_30.out (fun _ hk => ⟨hk.2.1, ⟨hk.2.2.1, hk.2.2.2.1⟩⟩)⟩, ⟨by (with_reducible repeat (first | refine blk_drewN ?_ _ | refine blk_drew ?_ | refine blk_alloc ?_ _)); exact BK161.out⟩, ⟨by (with_reducible repeat (first | refine blk_drewN ?_ _ | refine blk_drew ?_ | refine blk_alloc ?_ _)); exact BK162.out⟩, ⟨by (with_reducible repeat (first | refine blk_drewN ?_ _ | refine blk_drew ?_ | refine blk_alloc ?_ _)); exact BK165.out⟩, ⟨by repeat (first | (with_reducible first | exact HB.out | apply below_alloc | apply pw_below_drewN | apply below_drew1 | refine below_set ?_ GE161.out | refine below_set ?_ GE162.out | refine below_set ?_ GE165.out | refine below_set ?_ GE176.out) | exact HB.out)⟩⟩
                              · rw [if_neg c40] at H
                                exact absurd H (by simp)
                            · rw [if_neg c39] at H
                              exact absurd H (by simp)
                          · rw [if_neg c38] at H
                            exact absurd H (by simp)
                        · rw [if_neg c37] at H
                          exact absurd H (by simp)
                      · rw [if_neg c36] at H
                        exact absurd H (by simp)
                    · rw [if_neg c35] at H
                      exact absurd H (by simp)
                  · rw [if_neg c34] at H
                    have c34b0 : decide (x32_2 < (t172.length : Int)) = false := decide_eq_false c34
                    clear c34
                    have H' := Aside0.mk H
                    clear H
                    go_wp2
                    go_roundg k2
                    case measure => have := HK1.out; have := HK2.out; omega
                    case rel => exact ⟨(x4_2), (x5_2), (wrap64 (x21_1 + 1)), (by first | rfl | (simp; done) | (simp [*]; done)), H', ⟨by have := HK1.out; have := HK2.out; omega⟩, ⟨by (with_reducible repeat (first | apply Kd.R_alloc | apply Kd.R_drewN | apply Kd.R_drew)); exact Kd.R_mono HO_4.out (fun _ hk => hk.2.1)⟩, ⟨by (with_reducible repeat (first | apply Kd.R_alloc | apply Kd.R_drewN | apply Kd.R_drew)); exact HO_5.out⟩, ⟨by (with_reducible repeat (first | refine blk_drewN ?_ _ | refine blk_drew ?_ | refine blk_alloc ?_ _)); exact BK161.out⟩, ⟨by (with_reducible repeat (first | refine blk_drewN ?_ _ | refine blk_drew ?_ | refine blk_alloc ?_ _)); exact BK162.out⟩, ⟨by repeat (first | (with_reducible first | exact HB.out | apply below_alloc | apply pw_below_drewN | apply below_drew1 | refine below_set ?_ GE161.out | refine below_set ?_ GE162.out | refine below_set ?_ GE165.out) | exact HB.out)⟩⟩
            · rw [if_neg c18] at H
              exact absurd H (by simp)
          · rw [if_neg c17] at H
            exact absurd H (by simp)
        · rw [if_neg c16] at H
          have c16b0 : decide (x21_1 < (l0_0.length : Int)) = false := decide_eq_false c16
          clear c16
          simp only [Option.some.injEq, Prod.mk.injEq] at H
          obtain ⟨rfl, rfl⟩ := H
          obtain ⟨Ae4, ce4, ee4⟩ := Kd.R_slice HO_4.out
          obtain ⟨Ae5, ce5, ee5⟩ := Kd.R_slice HO_5.out
          subst ee4 ee5
          have hq0_ := blk_cell BK161.out 0
          have hq1_ := blk_cell BK161.out 1
          have hf0_ := blk_frozen BK161.out 0
          have hf1_ := blk_frozen BK161.out 1
          simp only [List.getElem?_toArray, List.getElem?_cons_zero, List.getElem?_cons_succ] at hq0_ hq1_
          go_wp2
          first | go_end0 | ((try simp only [Exit.inBlock, Exit.then]); refine bodyPost_ret (results_none rfl _ _ _) rfl ?_)
          exact ⟨rfl, Or.inr ⟨by have h_ := A3.out; unfold span_empty.f at h_; simp at h_; omega, wr, _, _, HB.out, Kd.R_mono HO_4.out (fun _ _ => trivial), Kd.R_mono HO_5.out (fun _ _ => trivial), rfl⟩⟩
end Go.Proofs.Ytgncbhpmnjfhhaa.S
end
section
namespace Go.Proofs.Ytgncbhpmnjfhhaa.S
open Go.RowKit Go.Proofs.YtgncbhpmnjfhhaaW.PrintWords Go.Proofs.YtgncbhpmnjfhhaaW.PrintLast Go.Proofs.YtgncbhpmnjfhhaaW.PrintMore
set_option linter.unusedVariables false
set_option linter.unusedSimpArgs false
theorem dropI.calls (k gS : Nat) (ok : Nat → Prop) (l : List S30) (v : List Int) (a b : Int) (r1 : List S30) (r2 : List Int) (w0 w : World) (HB : Below w0.heap.size w0 w) (HgS : w0.heap.size ≤ gS) (HS : StI gS w0.heap.size ok w l v) (h : span_Map_int_Drop.f k l v a b = some (r1, r2)) (hab : a < b) :
    Calls Try.prog 29 #[.pointer (some ⟨gS, 0, none⟩), .agg #[.int .i64 a, .int .i64 b]] w fun e w' => e = .returned (.tuple #[]) ∧ Below w0.heap.size w0 w' ∧ StI gS w0.heap.size (fun k => w.heap.size ≤ k) w' r1 r2 ∧ Kept w w' (fun k => k = gS) := by
  obtain ⟨vl, vv, h1, h2, h3⟩ := HS
  obtain ⟨A, c, rfl⟩ := Kd.R_slice h2
  obtain ⟨A2, c2, rfl⟩ := Kd.R_slice h3
  refine (span_Map_int_Drop.calls k gS A c l A2 c2 v a b r1 r2 w (Kd.R_reads' h2).2.2 (Kd.R_reads' h2).2.1 (Kd.R_reads' h3).2.2 (Kd.R_reads' h3).2.1 h1 h).mono ?_
  rintro e w' ⟨rfl, hp⟩
  rcases hp with ⟨hn, _⟩ | ⟨_, wm, vl, vv, hb, hl, hv, rfl⟩
  · exact absurd hab hn
  · have hbm := blk_below h1 hb
    have hlt := blk_lt h1
    refine ⟨rfl, below_set (below_set (below_step HB hb) HgS) HgS, ⟨vl, vv, blk_put (blk_put hbm 0 _ rfl) 1 _ rfl, ?_, ?_⟩, ((Kept.of_below hb (fun k => k = gS)).setCell (p := ⟨gS, 0, none⟩) (.inl rfl) _).setCell (p := ⟨gS, 1, none⟩) (.inl rfl) _⟩
    · exact Kd.R_mono (Kd.R_lower (Kd.R_bound (Kd.R_set (Kd.R_set hl hbm (by decide) 0 vl) (blk_put hbm 0 _ rfl) (by decide) 1 vv)) HB.size) (fun k hk => hk.2.1)
    · exact Kd.R_mono (Kd.R_lower (Kd.R_bound (Kd.R_set (Kd.R_set hv hbm (by decide) 0 vl) (blk_put hbm 0 _ rfl) (by decide) 1 vv)) HB.size) (fun k hk => hk.2.1)
def atL (l : List S30) (f : Int) : Nat := (l.takeWhile (fun p => decide (p.f0 < f))).length
theorem atL_le (l : List S30) (f : Int) : atL l f ≤ l.length := by
  unfold atL
  induction l with
  | nil => simp
  | cons x l ih => rw [List.takeWhile_cons]; split <;> simp; omega
theorem atL_lt (l : List S30) (f : Int) : ∀ j, j < atL l f → (l.getD j z30).f0 < f := by
  unfold atL
  induction l with
  | nil => intro j h; simp at h
  | cons x l ih =>
    intro j h
    rw [List.takeWhile_cons] at h
    split at h
    · rename_i hx
      cases j with
      | zero => simpa using hx
      | succ j => simpa using ih j (by simpa using h)
    · simp at h
theorem atL_end (l : List S30) (f : Int) : atL l f < l.length → ¬ (l.getD (atL l f) z30).f0 < f := by
  unfold atL
  induction l with
  | nil => intro h; simp at h
  | cons x l ih =>
    intro h
    rw [List.takeWhile_cons] at h ⊢
    split
    · rename_i hx
      rw [if_pos hx] at h
      simpa using ih (by simpa using h)
    · rename_i hx
      simpa using hx
def putL {β : Type} [DecidableEq β] (z : β) (r1 : List S30) (r2 : List β) (s : S30) (x : β) : List S30 × List β :=
  let i := atL r1 s.f0
  let g1 := glueL z (r1.take i ++ [s] ++ r1.drop i) (r2.take i ++ [x] ++ r2.drop i) (i + 1)
  glueL z g1.1 g1.2 i
theorem glueL_len {β : Type} [DecidableEq β] (z : β) (l : List S30) (v : List β) (i : Nat) (h : l.length = v.length) : (glueL z l v i).1.length = (glueL z l v i).2.length ∧ (glueL z l v i).1.length ≤ l.length := by
  unfold glueL
  split
  · rename_i hg
    have h1 := hg.2.1
    simp only [List.length_eraseIdx, List.length_set]
    rw [if_pos h1, if_pos (by omega)]
    omega
  · exact ⟨h, Nat.le_refl _⟩
theorem insL_len {β : Type} (v : List β) (x : β) (i : Nat) (h : i ≤ v.length) : (v.take i ++ [x] ++ v.drop i).length = v.length + 1 := by simp; omega
set_option maxHeartbeats 8000000 in
set_option maxRecDepth 100000 in
theorem putI.skip (gS : Nat) (l : List S30) (v : List Int) (a b x : Int) (vl vv : Value) (w : World) (h1 : w.heap[gS]? = some (.cells #[vl, vv] 41 (0, 0))) (hab : ¬ a < b) :
    Calls Try.prog 30 #[.pointer (some ⟨gS, 0, none⟩), .agg #[.int .i64 a, .int .i64 b], .int .i64 x] w fun e w' => e = .returned (.tuple #[]) ∧ Below w.heap.size w w' := by
  have hu30 := Try.underlying30
  have A3 := Aside0.mk (show span_empty.f a b = some true by unfold span_empty.f; simp; omega)
  have HB := Aside0.mk (Below.refl w.heap.size w)
  clear hab h1
  go_enter Try.func30, Try.ntmps30
  go_wp2_with (first
    | ((with_reducible refine gate_dst (N := 4) rfl ?_); refine box_event ?hg (N := 4) ?hd (cs := #[.int .i64 a, .int .i64 b]) (t := 30) ?hr ?_; (case hd => rfl); (case hg => rfl); (case hr => first | (go_simp; done) | (go_simp; rfl)); intro gb hg w1 hbox hb; have HB1 := Aside0.mk (below_step HB.out hb); have BK := Aside0.mk hbox; clear HB hb hbox hg; have hcz0 : w1.cell? ⟨gb, 0, none⟩ = some (.int .i64 a) := (blk_cell BK.out 0).trans rfl; have hcz1 : w1.cell? ⟨gb, 1, none⟩ = some (.int .i64 b) := (blk_cell BK.out 1).trans rfl)
    | (go_at_call 48; (with_reducible refine (span_empty.calls a b true _ A3.out).mono ?_); rintro e w2 ⟨rfl, hb⟩; have HB2 := Aside0.mk (below_step HB1.out hb); clear hb))
  first | go_end0 | ((try simp only [Exit.inBlock, Exit.then]); refine bodyPost_ret (results_none rfl _ _ _) rfl ?_)
  exact ⟨rfl, HB2.out⟩
end Go.Proofs.Ytgncbhpmnjfhhaa.S
end
section
namespace Go.Proofs.Ytgncbhpmnjfhhaa.S
open Go.RowKit Go.Proofs.YtgncbhpmnjfhhaaW.PrintWords Go.Proofs.YtgncbhpmnjfhhaaW.PrintLast Go.Proofs.YtgncbhpmnjfhhaaW.PrintMore
set_option linter.unusedVariables false
set_option linter.unusedSimpArgs false
theorem api_Span_57.callsI (v : Value) (xs : List S30) (x : S30) (i : Nat) (vb : Nat) (ok : Nat → Prop) (w0 w : World) (y : Int) (hy : y = (i : Int)) (HB : Below w0.heap.size w0 w) (HO : k30.R 30 w w0.heap.size ok v xs) (hi : i ≤ xs.length) (hl : xs.length < 1000000000000)
    (hv : w.heap[vb]? = some (.cells (cells30 [x]).toArray 30 (0, 0))) (hvb : some vb ≠ v.ownBlock) :
    Calls Try.prog 57 #[v, .int .i64 y, .slice (some ⟨vb, 0, none⟩) 1 1] w fun e w' => ∃ v', e = .returned v' ∧
      k30.R 30 w' w0.heap.size (fun k => ok k ∨ w.heap.size ≤ k) v' (xs.take i ++ [x] ++ xs.drop i) ∧ Below w0.heap.size w0 w' ∧ Kept w w' (fun k => some k = v.ownBlock) := by
  subst hy; exact api_Span_57.calls v xs x i vb ok w0 w HB HO hi hl hv hvb
theorem api_int_58.callsI (v : Value) (xs : List Int) (x : Int) (i : Nat) (vb : Nat) (ok : Nat → Prop) (w0 w : World) (y : Int) (hy : y = (i : Int)) (HB : Below w0.heap.size w0 w) (HO : (Kd.int .i64).R 3 w w0.heap.size ok v xs) (hi : i ≤ xs.length) (hl : xs.length < 1000000000000)
    (hv : w.heap[vb]? = some (.cells (nums .i64 [x]).toArray 3 (0, 0))) (hvb : some vb ≠ v.ownBlock) :
    Calls Try.prog 58 #[v, .int .i64 y, .slice (some ⟨vb, 0, none⟩) 1 1] w fun e w' => ∃ v', e = .returned v' ∧
      (Kd.int .i64).R 3 w' w0.heap.size (fun k => ok k ∨ w.heap.size ≤ k) v' (xs.take i ++ [x] ++ xs.drop i) ∧ Below w0.heap.size w0 w' ∧ Kept w w' (fun k => some k = v.ownBlock) := by
  subst hy; exact api_int_58.calls v xs x i vb ok w0 w HB HO hi hl hv hvb
theorem glueI.callsI (gS i : Nat) (ok : Nat → Prop) (l : List S30) (v : List Int) (w0 w : World) (y : Int) (hy : y = (i : Int)) (HB : Below w0.heap.size w0 w) (HgS : w0.heap.size ≤ gS) (HS : StI gS w0.heap.size ok w l v) (hlv : l.length = v.length) (hl : l.length < 1000000000000) (hi : i < 1000000000000) :
    Calls Try.prog 59 #[.pointer (some ⟨gS, 0, none⟩), .int .i64 y] w fun e w' => e = .returned (.tuple #[]) ∧ Below w0.heap.size w0 w' ∧
      StI gS w0.heap.size ok w' (glueL 0 l v i).1 (glueL 0 l v i).2 ∧ Kept w w' (fun k => k = gS ∨ ok k) := by
  subst hy; exact glueI.calls gS i ok l v w0 w HB HgS HS hlv hl hi
set_option maxHeartbeats 8000000 in
set_option maxRecDepth 100000 in
theorem putI.main (k gS : Nat) (ok : Nat → Prop) (l : List S30) (v : List Int) (a b x : Int) (r1 : List S30) (r2 : List Int) (w0 w : World) (HB : Below w0.heap.size w0 w) (HgS : w0.heap.size ≤ gS) (HS : StI gS w0.heap.size ok w l v) (h : span_Map_int_Drop.f k l v a b = some (r1, r2)) (hab : a < b)
    (hlen : r1.length = r2.length) (hbig : r1.length < 900000000000) :
    Calls Try.prog 30 #[.pointer (some ⟨gS, 0, none⟩), .agg #[.int .i64 a, .int .i64 b], .int .i64 x] w fun e w' => e = .returned (.tuple #[]) ∧ Below w0.heap.size w0 w' ∧
      StI gS w0.heap.size (fun k => w.heap.size ≤ k) w' (putL 0 r1 r2 ⟨a, b⟩ x).1 (putL 0 r1 r2 ⟨a, b⟩ x).2 ∧ Kept w w' (fun k => k = gS) := by
  have hu30 := Try.underlying30
  have A3 := Aside0.mk (show span_empty.f a b = some false by unfold span_empty.f; simp; omega)
  have HBA := Aside0.mk HB
  have HSA := Aside0.mk HS
  have HA := Aside0.mk h
  have HAB := Aside0.mk hab
  have HL := Aside0.mk hlen
  have HG := Aside0.mk hbig
  obtain ⟨vl, vv, h1, h2, h3⟩ := HS
  have hSlt := Aside0.mk (blk_lt h1)
  clear h hab hlen hbig HB h1 h2 h3
  go_enter Try.func30, Try.ntmps30
  go_wp2_with (first
    | ((with_reducible refine gate_dst (N := 4) rfl ?_); refine box_event ?hg (N := 4) ?hd (cs := #[.int .i64 a, .int .i64 b]) (t := 30) ?hr ?_; (case hd => rfl); (case hg => rfl); (case hr => first | (go_simp; done) | (go_simp; rfl)); intro gb hg w1 hbox hb; have HB1 := Aside0.mk hb; have BK := Aside0.mk hbox; have HGB := Aside0.mk hg; clear hb hbox hg; have hcz0 : w1.cell? ⟨gb, 0, none⟩ = some (.int .i64 a) := (blk_cell BK.out 0).trans rfl; have hcz1 : w1.cell? ⟨gb, 1, none⟩ = some (.int .i64 b) := (blk_cell BK.out 1).trans rfl)
    | (go_at_call 48; (with_reducible refine (span_empty.calls a b false _ A3.out).mono ?_); rintro e w2 ⟨rfl, hb⟩; have HB2 := Aside0.mk (below_step HB1.out hb); have BK2 := Aside0.mk (blk_below BK.out hb); clear hb hcz0 hcz1; have hcz0 : w2.cell? ⟨gb, 0, none⟩ = some (.int .i64 a) := (blk_cell BK2.out 0).trans rfl; have hcz1 : w2.cell? ⟨gb, 1, none⟩ = some (.int .i64 b) := (blk_cell BK2.out 1).trans rfl)
    | (go_at_call 29; (with_reducible refine (dropI.calls k gS ok l v a b r1 r2 w0 w2 (below_step HBA.out HB2.out) HgS (HSA.out.kept (Kept.of_below HB2.out (fun _ => False)) (fun _ _ h => h) (fun h => h)) HA.out HAB.out).mono ?_); rintro e w3 ⟨rfl, hb, hs, hk⟩; have HB3 := Aside0.mk hb; have HS3 := Aside0.mk (hs.mono (ok' := fun k => w.heap.size ≤ k) (fun k h => Nat.le_trans HB2.out.size h)); have HK3 := Aside0.mk ((Kept.of_below HB2.out (fun k => k = gS)).then_ hk (fun k h => .inl h)); have BK3 := Aside0.mk (blk_kept BK2.out hk (fun e => by have := HGB.out; have := hSlt.out; omega)); clear hb hs hk hcz0 hcz1; have hcz0 : w3.cell? ⟨gb, 0, none⟩ = some (.int .i64 a) := (blk_cell BK3.out 0).trans rfl; have hcz1 : w3.cell? ⟨gb, 1, none⟩ = some (.int .i64 b) := (blk_cell BK3.out 1).trans rfl))
  obtain ⟨vl3, vv3, d1, d2, d3⟩ := HS3.out
  obtain ⟨A, c, rfl⟩ := Kd.R_slice d2
  obtain ⟨A2, c2, rfl⟩ := Kd.R_slice d3
  have D1 := Aside0.mk d1
  have D2 := Aside0.mk d2
  have D3 := Aside0.mk d3
  have hcs0 : w3.cell? ⟨gS, 0, none⟩ = some (.slice A r1.length c) := (blk_cell d1 0).trans rfl
  have hcs1 : w3.cell? ⟨gS, 1, none⟩ = some (.slice A2 r2.length c2) := (blk_cell d1 1).trans rfl
  have hfs0 := blk_frozen d1 0
  have hfs1 := blk_frozen d1 1
  clear d1 d2 d3 HS3 HSA HA A3 HB1 BK HB2 BK2
  go_loopg [6] r1.length (fun kq v6 w' => ∃ (j : Nat) (q : Nat), v6 = .int .i64 (j : Int) ∧ Aside0 (kq + j = r1.length) ∧ Aside0 (j ≤ atL r1 a) ∧ w' = w3.drewN q)
  case atStart => exact ⟨0, 0, rfl, ⟨by omega⟩, ⟨Nat.zero_le _⟩, rfl⟩
  case round =>
    obtain ⟨j, q, hv6, HJ, HJ2, rfl⟩ := hrel
    obtain ⟨y, hy⟩ : ∃ y : Int, y = (j : Int) := ⟨_, rfl⟩
    rw [← hy] at hv6
    subst hv6
    have HY := Aside0.mk hy
    have hle := Aside0.mk (atL_le r1 a)
    by_cases hja : j < atL r1 a
    · have p0 : 0 ≤ y := by omega
      have q0 : y < (r1.length : Int) := by have := hle.out; omega
      obtain ⟨ad, e, hx0, hx1⟩ := at_T30 (Kd.R_reads' D2.out).2.2 y p0 q0
      cases e
      have c1 : decide (y < (r1.length : Int)) = true := decide_eq_true q0
      have c2d : decide ((rd_T30 r1 y).f0 < a) = true := decide_eq_true (by have := atL_lt r1 a j hja; simp only [rd_T30]; rwa [show y.toNat = j by omega])
      have hw : IntKind.i64.wrap (y + 1) = ((j + 1 : Nat) : Int) := by have := hle.out; have := HG.out; rw [IntKind.wrap_i64]; omega
      have HJA := Aside0.mk hja
      obtain ⟨y1, hy1⟩ : ∃ y1 : Int, y1 = ((j + 1 : Nat) : Int) := ⟨_, rfl⟩
      rw [← hy1] at hw
      have HY1 := Aside0.mk hy1
      clear hja hy hy1
      go_wp2
      go_quiet (fail)
      go_wp2
      go_roundg (gk - 1)
      case measure => have := HJ.out; have := HJA.out; have := hle.out; omega
      case rel => exact ⟨j + 1, _, by rw [HY1.out], ⟨by have := HJ.out; have := HJA.out; have := hle.out; omega⟩, ⟨HJA.out⟩, rfl⟩
    · have hj : j = atL r1 a := by have := HJ2.out; omega
      by_cases hjl : j < r1.length
      · have p0 : 0 ≤ y := by omega
        have q0 : y < (r1.length : Int) := by omega
        obtain ⟨ad, e, hx0, hx1⟩ := at_T30 (Kd.R_reads' D2.out).2.2 y p0 q0
        cases e
        have c1 : decide (y < (r1.length : Int)) = true := decide_eq_true q0
        have c2d : decide ((rd_T30 r1 y).f0 < a) = false := decide_eq_false (by have := atL_end r1 a (by omega); simp only [rd_T30]; rw [show y.toNat = atL r1 a by omega]; exact this)
        have HJE := Aside0.mk hj
        clear hja hy hj hjl
        go_wp2
        go_quiet (fail)
        go_wp2
        have E1 := blk_drewN (blk_drewN D1.out q) nq
        have E2 := Kd.R_drewN (Kd.R_drewN D2.out q) nq
        have E3 := Kd.R_drewN (Kd.R_drewN D3.out q) nq
        have E4 := blk_drewN (blk_drewN BK3.out q) nq
        have E5 := pw_below_drewN (pw_below_drewN HB3.out q) nq
        have E6 := (HK3.out.drewN q).drewN nq
        generalize (w3.drewN q).drewN nq = w4 at *
        have hle2 : j ≤ r1.length := by have := HJE.out; have := hle.out; omega
        have F2 := Aside0.mk E2
        have F1 := Aside0.mk E1
        have F3 := Aside0.mk E3
        have F5 := Aside0.mk E5
        have F6 := Aside0.mk E6
        clear hcz0 hcz1 hcs0 hcs1 hfs0 hfs1 D1 D2 D3 BK3 HB3 HK3
        have hcs0 : w4.cell? ⟨gS, 0, none⟩ = some (.slice (some ad) r1.length c) := (blk_cell E1 0).trans rfl
        have hcs1 : w4.cell? ⟨gS, 1, none⟩ = some (.slice A2 r2.length c2) := (blk_cell E1 1).trans rfl
        have hcz0 : w4.cell? ⟨gb, 0, none⟩ = some (.int .i64 a) := (blk_cell E4 0).trans rfl
        have hcz1 : w4.cell? ⟨gb, 1, none⟩ = some (.int .i64 b) := (blk_cell E4 1).trans rfl
        have hne : some w4.heap.size ≠ (Value.slice (some ad) r1.length c).ownBlock := fun e => absurd (Kd.R_lt E2 _ e.symm) (by omega)
        have HNE := Aside0.mk hne
        have HNS := Aside0.mk (Kd.R_away (Kd.R_types E2 E1 (by decide)) (fun k hk => hk.2))
        have F3a := Aside0.mk (Kd.R_apartR E3 E2 (by decide))
        have HSW := Aside0.mk (blk_lt E1)
        have hS1 := blk_lt E1
        have hb1 := blk_lt E4
        have hS2 : ¬ gS = w4.heap.size := by omega
        have hb2 : ¬ gb = w4.heap.size := by omega
        clear E1 E2 E3 E4 E5 E6 hne
        obtain ⟨l1, hl1⟩ : ∃ l1, l1 = r1.take j ++ [(⟨a, b⟩ : S30)] ++ r1.drop j := ⟨_, rfl⟩
        have NL1 := Aside0.mk hl1
        clear hl1
        go_region_with (go_at_call 57; refine (api_Span_57.callsI _ r1 ⟨a, b⟩ j w4.heap.size (fun k => w.heap.size ≤ k) w0 _ y HY.out (below_alloc (below_drew F5.out) _) (Kd.R_alloc (Kd.R_drew F2.out) _) hle2 (by have := HG.out; omega) (blk_new w4.drew _) HNE.out).mono ?_; rintro e w5 ⟨v5, rfl, hr, hb, hk⟩; rw [← NL1.out] at hr; obtain ⟨A5, c5, rfl⟩ := Kd.R_slice hr; have R5 := Aside0.mk hr; have B5 := Aside0.mk hb; have K5 := Aside0.mk hk; have G5 := Aside0.mk (blk_kept (blk_alloc (blk_drew F1.out) _) hk HNS.out); clear hr hb hk hcs0 hcs1; have hcs0 : w5.cell? ⟨gS, 0, none⟩ = some (.slice (some ad) r1.length c) := (blk_cell G5.out 0).trans rfl; have hcs1 : w5.cell? ⟨gS, 1, none⟩ = some (.slice A2 r2.length c2) := (blk_cell G5.out 1).trans rfl; have hfs0 := blk_frozen G5.out 0; have hfs1 := blk_frozen G5.out 1)
        all_goals (
          have E1 := blk_put G5.out 0 (.slice A5 l1.length c5) rfl
          have E2 := Kd.R_set R5.out G5.out (by decide) 0 (.slice A5 l1.length c5)
          have E3 := Kd.R_set (Kd.R_kept (Kd.R_alloc (Kd.R_drew F3a.out) _) K5.out (fun k hk => hk.2)) G5.out (by decide) 0 (.slice A5 l1.length c5)
          have E5 : Below w0.heap.size w0 (w5.setCell ⟨gS, 0, none⟩ (.slice A5 l1.length c5)) := below_set B5.out HgS
          have E7 : Kept w w5 (fun k => k = gS ∨ w.heap.size ≤ k) := ((F6.out.drew).alloc _).mono (fun k h => .inl h) |>.then_ K5.out (fun k hk => .inl (.inr (F2.out.1 k hk.symm)))
          have E6 := E7.setCell (p := ⟨gS, 0, none⟩) (.inl (.inl rfl)) (.slice A5 l1.length c5)
          clear E7
          replace E2 := Kd.R_mono E2 (ok' := fun k => w.heap.size ≤ k) (fun k hk => hk.elim (fun h => h) (fun h => Nat.le_trans (Nat.le_trans F6.out.1 (by simp [World.alloc])) h))
          replace E3 := Kd.R_mono E3 (ok' := fun k => w.heap.size ≤ k) (fun k hk => hk.1)
          clear hcs0 hcs1 hfs0 hfs1
          generalize w5.setCell ⟨gS, 0, none⟩ (.slice A5 l1.length c5) = w6 at *
          have G6 : Aside0 (w6.heap[gS]? = some (.cells #[.slice A5 l1.length c5, .slice A2 r2.length c2] 41 (0, 0))) := ⟨E1⟩
          have hne6 : some w6.heap.size ≠ (Value.slice A2 r2.length c2).ownBlock := fun e => absurd (Kd.R_lt E3 _ e.symm) (by omega)
          have HNE6 := Aside0.mk hne6
          have HNV := Aside0.mk (Kd.R_away (Kd.R_types E3 E1 (by decide)) (fun k hk => hk.2))
          have E2a := Aside0.mk (Kd.R_apartR E2 E3 (by decide))
          have R6 := Aside0.mk E2
          have V6 := Aside0.mk E3
          have B6 := Aside0.mk E5
          have K6 := Aside0.mk E6
          have hS6 := blk_lt E1
          have hS62 : ¬ gS = w6.heap.size := by omega
          clear hne6 E1 E2 E3 E5 E6
          have hcs0 : w6.cell? ⟨gS, 0, none⟩ = some (.slice A5 l1.length c5) := (blk_cell G6.out 0).trans rfl
          have hcs1 : w6.cell? ⟨gS, 1, none⟩ = some (.slice A2 r2.length c2) := (blk_cell G6.out 1).trans rfl
          obtain ⟨v1, hv1⟩ : ∃ v1, v1 = r2.take j ++ [x] ++ r2.drop j := ⟨_, rfl⟩
          have NV1 := Aside0.mk hv1
          clear hv1
          obtain ⟨y1, hy1⟩ : ∃ y1, y1 = IntKind.i64.wrap (y + 1) := ⟨_, rfl⟩
          have hw := hy1.symm
          have HY1 := Aside0.mk (show y1 = ((j + 1 : Nat) : Int) by rw [hy1, IntKind.wrap_i64]; have := HY.out; have := HG.out; omega)
          clear hy1
          have HLL := Aside0.mk (show l1.length = v1.length by rw [NL1.out, NV1.out, insL_len _ _ _ hle2, insL_len _ _ _ (by have := HL.out; omega)]; have := HL.out; omega)
          have HLB := Aside0.mk (show l1.length < 1000000000000 by rw [NL1.out, insL_len _ _ _ hle2]; have := HG.out; omega)
          have HLG := Aside0.mk (glueL_len 0 l1 v1 (j + 1) HLL.out)
          go_wp2_with (first
            | (go_at_call 58; refine (api_int_58.callsI _ r2 x j w6.heap.size (fun k => w.heap.size ≤ k) w0 _ y HY.out (below_alloc B6.out _) (Kd.R_alloc V6.out _) (by have := HL.out; omega) (by have := HL.out; have := HG.out; omega) (blk_new w6 _) HNE6.out).mono ?_; rintro e w7 ⟨v7, rfl, hr, hb, hk⟩; rw [← NV1.out] at hr; obtain ⟨A7, c7, rfl⟩ := Kd.R_slice hr; have V7 := Aside0.mk (Kd.R_mono hr (ok' := fun k => w.heap.size ≤ k) (fun k hk => hk.elim (fun h => h) (fun h => Nat.le_trans (Nat.le_trans K6.out.1 (below_alloc (Below.refl w6.heap.size w6) _).size) h))); have B7 := Aside0.mk hb; have K7 := Aside0.mk ((K6.out.alloc _).then_ hk (fun k hk => .inl (.inr (V6.out.1 k hk.symm)))); have G7 := Aside0.mk (blk_kept (blk_alloc G6.out _) hk HNV.out); have R7 := Aside0.mk (Kd.R_mono (Kd.R_kept (Kd.R_alloc E2a.out _) hk (fun k hk => hk.2)) (ok' := fun k => w.heap.size ≤ k) (fun k h => h.1)); clear hr hb hk hcs0 hcs1; have hcs0 : w7.cell? ⟨gS, 0, none⟩ = some (.slice A5 l1.length c5) := (blk_cell G7.out 0).trans rfl; have hcs1 : w7.cell? ⟨gS, 1, none⟩ = some (.slice A2 r2.length c2) := (blk_cell G7.out 1).trans rfl; have hfs0 := blk_frozen G7.out 0; have hfs1 := blk_frozen G7.out 1)
            | (go_at_call_of 59 (Value.int IntKind.i64 y1); refine (glueI.callsI gS (j + 1) (fun k => w.heap.size ≤ k) l1 v1 w0 _ y1 HY1.out (below_set B7.out HgS) HgS ⟨_, _, blk_put G7.out 1 _ rfl, Kd.R_set R7.out G7.out (by decide) 1 _, Kd.R_set V7.out G7.out (by decide) 1 _⟩ HLL.out HLB.out (by have := HG.out; omega)).mono ?_; rintro e w8 ⟨rfl, hb, hs, hk⟩; have B8 := Aside0.mk hb; have S8 := Aside0.mk hs; have K8 := Aside0.mk ((K7.out.setCell (p := ⟨gS, 1, none⟩) (.inl (.inl rfl)) _).then_ hk (fun k h => .inl h)); clear hb hs hk hcs0 hcs1)
            | (go_at_call_of 59 (Value.int IntKind.i64 y); refine (glueI.callsI gS j (fun k => w.heap.size ≤ k) _ _ w0 _ y HY.out B8.out HgS S8.out HLG.out.1 (Nat.lt_of_le_of_lt HLG.out.2 HLB.out) (by have := HG.out; omega)).mono ?_; rintro e w9 ⟨rfl, hb, hs, hk⟩; have B9 := Aside0.mk hb; have S9 := Aside0.mk hs; have K9 := Aside0.mk (K8.out.then_ hk (fun k h => .inl h)); clear hb hs hk))
          first | go_end0 | ((try simp only [Exit.inBlock, Exit.then]); refine bodyPost_ret (results_none rfl _ _ _) rfl ?_)
          have hput : glueL 0 (glueL 0 l1 v1 (j + 1)).1 (glueL 0 l1 v1 (j + 1)).2 j = putL 0 r1 r2 ⟨a, b⟩ x := by
            rw [NL1.out, NV1.out, HJE.out]; rfl
          have S_ := S9.out
          rw [hput] at S_
          exact ⟨rfl, B9.out, S_, K9.out.1, fun k hk hne => K9.out.2 k hk (fun h => h.elim hne (fun h => absurd hk (by omega)))⟩)
      · have HJE := Aside0.mk hj
        have c1 : decide (y < (r1.length : Int)) = false := decide_eq_false (by omega)
        clear hja hy hj hjl
        go_wp2
        go_quiet (fail)
        go_wp2
        have E1 := blk_drewN (blk_drewN D1.out q) nq
        have E2 := Kd.R_drewN (Kd.R_drewN D2.out q) nq
        have E3 := Kd.R_drewN (Kd.R_drewN D3.out q) nq
        have E4 := blk_drewN (blk_drewN BK3.out q) nq
        have E5 := pw_below_drewN (pw_below_drewN HB3.out q) nq
        have E6 := (HK3.out.drewN q).drewN nq
        generalize (w3.drewN q).drewN nq = w4 at *
        have hle2 : j ≤ r1.length := by have := HJE.out; have := hle.out; omega
        have F2 := Aside0.mk E2
        have F1 := Aside0.mk E1
        have F3 := Aside0.mk E3
        have F5 := Aside0.mk E5
        have F6 := Aside0.mk E6
        clear hcz0 hcz1 hcs0 hcs1 hfs0 hfs1 D1 D2 D3 BK3 HB3 HK3
        have hcs0 : w4.cell? ⟨gS, 0, none⟩ = some (.slice A r1.length c) := (blk_cell E1 0).trans rfl
        have hcs1 : w4.cell? ⟨gS, 1, none⟩ = some (.slice A2 r2.length c2) := (blk_cell E1 1).trans rfl
        have hcz0 : w4.cell? ⟨gb, 0, none⟩ = some (.int .i64 a) := (blk_cell E4 0).trans rfl
        have hcz1 : w4.cell? ⟨gb, 1, none⟩ = some (.int .i64 b) := (blk_cell E4 1).trans rfl
        have hne : some w4.heap.size ≠ (Value.slice A r1.length c).ownBlock := fun e => absurd (Kd.R_lt E2 _ e.symm) (by omega)
        have HNE := Aside0.mk hne
        have HNS := Aside0.mk (Kd.R_away (Kd.R_types E2 E1 (by decide)) (fun k hk => hk.2))
        have F3a := Aside0.mk (Kd.R_apartR E3 E2 (by decide))
        have HSW := Aside0.mk (blk_lt E1)
        have hS1 := blk_lt E1
        have hb1 := blk_lt E4
        have hS2 : ¬ gS = w4.heap.size := by omega
        have hb2 : ¬ gb = w4.heap.size := by omega
        clear E1 E2 E3 E4 E5 E6 hne
        obtain ⟨l1, hl1⟩ : ∃ l1, l1 = r1.take j ++ [(⟨a, b⟩ : S30)] ++ r1.drop j := ⟨_, rfl⟩
        have NL1 := Aside0.mk hl1
        clear hl1
        go_region_with (go_at_call 57; refine (api_Span_57.callsI _ r1 ⟨a, b⟩ j w4.heap.size (fun k => w.heap.size ≤ k) w0 _ y HY.out (below_alloc (below_drew F5.out) _) (Kd.R_alloc (Kd.R_drew F2.out) _) hle2 (by have := HG.out; omega) (blk_new w4.drew _) HNE.out).mono ?_; rintro e w5 ⟨v5, rfl, hr, hb, hk⟩; rw [← NL1.out] at hr; obtain ⟨A5, c5, rfl⟩ := Kd.R_slice hr; have R5 := Aside0.mk hr; have B5 := Aside0.mk hb; have K5 := Aside0.mk hk; have G5 := Aside0.mk (blk_kept (blk_alloc (blk_drew F1.out) _) hk HNS.out); clear hr hb hk hcs0 hcs1; have hcs0 : w5.cell? ⟨gS, 0, none⟩ = some (.slice A r1.length c) := (blk_cell G5.out 0).trans rfl; have hcs1 : w5.cell? ⟨gS, 1, none⟩ = some (.slice A2 r2.length c2) := (blk_cell G5.out 1).trans rfl; have hfs0 := blk_frozen G5.out 0; have hfs1 := blk_frozen G5.out 1)
        all_goals (
          have E1 := blk_put G5.out 0 (.slice A5 l1.length c5) rfl
          have E2 := Kd.R_set R5.out G5.out (by decide) 0 (.slice A5 l1.length c5)
          have E3 := Kd.R_set (Kd.R_kept (Kd.R_alloc (Kd.R_drew F3a.out) _) K5.out (fun k hk => hk.2)) G5.out (by decide) 0 (.slice A5 l1.length c5)
          have E5 : Below w0.heap.size w0 (w5.setCell ⟨gS, 0, none⟩ (.slice A5 l1.length c5)) := below_set B5.out HgS
          have E7 : Kept w w5 (fun k => k = gS ∨ w.heap.size ≤ k) := ((F6.out.drew).alloc _).mono (fun k h => .inl h) |>.then_ K5.out (fun k hk => .inl (.inr (F2.out.1 k hk.symm)))
          have E6 := E7.setCell (p := ⟨gS, 0, none⟩) (.inl (.inl rfl)) (.slice A5 l1.length c5)
          clear E7
          replace E2 := Kd.R_mono E2 (ok' := fun k => w.heap.size ≤ k) (fun k hk => hk.elim (fun h => h) (fun h => Nat.le_trans (Nat.le_trans F6.out.1 (by simp [World.alloc])) h))
          replace E3 := Kd.R_mono E3 (ok' := fun k => w.heap.size ≤ k) (fun k hk => hk.1)
          clear hcs0 hcs1 hfs0 hfs1
          generalize w5.setCell ⟨gS, 0, none⟩ (.slice A5 l1.length c5) = w6 at *
          have G6 : Aside0 (w6.heap[gS]? = some (.cells #[.slice A5 l1.length c5, .slice A2 r2.length c2] 41 (0, 0))) := ⟨E1⟩
          have hne6 : some w6.heap.size ≠ (Value.slice A2 r2.length c2).ownBlock := fun e => absurd (Kd.R_lt E3 _ e.symm) (by omega)
          have HNE6 := Aside0.mk hne6
          have HNV := Aside0.mk (Kd.R_away (Kd.R_types E3 E1 (by decide)) (fun k hk => hk.2))
          have E2a := Aside0.mk (Kd.R_apartR E2 E3 (by decide))
          have R6 := Aside0.mk E2
          have V6 := Aside0.mk E3
          have B6 := Aside0.mk E5
          have K6 := Aside0.mk E6
          have hS6 := blk_lt E1
          have hS62 : ¬ gS = w6.heap.size := by omega
          clear hne6 E1 E2 E3 E5 E6
          have hcs0 : w6.cell? ⟨gS, 0, none⟩ = some (.slice A5 l1.length c5) := (blk_cell G6.out 0).trans rfl
          have hcs1 : w6.cell? ⟨gS, 1, none⟩ = some (.slice A2 r2.length c2) := (blk_cell G6.out 1).trans rfl
          obtain ⟨v1, hv1⟩ : ∃ v1, v1 = r2.take j ++ [x] ++ r2.drop j := ⟨_, rfl⟩
          have NV1 := Aside0.mk hv1
          clear hv1
          obtain ⟨y1, hy1⟩ : ∃ y1, y1 = IntKind.i64.wrap (y + 1) := ⟨_, rfl⟩
          have hw := hy1.symm
          have HY1 := Aside0.mk (show y1 = ((j + 1 : Nat) : Int) by rw [hy1, IntKind.wrap_i64]; have := HY.out; have := HG.out; omega)
          clear hy1
          have HLL := Aside0.mk (show l1.length = v1.length by rw [NL1.out, NV1.out, insL_len _ _ _ hle2, insL_len _ _ _ (by have := HL.out; omega)]; have := HL.out; omega)
          have HLB := Aside0.mk (show l1.length < 1000000000000 by rw [NL1.out, insL_len _ _ _ hle2]; have := HG.out; omega)
          have HLG := Aside0.mk (glueL_len 0 l1 v1 (j + 1) HLL.out)
          go_wp2_with (first
            | (go_at_call 58; refine (api_int_58.callsI _ r2 x j w6.heap.size (fun k => w.heap.size ≤ k) w0 _ y HY.out (below_alloc B6.out _) (Kd.R_alloc V6.out _) (by have := HL.out; omega) (by have := HL.out; have := HG.out; omega) (blk_new w6 _) HNE6.out).mono ?_; rintro e w7 ⟨v7, rfl, hr, hb, hk⟩; rw [← NV1.out] at hr; obtain ⟨A7, c7, rfl⟩ := Kd.R_slice hr; have V7 := Aside0.mk (Kd.R_mono hr (ok' := fun k => w.heap.size ≤ k) (fun k hk => hk.elim (fun h => h) (fun h => Nat.le_trans (Nat.le_trans K6.out.1 (below_alloc (Below.refl w6.heap.size w6) _).size) h))); have B7 := Aside0.mk hb; have K7 := Aside0.mk ((K6.out.alloc _).then_ hk (fun k hk => .inl (.inr (V6.out.1 k hk.symm)))); have G7 := Aside0.mk (blk_kept (blk_alloc G6.out _) hk HNV.out); have R7 := Aside0.mk (Kd.R_mono (Kd.R_kept (Kd.R_alloc E2a.out _) hk (fun k hk => hk.2)) (ok' := fun k => w.heap.size ≤ k) (fun k h => h.1)); clear hr hb hk hcs0 hcs1; have hcs0 : w7.cell? ⟨gS, 0, none⟩ = some (.slice A5 l1.length c5) := (blk_cell G7.out 0).trans rfl; have hcs1 : w7.cell? ⟨gS, 1, none⟩ = some (.slice A2 r2.length c2) := (blk_cell G7.out 1).trans rfl; have hfs0 := blk_frozen G7.out 0; have hfs1 := blk_frozen G7.out 1)
            | (go_at_call_of 59 (Value.int IntKind.i64 y1); refine (glueI.callsI gS (j + 1) (fun k => w.heap.size ≤ k) l1 v1 w0 _ y1 HY1.out (below_set B7.out HgS) HgS ⟨_, _, blk_put G7.out 1 _ rfl, Kd.R_set R7.out G7.out (by decide) 1 _, Kd.R_set V7.out G7.out (by decide) 1 _⟩ HLL.out HLB.out (by have := HG.out; omega)).mono ?_; rintro e w8 ⟨rfl, hb, hs, hk⟩; have B8 := Aside0.mk hb; have S8 := Aside0.mk hs; have K8 := Aside0.mk ((K7.out.setCell (p := ⟨gS, 1, none⟩) (.inl (.inl rfl)) _).then_ hk (fun k h => .inl h)); clear hb hs hk hcs0 hcs1)
            | (go_at_call_of 59 (Value.int IntKind.i64 y); refine (glueI.callsI gS j (fun k => w.heap.size ≤ k) _ _ w0 _ y HY.out B8.out HgS S8.out HLG.out.1 (Nat.lt_of_le_of_lt HLG.out.2 HLB.out) (by have := HG.out; omega)).mono ?_; rintro e w9 ⟨rfl, hb, hs, hk⟩; have B9 := Aside0.mk hb; have S9 := Aside0.mk hs; have K9 := Aside0.mk (K8.out.then_ hk (fun k h => .inl h)); clear hb hs hk))
          first | go_end0 | ((try simp only [Exit.inBlock, Exit.then]); refine bodyPost_ret (results_none rfl _ _ _) rfl ?_)
          have hput : glueL 0 (glueL 0 l1 v1 (j + 1)).1 (glueL 0 l1 v1 (j + 1)).2 j = putL 0 r1 r2 ⟨a, b⟩ x := by
            rw [NL1.out, NV1.out, HJE.out]; rfl
          have S_ := S9.out
          rw [hput] at S_
          exact ⟨rfl, B9.out, S_, K9.out.1, fun k hk hne => K9.out.2 k hk (fun h => h.elim hne (fun h => absurd hk (by omega)))⟩)
end Go.Proofs.Ytgncbhpmnjfhhaa.S
end
section
namespace Go.Proofs.Ytgncbhpmnjfhhaa.S
open Go.RowKit Go.Proofs.YtgncbhpmnjfhhaaW.PrintWords Go.Proofs.YtgncbhpmnjfhhaaW.PrintLast Go.Proofs.YtgncbhpmnjfhhaaW.PrintMore
set_option linter.unusedVariables false
set_option linter.unusedSimpArgs false
def api_int_61.f (l0 : List Int) : Option (List Int) := if l0.length < 17592186044416 then some l0 else none
set_option maxHeartbeats 1000000 in
set_option maxRecDepth 100000 in
theorem api_int_61.calls (A0 : Option Addr) (c0 : Nat) (l0 : List Int) (r : List Int) (w : World) (hr0 : Kd.C (Kd.int .i64) w A0 l0.length l0) (hc0 : l0.length ≤ c0) (h : api_int_61.f l0 = some r) :
    Calls Try.prog 61 #[.slice A0 l0.length c0] w fun e w' => ∃ v0_ : Value, e = .returned (v0_) ∧ Kd.R (Kd.int .i64) 3 w' w.heap.size (fun _ => True) v0_ r ∧ Below w.heap.size w w' := by
  unfold api_int_61.f at h
  split at h
  · rename_i hlen
    injection h with h
    subst h
    have q22 : ∀ (w : World) (a : Option Addr) (n c n' c' : Nat), (binOp .eql 37 (.slice a n c) (.slice none n' c')).run Try.prog w = .ok (.bool a.isNone) w := fun w a n c n' c' => Lib.run_eql_slice_nil w _ _ a n c n' c' Try.underlying37
    have LM := Aside0.mk hlen
    clear hlen
    have HR0 := Aside0.mk hr0
    have HC0 := Aside0.mk hc0
    clear hr0 hc0
    cases A0 with
    | none =>
      have h0 : l0 = [] := by
        rcases Nat.eq_zero_or_pos l0.length with h | h
        · exact List.eq_nil_of_length_eq_zero h
        · obtain ⟨ad, e, _⟩ := HR0.out.2.2 h
          cases e
      subst h0
      clear LM HR0 HC0
      go_enter Try.func61, Try.ntmps61
      go_wp2
      go_ret
      exact ⟨_, rfl, Kd.R_nil _ _ _ _ _, Below.refl _ _⟩
    | some ad =>
      have HB := Aside0.mk (Below.refl w.heap.size w)
      go_enter Try.func61, Try.ntmps61
      go_wp2_with (first | ((with_reducible refine gate_dst (N := 5) rfl ?_); refine Kd.R_lit (Kd.int .i64) _ 3 ?hg (N := 5) ?hd (xs := ([] : List Int)) (inner := []) (ok := fun _ => True) (okp := fun _ => True) ?hr ?hp (fun _ hk => hk) trivial (Below.refl _ _) (Nat.le_refl _) (by simp) ?_; (case hd => rfl); (case hg => rfl); (case hr => first | (go_simp; done) | (go_simp; rfl)); (case hp => exact (Reps.none _ _)); intro v102 w3 ho4 hb hg_ hnew_; clear hg_ hnew_; have n0_ := Aside0.mk (Kd.R_lower ho4 (below_size (by repeat (first | (with_reducible first | exact HB.out | apply below_alloc | apply pw_below_drewN | apply below_drew1) | exact HB.out)))); have n1_ := Aside0.mk (below_step (by repeat (first | (with_reducible first | exact HB.out | apply below_alloc | apply pw_below_drewN | apply below_drew1) | exact HB.out)) hb); clear HB; have HO103 := n0_; have HB := n1_; clear n0_ n1_; clear hb ho4) | ((with_reducible refine gate_builtin (b := .append) (xs := #[.tmp 5, .tmp 6]) rfl ?_); at_builtin; refine Kd.R_append_rows (Kd.int .i64) (w0 := w) w.heap.size rfl (.tmp 5) (.tmp 6) 37 3 (.int .i64 0) 8 rfl Try.underlying37 info3 rfl (by decide) (by omega) v102 ([] : List Int) l0 _ _ _ (fun _ => True) (fun _ => False) rfl rfl ?aO ?aR (fun _ _ h => h) (fun _ h => h.elim) ?aF ?aB ?aS ?aL ?_; (case aR => repeat (first | exact (Kd.C_below HR0.out HB.out) | (with_reducible refine Kd.C_alloc ?_ _) | (with_reducible refine Kd.C_drewN ?_ _) | (with_reducible refine Kd.C_drew ?_))); (case aB => exact (by repeat (first | (with_reducible first | exact HB.out | apply below_alloc | apply pw_below_drewN | apply below_drew1) | exact HB.out))); (case aF => exact (fun _ _ => trivial)); (case aO => exact (by (with_reducible repeat (first | apply Kd.R_alloc | apply Kd.R_drewN | apply Kd.R_drew)); exact HO103.out)); (case aS => exact (below_size (by repeat (first | (with_reducible first | exact HB.out | apply below_alloc | apply pw_below_drewN | apply below_drew1) | exact HB.out)))); (case aL => have := LM.out; simp only [List.length_nil]; omega); intro v105 w5 ho hb hg hat; have n0_ := Aside0.mk (hb); have n1_ := Aside0.mk (ho); clear HB; clear HO103; have HB := n0_; have HO106 := n1_; clear n0_ n1_; clear ho hb hg hat))
      go_ret
      exact ⟨_, rfl, HO106.out, HB.out⟩
  · cases h
set_option maxHeartbeats 4000000 in
set_option maxRecDepth 100000 in
theorem cloneI.nil (w : World) : Calls Try.prog 37 #[.pointer none] w fun e w' => ∃ gC, e = .returned (.pointer (some ⟨gC, 0, none⟩)) ∧ Below w.heap.size w w' ∧ w.heap.size ≤ gC ∧ StI gC w.heap.size (fun _ => True) w' [] [] := by
  have hu41 := Try.underlying41
  go_enter Try.func37, Try.ntmps37
  go_wp2
  go_ret
  exact ⟨_, rfl, below_alloc (Below.refl _ _) _, Nat.le_refl _, _, _, blk_new _ _, Kd.R_nil _ _ _ _ _, Kd.R_nil _ _ _ _ _⟩
set_option maxHeartbeats 4000000 in
set_option maxRecDepth 100000 in
theorem cloneI.calls (gS base : Nat) (ok : Nat → Prop) (l : List S30) (v : List Int) (w : World) (HS : StI gS base ok w l v) (hl : l.length < 8796093022208) (hv : v.length < 8796093022208) :
    Calls Try.prog 37 #[.pointer (some ⟨gS, 0, none⟩)] w fun e w' => ∃ gC, e = .returned (.pointer (some ⟨gC, 0, none⟩)) ∧ Below w.heap.size w w' ∧ w.heap.size ≤ gC ∧ StI gC w.heap.size (fun _ => True) w' l v := by
  have hu41 := Try.underlying41
  obtain ⟨vl, vv, h1, h2, h3⟩ := HS
  obtain ⟨A, c, rfl⟩ := Kd.R_slice h2
  obtain ⟨A2, c2, rfl⟩ := Kd.R_slice h3
  have H1 := Aside0.mk h1
  have HL := Aside0.mk (Kd.R_reads' h2).2
  have HV := Aside0.mk (Kd.R_reads' h3).2
  have HB := Aside0.mk (Below.refl w.heap.size w)
  have hf47 := Aside0.mk (show api_Span_47.f l = some l from if_pos hl)
  have hf61 := Aside0.mk (show api_int_61.f v = some v from if_pos (by omega))
  have hcz0 : w.cell? ⟨gS, 0, none⟩ = some (.slice A l.length c) := (blk_cell h1 0).trans rfl
  have hcz1 : w.cell? ⟨gS, 1, none⟩ = some (.slice A2 v.length c2) := (blk_cell h1 1).trans rfl
  clear h1 h2 h3 hl hv
  go_enter Try.func37, Try.ntmps37
  go_wp2
  go_region_with (first
    | (go_at_call 47; refine (api_Span_47.calls A c l l _ (Kd.C_below HL.out.2 (by repeat (first | (with_reducible first | exact HB.out | apply below_alloc | apply pw_below_drewN | apply below_drew1 | apply below_drew) | exact HB.out))) HL.out.1 hf47.out).mono ?_; rintro e w5 ⟨v5, rfl, hr, hb⟩; have n0 := Aside0.mk (Kd.R_lower hr (below_size (by repeat (first | (with_reducible first | exact HB.out | apply below_alloc | apply pw_below_drewN | apply below_drew1 | apply below_drew) | exact HB.out)))); obtain ⟨A5, c5, rfl⟩ := Kd.R_slice hr; have R5 := n0; have n1 := Aside0.mk (below_step (by repeat (first | (with_reducible first | exact HB.out | apply below_alloc | apply pw_below_drewN | apply below_drew1 | apply below_drew) | exact HB.out)) hb); (try (have n2 := Aside0.mk (Kd.R_below R6.out hb); clear R6; have R6 := n2; clear n2)); have n3 := Aside0.mk (blk_below H1.out n1.out); clear HB hcz0 hcz1; have HB := n1; have hcz0 : w5.cell? ⟨gS, 0, none⟩ = some (.slice A l.length c) := (blk_cell n3.out 0).trans rfl; have hcz1 : w5.cell? ⟨gS, 1, none⟩ = some (.slice A2 v.length c2) := (blk_cell n3.out 1).trans rfl; clear n0 n1 n3 hr hb)
    | (go_at_call 61; refine (api_int_61.calls A2 c2 v v _ (Kd.C_below HV.out.2 (by repeat (first | (with_reducible first | exact HB.out | apply below_alloc | apply pw_below_drewN | apply below_drew1 | apply below_drew) | exact HB.out))) HV.out.1 hf61.out).mono ?_; rintro e w6 ⟨v6, rfl, hr, hb⟩; have n0 := Aside0.mk (Kd.R_lower hr (below_size (by repeat (first | (with_reducible first | exact HB.out | apply below_alloc | apply pw_below_drewN | apply below_drew1 | apply below_drew) | exact HB.out)))); obtain ⟨A6, c6, rfl⟩ := Kd.R_slice hr; have R6 := n0; have n1 := Aside0.mk (below_step (by repeat (first | (with_reducible first | exact HB.out | apply below_alloc | apply pw_below_drewN | apply below_drew1 | apply below_drew) | exact HB.out)) hb); (try (have n2 := Aside0.mk (Kd.R_below R5.out hb); clear R5; have R5 := n2; clear n2)); have n3 := Aside0.mk (blk_below H1.out n1.out); clear HB hcz0 hcz1; have HB := n1; have hcz0 : w6.cell? ⟨gS, 0, none⟩ = some (.slice A l.length c) := (blk_cell n3.out 0).trans rfl; have hcz1 : w6.cell? ⟨gS, 1, none⟩ = some (.slice A2 v.length c2) := (blk_cell n3.out 1).trans rfl; clear n0 n1 n3 hr hb))
  all_goals (
    go_wp2
    go_ret
    exact ⟨_, rfl, below_alloc HB.out _, HB.out.size, _, _, blk_new _ _, Kd.R_alloc R5.out _, Kd.R_alloc R6.out _⟩)
end Go.Proofs.Ytgncbhpmnjfhhaa.S
end
section
namespace Go.Proofs.Ytgncbhpmnjfhhaa.S
open Go.RowKit Go.Proofs.YtgncbhpmnjfhhaaW.PrintWords Go.Proofs.YtgncbhpmnjfhhaaW.PrintLast Go.Proofs.YtgncbhpmnjfhhaaW.PrintMore
set_option linter.unusedVariables false
set_option linter.unusedSimpArgs false
attribute [local go_sem] Oper.semAt_some
def KpO (Own : World → Nat → Prop) (W W' : World) : Prop :=
  W.heap.size ≤ W'.heap.size ∧ (∀ k, k < W.heap.size → Own W' k → Own W k) ∧ ∀ k cs t fr, W.heap[k]? = some (.cells cs t fr) → ¬ Own W k → W'.heap[k]? = some (.cells cs t fr)
theorem KpO.refl (Own : World → Nat → Prop) (W : World) : KpO Own W W := ⟨Nat.le_refl _, fun _ _ h => h, fun _ _ _ _ h _ => h⟩
theorem KpO.trans {Own : World → Nat → Prop} {A B C : World} (h : KpO Own A B) (k : KpO Own B C) : KpO Own A C :=
  ⟨Nat.le_trans h.1 k.1, fun i hi ho => h.2.1 i hi (k.2.1 i (Nat.lt_of_lt_of_le hi h.1) ho), fun i cs t fr hc ho => k.2.2 i cs t fr (h.2.2 i cs t fr hc ho) (fun hb => ho (h.2.1 i (blk_lt hc) hb))⟩
theorem KpO.row {α : Type} {d : Kd α} {e base : Nat} {Own : World → Nat → Prop} {W W' : World} {ok : Nat → Prop} {v : Value} {xs : List α} (h : d.R e W base ok v xs) (hk : KpO Own W W') (ho : ∀ k, base ≤ k → ¬ Own W k) : d.R e W' base ok v xs := by
  refine Kd.R_mono (Kd.R_move (Kd.R_bound h) (fun k hb => ?_)) (fun k hb => hb.1)
  obtain ⟨_, h5, _, q, _, cs, hc⟩ := hb
  rw [hk.2.2 _ _ _ _ hc (ho _ h5), hc]
theorem KpO.of_below {Own : World → Nat → Prop} {A B : World} (h : Below A.heap.size A B) (ho : ∀ k, k < A.heap.size → Own B k → Own A k) : KpO Own A B :=
  ⟨h.size, ho, fun k cs t fr hc _ => (h.block k (blk_lt hc)).trans hc⟩
theorem zip_snoc (l : List S30) (v : List Int) (k : Nat) (h1 : k < l.length) (h2 : k < v.length) (x : Int) (hx : x = (k : Int)) : (l.zip v).take k ++ [(rd_T30 l x, rd v x)] = (l.zip v).take (k + 1) := by
  have hk : k < (l.zip v).length := by rw [List.length_zip]; omega
  rw [List.take_succ_eq_append_getElem hk, List.getElem_zip]
  have : x.toNat = k := by omega
  simp only [rd_T30, rd, this, List.getD_eq_getElem?_getD, List.getElem?_eq_getElem h1, List.getElem?_eq_getElem h2, Option.getD_some]
theorem grown_of_below {w w' : World} (h : Below w.heap.size w w') (row : Option Nat) : w.grownBy w' row := by
  exact ⟨h.os, h.tape, h.output, h.size, fun k hk _ => h.block k hk⟩
set_option maxHeartbeats 4000000 in
set_option maxRecDepth 100000 in
theorem eachI.calls (p : Option Addr) (w : World) : Calls Try.prog 35 #[.pointer p] w fun e w' => e = .returned (.func (.func 60) #[] #[.pointer (some ⟨w.heap.size, 0, none⟩)]) ∧ w' = w.alloc (.cells #[.pointer p] 61) := by
  go_enter Try.func35, Try.ntmps35
  go_wp2
  go_ret
  exact ⟨rfl, rfl⟩
set_option maxHeartbeats 4000000 in
set_option maxRecDepth 100000 in
theorem eachI.walk (n : Nat) (hn : 1 ≤ n) (y Bs : Nat) (p : Option Addr) (l : List S30) (v : List Int) (Own : World → Nat → Prop) (J Jx : List (S30 × Int) → World → Prop)
    (hY : ∀ pre x W1, J pre W1 → pre.length < (l.zip v).length → YieldAt Fence.wide (n - 1) Try.prog y #[.agg #[.int .i64 x.1.f0, .int .i64 x.1.f1], .int .i64 x.2] W1 fun e W' =>
      (e = .returned (.bool true) ∧ J (pre ++ [x]) W' ∧ KpO Own W1 W') ∨ (e = .returned (.bool false) ∧ Jx (pre ++ [x]) W'))
    (W : World) (hBs : W.cell? ⟨Bs, 0, none⟩ = some (.pointer p))
    (hC : Calls Try.prog 37 #[.pointer p] W fun e w' => ∃ gC, e = .returned (.pointer (some ⟨gC, 0, none⟩)) ∧ Below W.heap.size W w' ∧ W.heap.size ≤ gC ∧ StI gC W.heap.size (fun _ => True) w' l v)
    (hOwn : ∀ W2, Below W.heap.size W W2 → ∀ k, Own W2 k → k < W.heap.size) (hOwnB : ∀ A B, W.heap.size ≤ A.heap.size → Below A.heap.size A B → ∀ k, k < A.heap.size → Own B k → Own A k) (hlv : l.length = v.length) (hl : l.length < 1000000000000) (hJ : AbidesFrom W.heap.size J) (h0 : J [] W) :
    CallsIn Fence.wide n Try.prog 60 #[.func (.yield y) #[] #[], .pointer (some ⟨Bs, 0, none⟩)] W fun e W' => (∃ v, e = .returned v) ∧ ((∃ ys, ys = l.zip v ∧ J ys W') ∨ (∃ pre, pre <+: l.zip v ∧ Jx pre W')) := by
  have hu30 := Try.underlying30
  have hu41 := Try.underlying41
  refine callsIn_of_wp Try.func60 rfl trivial ?_ rfl
  simp only [Try.ntmps60, List.size_toArray, List.length_cons, List.length_nil, Nat.reduceAdd, Nat.reduceSub, Array.replicate_succ, Array.replicate_zero, List.push_toArray, List.append_toArray, List.nil_append, List.cons_append]
  have HL := Aside0.mk hlv
  have HLL := Aside0.mk hl
  have hzl := Aside0.mk (show (l.zip v).length = l.length by rw [List.length_zip]; omega)
  clear hlv hl
  gi_wp2_with (refine ⟨trivial, ?_⟩; gi_at_call 37; refine (callsIn_wide.2 hC).mono ?_; rintro e wc ⟨gC, rfl, hb, hg, hs⟩; obtain ⟨vl, vv, d1, d2, d3⟩ := hs; obtain ⟨A, c, rfl⟩ := Kd.R_slice d2; obtain ⟨A2, c2, rfl⟩ := Kd.R_slice d3; have hcz0 : wc.cell? ⟨gC, 0, none⟩ = some (.slice A l.length c) := (blk_cell d1 0).trans rfl)
  have HKC := Aside0.mk hb
  have hJc : J [] wc := hJ [] W wc none h0 (grown_of_below hb none) (fun r e => by cases e)
  have D1 := Aside0.mk d1
  have D2 := Aside0.mk d2
  have D3 := Aside0.mk d3
  clear d1 d2 d3 hcz0
  gi_loopw [13] (fun i wr => ∃ k : Nat, k ≤ l.length ∧ i = .int .i64 (k : Int) ∧ J ((l.zip v).take k) wr ∧ KpO Own wc wr ∧ W.heap.size ≤ wr.heap.size)
    (fun i _ => l.length - (intOf i).toNat)
  case atStart => exact ⟨0, Nat.zero_le _, rfl, hJc, KpO.refl _ _, hb.size⟩
  case round =>
    obtain ⟨k, hk, rfl, hJs, hKs, hsz⟩ := hrel
    have hno : ∀ k, W.heap.size ≤ k → ¬ Own wc k := fun k hk ho => absurd (hOwn wc HKC.out k ho) (by omega)
    have e1 := hKs.2.2 _ _ _ _ D1.out (hno _ hg)
    have e2 := KpO.row D2.out hKs hno
    have e3 := KpO.row D3.out hKs hno
    have HK := Aside0.mk hk
    have HKs := Aside0.mk hKs
    obtain ⟨x, hx⟩ : ∃ x : Int, x = (k : Int) := ⟨_, rfl⟩
    rw [← hx]
    by_cases hlt : k < l.length
    · have p0 : 0 ≤ x := by omega
      have q0 : x < (l.length : Int) := by omega
      have q1 : x < (v.length : Int) := by have := HL.out; omega
      obtain ⟨ad, e4, hx0, hx1⟩ := at_T30 (Kd.R_reads' e2).2.2 x p0 q0
      obtain ⟨bd, e5, hz0⟩ := Kd.at_int (Kd.R_reads' e3).2.2 x p0 q1
      cases e4; cases e5
      have c1 : decide (x < (l.length : Int)) = true := decide_eq_true q0
      obtain ⟨hgC⟩ : Aside0 (gC < wr.heap.size) := ⟨blk_lt e1⟩
      have hcz0 : wr.cell? ⟨gC, 0, none⟩ = some (.slice (some ad) l.length c) := (blk_cell e1 0).trans rfl
      have hcz1 : wr.cell? ⟨gC, 1, none⟩ = some (.slice (some bd) v.length c2) := (blk_cell e1 1).trans rfl
      have HXA := Aside0.mk hx
      have E1 := Aside0.mk e1
      have E2 := Aside0.mk e2
      have E3 := Aside0.mk e3
      have hbd := Aside0.mk (World.block_lt_of_cell? wr _ hz0)
      clear hx e1 e2 e3 hk hKs
      have hJ1 := hJ _ wr ((wr.alloc (.cells #[.int .i64 (rd_T30 l x).f0, .int .i64 (rd_T30 l x).f1] 30)).drew) none hJs (grown_of_below (below_drew (below_alloc (Below.refl _ _) _)) none) (fun r e => by cases e)
      obtain ⟨fn, tmps, assign, body, hy, hRd⟩ := hY _ (rd_T30 l x, rd v x) _ hJ1 (by rw [List.length_take, hzl.out]; omega)
      dsimp only at hy
      have hz1 : (wr.alloc (.cells #[.int .i64 (rd_T30 l x).f0, .int .i64 (rd_T30 l x).f1] 30)).cell? (bd.add x.toNat) = some (.int .i64 (rd v x)) := ((below_alloc (Below.refl wr.heap.size wr) _).cell hbd.out).trans hz0
      have hR2 := hRd.mono (R' := fun e W' => ∃ b : Bool, e = .returned (.bool b) ∧ ((b = true ∧ J ((l.zip v).take k ++ [(rd_T30 l x, rd v x)]) W' ∧ KpO Own _ W') ∨ (b = false ∧ Jx ((l.zip v).take k ++ [(rd_T30 l x, rd v x)]) W'))) (fun e W' h => by
        rcases h with ⟨rfl, h1, h2⟩ | ⟨rfl, h1⟩
        · exact ⟨true, rfl, .inl ⟨rfl, h1, h2⟩⟩
        · exact ⟨false, rfl, .inr ⟨rfl, h1⟩⟩)
      have mixed : Try.prog.follows .mixedOrders = true := by kernel_rfl
      clear hRd
      have hBA0 : Below wr.heap.size wr ((wr.alloc (.cells #[.int .i64 (rd_T30 l x).f0, .int .i64 (rd_T30 l x).f1] 30)).drew) := below_drew (below_alloc (Below.refl _ _) _)
      have hBA := Aside0.mk hBA0
      clear hBA0
      have hzs := zip_snoc l v k hlt (by have := HL.out; omega) x HXA.out
      have hw : IntKind.i64.wrap (x + 1) = ((k + 1 : Nat) : Int) := by have := HXA.out; have := HLL.out; rw [IntKind.wrap_i64]; omega
      gi_wp2
      gi_region_with_o (refine hR2.mono ?_; rintro e W3 ⟨b, rfl, hr⟩)
      all_goals (
        rw [hzs] at hr
        rcases hr with ⟨rfl, hJ3, hk3⟩ | ⟨rfl, hJx3⟩
        · have hkp := HKs.out.trans ((KpO.of_below hBA.out (hOwnB wr _ hsz hBA.out)).trans hk3)
          have hsz3 : W.heap.size ≤ W3.heap.size := Nat.le_trans hsz (Nat.le_trans hBA.out.size hk3.1)
          clear hY hR2 hJ1 hy
          gi_wp2
          go_roundw
          case rel => exact ⟨k + 1, by omega, by simp [hw], hJ3, hkp, hsz3⟩
          case measure => have := HXA.out; simp [intOf]; omega
        · gi_wp2
          refine bodyPost_ret (results_none rfl _ _ _) rfl ?_
          exact ⟨⟨_, rfl⟩, .inr ⟨_, List.take_prefix _ _, hJx3⟩⟩)
    · have hkl : k = l.length := by have := HK.out; omega
      have c1 : decide (x < (l.length : Int)) = false := decide_eq_false (by omega)
      clear hx e1 e2 e3 hk hKs
      gi_wp2
      go_end0
      exact ⟨⟨_, rfl⟩, .inl ⟨_, by rw [hkl, ← hzl.out, List.take_length], hJs⟩⟩
end Go.Proofs.Ytgncbhpmnjfhhaa.S
end
section
namespace Go.Proofs.Ytgncbhpmnjfhhaa.S
open Go.RowKit Go.Shelf Go.Proofs.YtgncbhpmnjfhhaaW.PrintWords Go.Proofs.YtgncbhpmnjfhhaaW.PrintLast Go.Proofs.YtgncbhpmnjfhhaaW.PrintMore
set_option linter.unusedVariables false
set_option linter.unusedSimpArgs false
attribute [local go_sem] Oper.semAt_some
theorem newCell (W : World) (v : Value) (t : TypeId) : (W.alloc (.cells #[v] t)).cell? ⟨W.heap.size, 0, none⟩ = some v ∧ (W.alloc (.cells #[v] t)).frozen? ⟨W.heap.size, 0, none⟩ = false :=
  ⟨(blk_cell (blk_new W (.cells #[v] t)) 0).trans rfl, blk_frozen (blk_new W (.cells #[v] t)) 0⟩
theorem allocCell {W : World} {a : Addr} {v : Value} (o : Obj) (h : W.cell? a = some v) : (W.alloc o).cell? a = some v := cell_kept h (World.grownBy_alloc W o none) (fun r e => by cases e)
theorem allocFrozen {W : World} {a : Addr} {v : Value} (o : Obj) (h : W.cell? a = some v) (hf : W.frozen? a = false) : (W.alloc o).frozen? a = false := (frozen_kept h (World.grownBy_alloc W o none) (fun r e => by cases e)).trans hf
def encE (x : S30 × Int) : Array Value := #[.agg #[.int .i64 x.1.f0, .int .i64 x.1.f1], .int .i64 x.2]
def OptI (p : Option Addr) (w : World) (l : List S30) (v : List Int) : Prop :=
  (p = none ∧ l = [] ∧ v = []) ∨ ∃ gS base ok, p = some ⟨gS, 0, none⟩ ∧ StI gS base ok w l v
theorem OptI.below {p : Option Addr} {w w' : World} {l : List S30} {v : List Int} (h : OptI p w l v) (hb : Below w.heap.size w w') : OptI p w' l v := by
  rcases h with h | ⟨gS, base, ok, rfl, h⟩
  · exact .inl h
  · exact .inr ⟨gS, base, ok, rfl, h.kept (Kept.of_below hb (fun _ => False)) (fun _ _ h => h) (fun h => h)⟩
theorem OptI.clone {p : Option Addr} {w : World} {l : List S30} {v : List Int} (h : OptI p w l v) (hl : l.length < 1000000000000) (hlv : l.length = v.length) :
    Calls Try.prog 37 #[.pointer p] w fun e w' => ∃ gC, e = .returned (.pointer (some ⟨gC, 0, none⟩)) ∧ Below w.heap.size w w' ∧ w.heap.size ≤ gC ∧ StI gC w.heap.size (fun _ => True) w' l v := by
  rcases h with ⟨rfl, rfl, rfl⟩ | ⟨gS, base, ok, rfl, h⟩
  · exact cloneI.nil w
  · exact cloneI.calls gS base ok l v w h (by omega) (by omega)
theorem eachI.stops (n : Nat) (hn : 1 ≤ n) (Bs : Nat) (p : Option Addr) (l : List S30) (v : List Int) (Own : World → Nat → Prop) (w : World) (hBs : w.cell? ⟨Bs, 0, none⟩ = some (.pointer p)) (hS : OptI p w l v)
    (hOwn : ∀ W2, Below w.heap.size w W2 → ∀ k, Own W2 k → k < w.heap.size)
    (hOwnB : ∀ A B, w.heap.size ≤ A.heap.size → Below A.heap.size A B → ∀ k, k < A.heap.size → Own B k → Own A k) (hlv : l.length = v.length) (hl : l.length < 1000000000000) :
    SeqStopsK Fence.wide n Try.prog 60 #[.pointer (some ⟨Bs, 0, none⟩)] encE (KpO Own) (fun xs => xs = l.zip v) (fun pre => pre <+: l.zip v) (l.zip v).length w := fun y J Jx W hW hJ _ hY h0 =>
  eachI.walk n hn y Bs p l v Own J Jx hY W ((hW.cell (World.block_lt_of_cell? w _ hBs)).trans hBs) ((hS.below hW).clone hl hlv)
    (fun W2 hb k hk => Nat.lt_of_lt_of_le (hOwn W2 (hW.trans (hb.mono hW.size)) k hk) hW.size) (fun A B hA => hOwnB A B (Nat.le_trans hW.size hA)) hlv hl hJ h0
theorem KpO.putObj {Own : World → Nat → Prop} (ho : ∀ W l o k, Own (W.putObj l o) k → Own W k) (W : World) (l : Nat) (o o' : Obj) (h : W.heap[l]? = some o) (hc : o.isCells = false) : KpO Own W (W.putObj l o') := by
  refine ⟨by simp, fun k _ hk => ho W l o' k hk, fun k cs t fr hk _ => ?_⟩
  rw [World.putObj_heap_other]
  · exact hk
  · rintro rfl
    rw [h] at hk
    injection hk with hk
    rw [hk] at hc
    cases hc
set_option maxHeartbeats 4000000 in
set_option maxRecDepth 100000 in
theorem lenI.calls (p : Option Addr) (l : List S30) (v : List Int) (w : World) (hS : OptI p w l v) (hlv : l.length = v.length) (hl : l.length < 1000000000000) :
    Calls Try.prog 36 #[.pointer p] w fun e W' => e = .returned (.int .i64 (l.length : Int)) ∧ Below w.heap.size w W' := by
  have HS := Aside0.mk hS
  have HL := Aside0.mk hlv
  have HLL := Aside0.mk hl
  have hzl := Aside0.mk (show (l.zip v).length = l.length by rw [List.length_zip]; omega)
  clear hS hlv hl
  refine (callsIn_wide (n := 3)).1 ?_
  refine callsIn_of_wp_marks Try.func36 rfl trivial ?_ rfl
  simp only [Try.ntmps36, List.size_toArray, List.length_cons, List.length_nil, Nat.reduceAdd, Nat.reduceSub, Array.replicate_succ, Array.replicate_zero, List.push_toArray, List.append_toArray, List.nil_append, List.cons_append]
  gi_wp2_with (refine ⟨trivial, ?_⟩; gi_at_call 35; refine (callsIn_wide.2 (eachI.calls p _)).mono ?_; rintro e w' ⟨rfl, rfl⟩)
  have c0 := newCell w (.int .i64 0) 3
  have c1 := newCell (w.alloc (.cells #[.int .i64 0] 3)) (.pointer p) 61
  rw [World.size_alloc] at c1
  have hB0 : Below w.heap.size w ((w.alloc (.cells #[.int .i64 0] 3)).alloc (.cells #[.pointer p] 61)) := ((Below.refl _ w).alloc (Nat.le_refl _) _).alloc (by simp) _
  refine wpIn_rangeFunc_ownF rfl (by omega) (gf := 60) (lb := #[.pointer (some ⟨w.heap.size + 1, 0, none⟩)]) rfl trivial (enters_of Try.func60 (by kernel_rfl) rfl)
    (eachI.stops 2 (by omega) (w.heap.size + 1) p l v (fun _ k => k = w.heap.size) _ c1.1 (HS.out.below hB0) (fun W2 hb k hk => by rw [hk]; simp; omega) (fun _ _ _ _ _ _ h => h) HL.out HLL.out) KpO.trans (fun W y o o' _ h hc _ => KpO.putObj (fun _ _ _ _ h => h) W y o o' h hc) (Below.refl _ _) (fun _ => rfl)
    (fun pre W => (W.cell? ⟨w.heap.size, 0, none⟩ = some (.int .i64 (pre.length : Int)) ∧ W.frozen? ⟨w.heap.size, 0, none⟩ = false) ∧ Below w.heap.size w W)
    (fun _ _ _ => False)
    (OwnFrom.and (Own.from (fun s A B row hs hg hr => ⟨cell_kept hs.1 hg hr, (frozen_kept hs.1 hg hr).trans hs.2⟩) _) (ownFrom_below (Nat.le_refl _) (by simp; omega)))
    (fun _ _ _ _ _ hs _ _ => hs)
    ⟨⟨allocCell _ c0.1, allocFrozen _ c0.1 c0.2⟩, hB0⟩
    (fun x => { tmps := #[.pointer p, undef, .int .i64 0, .pointer (some ⟨w.heap.size, 0, none⟩), .pointer p, .func (.func 60) #[] #[.pointer (some ⟨w.heap.size + 1, 0, none⟩)], .agg #[.int .i64 x.1.f0, .int .i64 x.1.f1], .int .i64 x.2, undef, undef, undef], defers := [] }) ?assign ?body ?done ?stop
  case assign =>
    intro y x W K hK
    unfold encE
    gi_wp2
    simp
    exact hK
  case body =>
    rintro y pre x W ⟨⟨hc, hf⟩, hB⟩ hlen
    have hw : IntKind.i64.wrap ((pre.length : Int) + 1) = ((pre.length + 1 : Nat) : Int) := by have := hzl.out; have := HLL.out; rw [IntKind.wrap_i64]; omega
    gi_wp2
    refine ⟨KeepsOthers.setCell _ _ _, ?_, ⟨?_, ?_⟩, ?_⟩
    · exact ⟨by simp [World.setCell], fun _ _ h => h, fun k cs t fr h hk => (Below.heap_setCell W ⟨w.heap.size, 0, none⟩ _ k hk).trans h⟩
    · rw [List.length_append]
      have := World.cell?_setCell_same' W ⟨w.heap.size, 0, none⟩ (.int .i64 ((pre.length + 1 : Nat) : Int)) (by rw [hc]; rfl)
      simpa using this
    · rw [World.frozen?_setCell]; exact hf
    · exact hB.setCell (p := ⟨w.heap.size, 0, none⟩) (Nat.le_refl _) _
  case done =>
    rintro D ys W hD rfl ⟨⟨hc, _⟩, hB⟩ hK
    rw [hzl.out] at hc
    gi_wp2
    refine ⟨by simp, .inl ⟨_, _, rfl, run_takeDeferred hK, ?_⟩⟩
    exact ⟨_, results_tmp rfl _ _ _, rfl, hB.trans (belowK_b (w := w) (Nat.le_refl _) W D _ _ (by simp at hD; omega) hK rfl rfl)⟩
  case stop =>
    rintro D c pre W _ _ h _
    exact h.elim
end Go.Proofs.Ytgncbhpmnjfhhaa.S
end
section
namespace Go.Proofs.Ytgncbhpmnjfhhaa.S
open Go.RowKit Go.Proofs.YtgncbhpmnjfhhaaW.PrintWords Go.Proofs.YtgncbhpmnjfhhaaW.PrintLast Go.Proofs.YtgncbhpmnjfhhaaW.PrintMore
attribute [local go_sem] max2_int min2_int max_two min_two max_three min_three max_four min_four
set_option linter.unusedVariables false
set_option linter.unusedSimpArgs false
attribute [local go_sem high] eqA30
def lamellaref02_Same.l0 : Nat → List (S30) → List (S30) → Int → Int → Option (Bool)
  | 0, _, _, _, _ => none
  | k + 1, x0, x1, x12, x13 => if x13 < x12 then (if 0 ≤ x13 then (if x13 < (x0.length : Int) then (if x13 < (x1.length : Int) then (if (!(((rd_T30 x0 x13).f0) == ((rd_T30 x1 x13).f0)) || (!(((rd_T30 x0 x13).f1) == ((rd_T30 x1 x13).f1)))) = true then (some false) else (lamellaref02_Same.l0 k x0 x1 x12 (wrap64 (x13 + 1)))) else (none)) else (none)) else (none)) else (some true)
def lamellaref02_Same.f (k : Nat) (l0 : List (S30)) (l1 : List (S30)) : Option (Bool) := if (l0.length : Int) = (l1.length : Int) then (lamellaref02_Same.l0 k l0 l1 (l0.length : Int) 0) else (some false)
theorem lamellaref02_Same.mono_l : ∀ k, (∀ y0 y1 y2 y3, LeO (lamellaref02_Same.l0 k y0 y1 y2 y3) (lamellaref02_Same.l0 (k + 1) y0 y1 y2 y3))
  | 0 => fun _ _ _ _ r h => by simp [lamellaref02_Same.l0] at h
  | k + 1 => by
    have ih0 := lamellaref02_Same.mono_l k
    · intro y0 y1 y2 y3
      unfold lamellaref02_Same.l0
      repeat' first
      | (with_reducible exact ih0 _ _ _ _)
      | (with_reducible exact LeO.refl _)
      | (with_reducible exact LeO.none _)
      | (with_reducible refine LeO.ite ?_ ?_)
      | (with_reducible refine LeO.bind ?_ (fun _ => ?_))
      | exact ih0 _ _ _ _
      | exact LeO.none _
      | refine LeO.ite ?_ ?_
      | refine LeO.bind ?_ (fun _ => ?_)
theorem lamellaref02_Same.mono : ∀ a0 a1 k, LeO (lamellaref02_Same.f k a0 a1) (lamellaref02_Same.f (k + 1) a0 a1) := by
  intro a0 a1 k
  have ih0 := lamellaref02_Same.mono_l k
  unfold lamellaref02_Same.f
  repeat' first
      | (with_reducible exact ih0 _ _ _ _)
      | (with_reducible exact LeO.refl _)
      | (with_reducible exact LeO.none _)
      | (with_reducible refine LeO.ite ?_ ?_)
      | (with_reducible refine LeO.bind ?_ (fun _ => ?_))
      | exact ih0 _ _ _ _
      | exact LeO.none _
      | refine LeO.ite ?_ ?_
      | refine LeO.bind ?_ (fun _ => ?_)
set_option maxHeartbeats 8000000 in
set_option maxRecDepth 100000 in
theorem lamellaref02_Same.calls (k : Nat) (A0 : Option Addr) (c0 : Nat) (l0 : List (S30)) (A1 : Option Addr) (c1 : Nat) (l1 : List (S30)) (r : Bool) (w : World) (hr0 : Kd.C k30 w A0 l0.length l0) (hc0 : l0.length ≤ c0) (hr1 : Kd.C k30 w A1 l1.length l1) (hc1 : l1.length ≤ c1) (h : lamellaref02_Same.f k l0 l1 = some r) :
    Calls Try.prog 19 #[.slice A0 l0.length c0, .slice A1 l1.length c1] w fun e w' => e = .returned (.bool r) ∧ Drawn0 w w' := by
  have hu30 := Try.underlying30
  have HR0 := Aside0.mk hr0
  have HC0 := Aside0.mk hc0
  clear hr0 hc0
  have HR1 := Aside0.mk hr1
  have HC1 := Aside0.mk hc1
  clear hr1 hc1
  have H : (if (l0.length : Int) = (l1.length : Int) then (lamellaref02_Same.l0 k l0 l1 (l0.length : Int) 0) else (some false)) = some r := h
  clear h
  by_cases c3 : (l0.length : Int) = (l1.length : Int)
  · rw [if_pos c3] at H
    have c3b0 : ((l0.length : Int) == (l1.length : Int)) = true := beq_iff_eq.mpr c3
    have c3b1 : ((l0.length : Int) != (l1.length : Int)) = false := bne_eq_false_iff_eq.mpr c3
    have c3b2 : (l0.length == l1.length) = true := by first | simpa using c3 | (simp at c3 ⊢; omega)
    clear c3
    have H' := Aside0.mk H
    clear H
    go_enter Try.func19, Try.ntmps19
    go_wp2
    repeat (go_quiet (fail); try go_wp2)
    go_loopg [13] k (fun kq v13 w' => ∃ (x13_1 : Int), v13 = .int .i64 x13_1 ∧ Aside0 (lamellaref02_Same.l0 kq l0 l1 (l0.length : Int) x13_1 = some r) ∧ Aside0 (kq ≤ k) ∧ Drawn0 w w')
    case atStart => exact ⟨(0), (by first | rfl | (simp; done) | (simp [*]; done)), H', ⟨Nat.le_refl _⟩, by repeat (first | exact Drawn0.refl _ | apply Drawn0.step)⟩
    case round =>
      clear H'
      try clear c1
      try clear p2
      try clear c3
      try clear c3b0
      try clear c3b1
      try clear c3b2
      obtain ⟨x13_1, rfl, HA, HK1, ⟨m1, rfl⟩⟩ := hrel
      cases gk with
      | zero => exact absurd HA.out (by simp [lamellaref02_Same.l0])
      | succ k1 =>
        have H := HA.out
        clear HA
        simp only [lamellaref02_Same.l0] at H
        by_cases c4 : x13_1 < (l0.length : Int)
        · rw [if_pos c4] at H
          have c4b0 : decide (x13_1 < (l0.length : Int)) = true := decide_eq_true c4
          clear c4
          by_cases c5 : 0 ≤ x13_1
          · rw [if_pos c5] at H
            have c5b0 : decide (0 ≤ x13_1) = true := decide_eq_true c5
            clear c5
            by_cases c6 : x13_1 < (l0.length : Int)
            · rw [if_pos c6] at H
              have c6b0 : decide (x13_1 < (l0.length : Int)) = true := decide_eq_true c6
              clear c6
              by_cases c7 : x13_1 < (l1.length : Int)
              · rw [if_pos c7] at H
                have c7b0 : decide (x13_1 < (l1.length : Int)) = true := decide_eq_true c7
                clear c7
                by_cases c8 : (!(((rd_T30 l0 x13_1).f0) == ((rd_T30 l1 x13_1).f0)) || (!(((rd_T30 l0 x13_1).f1) == ((rd_T30 l1 x13_1).f1)))) = true
                · rw [if_pos c8] at H
                  have c8b0 : (!(((rd_T30 l0 x13_1).f0) == ((rd_T30 l1 x13_1).f0)) || (!(((rd_T30 l0 x13_1).f1) == ((rd_T30 l1 x13_1).f1)))) = true := c8
                  clear c8
                  obtain rfl := Option.some.inj H
                  have p151 : 0 ≤ (x13_1 : Int) := of_decide_eq_true (by first | (with_reducible assumption) | assumption)
                  have q151 : x13_1 < (l0.length : Int) := of_decide_eq_true (by first | (with_reducible assumption) | assumption)
                  obtain ⟨ad151, e151, hx151_0, hx151_1⟩ := at_T30 HR0.out x13_1 p151 q151
                  cases e151
                  replace p151 := eq_true p151
                  replace q151 := eq_true q151
                  have p152 : 0 ≤ (x13_1 : Int) := of_decide_eq_true (by first | (with_reducible assumption) | assumption)
                  have q152 : x13_1 < (l1.length : Int) := of_decide_eq_true (by first | (with_reducible assumption) | assumption)
                  obtain ⟨ad152, e152, hx152_0, hx152_1⟩ := at_T30 HR1.out x13_1 p152 q152
                  cases e152
                  replace p152 := eq_true p152
                  replace q152 := eq_true q152
                  go_wp2
                  repeat (go_quiet (fail); try go_wp2)
                  go_ret
                  exact ⟨by first | rfl | (simp; done) | (simp [*]; done), by repeat (first | exact Drawn0.refl _ | apply Drawn0.step)⟩
                · rw [if_neg c8] at H
                  have c8b0 : (!(((rd_T30 l0 x13_1).f0) == ((rd_T30 l1 x13_1).f0)) || (!(((rd_T30 l0 x13_1).f1) == ((rd_T30 l1 x13_1).f1)))) = false := by simpa using c8
                  clear c8
                  have H' := Aside0.mk H
                  clear H
                  have p151 : 0 ≤ (x13_1 : Int) := of_decide_eq_true (by first | (with_reducible assumption) | assumption)
                  have q151 : x13_1 < (l0.length : Int) := of_decide_eq_true (by first | (with_reducible assumption) | assumption)
                  obtain ⟨ad151, e151, hx151_0, hx151_1⟩ := at_T30 HR0.out x13_1 p151 q151
                  cases e151
                  replace p151 := eq_true p151
                  replace q151 := eq_true q151
                  have p152 : 0 ≤ (x13_1 : Int) := of_decide_eq_true (by first | (with_reducible assumption) | assumption)
                  have q152 : x13_1 < (l1.length : Int) := of_decide_eq_true (by first | (with_reducible assumption) | assumption)
                  obtain ⟨ad152, e152, hx152_0, hx152_1⟩ := at_T30 HR1.out x13_1 p152 q152
                  cases e152
                  replace p152 := eq_true p152
                  replace q152 := eq_true q152
                  go_wp2
                  repeat (go_quiet (fail); try go_wp2)
                  go_roundg k1
                  case measure => have := HK1.out; omega
                  case rel => exact ⟨(wrap64 (x13_1 + 1)), (by first | rfl | (simp; done) | (simp [*]; done)), H', ⟨by have := HK1.out; omega⟩, by repeat (first | exact Drawn0.refl _ | apply Drawn0.step)⟩
              · rw [if_neg c7] at H
                exact absurd H (by simp)
            · rw [if_neg c6] at H
              exact absurd H (by simp)
          · rw [if_neg c5] at H
            exact absurd H (by simp)
        · rw [if_neg c4] at H
          have c4b0 : decide (x13_1 < (l0.length : Int)) = false := decide_eq_false c4
          clear c4
          obtain rfl := Option.some.inj H
          go_wp2
          repeat (go_quiet (fail); try go_wp2)
          go_ret
          exact ⟨by first | rfl | (simp; done) | (simp [*]; done), by repeat (first | exact Drawn0.refl _ | apply Drawn0.step)⟩
  · rw [if_neg c3] at H
    have c3b0 : ((l0.length : Int) == (l1.length : Int)) = false := beq_eq_false_iff_ne.mpr c3
    have c3b1 : ((l0.length : Int) != (l1.length : Int)) = true := bne_iff_ne.mpr c3
    have c3b2 : (l0.length == l1.length) = false := by first | simpa using c3 | (simp at c3 ⊢; omega)
    obtain rfl := Option.some.inj H
    go_enter Try.func19, Try.ntmps19
    go_wp2
    repeat (go_quiet (fail); try go_wp2)
    go_ret
    exact ⟨by first | rfl | (simp; done) | (simp [*]; done), by repeat (first | exact Drawn0.refl _ | apply Drawn0.step)⟩
def lamellaref02_Has.l0 : Nat → Int → List (S30) → Int → Int → Option (Bool)
  | 0, _, _, _, _ => none
  | k + 1, x1, x7, x8, x9 => if x9 < x8 then (if 0 ≤ x9 then (if x9 < (x7.length : Int) then (if ((rd_T30 x7 x9).f0) ≤ x1 then (if x1 < ((rd_T30 x7 x9).f1) then (some true) else (lamellaref02_Has.l0 k x1 x7 x8 (wrap64 (x9 + 1)))) else (lamellaref02_Has.l0 k x1 x7 x8 (wrap64 (x9 + 1)))) else (none)) else (none)) else (some false)
def lamellaref02_Has.f (k : Nat) (l0 : List (S30)) (a1 : Int) : Option (Bool) := lamellaref02_Has.l0 k a1 l0 (l0.length : Int) 0
theorem lamellaref02_Has.mono_l : ∀ k, (∀ y0 y1 y2 y3, LeO (lamellaref02_Has.l0 k y0 y1 y2 y3) (lamellaref02_Has.l0 (k + 1) y0 y1 y2 y3))
  | 0 => fun _ _ _ _ r h => by simp [lamellaref02_Has.l0] at h
  | k + 1 => by
    have ih0 := lamellaref02_Has.mono_l k
    · intro y0 y1 y2 y3
      unfold lamellaref02_Has.l0
      repeat' first
      | (with_reducible exact ih0 _ _ _ _)
      | (with_reducible exact LeO.refl _)
      | (with_reducible exact LeO.none _)
      | (with_reducible refine LeO.ite ?_ ?_)
      | (with_reducible refine LeO.bind ?_ (fun _ => ?_))
      | exact ih0 _ _ _ _
      | exact LeO.none _
      | refine LeO.ite ?_ ?_
      | refine LeO.bind ?_ (fun _ => ?_)
theorem lamellaref02_Has.mono : ∀ a0 a1 k, LeO (lamellaref02_Has.f k a0 a1) (lamellaref02_Has.f (k + 1) a0 a1) := by
  intro a0 a1 k
  have ih0 := lamellaref02_Has.mono_l k
  unfold lamellaref02_Has.f
  repeat' first
      | (with_reducible exact ih0 _ _ _ _)
      | (with_reducible exact LeO.refl _)
      | (with_reducible exact LeO.none _)
      | (with_reducible refine LeO.ite ?_ ?_)
      | (with_reducible refine LeO.bind ?_ (fun _ => ?_))
      | exact ih0 _ _ _ _
      | exact LeO.none _
      | refine LeO.ite ?_ ?_
      | refine LeO.bind ?_ (fun _ => ?_)
def lamellaref02_in.l0 : Nat → List Int → Int → List Int → Bool → List Int → Int → Int → Option (List Int)
  | 0, _, _, _, _, _, _, _ => none
  | k + 1, x0, x1, x5, x6, x9, x10, x11 => if x11 < x10 then (if 0 ≤ x11 then (if x11 < (x9.length : Int) then (if (rd x9 x11) = x1 then (some x0) else (if (rd x9 x11) > x1 then (if x6 = true then (if x5.length < 17592186044416 then (lamellaref02_in.l0 k x0 x1 (x5 ++ [rd x9 x11]) x6 x9 x10 (wrap64 (x11 + 1))) else (none)) else (if x5.length < 17592186044416 then ((some (x5 ++ [x1] : List Int)).bind fun y162 => (if y162.length < 17592186044416 then (lamellaref02_in.l0 k x0 x1 (y162 ++ [rd x9 x11]) true x9 x10 (wrap64 (x11 + 1))) else (none))) else (none))) else (if x5.length < 17592186044416 then (lamellaref02_in.l0 k x0 x1 (x5 ++ [rd x9 x11]) x6 x9 x10 (wrap64 (x11 + 1))) else (none)))) else (none)) else (none)) else (if x6 = true then (some x5) else (if x5.length < 17592186044416 then (some (x5 ++ [x1])) else (none)))
def lamellaref02_in.f (k : Nat) (l0 : List Int) (a1 : Int) : Option (List Int) := lamellaref02_in.l0 k l0 a1 ([] : List Int) false l0 (l0.length : Int) 0
theorem lamellaref02_in.mono_l : ∀ k, (∀ y0 y1 y2 y3 y4 y5 y6, LeO (lamellaref02_in.l0 k y0 y1 y2 y3 y4 y5 y6) (lamellaref02_in.l0 (k + 1) y0 y1 y2 y3 y4 y5 y6))
  | 0 => fun _ _ _ _ _ _ _ r h => by simp [lamellaref02_in.l0] at h
  | k + 1 => by
    have ih0 := lamellaref02_in.mono_l k
    · intro y0 y1 y2 y3 y4 y5 y6
      unfold lamellaref02_in.l0
      repeat' first
      | (with_reducible exact ih0 _ _ _ _ _ _ _)
      | (with_reducible exact LeO.refl _)
      | (with_reducible exact LeO.none _)
      | (with_reducible refine LeO.ite ?_ ?_)
      | (with_reducible refine LeO.bind ?_ (fun _ => ?_))
      | exact ih0 _ _ _ _ _ _ _
      | exact LeO.none _
      | refine LeO.ite ?_ ?_
      | refine LeO.bind ?_ (fun _ => ?_)
theorem lamellaref02_in.mono : ∀ a0 a1 k, LeO (lamellaref02_in.f k a0 a1) (lamellaref02_in.f (k + 1) a0 a1) := by
  intro a0 a1 k
  have ih0 := lamellaref02_in.mono_l k
  unfold lamellaref02_in.f
  repeat' first
      | (with_reducible exact ih0 _ _ _ _ _ _ _)
      | (with_reducible exact LeO.refl _)
      | (with_reducible exact LeO.none _)
      | (with_reducible refine LeO.ite ?_ ?_)
      | (with_reducible refine LeO.bind ?_ (fun _ => ?_))
      | exact ih0 _ _ _ _ _ _ _
      | exact LeO.none _
      | refine LeO.ite ?_ ?_
      | refine LeO.bind ?_ (fun _ => ?_)
mutual
def lamellaref02_Ends.l0 : Nat → List Int → List (List (S30)) → Int → Int → Option (List Int)
  | 0, _, _, _, _ => none
  | k + 1, x3, x8, x9, x10 => if x10 < x9 then (if 0 ≤ x10 then (if x10 < (x8.length : Int) then (lamellaref02_Ends.l1 k x3 x8 x9 x10 (rd_L2 x8 x10) ((rd_L2 x8 x10).length : Int) 0) else (none)) else (none)) else (some x3)
def lamellaref02_Ends.l1 : Nat → List Int → List (List (S30)) → Int → Int → List (S30) → Int → Int → Option (List Int)
  | 0, _, _, _, _, _, _, _ => none
  | k + 1, x3, x8, x9, x10, x14, x15, x16 => if x16 < x15 then (if 0 ≤ x16 then (if x16 < (x14.length : Int) then (if ((rd_T30 x14 x16).f0) < ((rd_T30 x14 x16).f1) then ((lamellaref02_in.f k x3 ((rd_T30 x14 x16).f0)).bind fun t174 => ((lamellaref02_in.f k t174 ((rd_T30 x14 x16).f1)).bind fun t177 => (lamellaref02_Ends.l1 k t177 x8 x9 x10 x14 x15 (wrap64 (x16 + 1))))) else (lamellaref02_Ends.l1 k x3 x8 x9 x10 x14 x15 (wrap64 (x16 + 1)))) else (none)) else (none)) else (lamellaref02_Ends.l0 k x3 x8 x9 (wrap64 (x10 + 1)))
end
def lamellaref02_Ends.f (k : Nat) (l0 : List (List (S30))) : Option (List Int) := lamellaref02_Ends.l0 k ([] : List Int) l0 (l0.length : Int) 0
theorem lamellaref02_Ends.mono_l : ∀ k, (∀ y0 y1 y2 y3, LeO (lamellaref02_Ends.l0 k y0 y1 y2 y3) (lamellaref02_Ends.l0 (k + 1) y0 y1 y2 y3)) ∧ (∀ y0 y1 y2 y3 y4 y5 y6, LeO (lamellaref02_Ends.l1 k y0 y1 y2 y3 y4 y5 y6) (lamellaref02_Ends.l1 (k + 1) y0 y1 y2 y3 y4 y5 y6))
  | 0 => ⟨fun _ _ _ _ r h => by simp [lamellaref02_Ends.l0] at h, fun _ _ _ _ _ _ _ r h => by simp [lamellaref02_Ends.l1] at h⟩
  | k + 1 => by
    obtain ⟨ih0, ih1⟩ := lamellaref02_Ends.mono_l k
    refine ⟨?_, ?_⟩
    · intro y0 y1 y2 y3
      unfold lamellaref02_Ends.l0
      repeat' first
      | (with_reducible exact ih0 _ _ _ _)
      | (with_reducible exact ih1 _ _ _ _ _ _ _)
      | (with_reducible exact lamellaref02_in.mono _ _ _)
      | (with_reducible exact LeO.refl _)
      | (with_reducible exact LeO.none _)
      | (with_reducible refine LeO.ite ?_ ?_)
      | (with_reducible refine LeO.bind ?_ (fun _ => ?_))
      | exact ih0 _ _ _ _
      | exact ih1 _ _ _ _ _ _ _
      | exact lamellaref02_in.mono _ _ _
      | exact LeO.none _
      | refine LeO.ite ?_ ?_
      | refine LeO.bind ?_ (fun _ => ?_)
    · intro y0 y1 y2 y3 y4 y5 y6
      unfold lamellaref02_Ends.l1
      repeat' first
      | (with_reducible exact ih0 _ _ _ _)
      | (with_reducible exact ih1 _ _ _ _ _ _ _)
      | (with_reducible exact lamellaref02_in.mono _ _ _)
      | (with_reducible exact LeO.refl _)
      | (with_reducible exact LeO.none _)
      | (with_reducible refine LeO.ite ?_ ?_)
      | (with_reducible refine LeO.bind ?_ (fun _ => ?_))
      | exact ih0 _ _ _ _
      | exact ih1 _ _ _ _ _ _ _
      | exact lamellaref02_in.mono _ _ _
      | exact LeO.none _
      | refine LeO.ite ?_ ?_
      | refine LeO.bind ?_ (fun _ => ?_)
theorem lamellaref02_Ends.mono : ∀ a0 k, LeO (lamellaref02_Ends.f k a0) (lamellaref02_Ends.f (k + 1) a0) := by
  intro a0 k
  obtain ⟨ih0, ih1⟩ := lamellaref02_Ends.mono_l k
  unfold lamellaref02_Ends.f
  repeat' first
      | (with_reducible exact ih0 _ _ _ _)
      | (with_reducible exact ih1 _ _ _ _ _ _ _)
      | (with_reducible exact lamellaref02_in.mono _ _ _)
      | (with_reducible exact LeO.refl _)
      | (with_reducible exact LeO.none _)
      | (with_reducible refine LeO.ite ?_ ?_)
      | (with_reducible refine LeO.bind ?_ (fun _ => ?_))
      | exact ih0 _ _ _ _
      | exact ih1 _ _ _ _ _ _ _
      | exact lamellaref02_in.mono _ _ _
      | exact LeO.none _
      | refine LeO.ite ?_ ?_
      | refine LeO.bind ?_ (fun _ => ?_)
end Go.Proofs.Ytgncbhpmnjfhhaa.S
end
section
namespace Go.Proofs.Ytgncbhpmnjfhhaa.S
open Go.RowKit Go.Proofs.YtgncbhpmnjfhhaaW.PrintWords Go.Proofs.YtgncbhpmnjfhhaaW.PrintLast Go.Proofs.YtgncbhpmnjfhhaaW.PrintMore
set_option linter.unusedVariables false
set_option linter.unusedSimpArgs false
theorem liveD1 : span_Map_int_Drop.f 60 [] [] 0 9 = some ([], []) := by kernel_rfl
theorem liveD2 : span_Map_int_Drop.f 60 [⟨0, 9⟩] [1] 3 5 = some ([⟨0, 3⟩, ⟨5, 9⟩], [1, 1]) := by kernel_rfl
theorem liveD3 : span_Map_int_Drop.f 60 [⟨0, 3⟩, ⟨3, 5⟩, ⟨5, 9⟩] [1, 2, 1] 3 5 = some ([⟨0, 3⟩, ⟨5, 9⟩], [1, 1]) := by kernel_rfl
theorem liveN : span_Norm.f 60 [⟨5, 8⟩, ⟨1, 3⟩, ⟨3, 4⟩, ⟨7, 9⟩] = some [⟨1, 4⟩, ⟨5, 9⟩] := by kernel_rfl
theorem liveS : lamellaref02_Same.f 60 [⟨1, 4⟩, ⟨5, 9⟩] [⟨1, 4⟩, ⟨5, 9⟩] = some true := by kernel_rfl
theorem liveP1 : putL (0 : Int) [] [] ⟨0, 9⟩ 1 = ([⟨0, 9⟩], [1]) := by kernel_rfl
theorem liveP2 : putL (0 : Int) [⟨0, 3⟩, ⟨5, 9⟩] [1, 1] ⟨3, 5⟩ 2 = ([⟨0, 3⟩, ⟨3, 5⟩, ⟨5, 9⟩], [1, 2, 1]) := by kernel_rfl
theorem liveP3 : putL (0 : Int) [⟨0, 3⟩, ⟨5, 9⟩] [1, 1] ⟨3, 5⟩ 1 = ([⟨0, 9⟩], [1]) := by kernel_rfl
theorem litC30 (w : World) (l : List S30) (hl : l.length ≤ 9223372036854775807) : k30.C (w.alloc (.cells (cells30 l).toArray 30)) (some ⟨w.heap.size, 0, none⟩) l.length l :=
  C30.2 ⟨rfl, hl, fun _ => ⟨_, rfl, fun j u hu => by rw [Addr.add_lit, cell_of_row _ _ _ _ 30 (0, 0) (blk_new w _)]; simpa using hu⟩⟩
def lamellalaw02_lives.f : Option Bool := some true
set_option maxHeartbeats 8000000 in
set_option maxRecDepth 100000 in
theorem lamellalaw02_lives.calls (r : Bool) (w : World) (h : lamellalaw02_lives.f = some r) : Calls Try.prog 22 #[] w fun e w' => e = .returned (.bool r) ∧ Below w.heap.size w w' := by
  obtain rfl : true = r := Option.some.inj h
  clear h
  have hu30 := Try.underlying30
  have hu41 := Try.underlying41
  go_enter Try.func22, Try.ntmps22
  go_wp2_with (first
    | (go_at_call 18; refine (span_Norm.calls 60 (some ⟨w.heap.size, 0, none⟩) 4 [⟨5, 8⟩, ⟨1, 3⟩, ⟨3, 4⟩, ⟨7, 9⟩] [⟨1, 4⟩, ⟨5, 9⟩] _ (litC30 w [⟨5, 8⟩, ⟨1, 3⟩, ⟨3, 4⟩, ⟨7, 9⟩] (by decide)) (by decide) liveN).mono ?_; rintro e w1 ⟨v1, rfl, hr, hb⟩; have HB1 := Aside0.mk (below_step (below_alloc (Below.refl w.heap.size w) _) hb); have HN := Aside0.mk (Kd.R_lower hr (below_alloc (Below.refl w.heap.size w) _).size); obtain ⟨A1, c1, rfl⟩ := Kd.R_slice hr; clear hr hb)
    | (go_at_call_of 30 (Value.agg #[Value.int IntKind.i64 0, Value.int IntKind.i64 9]); refine (putI.main 60 w1.heap.size (fun _ => False) [] [] 0 9 1 [] [] w _ (below_alloc HB1.out _) HB1.out.size ⟨_, _, blk_new _ _, Kd.R_nil _ _ _ _ _, Kd.R_nil _ _ _ _ _⟩ liveD1 (by decide) rfl (by decide)).mono ?_; rintro e w2 ⟨rfl, hb, hs, hk⟩; rw [liveP1] at hs; have HB2 := Aside0.mk hb; have S2 := Aside0.mk hs; have HN2 := Aside0.mk (Kd.R_kept (Kd.R_types (Kd.R_alloc HN.out _) (blk_new _ _) (by decide)) hk (fun k h => h.2)); clear hb hs hk)
    | (go_at_call_of 30 (Value.int IntKind.i64 2); refine (putI.main 60 w1.heap.size _ [⟨0, 9⟩] [1] 3 5 2 [⟨0, 3⟩, ⟨5, 9⟩] [1, 1] w w2 HB2.out HB1.out.size S2.out liveD2 (by decide) rfl (by decide)).mono ?_; rintro e w3 ⟨rfl, hb, hs, hk⟩; rw [liveP2] at hs; have HB3 := Aside0.mk hb; have S3 := Aside0.mk hs; have HN3 := Aside0.mk (Kd.R_kept HN2.out hk (fun k h => h.2)); clear hb hs hk S2)
    | (go_at_call_of 30 (Value.int IntKind.i64 1); refine (putI.main 60 w1.heap.size _ [⟨0, 3⟩, ⟨3, 5⟩, ⟨5, 9⟩] [1, 2, 1] 3 5 1 [⟨0, 3⟩, ⟨5, 9⟩] [1, 1] w w4 HB4.out HB1.out.size S4.out liveD3 (by decide) rfl (by decide)).mono ?_; rintro e w5 ⟨rfl, hb, hs, hk⟩; rw [liveP3] at hs; have HB5 := Aside0.mk hb; have S5 := Aside0.mk hs; have HN5 := Aside0.mk (Kd.R_kept HN4.out hk (fun k h => h.2)); clear hb hs hk)
    | (go_at_call 36; refine (lenI.calls (some ⟨w1.heap.size, 0, none⟩) [⟨0, 3⟩, ⟨3, 5⟩, ⟨5, 9⟩] [1, 2, 1] w3 (.inr ⟨_, _, _, rfl, S3.out⟩) rfl (by decide)).mono ?_; rintro e w4 ⟨rfl, hb⟩; have HB4 := Aside0.mk (below_step HB3.out hb); have S4 := Aside0.mk (S3.out.kept (Kept.of_below hb (fun _ => False)) (fun _ _ h => h) (fun h => h)); have HN4 := Aside0.mk (Kd.R_below HN3.out hb); clear hb S3))
  have hq := litC30 w5 [⟨1, 4⟩, ⟨5, 9⟩] (by decide)
  have hq2 := (Kd.R_reads' (Kd.R_alloc HN5.out (.cells (cells30 [⟨1, 4⟩, ⟨5, 9⟩]).toArray 30))).2.2
  have hq3 := (Kd.R_reads' HN5.out).2.1
  refine (lamellaref02_Same.calls 60 A1 c1 [⟨1, 4⟩, ⟨5, 9⟩] (some ⟨w5.heap.size, 0, none⟩) 2 [⟨1, 4⟩, ⟨5, 9⟩] true (w5.alloc (.cells (cells30 [⟨1, 4⟩, ⟨5, 9⟩]).toArray 30)) hq2 hq3 hq (Nat.le_refl 2) liveS).mono ?_
  rintro e w6 ⟨rfl, ⟨⟨m, rfl⟩⟩⟩
  have S6 := Aside0.mk (S5.out.kept ((Kept.of_below (below_alloc (Below.refl _ w5) (.cells (cells30 [⟨1, 4⟩, ⟨5, 9⟩]).toArray 30)) (fun _ => False)).drewN m) (fun _ _ h => h) (fun h => h))
  have HB6 := Aside0.mk (pw_below_drewN (below_alloc HB5.out (.cells (cells30 [⟨1, 4⟩, ⟨5, 9⟩]).toArray 30)) m)
  go_wp2_with ((go_at_call 36; refine (lenI.calls (some ⟨w1.heap.size, 0, none⟩) [⟨0, 9⟩] [1] _ (.inr ⟨_, _, _, rfl, S6.out⟩) rfl (by decide)).mono ?_; rintro e w7 ⟨rfl, hb⟩; have HB7 := Aside0.mk (below_step HB6.out hb); clear hb))
  go_ret
  exact ⟨rfl, HB7.out⟩
end Go.Proofs.Ytgncbhpmnjfhhaa.S
end
section
namespace Go.Proofs.Ytgncbhpmnjfhhaa.S
open Go.RowKit Go.Proofs.YtgncbhpmnjfhhaaW.PrintWords Go.Proofs.YtgncbhpmnjfhhaaW.PrintLast Go.Proofs.YtgncbhpmnjfhhaaW.PrintMore
attribute [local go_sem] max2_int min2_int max_two min_two max_three min_three max_four min_four
set_option linter.unusedVariables false
set_option linter.unusedSimpArgs false
def lamellaref02_Build.l0 : Nat → List Int → List Bool → List (S30) → Int → Option ((List (S30)))
  | 0, _, _, _, _ => none
  | k + 1, x0, x1, x5, x6 => if (wrap64 (x6 + 1)) < (x0.length : Int) then (if 0 ≤ x6 then (if x6 < (x1.length : Int) then (if rdOf false x1 x6 = true then (if (wrap64 ((x5.length : Int) - 1)) ≥ 0 then (if 0 ≤ (wrap64 ((x5.length : Int) - 1)) then (if (wrap64 ((x5.length : Int) - 1)) < (x5.length : Int) then (if x6 < (x0.length : Int) then (if ((rd_T30 x5 (wrap64 ((x5.length : Int) - 1))).f1) = (rd x0 x6) then (if 0 ≤ (wrap64 (x6 + 1)) then (lamellaref02_Build.l0 k x0 x1 (x5.set ((wrap64 ((x5.length : Int) - 1)) : Int).toNat (⟨(rd_T30 x5 (wrap64 ((x5.length : Int) - 1))).f0, rd x0 (wrap64 (x6 + 1))⟩ : S30)) (wrap64 (x6 + 1))) else (none)) else (if 0 ≤ (wrap64 (x6 + 1)) then (if x5.length < 8796093022208 then (lamellaref02_Build.l0 k x0 x1 (x5 ++ [(⟨rd x0 x6, rd x0 (wrap64 (x6 + 1))⟩ : S30)]) (wrap64 (x6 + 1))) else (none)) else (none))) else (none)) else (none)) else (none)) else (if x6 < (x0.length : Int) then (if 0 ≤ (wrap64 (x6 + 1)) then (if x5.length < 8796093022208 then (lamellaref02_Build.l0 k x0 x1 (x5 ++ [(⟨rd x0 x6, rd x0 (wrap64 (x6 + 1))⟩ : S30)]) (wrap64 (x6 + 1))) else (none)) else (none)) else (none))) else (lamellaref02_Build.l0 k x0 x1 x5 (wrap64 (x6 + 1)))) else (none)) else (none)) else (some x5)
def lamellaref02_Build.f (k : Nat) (l0 : List Int) (l1 : List Bool) : Option ((List (S30))) := lamellaref02_Build.l0 k l0 l1 ([] : List (S30)) 0
theorem lamellaref02_Build.mono_l : ∀ k, (∀ y0 y1 y2 y3, LeO (lamellaref02_Build.l0 k y0 y1 y2 y3) (lamellaref02_Build.l0 (k + 1) y0 y1 y2 y3))
  | 0 => fun _ _ _ _ r h => by simp [lamellaref02_Build.l0] at h
  | k + 1 => by
    have ih0 := lamellaref02_Build.mono_l k
    · intro y0 y1 y2 y3
      unfold lamellaref02_Build.l0
      repeat' first
      | (with_reducible exact ih0 _ _ _ _)
      | (with_reducible exact LeO.refl _)
      | (with_reducible exact LeO.none _)
      | (with_reducible refine LeO.ite ?_ ?_)
      | (with_reducible refine LeO.bind ?_ (fun _ => ?_))
      | exact ih0 _ _ _ _
      | exact LeO.none _
      | refine LeO.ite ?_ ?_
      | refine LeO.bind ?_ (fun _ => ?_)
theorem lamellaref02_Build.mono : ∀ a0 a1 k, LeO (lamellaref02_Build.f k a0 a1) (lamellaref02_Build.f (k + 1) a0 a1) := by
  intro a0 a1 k
  have ih0 := lamellaref02_Build.mono_l k
  unfold lamellaref02_Build.f
  repeat' first
      | (with_reducible exact ih0 _ _ _ _)
      | (with_reducible exact LeO.refl _)
      | (with_reducible exact LeO.none _)
      | (with_reducible refine LeO.ite ?_ ?_)
      | (with_reducible refine LeO.bind ?_ (fun _ => ?_))
      | exact ih0 _ _ _ _
      | exact LeO.none _
      | refine LeO.ite ?_ ?_
      | refine LeO.bind ?_ (fun _ => ?_)
def lamellaref02_Build.B7 : List Nat := [0, 1, 3, 7, 7, 31, 63, 127, 7, 7, 775, 1799, 4095, 8191]
def lamellaref02_Build.B9 : List Nat := [0, 0, 0, 6, 14, 0, 0, 64, 224, 480, 1022, 2046, 4095, 8191]
end Go.Proofs.Ytgncbhpmnjfhhaa.S
end
section
namespace Go.Proofs.Ytgncbhpmnjfhhaa.S
open Go.RowKit Go.Proofs.YtgncbhpmnjfhhaaW.PrintWords Go.Proofs.YtgncbhpmnjfhhaaW.PrintLast Go.Proofs.YtgncbhpmnjfhhaaW.PrintMore
attribute [local go_sem] max2_int min2_int max_two min_two max_three min_three max_four min_four
set_option linter.unusedVariables false
set_option linter.unusedSimpArgs false
def lamellaref02_Of.l0 : Nat → List (S30) → List (S30) → Int → List Int → List Bool → List Int → Int → Int → Option ((List (S30)))
  | 0, _, _, _, _, _, _, _, _ => none
  | k + 1, x0, x1, x2, x7, x8, x17, x18, x19 => if x19 < x18 then (if 0 ≤ x19 then (if x19 < (x17.length : Int) then ((lamellaref02_Has.f k x0 (rd x17 x19)).bind fun t202 => ((lamellaref02_Has.f k x1 (rd x17 x19)).bind fun t203 => (if x2 = 0 then (if t202 = true then (if x8.length < 140737488355328 then (lamellaref02_Of.l0 k x0 x1 x2 x7 (x8 ++ [true]) x17 x18 (wrap64 (x19 + 1))) else (none)) else (if t203 = true then (if x8.length < 140737488355328 then (lamellaref02_Of.l0 k x0 x1 x2 x7 (x8 ++ [true]) x17 x18 (wrap64 (x19 + 1))) else (none)) else (if x2 = 1 then (if x2 = 2 then (if x8.length < 140737488355328 then (lamellaref02_Of.l0 k x0 x1 x2 x7 (x8 ++ [false]) x17 x18 (wrap64 (x19 + 1))) else (none)) else (if x8.length < 140737488355328 then (lamellaref02_Of.l0 k x0 x1 x2 x7 (x8 ++ [false]) x17 x18 (wrap64 (x19 + 1))) else (none))) else (if x2 = 2 then (if x8.length < 140737488355328 then (lamellaref02_Of.l0 k x0 x1 x2 x7 (x8 ++ [false]) x17 x18 (wrap64 (x19 + 1))) else (none)) else (if x8.length < 140737488355328 then (lamellaref02_Of.l0 k x0 x1 x2 x7 (x8 ++ [false]) x17 x18 (wrap64 (x19 + 1))) else (none)))))) else (if x2 = 1 then (if t202 = true then (if t203 = true then (if x8.length < 140737488355328 then (lamellaref02_Of.l0 k x0 x1 x2 x7 (x8 ++ [true]) x17 x18 (wrap64 (x19 + 1))) else (none)) else (if x2 = 2 then (if x8.length < 140737488355328 then (lamellaref02_Of.l0 k x0 x1 x2 x7 (x8 ++ [!t203]) x17 x18 (wrap64 (x19 + 1))) else (none)) else (if x8.length < 140737488355328 then (lamellaref02_Of.l0 k x0 x1 x2 x7 (x8 ++ [false]) x17 x18 (wrap64 (x19 + 1))) else (none)))) else (if x2 = 2 then (if x8.length < 140737488355328 then (lamellaref02_Of.l0 k x0 x1 x2 x7 (x8 ++ [false]) x17 x18 (wrap64 (x19 + 1))) else (none)) else (if x8.length < 140737488355328 then (lamellaref02_Of.l0 k x0 x1 x2 x7 (x8 ++ [false]) x17 x18 (wrap64 (x19 + 1))) else (none)))) else (if x2 = 2 then (if t202 = true then (if x8.length < 140737488355328 then (lamellaref02_Of.l0 k x0 x1 x2 x7 (x8 ++ [!t203]) x17 x18 (wrap64 (x19 + 1))) else (none)) else (if x8.length < 140737488355328 then (lamellaref02_Of.l0 k x0 x1 x2 x7 (x8 ++ [false]) x17 x18 (wrap64 (x19 + 1))) else (none))) else (if x8.length < 140737488355328 then (lamellaref02_Of.l0 k x0 x1 x2 x7 (x8 ++ [false]) x17 x18 (wrap64 (x19 + 1))) else (none))))))) else (none)) else (none)) else ((lamellaref02_Build.f k x7 x8).bind fun t246 => (some t246))
def lamellaref02_Of.f (k : Nat) (l0 : List (S30)) (l1 : List (S30)) (a2 : Int) : Option ((List (S30))) := (lamellaref02_Ends.f k (([l0, l1] : List (List (S30))))).bind fun t198 => (lamellaref02_Of.l0 k l0 l1 a2 t198 ([] : List Bool) t198 (t198.length : Int) 0)
theorem lamellaref02_Of.mono_l : ∀ k, (∀ y0 y1 y2 y3 y4 y5 y6 y7, LeO (lamellaref02_Of.l0 k y0 y1 y2 y3 y4 y5 y6 y7) (lamellaref02_Of.l0 (k + 1) y0 y1 y2 y3 y4 y5 y6 y7))
  | 0 => fun _ _ _ _ _ _ _ _ r h => by simp [lamellaref02_Of.l0] at h
  | k + 1 => by
    have ih0 := lamellaref02_Of.mono_l k
    · intro y0 y1 y2 y3 y4 y5 y6 y7
      unfold lamellaref02_Of.l0
      repeat' first
      | (with_reducible exact ih0 _ _ _ _ _ _ _ _)
      | (with_reducible exact lamellaref02_Build.mono _ _ _)
      | (with_reducible exact lamellaref02_Ends.mono _ _)
      | (with_reducible exact lamellaref02_Has.mono _ _ _)
      | (with_reducible exact LeO.refl _)
      | (with_reducible exact LeO.none _)
      | (with_reducible refine LeO.ite ?_ ?_)
      | (with_reducible refine LeO.bind ?_ (fun _ => ?_))
      | exact ih0 _ _ _ _ _ _ _ _
      | exact lamellaref02_Build.mono _ _ _
      | exact lamellaref02_Ends.mono _ _
      | exact lamellaref02_Has.mono _ _ _
      | exact LeO.none _
      | refine LeO.ite ?_ ?_
      | refine LeO.bind ?_ (fun _ => ?_)
theorem lamellaref02_Of.mono : ∀ a0 a1 a2 k, LeO (lamellaref02_Of.f k a0 a1 a2) (lamellaref02_Of.f (k + 1) a0 a1 a2) := by
  intro a0 a1 a2 k
  have ih0 := lamellaref02_Of.mono_l k
  unfold lamellaref02_Of.f
  repeat' first
      | (with_reducible exact ih0 _ _ _ _ _ _ _ _)
      | (with_reducible exact lamellaref02_Build.mono _ _ _)
      | (with_reducible exact lamellaref02_Ends.mono _ _)
      | (with_reducible exact lamellaref02_Has.mono _ _ _)
      | (with_reducible exact LeO.refl _)
      | (with_reducible exact LeO.none _)
      | (with_reducible refine LeO.ite ?_ ?_)
      | (with_reducible refine LeO.bind ?_ (fun _ => ?_))
      | exact ih0 _ _ _ _ _ _ _ _
      | exact lamellaref02_Build.mono _ _ _
      | exact lamellaref02_Ends.mono _ _
      | exact lamellaref02_Has.mono _ _ _
      | exact LeO.none _
      | refine LeO.ite ?_ ?_
      | refine LeO.bind ?_ (fun _ => ?_)
end Go.Proofs.Ytgncbhpmnjfhhaa.S
end
section
namespace Go.Proofs.Ytgncbhpmnjfhhaa.S
open Go.RowKit Go.Proofs.YtgncbhpmnjfhhaaW.PrintWords Go.Proofs.YtgncbhpmnjfhhaaW.PrintLast Go.Proofs.YtgncbhpmnjfhhaaW.PrintMore
attribute [local go_sem] max2_int min2_int max_two min_two max_three min_three max_four min_four
set_option linter.unusedVariables false
set_option linter.unusedSimpArgs false
def lamellaref02_Plain.l0 : Nat → List (S30) → List (S30) → Int → Int → Option (Bool)
  | 0, _, _, _, _ => none
  | k + 1, x0, x5, x6, x7 => if x7 < x6 then (if 0 ≤ x7 then (if x7 < (x5.length : Int) then (if ((rd_T30 x5 x7).f0) ≥ ((rd_T30 x5 x7).f1) then (some false) else (if x7 > 0 then (if 0 ≤ (wrap64 (x7 - 1)) then (if (wrap64 (x7 - 1)) < (x0.length : Int) then (if ((rd_T30 x0 (wrap64 (x7 - 1))).f1) ≥ ((rd_T30 x5 x7).f0) then (some false) else (lamellaref02_Plain.l0 k x0 x5 x6 (wrap64 (x7 + 1)))) else (none)) else (none)) else (lamellaref02_Plain.l0 k x0 x5 x6 (wrap64 (x7 + 1))))) else (none)) else (none)) else (some true)
def lamellaref02_Plain.f (k : Nat) (l0 : List (S30)) : Option (Bool) := lamellaref02_Plain.l0 k l0 l0 (l0.length : Int) 0
theorem lamellaref02_Plain.mono_l : ∀ k, (∀ y0 y1 y2 y3, LeO (lamellaref02_Plain.l0 k y0 y1 y2 y3) (lamellaref02_Plain.l0 (k + 1) y0 y1 y2 y3))
  | 0 => fun _ _ _ _ r h => by simp [lamellaref02_Plain.l0] at h
  | k + 1 => by
    have ih0 := lamellaref02_Plain.mono_l k
    · intro y0 y1 y2 y3
      unfold lamellaref02_Plain.l0
      repeat' first
      | (with_reducible exact ih0 _ _ _ _)
      | (with_reducible exact LeO.refl _)
      | (with_reducible exact LeO.none _)
      | (with_reducible refine LeO.ite ?_ ?_)
      | (with_reducible refine LeO.bind ?_ (fun _ => ?_))
      | exact ih0 _ _ _ _
      | exact LeO.none _
      | refine LeO.ite ?_ ?_
      | refine LeO.bind ?_ (fun _ => ?_)
theorem lamellaref02_Plain.mono : ∀ a0 k, LeO (lamellaref02_Plain.f k a0) (lamellaref02_Plain.f (k + 1) a0) := by
  intro a0 k
  have ih0 := lamellaref02_Plain.mono_l k
  unfold lamellaref02_Plain.f
  repeat' first
      | (with_reducible exact ih0 _ _ _ _)
      | (with_reducible exact LeO.refl _)
      | (with_reducible exact LeO.none _)
      | (with_reducible refine LeO.ite ?_ ?_)
      | (with_reducible refine LeO.bind ?_ (fun _ => ?_))
      | exact ih0 _ _ _ _
      | exact LeO.none _
      | refine LeO.ite ?_ ?_
      | refine LeO.bind ?_ (fun _ => ?_)
end Go.Proofs.Ytgncbhpmnjfhhaa.S
end
section
namespace Go.Proofs.Ytgncbhpmnjfhhaa.S
open Go.RowKit Go.Proofs.YtgncbhpmnjfhhaaW.PrintWords Go.Proofs.YtgncbhpmnjfhhaaW.PrintLast Go.Proofs.YtgncbhpmnjfhhaaW.PrintMore
attribute [local go_sem] max2_int min2_int max_two min_two max_three min_three max_four min_four
set_option linter.unusedVariables false
set_option linter.unusedSimpArgs false
def lamellalaw02_SpanNorms.f (k : Nat) (l0 : List (S30)) : Option (Bool) := (lamellalaw02_cut.f l0).bind fun t253 => ((lamellalaw02_own.f t253).bind fun t256 => ((lamellalaw02_own.f t256).bind fun t259 => ((span_Norm.f k t256).bind fun t262 => ((lamellaref02_Of.f k t256 ([] : List (S30)) 0).bind fun t265 => ((lamellaref02_Same.f k t262 t265).bind fun t268 => (if t268 = true then ((lamellaref02_Plain.f k t262).bind fun t269 => (if t269 = true then ((lamellaref02_Same.f k t256 t259).bind fun t270 => (if t270 = true then ((lamellalaw02_lives.f).bind fun t271 => (some t271)) else (some false))) else (some false))) else (some false)))))))
theorem lamellalaw02_SpanNorms.mono : ∀ a0 k, LeO (lamellalaw02_SpanNorms.f k a0) (lamellalaw02_SpanNorms.f (k + 1) a0) := by
  intro a0 k
  unfold lamellalaw02_SpanNorms.f
  repeat' first
      | (with_reducible exact lamellaref02_Of.mono _ _ _ _)
      | (with_reducible exact lamellaref02_Plain.mono _ _)
      | (with_reducible exact lamellaref02_Same.mono _ _ _)
      | (with_reducible exact span_Norm.mono _ _)
      | (with_reducible exact LeO.refl _)
      | (with_reducible exact LeO.none _)
      | (with_reducible refine LeO.ite ?_ ?_)
      | (with_reducible refine LeO.bind ?_ (fun _ => ?_))
      | exact lamellaref02_Of.mono _ _ _ _
      | exact lamellaref02_Plain.mono _ _
      | exact lamellaref02_Same.mono _ _ _
      | exact span_Norm.mono _ _
      | exact LeO.none _
      | refine LeO.ite ?_ ?_
      | refine LeO.bind ?_ (fun _ => ?_)
end Go.Proofs.Ytgncbhpmnjfhhaa.S
end
section
namespace Go.Proofs.Ytgncbhpmnjfhhaa.S
open Go.RowKit Go.Proofs.YtgncbhpmnjfhhaaW.PrintWords Go.Proofs.YtgncbhpmnjfhhaaW.PrintLast Go.Proofs.YtgncbhpmnjfhhaaW.PrintMore
attribute [local go_sem] max2_int min2_int max_two min_two max_three min_three max_four min_four
set_option linter.unusedVariables false
set_option linter.unusedSimpArgs false
def lamellalaw02_SpanCuts.f (k : Nat) (l0 : List (S30)) (l1 : List (S30)) : Option (Bool) := (lamellalaw02_cut.f l0).bind fun t293 => ((lamellalaw02_own.f t293).bind fun t296 => ((lamellalaw02_cut.f l1).bind fun t299 => ((lamellalaw02_own.f t299).bind fun t302 => ((lamellalaw02_own.f t296).bind fun t305 => ((lamellalaw02_own.f t302).bind fun t308 => ((span_Cut.f k t296 t302).bind fun t311 => ((lamellaref02_Of.f k t296 t302 2).bind fun t314 => ((lamellaref02_Same.f k t311 t314).bind fun t317 => (if t317 = true then ((lamellaref02_Same.f k t296 t305).bind fun t318 => (if t318 = true then ((lamellaref02_Same.f k t302 t308).bind fun t319 => (if t319 = true then ((lamellalaw02_lives.f).bind fun t320 => (some t320)) else (some false))) else (some false))) else (some false))))))))))
theorem lamellalaw02_SpanCuts.mono : ∀ a0 a1 k, LeO (lamellalaw02_SpanCuts.f k a0 a1) (lamellalaw02_SpanCuts.f (k + 1) a0 a1) := by
  intro a0 a1 k
  unfold lamellalaw02_SpanCuts.f
  repeat' first
      | (with_reducible exact lamellaref02_Of.mono _ _ _ _)
      | (with_reducible exact lamellaref02_Same.mono _ _ _)
      | (with_reducible exact span_Cut.mono _ _ _)
      | (with_reducible exact LeO.refl _)
      | (with_reducible exact LeO.none _)
      | (with_reducible refine LeO.ite ?_ ?_)
      | (with_reducible refine LeO.bind ?_ (fun _ => ?_))
      | exact lamellaref02_Of.mono _ _ _ _
      | exact lamellaref02_Same.mono _ _ _
      | exact span_Cut.mono _ _ _
      | exact LeO.none _
      | refine LeO.ite ?_ ?_
      | refine LeO.bind ?_ (fun _ => ?_)
end Go.Proofs.Ytgncbhpmnjfhhaa.S
end
section
namespace Go.Proofs.Ytgncbhpmnjfhhaa.S
open Go.RowKit Go.Proofs.YtgncbhpmnjfhhaaW.PrintWords Go.Proofs.YtgncbhpmnjfhhaaW.PrintLast Go.Proofs.YtgncbhpmnjfhhaaW.PrintMore
attribute [local go_sem] max2_int min2_int max_two min_two max_three min_three max_four min_four
set_option linter.unusedVariables false
set_option linter.unusedSimpArgs false
def span_Gaps.f (k : Nat) (l0 : List (S30)) (a1_0 : Int) (a1_1 : Int) : Option ((List (S30))) := (span_Cut.f k (([(⟨a1_0, a1_1⟩ : S30)] : List (S30))) l0).bind fun t325 => (some t325)
theorem span_Gaps.mono : ∀ a0 a1 a2 k, LeO (span_Gaps.f k a0 a1 a2) (span_Gaps.f (k + 1) a0 a1 a2) := by
  intro a0 a1 a2 k
  unfold span_Gaps.f
  repeat' first
      | (with_reducible exact span_Cut.mono _ _ _)
      | (with_reducible exact LeO.refl _)
      | (with_reducible exact LeO.none _)
      | (with_reducible refine LeO.ite ?_ ?_)
      | (with_reducible refine LeO.bind ?_ (fun _ => ?_))
      | exact span_Cut.mono _ _ _
      | exact LeO.none _
      | refine LeO.ite ?_ ?_
      | refine LeO.bind ?_ (fun _ => ?_)
end Go.Proofs.Ytgncbhpmnjfhhaa.S
end
section
namespace Go.Proofs.Ytgncbhpmnjfhhaa.S
open Go.RowKit Go.Proofs.YtgncbhpmnjfhhaaW.PrintWords Go.Proofs.YtgncbhpmnjfhhaaW.PrintLast Go.Proofs.YtgncbhpmnjfhhaaW.PrintMore
attribute [local go_sem] max2_int min2_int max_two min_two max_three min_three max_four min_four
set_option linter.unusedVariables false
set_option linter.unusedSimpArgs false
def lamellalaw02_SpanGaps.f (k : Nat) (l0 : List (S30)) (a1_0 : Int) (a1_1 : Int) : Option (Bool) := (lamellalaw02_cut.f l0).bind fun t329 => ((span_Gaps.f k t329 a1_0 a1_1).bind fun t332 => ((lamellaref02_Of.f k (([(⟨a1_0, a1_1⟩ : S30)] : List (S30))) t329 2).bind fun t338 => ((lamellaref02_Same.f k t332 t338).bind fun t341 => (if t341 = true then ((lamellalaw02_lives.f).bind fun t342 => (some t342)) else (some false)))))
theorem lamellalaw02_SpanGaps.mono : ∀ a0 a1 a2 k, LeO (lamellalaw02_SpanGaps.f k a0 a1 a2) (lamellalaw02_SpanGaps.f (k + 1) a0 a1 a2) := by
  intro a0 a1 a2 k
  unfold lamellalaw02_SpanGaps.f
  repeat' first
      | (with_reducible exact lamellaref02_Of.mono _ _ _ _)
      | (with_reducible exact lamellaref02_Same.mono _ _ _)
      | (with_reducible exact span_Gaps.mono _ _ _ _)
      | (with_reducible exact LeO.refl _)
      | (with_reducible exact LeO.none _)
      | (with_reducible refine LeO.ite ?_ ?_)
      | (with_reducible refine LeO.bind ?_ (fun _ => ?_))
      | exact lamellaref02_Of.mono _ _ _ _
      | exact lamellaref02_Same.mono _ _ _
      | exact span_Gaps.mono _ _ _ _
      | exact LeO.none _
      | refine LeO.ite ?_ ?_
      | refine LeO.bind ?_ (fun _ => ?_)
def lamellalaw02_SpanGaps.B2 : List Nat := [0, 0, 3, 0, 8, 0, 63, 127, 255, 511, 1023, 2047]
end Go.Proofs.Ytgncbhpmnjfhhaa.S
end
section
namespace Go.Proofs.Ytgncbhpmnjfhhaa.S
open Go.RowKit Go.Proofs.YtgncbhpmnjfhhaaW.PrintWords Go.Proofs.YtgncbhpmnjfhhaaW.PrintLast Go.Proofs.YtgncbhpmnjfhhaaW.PrintMore
attribute [local go_sem] max2_int min2_int max_two min_two max_three min_three max_four min_four
set_option linter.unusedVariables false
set_option linter.unusedSimpArgs false
mutual
def span_Meet.l0 : Nat → List (S30) → List (S30) → List (S30) → Int → Int → Option ((List (S30)))
  | 0, _, _, _, _, _ => none
  | k + 1, x0, x1, x5, x6, x7 => if x6 < (x0.length : Int) then (span_Meet.j1 k x0 x1 x5 x6 x7 (decide (x7 < (x1.length : Int)))) else (span_Meet.j1 k x0 x1 x5 x6 x7 false)
def span_Meet.j1 : Nat → List (S30) → List (S30) → List (S30) → Int → Int → Bool → Option ((List (S30)))
  | 0, _, _, _, _, _, _ => none
  | k + 1, x0, x1, x5, x6, x7, x22 => if x22 = true then (if 0 ≤ x6 then (if x6 < (x0.length : Int) then (if 0 ≤ x7 then (if x7 < (x1.length : Int) then ((span_both.f ((rd_T30 x0 x6).f0) ((rd_T30 x0 x6).f1) ((rd_T30 x1 x7).f0) ((rd_T30 x1 x7).f1)).bind fun bt382 => ((span_empty.f bt382.1 bt382.2).bind fun t385 => (if t385 = true then (if ((rd_T30 x0 x6).f1) < ((rd_T30 x1 x7).f1) then (span_Meet.l0 k x0 x1 x5 (wrap64 (x6 + 1)) x7) else (span_Meet.l0 k x0 x1 x5 x6 (wrap64 (x7 + 1)))) else (if x5.length < 8796093022208 then ((some (x5 ++ [(⟨bt382.1, bt382.2⟩ : S30)] : List (S30))).bind fun y388 => (if ((rd_T30 x0 x6).f1) < ((rd_T30 x1 x7).f1) then (span_Meet.l0 k x0 x1 y388 (wrap64 (x6 + 1)) x7) else (span_Meet.l0 k x0 x1 y388 x6 (wrap64 (x7 + 1))))) else (none))))) else (none)) else (none)) else (none)) else (none)) else (some x5)
end
def span_Meet.f (k : Nat) (l0 : List (S30)) (l1 : List (S30)) : Option ((List (S30))) := (span_Norm.f k l0).bind fun t374 => ((span_Norm.f k l1).bind fun t377 => (span_Meet.l0 k t374 t377 ([] : List (S30)) 0 0))
theorem span_Meet.mono_l : ∀ k, (∀ y0 y1 y2 y3 y4, LeO (span_Meet.l0 k y0 y1 y2 y3 y4) (span_Meet.l0 (k + 1) y0 y1 y2 y3 y4)) ∧ (∀ y0 y1 y2 y3 y4 y5, LeO (span_Meet.j1 k y0 y1 y2 y3 y4 y5) (span_Meet.j1 (k + 1) y0 y1 y2 y3 y4 y5))
  | 0 => ⟨fun _ _ _ _ _ r h => by simp [span_Meet.l0] at h, fun _ _ _ _ _ _ r h => by simp [span_Meet.j1] at h⟩
  | k + 1 => by
    obtain ⟨ih0, ih1⟩ := span_Meet.mono_l k
    refine ⟨?_, ?_⟩
    · intro y0 y1 y2 y3 y4
      unfold span_Meet.l0
      repeat' first
      | (with_reducible exact ih0 _ _ _ _ _)
      | (with_reducible exact ih1 _ _ _ _ _ _)
      | (with_reducible exact span_Norm.mono _ _)
      | (with_reducible exact LeO.refl _)
      | (with_reducible exact LeO.none _)
      | (with_reducible refine LeO.ite ?_ ?_)
      | (with_reducible refine LeO.bind ?_ (fun _ => ?_))
      | exact ih0 _ _ _ _ _
      | exact ih1 _ _ _ _ _ _
      | exact span_Norm.mono _ _
      | exact LeO.none _
      | refine LeO.ite ?_ ?_
      | refine LeO.bind ?_ (fun _ => ?_)
    · intro y0 y1 y2 y3 y4 y5
      unfold span_Meet.j1
      repeat' first
      | (with_reducible exact ih0 _ _ _ _ _)
      | (with_reducible exact ih1 _ _ _ _ _ _)
      | (with_reducible exact span_Norm.mono _ _)
      | (with_reducible exact LeO.refl _)
      | (with_reducible exact LeO.none _)
      | (with_reducible refine LeO.ite ?_ ?_)
      | (with_reducible refine LeO.bind ?_ (fun _ => ?_))
      | exact ih0 _ _ _ _ _
      | exact ih1 _ _ _ _ _ _
      | exact span_Norm.mono _ _
      | exact LeO.none _
      | refine LeO.ite ?_ ?_
      | refine LeO.bind ?_ (fun _ => ?_)
theorem span_Meet.mono : ∀ a0 a1 k, LeO (span_Meet.f k a0 a1) (span_Meet.f (k + 1) a0 a1) := by
  intro a0 a1 k
  obtain ⟨ih0, ih1⟩ := span_Meet.mono_l k
  unfold span_Meet.f
  repeat' first
      | (with_reducible exact ih0 _ _ _ _ _)
      | (with_reducible exact ih1 _ _ _ _ _ _)
      | (with_reducible exact span_Norm.mono _ _)
      | (with_reducible exact LeO.refl _)
      | (with_reducible exact LeO.none _)
      | (with_reducible refine LeO.ite ?_ ?_)
      | (with_reducible refine LeO.bind ?_ (fun _ => ?_))
      | exact ih0 _ _ _ _ _
      | exact ih1 _ _ _ _ _ _
      | exact span_Norm.mono _ _
      | exact LeO.none _
      | refine LeO.ite ?_ ?_
      | refine LeO.bind ?_ (fun _ => ?_)
def span_Meet.B5 : List Nat := [0, 0, 3, 7, 0, 0, 48, 112, 255, 0, 1023]
def span_Meet.B8 : List Nat := [0, 0, 3, 7, 15, 0, 0, 96, 224, 480, 1023]
end Go.Proofs.Ytgncbhpmnjfhhaa.S
end
section
namespace Go.Proofs.Ytgncbhpmnjfhhaa.S
open Go.RowKit Go.Proofs.YtgncbhpmnjfhhaaW.PrintWords Go.Proofs.YtgncbhpmnjfhhaaW.PrintLast Go.Proofs.YtgncbhpmnjfhhaaW.PrintMore
attribute [local go_sem] max2_int min2_int max_two min_two max_three min_three max_four min_four
set_option linter.unusedVariables false
set_option linter.unusedSimpArgs false
def lamellalaw02_SpanMeets.f (k : Nat) (l0 : List (S30)) (l1 : List (S30)) : Option (Bool) := (lamellalaw02_cut.f l0).bind fun t393 => ((lamellalaw02_cut.f l1).bind fun t396 => ((span_Meet.f k t393 t396).bind fun t399 => ((lamellaref02_Of.f k t393 t396 1).bind fun t402 => ((lamellaref02_Same.f k t399 t402).bind fun t405 => (if t405 = true then ((lamellalaw02_lives.f).bind fun t406 => (some t406)) else (some false))))))
theorem lamellalaw02_SpanMeets.mono : ∀ a0 a1 k, LeO (lamellalaw02_SpanMeets.f k a0 a1) (lamellalaw02_SpanMeets.f (k + 1) a0 a1) := by
  intro a0 a1 k
  unfold lamellalaw02_SpanMeets.f
  repeat' first
      | (with_reducible exact lamellaref02_Of.mono _ _ _ _)
      | (with_reducible exact lamellaref02_Same.mono _ _ _)
      | (with_reducible exact span_Meet.mono _ _ _)
      | (with_reducible exact LeO.refl _)
      | (with_reducible exact LeO.none _)
      | (with_reducible refine LeO.ite ?_ ?_)
      | (with_reducible refine LeO.bind ?_ (fun _ => ?_))
      | exact lamellaref02_Of.mono _ _ _ _
      | exact lamellaref02_Same.mono _ _ _
      | exact span_Meet.mono _ _ _
      | exact LeO.none _
      | refine LeO.ite ?_ ?_
      | refine LeO.bind ?_ (fun _ => ?_)
end Go.Proofs.Ytgncbhpmnjfhhaa.S
end
section
namespace Go.Proofs.Ytgncbhpmnjfhhaa.S
set_option linter.unusedVariables false
theorem S30.ext' {a b : S30} (h0 : a.f0 = b.f0) (h1 : a.f1 = b.f1) : a = b := by cases a; cases b; simp at h0 h1; simp [h0, h1]
def lastS (l : List S30) : S30 := l.getD (l.length - 1) z30
def mergeStep (out : List S30) (s : S30) : List S30 :=
  if out.length = 0 then out ++ [s] else if s.f0 ≤ (lastS out).f1 then out.set (out.length - 1) ⟨(lastS out).f0, max (lastS out).f1 s.f1⟩ else out ++ [s]
end Go.Proofs.Ytgncbhpmnjfhhaa.S
end
section
namespace Go.Proofs.Ytgncbhpmnjfhhaa.S
open Go.RowKit Go.Proofs.YtgncbhpmnjfhhaaW.PrintWords Go.Proofs.YtgncbhpmnjfhhaaW.PrintLast Go.Proofs.YtgncbhpmnjfhhaaW.PrintMore
set_option linter.unusedVariables false
set_option linter.unusedSimpArgs false
def neS (s : S30) : Bool := decide (s.f0 < s.f1)
def normL (l : List S30) : List S30 := (sort30 (l.filter neS)).foldl mergeStep []
end Go.Proofs.Ytgncbhpmnjfhhaa.S
end
section
namespace Go.Proofs.Ytgncbhpmnjfhhaa.S
open Go.RowKit Go.Proofs.YtgncbhpmnjfhhaaW.PrintWords Go.Proofs.YtgncbhpmnjfhhaaW.PrintLast Go.Proofs.YtgncbhpmnjfhhaaW.PrintMore
set_option linter.unusedVariables false
set_option linter.unusedSimpArgs false
def span_Join.f (l0 l1 : List S30) : Option (List S30) := if l0.length + l1.length < 4000000000000 then some (normL (l0 ++ l1)) else none
end Go.Proofs.Ytgncbhpmnjfhhaa.S
end
section
namespace Go.Proofs.Ytgncbhpmnjfhhaa.S
open Go.RowKit Go.Proofs.YtgncbhpmnjfhhaaW.PrintWords Go.Proofs.YtgncbhpmnjfhhaaW.PrintLast Go.Proofs.YtgncbhpmnjfhhaaW.PrintMore
attribute [local go_sem] max2_int min2_int max_two min_two max_three min_three max_four min_four
set_option linter.unusedVariables false
set_option linter.unusedSimpArgs false
def lamellalaw02_SpanJoins.f (k : Nat) (l0 : List (S30)) (l1 : List (S30)) : Option (Bool) := (lamellalaw02_cut.f l0).bind fun t433 => ((lamellalaw02_cut.f l1).bind fun t436 => ((span_Join.f t433 t436).bind fun t439 => ((lamellaref02_Of.f k t433 t436 0).bind fun t442 => ((lamellaref02_Same.f k t439 t442).bind fun t445 => (if t445 = true then ((lamellalaw02_lives.f).bind fun t446 => (some t446)) else (some false))))))
theorem lamellalaw02_SpanJoins.mono : ∀ a0 a1 k, LeO (lamellalaw02_SpanJoins.f k a0 a1) (lamellalaw02_SpanJoins.f (k + 1) a0 a1) := by
  intro a0 a1 k
  unfold lamellalaw02_SpanJoins.f
  repeat' first
      | (with_reducible exact lamellaref02_Of.mono _ _ _ _)
      | (with_reducible exact lamellaref02_Same.mono _ _ _)
      | (with_reducible exact LeO.refl _)
      | (with_reducible exact LeO.none _)
      | (with_reducible refine LeO.ite ?_ ?_)
      | (with_reducible refine LeO.bind ?_ (fun _ => ?_))
      | exact lamellaref02_Of.mono _ _ _ _
      | exact lamellaref02_Same.mono _ _ _
      | exact LeO.none _
      | refine LeO.ite ?_ ?_
      | refine LeO.bind ?_ (fun _ => ?_)
end Go.Proofs.Ytgncbhpmnjfhhaa.S
end
section
namespace Go.Proofs.Ytgncbhpmnjfhhaa.S
open Go.RowKit Go.Proofs.YtgncbhpmnjfhhaaW.PrintWords Go.Proofs.YtgncbhpmnjfhhaaW.PrintLast Go.Proofs.YtgncbhpmnjfhhaaW.PrintMore
attribute [local go_sem] max2_int min2_int max_two min_two max_three min_three max_four min_four
set_option linter.unusedVariables false
set_option linter.unusedSimpArgs false
def span_Count.l0 : Nat → Int → List (S30) → Int → Int → Option (Int)
  | 0, _, _, _, _ => none
  | k + 1, x3, x7, x8, x9 => if x9 < x8 then (if 0 ≤ x9 then (if x9 < (x7.length : Int) then (span_Count.l0 k (IntKind.u64.wrap (x3 + (IntKind.u64.wrap ((IntKind.u64.wrap ((rd_T30 x7 x9).f1)) - (IntKind.u64.wrap ((rd_T30 x7 x9).f0)))))) x7 x8 (wrap64 (x9 + 1))) else (none)) else (none)) else (some x3)
def span_Count.f (k : Nat) (l0 : List (S30)) : Option (Int) := (span_Norm.f k l0).bind fun t523 => (span_Count.l0 k 0 t523 (t523.length : Int) 0)
theorem span_Count.mono_l : ∀ k, (∀ y0 y1 y2 y3, LeO (span_Count.l0 k y0 y1 y2 y3) (span_Count.l0 (k + 1) y0 y1 y2 y3))
  | 0 => fun _ _ _ _ r h => by simp [span_Count.l0] at h
  | k + 1 => by
    have ih0 := span_Count.mono_l k
    · intro y0 y1 y2 y3
      unfold span_Count.l0
      repeat' first
      | (with_reducible exact ih0 _ _ _ _)
      | (with_reducible exact span_Norm.mono _ _)
      | (with_reducible exact LeO.refl _)
      | (with_reducible exact LeO.none _)
      | (with_reducible refine LeO.ite ?_ ?_)
      | (with_reducible refine LeO.bind ?_ (fun _ => ?_))
      | exact ih0 _ _ _ _
      | exact span_Norm.mono _ _
      | exact LeO.none _
      | refine LeO.ite ?_ ?_
      | refine LeO.bind ?_ (fun _ => ?_)
theorem span_Count.mono : ∀ a0 k, LeO (span_Count.f k a0) (span_Count.f (k + 1) a0) := by
  intro a0 k
  have ih0 := span_Count.mono_l k
  unfold span_Count.f
  repeat' first
      | (with_reducible exact ih0 _ _ _ _)
      | (with_reducible exact span_Norm.mono _ _)
      | (with_reducible exact LeO.refl _)
      | (with_reducible exact LeO.none _)
      | (with_reducible refine LeO.ite ?_ ?_)
      | (with_reducible refine LeO.bind ?_ (fun _ => ?_))
      | exact ih0 _ _ _ _
      | exact span_Norm.mono _ _
      | exact LeO.none _
      | refine LeO.ite ?_ ?_
      | refine LeO.bind ?_ (fun _ => ?_)
end Go.Proofs.Ytgncbhpmnjfhhaa.S
end
section
namespace Go.Proofs.Ytgncbhpmnjfhhaa.S
open Go.RowKit Go.Proofs.YtgncbhpmnjfhhaaW.PrintWords Go.Proofs.YtgncbhpmnjfhhaaW.PrintLast Go.Proofs.YtgncbhpmnjfhhaaW.PrintMore
attribute [local go_sem] max2_int min2_int max_two min_two max_three min_three max_four min_four
set_option linter.unusedVariables false
set_option linter.unusedSimpArgs false
def lamellalaw02_SpanCounts.l0 : Nat → List (S30) → List (S30) → Int → List (S30) → Int → Int → Option (Bool)
  | 0, _, _, _, _, _, _ => none
  | k + 1, x0, x1, x5, x13, x14, x15 => if x15 < x14 then (if 0 ≤ x15 then (if x15 < (x13.length : Int) then (lamellalaw02_SpanCounts.l0 k x0 x1 (IntKind.u64.wrap (x5 + (IntKind.u64.wrap ((IntKind.u64.wrap ((rd_T30 x13 x15).f1)) - (IntKind.u64.wrap ((rd_T30 x13 x15).f0)))))) x13 x14 (wrap64 (x15 + 1))) else (none)) else (none)) else ((span_Count.f k x0).bind fun t539 => (if t539 = x5 then ((span_Join.f x0 x1).bind fun t540 => ((span_Count.f k t540).bind fun t543 => ((span_Meet.f k x0 x1).bind fun t544 => ((span_Count.f k t544).bind fun t547 => ((span_Count.f k x0).bind fun t548 => ((span_Count.f k x1).bind fun t549 => (if (IntKind.u64.wrap (t543 + t547)) = (IntKind.u64.wrap (t548 + t549)) then ((span_Cut.f k x0 x1).bind fun t550 => ((span_Count.f k t550).bind fun t553 => ((span_Meet.f k x0 x1).bind fun t554 => ((span_Count.f k t554).bind fun t557 => ((span_Count.f k x0).bind fun t558 => (if (IntKind.u64.wrap (t553 + t557)) = t558 then ((lamellalaw02_lives.f).bind fun t559 => (some t559)) else (some false))))))) else (some false)))))))) else (some false)))
def lamellalaw02_SpanCounts.f (k : Nat) (l0 : List (S30)) (l1 : List (S30)) : Option (Bool) := (lamellalaw02_cut.f l0).bind fun t528 => ((lamellalaw02_cut.f l1).bind fun t531 => ((span_Norm.f k t528).bind fun t534 => (lamellalaw02_SpanCounts.l0 k t528 t531 0 t534 (t534.length : Int) 0)))
theorem lamellalaw02_SpanCounts.mono_l : ∀ k, (∀ y0 y1 y2 y3 y4 y5, LeO (lamellalaw02_SpanCounts.l0 k y0 y1 y2 y3 y4 y5) (lamellalaw02_SpanCounts.l0 (k + 1) y0 y1 y2 y3 y4 y5))
  | 0 => fun _ _ _ _ _ _ r h => by simp [lamellalaw02_SpanCounts.l0] at h
  | k + 1 => by
    have ih0 := lamellalaw02_SpanCounts.mono_l k
    · intro y0 y1 y2 y3 y4 y5
      unfold lamellalaw02_SpanCounts.l0
      repeat' first
      | (with_reducible exact ih0 _ _ _ _ _ _)
      | (with_reducible exact span_Count.mono _ _)
      | (with_reducible exact span_Cut.mono _ _ _)
      | (with_reducible exact span_Meet.mono _ _ _)
      | (with_reducible exact span_Norm.mono _ _)
      | (with_reducible exact LeO.refl _)
      | (with_reducible exact LeO.none _)
      | (with_reducible refine LeO.ite ?_ ?_)
      | (with_reducible refine LeO.bind ?_ (fun _ => ?_))
      | exact ih0 _ _ _ _ _ _
      | exact span_Count.mono _ _
      | exact span_Cut.mono _ _ _
      | exact span_Meet.mono _ _ _
      | exact span_Norm.mono _ _
      | exact LeO.none _
      | refine LeO.ite ?_ ?_
      | refine LeO.bind ?_ (fun _ => ?_)
theorem lamellalaw02_SpanCounts.mono : ∀ a0 a1 k, LeO (lamellalaw02_SpanCounts.f k a0 a1) (lamellalaw02_SpanCounts.f (k + 1) a0 a1) := by
  intro a0 a1 k
  have ih0 := lamellalaw02_SpanCounts.mono_l k
  unfold lamellalaw02_SpanCounts.f
  repeat' first
      | (with_reducible exact ih0 _ _ _ _ _ _)
      | (with_reducible exact span_Count.mono _ _)
      | (with_reducible exact span_Cut.mono _ _ _)
      | (with_reducible exact span_Meet.mono _ _ _)
      | (with_reducible exact span_Norm.mono _ _)
      | (with_reducible exact LeO.refl _)
      | (with_reducible exact LeO.none _)
      | (with_reducible refine LeO.ite ?_ ?_)
      | (with_reducible refine LeO.bind ?_ (fun _ => ?_))
      | exact ih0 _ _ _ _ _ _
      | exact span_Count.mono _ _
      | exact span_Cut.mono _ _ _
      | exact span_Meet.mono _ _ _
      | exact span_Norm.mono _ _
      | exact LeO.none _
      | refine LeO.ite ?_ ?_
      | refine LeO.bind ?_ (fun _ => ?_)
end Go.Proofs.Ytgncbhpmnjfhhaa.S
end
section
namespace Go.Proofs.Ytgncbhpmnjfhhaa.S
open Go.RowKit Go.Proofs.YtgncbhpmnjfhhaaW.PrintWords Go.Proofs.YtgncbhpmnjfhhaaW.PrintLast Go.Proofs.YtgncbhpmnjfhhaaW.PrintMore
attribute [local go_sem] max2_int min2_int max_two min_two max_three min_three max_four min_four
set_option linter.unusedVariables false
set_option linter.unusedSimpArgs false
def span_Pieces.l0 : Nat → Int → List (S30) → Int → Int → Option ((List (S30)))
  | 0, _, _, _, _ => none
  | k + 1, x1, x4, x408000, x408001 => (span_empty.f x408000 x408001).bind fun t408 => (if t408 = true then (some x4) else (if (x4.length : Int) = 4096 then (some ([] : List (S30))) else (if (IntKind.u64.wrap ((IntKind.u64.wrap (x408001)) - (IntKind.u64.wrap (x408000)))) > (IntKind.u64.wrap (x1)) then (if x4.length < 8796093022208 then (span_Pieces.l0 k x1 (x4 ++ [(⟨x408000, wrap64 (x408000 + x1)⟩ : S30)]) (wrap64 (x408000 + x1)) x408001) else (none)) else (if x4.length < 8796093022208 then (span_Pieces.l0 k x1 (x4 ++ [(⟨x408000, x408001⟩ : S30)]) x408001 x408001) else (none)))))
def span_Pieces.f (k : Nat) (a0_0 : Int) (a0_1 : Int) (a1 : Int) : Option ((List (S30))) := if a1 < 1 then (some ([] : List (S30))) else (span_Pieces.l0 k a1 ([] : List (S30)) a0_0 a0_1)
theorem span_Pieces.mono_l : ∀ k, (∀ y0 y1 y2 y3, LeO (span_Pieces.l0 k y0 y1 y2 y3) (span_Pieces.l0 (k + 1) y0 y1 y2 y3))
  | 0 => fun _ _ _ _ r h => by simp [span_Pieces.l0] at h
  | k + 1 => by
    have ih0 := span_Pieces.mono_l k
    · intro y0 y1 y2 y3
      unfold span_Pieces.l0
      repeat' first
      | (with_reducible exact ih0 _ _ _ _)
      | (with_reducible exact LeO.refl _)
      | (with_reducible exact LeO.none _)
      | (with_reducible refine LeO.ite ?_ ?_)
      | (with_reducible refine LeO.bind ?_ (fun _ => ?_))
      | exact ih0 _ _ _ _
      | exact LeO.none _
      | refine LeO.ite ?_ ?_
      | refine LeO.bind ?_ (fun _ => ?_)
theorem span_Pieces.mono : ∀ a0 a1 a2 k, LeO (span_Pieces.f k a0 a1 a2) (span_Pieces.f (k + 1) a0 a1 a2) := by
  intro a0 a1 a2 k
  have ih0 := span_Pieces.mono_l k
  unfold span_Pieces.f
  repeat' first
      | (with_reducible exact ih0 _ _ _ _)
      | (with_reducible exact LeO.refl _)
      | (with_reducible exact LeO.none _)
      | (with_reducible refine LeO.ite ?_ ?_)
      | (with_reducible refine LeO.bind ?_ (fun _ => ?_))
      | exact ih0 _ _ _ _
      | exact LeO.none _
      | refine LeO.ite ?_ ?_
      | refine LeO.bind ?_ (fun _ => ?_)
end Go.Proofs.Ytgncbhpmnjfhhaa.S
end
section
namespace Go.Proofs.Ytgncbhpmnjfhhaa.S
open Go.RowKit Go.Proofs.YtgncbhpmnjfhhaaW.PrintWords Go.Proofs.YtgncbhpmnjfhhaaW.PrintLast Go.Proofs.YtgncbhpmnjfhhaaW.PrintMore
attribute [local go_sem] max2_int min2_int max_two min_two max_three min_three max_four min_four
set_option linter.unusedVariables false
set_option linter.unusedSimpArgs false
mutual
def lamellalaw02_SpanPieces.j0 : Nat → Int → List (S30) → Bool → Int → Int → Option (Bool)
  | 0, _, _, _, _, _ => none
  | k + 1, x1, x5, x23, x416000, x416001 => if x23 = true then (if (x5.length : Int) = 0 then ((lamellalaw02_lives.f).bind fun t419 => (some t419)) else (some false)) else (if (IntKind.u64.wrap (x1)) = 0 then (none) else (if (Int.tmod (IntKind.u64.wrap ((IntKind.u64.wrap (x416001)) - (IntKind.u64.wrap (x416000)))) (IntKind.u64.wrap (x1))) = 0 then (lamellalaw02_SpanPieces.j1 k x1 x5 (IntKind.u64.wrap (Int.tdiv (IntKind.u64.wrap ((IntKind.u64.wrap (x416001)) - (IntKind.u64.wrap (x416000)))) (IntKind.u64.wrap (x1)))) x416000 x416001) else (lamellalaw02_SpanPieces.j1 k x1 x5 (IntKind.u64.wrap ((IntKind.u64.wrap (Int.tdiv (IntKind.u64.wrap ((IntKind.u64.wrap (x416001)) - (IntKind.u64.wrap (x416000)))) (IntKind.u64.wrap (x1)))) + 1)) x416000 x416001)))
def lamellalaw02_SpanPieces.j1 : Nat → Int → List (S30) → Int → Int → Int → Option (Bool)
  | 0, _, _, _, _, _ => none
  | k + 1, x1, x5, x7, x416000, x416001 => if x7 > 4096 then (if (x5.length : Int) = 0 then ((lamellalaw02_lives.f).bind fun t420 => (some t420)) else (some false)) else (if (IntKind.u64.wrap ((x5.length : Int))) = x7 then (lamellalaw02_SpanPieces.l0 k x1 x5 x416000 x5 (x5.length : Int) 0 x416000 x416001) else (some false))
def lamellalaw02_SpanPieces.l0 : Nat → Int → List (S30) → Int → List (S30) → Int → Int → Int → Int → Option (Bool)
  | 0, _, _, _, _, _, _, _, _ => none
  | k + 1, x1, x5, x8, x63, x64, x65, x416000, x416001 => if x65 < x64 then (if 0 ≤ x65 then (if x65 < (x63.length : Int) then (if ((rd_T30 x63 x65).f0) = x8 then (if ((rd_T30 x63 x65).f1) ≤ ((rd_T30 x63 x65).f0) then (some false) else (if (IntKind.u64.wrap ((IntKind.u64.wrap ((rd_T30 x63 x65).f1)) - (IntKind.u64.wrap ((rd_T30 x63 x65).f0)))) > (IntKind.u64.wrap (x1)) then (some false) else (if (wrap64 (x65 + 1)) < (x5.length : Int) then (if (IntKind.u64.wrap ((IntKind.u64.wrap ((rd_T30 x63 x65).f1)) - (IntKind.u64.wrap ((rd_T30 x63 x65).f0)))) = (IntKind.u64.wrap (x1)) then (lamellalaw02_SpanPieces.l0 k x1 x5 ((rd_T30 x63 x65).f1) x63 x64 (wrap64 (x65 + 1)) x416000 x416001) else (some false)) else (lamellalaw02_SpanPieces.l0 k x1 x5 ((rd_T30 x63 x65).f1) x63 x64 (wrap64 (x65 + 1)) x416000 x416001)))) else (some false)) else (none)) else (none)) else (if x8 = x416001 then ((lamellalaw02_lives.f).bind fun t423 => (some t423)) else (some false))
end
def lamellalaw02_SpanPieces.f (k : Nat) (a0_0 : Int) (a0_1 : Int) (a1 : Int) : Option (Bool) := (span_Pieces.f k a0_0 a0_1 a1).bind fun t416 => (if a1 < 1 then (lamellalaw02_SpanPieces.j0 k a1 t416 true a0_0 a0_1) else (lamellalaw02_SpanPieces.j0 k a1 t416 (decide (a0_0 ≥ a0_1)) a0_0 a0_1))
theorem lamellalaw02_SpanPieces.mono_l : ∀ k, (∀ y0 y1 y2 y3 y4, LeO (lamellalaw02_SpanPieces.j0 k y0 y1 y2 y3 y4) (lamellalaw02_SpanPieces.j0 (k + 1) y0 y1 y2 y3 y4)) ∧ (∀ y0 y1 y2 y3 y4, LeO (lamellalaw02_SpanPieces.j1 k y0 y1 y2 y3 y4) (lamellalaw02_SpanPieces.j1 (k + 1) y0 y1 y2 y3 y4)) ∧ (∀ y0 y1 y2 y3 y4 y5 y6 y7, LeO (lamellalaw02_SpanPieces.l0 k y0 y1 y2 y3 y4 y5 y6 y7) (lamellalaw02_SpanPieces.l0 (k + 1) y0 y1 y2 y3 y4 y5 y6 y7))
  | 0 => ⟨fun _ _ _ _ _ r h => by simp [lamellalaw02_SpanPieces.j0] at h, fun _ _ _ _ _ r h => by simp [lamellalaw02_SpanPieces.j1] at h, fun _ _ _ _ _ _ _ _ r h => by simp [lamellalaw02_SpanPieces.l0] at h⟩
  | k + 1 => by
    obtain ⟨ih0, ih1, ih2⟩ := lamellalaw02_SpanPieces.mono_l k
    refine ⟨?_, ?_, ?_⟩
    · intro y0 y1 y2 y3 y4
      unfold lamellalaw02_SpanPieces.j0
      repeat' first
      | (with_reducible exact ih0 _ _ _ _ _)
      | (with_reducible exact ih1 _ _ _ _ _)
      | (with_reducible exact ih2 _ _ _ _ _ _ _ _)
      | (with_reducible exact span_Pieces.mono _ _ _ _)
      | (with_reducible exact LeO.refl _)
      | (with_reducible exact LeO.none _)
      | (with_reducible refine LeO.ite ?_ ?_)
      | (with_reducible refine LeO.bind ?_ (fun _ => ?_))
      | exact ih0 _ _ _ _ _
      | exact ih1 _ _ _ _ _
      | exact ih2 _ _ _ _ _ _ _ _
      | exact span_Pieces.mono _ _ _ _
      | exact LeO.none _
      | refine LeO.ite ?_ ?_
      | refine LeO.bind ?_ (fun _ => ?_)
    · intro y0 y1 y2 y3 y4
      unfold lamellalaw02_SpanPieces.j1
      repeat' first
      | (with_reducible exact ih0 _ _ _ _ _)
      | (with_reducible exact ih1 _ _ _ _ _)
      | (with_reducible exact ih2 _ _ _ _ _ _ _ _)
      | (with_reducible exact span_Pieces.mono _ _ _ _)
      | (with_reducible exact LeO.refl _)
      | (with_reducible exact LeO.none _)
      | (with_reducible refine LeO.ite ?_ ?_)
      | (with_reducible refine LeO.bind ?_ (fun _ => ?_))
      | exact ih0 _ _ _ _ _
      | exact ih1 _ _ _ _ _
      | exact ih2 _ _ _ _ _ _ _ _
      | exact span_Pieces.mono _ _ _ _
      | exact LeO.none _
      | refine LeO.ite ?_ ?_
      | refine LeO.bind ?_ (fun _ => ?_)
    · intro y0 y1 y2 y3 y4 y5 y6 y7
      unfold lamellalaw02_SpanPieces.l0
      repeat' first
      | (with_reducible exact ih0 _ _ _ _ _)
      | (with_reducible exact ih1 _ _ _ _ _)
      | (with_reducible exact ih2 _ _ _ _ _ _ _ _)
      | (with_reducible exact span_Pieces.mono _ _ _ _)
      | (with_reducible exact LeO.refl _)
      | (with_reducible exact LeO.none _)
      | (with_reducible refine LeO.ite ?_ ?_)
      | (with_reducible refine LeO.bind ?_ (fun _ => ?_))
      | exact ih0 _ _ _ _ _
      | exact ih1 _ _ _ _ _
      | exact ih2 _ _ _ _ _ _ _ _
      | exact span_Pieces.mono _ _ _ _
      | exact LeO.none _
      | refine LeO.ite ?_ ?_
      | refine LeO.bind ?_ (fun _ => ?_)
theorem lamellalaw02_SpanPieces.mono : ∀ a0 a1 a2 k, LeO (lamellalaw02_SpanPieces.f k a0 a1 a2) (lamellalaw02_SpanPieces.f (k + 1) a0 a1 a2) := by
  intro a0 a1 a2 k
  obtain ⟨ih0, ih1, ih2⟩ := lamellalaw02_SpanPieces.mono_l k
  unfold lamellalaw02_SpanPieces.f
  repeat' first
      | (with_reducible exact ih0 _ _ _ _ _)
      | (with_reducible exact ih1 _ _ _ _ _)
      | (with_reducible exact ih2 _ _ _ _ _ _ _ _)
      | (with_reducible exact span_Pieces.mono _ _ _ _)
      | (with_reducible exact LeO.refl _)
      | (with_reducible exact LeO.none _)
      | (with_reducible refine LeO.ite ?_ ?_)
      | (with_reducible refine LeO.bind ?_ (fun _ => ?_))
      | exact ih0 _ _ _ _ _
      | exact ih1 _ _ _ _ _
      | exact ih2 _ _ _ _ _ _ _ _
      | exact span_Pieces.mono _ _ _ _
      | exact LeO.none _
      | refine LeO.ite ?_ ?_
      | refine LeO.bind ?_ (fun _ => ?_)
end Go.Proofs.Ytgncbhpmnjfhhaa.S
end
