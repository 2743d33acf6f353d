/- Pieces cuts a span: whatever the input, the law returns true, and each argument reads behind the call as it did. No condition. -/
import Derived.Test.YtgncbhpmnjfhhaaCore3
import Derived.Below
import Derived.Deep.Draws
import Derived.Deep.AppendLies
import Derived.Maps.AppendAt
import Derived.OwnWalk
import Derived.Laws.BytesArg
import Derived.Laws.MakeOwn
import Derived.Laws.OwnMore
import Derived.Deep.OwnRows
import Derived.Tactics
import Derived.Lib.ConvBytes
import Derived.Laws.Slices
import Derived.WalkKit
import Derived.KernelRfl
import Derived.RowKit3
import Derived.Deep.LoopGhost
import Derived.Deep.QuietTactic
import Derived.BigQuiet
import Derived.WideLaws
import Derived.Deep.DeepCutAuto
import Derived.Deep.CutBlock
import Derived.Deep.RegionHeld3
import Derived.Laws.Rows
import Derived.Lib.AppendStr
import Derived.ArgAppend
import Derived.Laws.IdiomCopy
import Derived.RowKit
import Derived.OrdersHeld
import Derived.Laws.BitsLemmas
import Derived.Laws.StructEq
import Derived.Test.YtgncbhpmnjfhhaaProg
import Derived.Deep.RegionLaw
import Derived.Sort.WalkB12
import Derived.Lib.AppendZerosOnto
import Derived.Lib.AppendZeros
import Derived.Lib.Overlaps
import Derived.Shelf.Spec.SlicesInsert
import Derived.BigRegion
import Derived.WalkSpells
import Derived.Shelf.SlGeneric
import Derived.Shelf.SlSortCmp.WholeK
import Derived.Shelf.SlSortCmp.NoneTotal
import Derived.Deep.RegionWith
import Derived.RangeFuncBox
import Derived.RangeFuncNested
import Derived.RangeFuncBound
import Derived.RangeFuncCalls
import Derived.RangeFuncLeaves
import Derived.RangeFuncFrom
import Derived.RangeFuncWrites
import Derived.OwnWalkIn
import Derived.TacticsInMore
import Derived.LoopNIn
import Derived.LoopIn
import Derived.Shelf.RegionOpen
import Derived.Shelf.Abstract
import Derived.Laws.Bits64
import Derived.Deep.Slices
import Derived.Lib.SmallJoins
import Derived.ChangeSame
import Derived.Test.YtgncbhpmnjfhhaaRows
import Derived.ProofKit
import Derived.OpenShut
import Derived.ShutString
import Derived.ChangeOld
import Derived.SizedLaws
section
namespace Go.Proofs.Ytgncbhpmnjfhhaa.S
open Go.RowKit Go.Proofs.YtgncbhpmnjfhhaaW.PrintWords Go.Proofs.YtgncbhpmnjfhhaaW.PrintLast Go.Proofs.YtgncbhpmnjfhhaaW.PrintMore
attribute [local go_sem] max2_int min2_int max_two min_two max_three min_three max_four min_four
set_option linter.unusedVariables false
set_option linter.unusedSimpArgs false
set_option maxHeartbeats 8000000 in
set_option maxRecDepth 100000 in
theorem span_Pieces.calls (k : Nat) (a0_0 : Int) (a0_1 : Int) (a1 : Int) (r : List (S30)) (w : World) (h : span_Pieces.f k a0_0 a0_1 a1 = some r) :
    Calls Try.prog 43 #[.agg #[.int .i64 a0_0, .int .i64 a0_1], .int .i64 a1] w fun e w' => ∃ v0_ : Value, e = .returned (v0_) ∧ Kd.R k30 30 w' w.heap.size (fun _ => True) v0_ r ∧ Below w.heap.size w w' := by
  have hu30 := Try.underlying30
  have HB := Aside0.mk (Below.refl w.heap.size w)
  have H : (if a1 < 1 then (some ([] : List (S30))) else (span_Pieces.l0 k a1 ([] : List (S30)) a0_0 a0_1)) = some r := h
  clear h
  by_cases c3 : a1 < 1
  · rw [if_pos c3] at H
    have c3b0 : decide (a1 < 1) = true := decide_eq_true c3
    clear c3
    obtain rfl := Option.some.inj H
    go_enter Try.func43, Try.ntmps43
    go_wp2_with (first | ((with_reducible refine gate_dst (N := 2) rfl ?_); refine box_event ?hg (N := 2) ?hd (cs := #[.int .i64 a0_0, .int .i64 a0_1]) (t := 30) ?hr ?_; (case hd => rfl); (case hg => rfl); (case hr => first | (go_simp; done) | (go_simp; rfl)); intro gb407 hg w4 hbox hb; have n0_ := Aside0.mk (below_step (by repeat (first | (with_reducible first | exact HB.out | apply below_alloc | apply pw_below_drewN | apply below_drew1) | exact HB.out)) hb); have n1_ := Aside0.mk (hbox); have n2_ := Aside0.mk ((by rw [hg]; exact (below_size (by repeat (first | (with_reducible first | exact HB.out | apply below_alloc | apply pw_below_drewN | apply below_drew1) | exact HB.out))) : w.heap.size ≤ gb407)); have n3_ := Aside0.mk ((by rw [hg]; exact (below_size (by repeat (first | (with_reducible first | exact HB.out | apply below_alloc | apply pw_below_drewN | apply below_drew1) | exact HB.out))) : w.heap.size ≤ gb407)); clear HB; have HB := n0_; have BK407 := n1_; have GW407 := n2_; have GE407 := n3_; clear n0_ n1_ n2_ n3_; clear hb hbox hg))
    go_ret
    exact ⟨_, by first | rfl | (simp [errW_none, errW_some] <;> rfl) | (simp [*, errW_none, errW_some] <;> rfl), by first | exact Kd.R_nil _ _ _ _ _ | exact Kd.N_nil _ _ _ _ _ | exact Kd.V_nil _ _ _ _ _ | exact Kd.Q_nil _ _ _ _ _ | exact Kd.S_nil _ _ _ _ _, by repeat (first | (with_reducible first | exact HB.out | apply below_alloc | apply pw_below_drewN | apply below_drew1 | refine below_set ?_ GE407.out) | exact HB.out)⟩
  · rw [if_neg c3] at H
    have c3b0 : decide (a1 < 1) = false := decide_eq_false c3
    clear c3
    have H' := Aside0.mk H
    clear H
    go_enter Try.func43, Try.ntmps43
    go_wp2_with (first | ((with_reducible refine gate_dst (N := 2) rfl ?_); refine box_event ?hg (N := 2) ?hd (cs := #[.int .i64 a0_0, .int .i64 a0_1]) (t := 30) ?hr ?_; (case hd => rfl); (case hg => rfl); (case hr => first | (go_simp; done) | (go_simp; rfl)); intro gb407 hg w5 hbox hb; have n0_ := Aside0.mk (below_step (by repeat (first | (with_reducible first | exact HB.out | apply below_alloc | apply pw_below_drewN | apply below_drew1) | exact HB.out)) hb); have n1_ := Aside0.mk (hbox); have n2_ := Aside0.mk ((by rw [hg]; exact (below_size (by repeat (first | (with_reducible first | exact HB.out | apply below_alloc | apply pw_below_drewN | apply below_drew1) | exact HB.out))) : w.heap.size ≤ gb407)); have n3_ := Aside0.mk ((by rw [hg]; exact (below_size (by repeat (first | (with_reducible first | exact HB.out | apply below_alloc | apply pw_below_drewN | apply below_drew1) | exact HB.out))) : w.heap.size ≤ gb407)); clear HB; have HB := n0_; have BK407 := n1_; have GW407 := n2_; have GE407 := n3_; clear n0_ n1_ n2_ n3_; clear hb hbox hg))
    go_loopg [4] k (fun kq v4 w' => ∃ (x4_1 : List (S30)) (x408000_1 : Int), Aside0 (span_Pieces.l0 kq a1 x4_1 x408000_1 a0_1 = some r) ∧ Aside0 (kq ≤ k) ∧ Aside0 (Kd.R k30 30 w' w.heap.size (fun k_ => k_ ≠ gb407) v4 x4_1) ∧ Aside0 (w'.heap[gb407]? = some (.cells #[.int .i64 x408000_1, .int .i64 a0_1] 30 (0, 0))) ∧ Aside0 (Below w.heap.size w w'))
    case atStart => exact ⟨(([] : List (S30))), (a0_0), H', ⟨Nat.le_refl _⟩, ⟨by first | exact Kd.R_nil _ _ _ _ _ | exact Kd.N_nil _ _ _ _ _ | exact Kd.V_nil _ _ _ _ _ | exact Kd.Q_nil _ _ _ _ _ | exact Kd.S_nil _ _ _ _ _⟩, ⟨by (with_reducible repeat (first | refine blk_drewN ?_ _ | refine blk_drew ?_ | refine blk_alloc ?_ _)); exact BK407.out⟩, ⟨by repeat (first | (with_reducible first | exact HB.out | apply below_alloc | apply pw_below_drewN | apply below_drew1 | refine below_set ?_ GE407.out) | exact HB.out)⟩⟩
    case round =>
      clear H'
      try clear p2
      try clear c3
      try clear c3b0
      try clear c4
      obtain ⟨x4_1, x408000_1, HA, HK1, HO_4, BK407, HB⟩ := hrel
      cases gk with
      | zero => exact absurd HA.out (by simp [span_Pieces.l0])
      | succ k1 =>
        have H := HA.out
        clear HA
        simp only [span_Pieces.l0] at H
        replace H := Option.bind_eq_some_iff.mp H
        obtain ⟨t408, A60, H⟩ := H
        replace H : (if t408 = true then (some x4_1) else (if (x4_1.length : Int) = 4096 then (some ([] : List (S30))) else (if (IntKind.u64.wrap ((IntKind.u64.wrap (a0_1)) - (IntKind.u64.wrap (x408000_1)))) > (IntKind.u64.wrap (a1)) then (if x4_1.length < 8796093022208 then (span_Pieces.l0 k1 a1 (x4_1 ++ [(⟨x408000_1, wrap64 (x408000_1 + a1)⟩ : S30)]) (wrap64 (x408000_1 + a1)) a0_1) else (none)) else (if x4_1.length < 8796093022208 then (span_Pieces.l0 k1 a1 (x4_1 ++ [(⟨x408000_1, a0_1⟩ : S30)]) a0_1 a0_1) else (none))))) = some r := H
        have A6 := Aside0.mk A60
        clear A60
        by_cases c7 : t408 = true
        · subst c7
          have H1 : (some x4_1) = some r := by rw [if_pos rfl] at H; exact H
          clear H
          have H := H1
          clear H1
          obtain rfl := Option.some.inj H
          have hcz8_0 : wr.cell? ⟨gb407, 0, none⟩ = some (.int .i64 x408000_1) := (blk_cell BK407.out 0).trans rfl
          have hcz8_1 : wr.cell? ⟨gb407, 1, none⟩ = some (.int .i64 a0_1) := (blk_cell BK407.out 1).trans rfl
          have hfz8_0 := blk_frozen BK407.out 0
          have hfz8_1 := blk_frozen BK407.out 1
          go_wp2_with (first | ((with_reducible refine gate_callee (f := 48) rfl ?_); refine goesL_ (some 9) rfl rfl Try.func48 (by kernel_rfl) rfl #[.agg #[.int .i64 x408000_1, .int .i64 a0_1]] rfl (by (try simp only [List.map_toArray, List.map_cons, List.map_nil]); first | done | rfl | (simp only [List.length_drop, List.length_take]; rfl)) ?_; (with_reducible refine (span_empty.calls x408000_1 a0_1 true _ A6.out).mono ?_); rintro e w9 ⟨rfl, hb⟩; refine ⟨_, rfl, ?_⟩; have n0_ := Aside0.mk (Kd.R_below (by (with_reducible repeat (first | apply Kd.R_alloc | apply Kd.R_drewN | apply Kd.R_drew)); exact HO_4.out) hb); have n1_ := Aside0.mk (blk_below (g := gb407) (o := .cells #[.int .i64 x408000_1, .int .i64 a0_1] 30 (0, 0)) (by (with_reducible repeat (first | refine blk_drewN ?_ _ | refine blk_drew ?_ | refine blk_alloc ?_ _)); exact BK407.out) hb); have n2_ := Aside0.mk (below_step (by repeat (first | (with_reducible first | exact HB.out | apply below_alloc | apply pw_below_drewN | apply below_drew1 | refine below_set ?_ GE407.out) | exact HB.out)) hb); clear HO_4; clear BK407; clear HB; have HO_4 := n0_; have BK407 := n1_; have HB := n2_; clear n0_ n1_ n2_; (try clear hb); (try clear hb2); (try clear hk); (try clear hi)))
          go_ret
          exact ⟨_, by first | rfl | (simp [errW_none, errW_some] <;> rfl) | (simp [*, errW_none, errW_some] <;> rfl), by (with_reducible repeat (first | apply Kd.R_alloc | apply Kd.R_drewN | apply Kd.R_drew)); exact Kd.R_mono HO_4.out (fun _ hk => trivial), by repeat (first | (with_reducible first | exact HB.out | apply below_alloc | apply pw_below_drewN | apply below_drew1 | refine below_set ?_ GE407.out) | exact HB.out)⟩
        · replace c7 := Bool.eq_false_iff.mpr c7
          subst c7
          have H1 : (if (x4_1.length : Int) = 4096 then (some ([] : List (S30))) else (if (IntKind.u64.wrap ((IntKind.u64.wrap (a0_1)) - (IntKind.u64.wrap (x408000_1)))) > (IntKind.u64.wrap (a1)) then (if x4_1.length < 8796093022208 then (span_Pieces.l0 k1 a1 (x4_1 ++ [(⟨x408000_1, wrap64 (x408000_1 + a1)⟩ : S30)]) (wrap64 (x408000_1 + a1)) a0_1) else (none)) else (if x4_1.length < 8796093022208 then (span_Pieces.l0 k1 a1 (x4_1 ++ [(⟨x408000_1, a0_1⟩ : S30)]) a0_1 a0_1) else (none)))) = some r := by rw [if_neg (show ¬ (false = true) by decide)] at H; exact H
          clear H
          have H := H1
          clear H1
          by_cases c10 : (x4_1.length : Int) = 4096
          · rw [if_pos c10] at H
            have c10b0 : ((x4_1.length : Int) == 4096) = true := beq_iff_eq.mpr c10
            have c10b1 : ((x4_1.length : Int) != 4096) = false := bne_eq_false_iff_eq.mpr c10
            clear c10
            obtain rfl := Option.some.inj H
            have hcz11_0 : wr.cell? ⟨gb407, 0, none⟩ = some (.int .i64 x408000_1) := (blk_cell BK407.out 0).trans rfl
            have hcz11_1 : wr.cell? ⟨gb407, 1, none⟩ = some (.int .i64 a0_1) := (blk_cell BK407.out 1).trans rfl
            have hfz11_0 := blk_frozen BK407.out 0
            have hfz11_1 := blk_frozen BK407.out 1
            go_wp2_with (first | ((with_reducible refine gate_callee (f := 48) rfl ?_); refine goesL_ (some 9) rfl rfl Try.func48 (by kernel_rfl) rfl #[.agg #[.int .i64 x408000_1, .int .i64 a0_1]] rfl (by (try simp only [List.map_toArray, List.map_cons, List.map_nil]); first | done | rfl | (simp only [List.length_drop, List.length_take]; rfl)) ?_; (with_reducible refine (span_empty.calls x408000_1 a0_1 false _ A6.out).mono ?_); rintro e w12 ⟨rfl, hb⟩; refine ⟨_, rfl, ?_⟩; have n0_ := Aside0.mk (Kd.R_below (by (with_reducible repeat (first | apply Kd.R_alloc | apply Kd.R_drewN | apply Kd.R_drew)); exact HO_4.out) hb); have n1_ := Aside0.mk (blk_below (g := gb407) (o := .cells #[.int .i64 x408000_1, .int .i64 a0_1] 30 (0, 0)) (by (with_reducible repeat (first | refine blk_drewN ?_ _ | refine blk_drew ?_ | refine blk_alloc ?_ _)); exact BK407.out) hb); have n2_ := Aside0.mk (below_step (by repeat (first | (with_reducible first | exact HB.out | apply below_alloc | apply pw_below_drewN | apply below_drew1 | refine below_set ?_ GE407.out) | exact HB.out)) hb); clear HO_4; clear BK407; clear HB; have HO_4 := n0_; have BK407 := n1_; have HB := n2_; clear n0_ n1_ n2_; (try clear hb); (try clear hb2); (try clear hk); (try clear hi); obtain ⟨Ao13, co13, eo13⟩ := Kd.R_slice HO_4.out; subst eo13))
            go_ret
            exact ⟨_, by first | rfl | (simp [errW_none, errW_some] <;> rfl) | (simp [*, errW_none, errW_some] <;> rfl), by first | exact Kd.R_nil _ _ _ _ _ | exact Kd.N_nil _ _ _ _ _ | exact Kd.V_nil _ _ _ _ _ | exact Kd.Q_nil _ _ _ _ _ | exact Kd.S_nil _ _ _ _ _, by repeat (first | (with_reducible first | exact HB.out | apply below_alloc | apply pw_below_drewN | apply below_drew1 | refine below_set ?_ GE407.out) | exact HB.out)⟩
          · rw [if_neg c10] at H
            have c10b0 : ((x4_1.length : Int) == 4096) = false := beq_eq_false_iff_ne.mpr c10
            have c10b1 : ((x4_1.length : Int) != 4096) = true := bne_iff_ne.mpr c10
            by_cases c14 : (IntKind.u64.wrap ((IntKind.u64.wrap (a0_1)) - (IntKind.u64.wrap (x408000_1)))) > (IntKind.u64.wrap (a1))
            · rw [if_pos c14] at H
              have c14b0 : decide ((IntKind.u64.wrap (a1)) < (IntKind.u64.wrap ((IntKind.u64.wrap (a0_1)) - (IntKind.u64.wrap (x408000_1))))) = true := decide_eq_true c14
              clear c14
              by_cases c15 : x4_1.length < 8796093022208
              · rw [if_pos c15] at H
                have LMc15 := Aside0.mk c15
                clear c15
                obtain ⟨y409, hy409⟩ : ∃ y_ : List (S30), y_ = (x4_1 ++ [(⟨x408000_1, wrap64 (x408000_1 + a1)⟩ : S30)]) := ⟨_, rfl⟩
                replace H : (span_Pieces.l0 k1 a1 y409 (wrap64 (x408000_1 + a1)) a0_1) = some r := by first | (rw [hy409]; with_reducible exact H) | (have H2_ := (Option.bind_some _ _).symm.trans H; rw [hy409]; with_reducible exact H2_) | (have H2_ := (Option.bind_some _ _).symm.trans H; with_reducible exact H2_) | with_reducible exact H | (rw [hy409]; exact H) | exact H
                have Ny409 := Aside0.mk hy409
                clear hy409
                have H' := Aside0.mk H
                clear H
                have hcz16_0 : wr.cell? ⟨gb407, 0, none⟩ = some (.int .i64 x408000_1) := (blk_cell BK407.out 0).trans rfl
                have hcz16_1 : wr.cell? ⟨gb407, 1, none⟩ = some (.int .i64 a0_1) := (blk_cell BK407.out 1).trans rfl
                have hfz16_0 := blk_frozen BK407.out 0
                have hfz16_1 := blk_frozen BK407.out 1
                go_wp2_with (first | ((with_reducible refine gate_callee (f := 48) rfl ?_); refine goesL_ (some 9) rfl rfl Try.func48 (by kernel_rfl) rfl #[.agg #[.int .i64 x408000_1, .int .i64 a0_1]] rfl (by (try simp only [List.map_toArray, List.map_cons, List.map_nil]); first | done | rfl | (simp only [List.length_drop, List.length_take]; rfl)) ?_; (with_reducible refine (span_empty.calls x408000_1 a0_1 false _ A6.out).mono ?_); rintro e w17 ⟨rfl, hb⟩; refine ⟨_, rfl, ?_⟩; have n0_ := Aside0.mk (Kd.R_below (by (with_reducible repeat (first | apply Kd.R_alloc | apply Kd.R_drewN | apply Kd.R_drew)); exact HO_4.out) hb); have n1_ := Aside0.mk (blk_below (g := gb407) (o := .cells #[.int .i64 x408000_1, .int .i64 a0_1] 30 (0, 0)) (by (with_reducible repeat (first | refine blk_drewN ?_ _ | refine blk_drew ?_ | refine blk_alloc ?_ _)); exact BK407.out) hb); have n2_ := Aside0.mk (below_step (by repeat (first | (with_reducible first | exact HB.out | apply below_alloc | apply pw_below_drewN | apply below_drew1 | refine below_set ?_ GE407.out) | exact HB.out)) hb); clear HO_4; clear BK407; clear HB; have HO_4 := n0_; have BK407 := n1_; have HB := n2_; clear n0_ n1_ n2_; (try clear hb); (try clear hb2); (try clear hk); (try clear hi); obtain ⟨Ao18, co18, eo18⟩ := Kd.R_slice HO_4.out; subst eo18; have hcz19_0 : w17.cell? ⟨gb407, 0, none⟩ = some (.int .i64 x408000_1) := (blk_cell BK407.out 0).trans rfl; have hcz19_1 : w17.cell? ⟨gb407, 1, none⟩ = some (.int .i64 a0_1) := (blk_cell BK407.out 1).trans rfl; have hfz19_0 := blk_frozen BK407.out 0; have hfz19_1 := blk_frozen BK407.out 1) | ((with_reducible refine gate_builtin (b := .append) (xs := #[.tmp 30, .tmp 35]) rfl ?_); at_builtin; refine Kd.R_append k30 (w0 := w) w.heap.size rfl (.tmp 30) (.tmp 35) 22 30 (.agg #[(.int .i64 0), (.int .i64 0)]) 16 rfl Try.underlying22 info30 rfl (by decide) (by omega) (.slice Ao18 x4_1.length co18) x4_1 (⟨x408000_1, wrap64 (x408000_1 + a1)⟩ : S30) [.int .i64 x408000_1, .int .i64 (wrap64 (x408000_1 + a1))] (fun k_ => k_ ≠ gb407) (fun _ => False) rfl rfl ?aP (fun _ hk => hk.elim) ?aF ?aO ?aB ?aS ?aL ?_; (case aP => exact k30_mkM _ _ _ (⟨x408000_1, wrap64 (x408000_1 + a1)⟩ : S30)); (case aB => exact (by repeat (first | (with_reducible first | exact HB.out | apply below_alloc | apply pw_below_drewN | apply below_drew1 | refine below_set ?_ GE407.out) | exact HB.out))); (case aF => exact (fun k_ hk => Kd.freshB (g := gb407) (o := .cells #[.int .i64 x408000_1, .int .i64 a0_1] 30 (0, 0)) (by (with_reducible repeat (first | refine blk_drewN ?_ _ | refine blk_drew ?_ | refine blk_alloc ?_ _)); exact BK407.out) k_ hk)); (case aO => exact (by (with_reducible repeat (first | apply Kd.R_alloc | apply Kd.R_drewN | apply Kd.R_drew)); exact HO_4.out)); (case aS => exact (below_size (by repeat (first | (with_reducible first | exact HB.out | apply below_alloc | apply pw_below_drewN | apply below_drew1 | refine below_set ?_ GE407.out) | exact HB.out)))); (case aL => have := LMc15.out; omega); intro v410 w20 ho hb hg hat; rw [← Ny409.out] at ho; have n0_ := Aside0.mk (blk_grown (g := gb407) (o := .cells #[.int .i64 x408000_1, .int .i64 a0_1] 30 (0, 0)) (by (with_reducible repeat (first | refine blk_drewN ?_ _ | refine blk_drew ?_ | refine blk_alloc ?_ _)); exact BK407.out) hg (Kd.R_away HO_4.out (fun _ hk => hk))); have n1_ := Aside0.mk (hb); have n2_ := Aside0.mk (ho); clear BK407; clear HB; clear HO_4; have BK407 := n0_; have HB := n1_; have HO411 := n2_; clear n0_ n1_ n2_; clear ho hb hg hat; have hcz21_0 : w20.cell? ⟨gb407, 0, none⟩ = some (.int .i64 x408000_1) := (blk_cell BK407.out 0).trans rfl; have hcz21_1 : w20.cell? ⟨gb407, 1, none⟩ = some (.int .i64 a0_1) := (blk_cell BK407.out 1).trans rfl; have hfz21_0 := blk_frozen BK407.out 0; have hfz21_1 := blk_frozen BK407.out 1))
                go_roundg k1
                case measure => have := HK1.out; omega
                case rel => exact ⟨(y409), (wrap64 (x408000_1 + a1)), H', ⟨by have := HK1.out; omega⟩, ⟨by (with_reducible repeat (first | apply Kd.R_alloc | apply Kd.R_drewN | apply Kd.R_drew)); exact Kd.R_mono (Kd.R_far (p := ⟨gb407, 0, none⟩) (Kd.R_mono HO411.out (fun k_ hk => (⟨hk, hk⟩ : _ ∧ k_ ≠ gb407))) (fun _ hk => hk.2) (.int .i64 (wrap64 (x408000_1 + a1)))) (fun _ hk => hk.1)⟩, ⟨by (with_reducible repeat (first | refine blk_drewN ?_ _ | refine blk_drew ?_ | refine blk_alloc ?_ _)); refine blk_put (cs := #[.int .i64 x408000_1, .int .i64 a0_1]) ?_ 0 _ rfl; (with_reducible repeat (first | refine blk_drewN ?_ _ | refine blk_drew ?_ | refine blk_alloc ?_ _)); exact BK407.out⟩, ⟨by repeat (first | (with_reducible first | exact HB.out | apply below_alloc | apply pw_below_drewN | apply below_drew1 | refine below_set ?_ GE407.out) | exact HB.out)⟩⟩
              · rw [if_neg c15] at H
                exact absurd H (by simp)
            · rw [if_neg c14] at H
              have c14b0 : decide ((IntKind.u64.wrap (a1)) < (IntKind.u64.wrap ((IntKind.u64.wrap (a0_1)) - (IntKind.u64.wrap (x408000_1))))) = false := decide_eq_false c14
              clear c14
              by_cases c22 : x4_1.length < 8796093022208
              · rw [if_pos c22] at H
                have LMc22 := Aside0.mk c22
                clear c22
                obtain ⟨y412, hy412⟩ : ∃ y_ : List (S30), y_ = (x4_1 ++ [(⟨x408000_1, a0_1⟩ : S30)]) := ⟨_, rfl⟩
                replace H : (span_Pieces.l0 k1 a1 y412 a0_1 a0_1) = some r := by first | (rw [hy412]; with_reducible exact H) | (have H2_ := (Option.bind_some _ _).symm.trans H; rw [hy412]; with_reducible exact H2_) | (have H2_ := (Option.bind_some _ _).symm.trans H; with_reducible exact H2_) | with_reducible exact H | (rw [hy412]; exact H) | exact H
                have Ny412 := Aside0.mk hy412
                clear hy412
                have H' := Aside0.mk H
                clear H
                have hcz23_0 : wr.cell? ⟨gb407, 0, none⟩ = some (.int .i64 x408000_1) := (blk_cell BK407.out 0).trans rfl
                have hcz23_1 : wr.cell? ⟨gb407, 1, none⟩ = some (.int .i64 a0_1) := (blk_cell BK407.out 1).trans rfl
                have hfz23_0 := blk_frozen BK407.out 0
                have hfz23_1 := blk_frozen BK407.out 1
                go_wp2_with (first | ((with_reducible refine gate_callee (f := 48) rfl ?_); refine goesL_ (some 9) rfl rfl Try.func48 (by kernel_rfl) rfl #[.agg #[.int .i64 x408000_1, .int .i64 a0_1]] rfl (by (try simp only [List.map_toArray, List.map_cons, List.map_nil]); first | done | rfl | (simp only [List.length_drop, List.length_take]; rfl)) ?_; (with_reducible refine (span_empty.calls x408000_1 a0_1 false _ A6.out).mono ?_); rintro e w24 ⟨rfl, hb⟩; refine ⟨_, rfl, ?_⟩; have n0_ := Aside0.mk (Kd.R_below (by (with_reducible repeat (first | apply Kd.R_alloc | apply Kd.R_drewN | apply Kd.R_drew)); exact HO_4.out) hb); have n1_ := Aside0.mk (blk_below (g := gb407) (o := .cells #[.int .i64 x408000_1, .int .i64 a0_1] 30 (0, 0)) (by (with_reducible repeat (first | refine blk_drewN ?_ _ | refine blk_drew ?_ | refine blk_alloc ?_ _)); exact BK407.out) hb); have n2_ := Aside0.mk (below_step (by repeat (first | (with_reducible first | exact HB.out | apply below_alloc | apply pw_below_drewN | apply below_drew1 | refine below_set ?_ GE407.out) | exact HB.out)) hb); clear HO_4; clear BK407; clear HB; have HO_4 := n0_; have BK407 := n1_; have HB := n2_; clear n0_ n1_ n2_; (try clear hb); (try clear hb2); (try clear hk); (try clear hi); obtain ⟨Ao25, co25, eo25⟩ := Kd.R_slice HO_4.out; subst eo25; have hcz26_0 : w24.cell? ⟨gb407, 0, none⟩ = some (.int .i64 x408000_1) := (blk_cell BK407.out 0).trans rfl; have hcz26_1 : w24.cell? ⟨gb407, 1, none⟩ = some (.int .i64 a0_1) := (blk_cell BK407.out 1).trans rfl; have hfz26_0 := blk_frozen BK407.out 0; have hfz26_1 := blk_frozen BK407.out 1) | ((with_reducible refine gate_builtin (b := .append) (xs := #[.tmp 30, .tmp 35]) rfl ?_); at_builtin; refine Kd.R_append k30 (w0 := w) w.heap.size rfl (.tmp 30) (.tmp 35) 22 30 (.agg #[(.int .i64 0), (.int .i64 0)]) 16 rfl Try.underlying22 info30 rfl (by decide) (by omega) (.slice Ao25 x4_1.length co25) x4_1 (⟨x408000_1, a0_1⟩ : S30) [.int .i64 x408000_1, .int .i64 a0_1] (fun k_ => k_ ≠ gb407) (fun _ => False) rfl rfl ?aP (fun _ hk => hk.elim) ?aF ?aO ?aB ?aS ?aL ?_; (case aP => exact k30_mkM _ _ _ (⟨x408000_1, a0_1⟩ : S30)); (case aB => exact (by repeat (first | (with_reducible first | exact HB.out | apply below_alloc | apply pw_below_drewN | apply below_drew1 | refine below_set ?_ GE407.out) | exact HB.out))); (case aF => exact (fun k_ hk => Kd.freshB (g := gb407) (o := .cells #[.int .i64 x408000_1, .int .i64 a0_1] 30 (0, 0)) (by (with_reducible repeat (first | refine blk_drewN ?_ _ | refine blk_drew ?_ | refine blk_alloc ?_ _)); exact BK407.out) k_ hk)); (case aO => exact (by (with_reducible repeat (first | apply Kd.R_alloc | apply Kd.R_drewN | apply Kd.R_drew)); exact HO_4.out)); (case aS => exact (below_size (by repeat (first | (with_reducible first | exact HB.out | apply below_alloc | apply pw_below_drewN | apply below_drew1 | refine below_set ?_ GE407.out) | exact HB.out)))); (case aL => have := LMc22.out; omega); intro v413 w27 ho hb hg hat; rw [← Ny412.out] at ho; have n0_ := Aside0.mk (blk_grown (g := gb407) (o := .cells #[.int .i64 x408000_1, .int .i64 a0_1] 30 (0, 0)) (by (with_reducible repeat (first | refine blk_drewN ?_ _ | refine blk_drew ?_ | refine blk_alloc ?_ _)); exact BK407.out) hg (Kd.R_away HO_4.out (fun _ hk => hk))); have n1_ := Aside0.mk (hb); have n2_ := Aside0.mk (ho); clear BK407; clear HB; clear HO_4; have BK407 := n0_; have HB := n1_; have HO414 := n2_; clear n0_ n1_ n2_; clear ho hb hg hat; have hcz28_0 : w27.cell? ⟨gb407, 0, none⟩ = some (.int .i64 x408000_1) := (blk_cell BK407.out 0).trans rfl; have hcz28_1 : w27.cell? ⟨gb407, 1, none⟩ = some (.int .i64 a0_1) := (blk_cell BK407.out 1).trans rfl; have hfz28_0 := blk_frozen BK407.out 0; have hfz28_1 := blk_frozen BK407.out 1))
                go_roundg k1
                case measure => have := HK1.out; omega
                case rel => exact ⟨(y412), (a0_1), H', ⟨by have := HK1.out; omega⟩, ⟨by (with_reducible repeat (first | apply Kd.R_alloc | apply Kd.R_drewN | apply Kd.R_drew)); exact Kd.R_mono (Kd.R_far (p := ⟨gb407, 0, none⟩) (Kd.R_mono HO414.out (fun k_ hk => (⟨hk, hk⟩ : _ ∧ k_ ≠ gb407))) (fun _ hk => hk.2) (.int .i64 a0_1)) (fun _ hk => hk.1)⟩, ⟨by (with_reducible repeat (first | refine blk_drewN ?_ _ | refine blk_drew ?_ | refine blk_alloc ?_ _)); refine blk_put (cs := #[.int .i64 x408000_1, .int .i64 a0_1]) ?_ 0 _ rfl; (with_reducible repeat (first | refine blk_drewN ?_ _ | refine blk_drew ?_ | refine blk_alloc ?_ _)); exact BK407.out⟩, ⟨by repeat (first | (with_reducible first | exact HB.out | apply below_alloc | apply pw_below_drewN | apply below_drew1 | refine below_set ?_ GE407.out) | exact HB.out)⟩⟩
              · rw [if_neg c22] at H
                exact absurd H (by simp)
end Go.Proofs.Ytgncbhpmnjfhhaa.S
end
section
namespace Go.Proofs.Ytgncbhpmnjfhhaa.S
open Go.RowKit Go.Proofs.YtgncbhpmnjfhhaaW.PrintWords Go.Proofs.YtgncbhpmnjfhhaaW.PrintLast Go.Proofs.YtgncbhpmnjfhhaaW.PrintMore
attribute [local go_sem] max2_int min2_int max_two min_two max_three min_three max_four min_four
set_option linter.unusedVariables false
set_option linter.unusedSimpArgs false
set_option maxHeartbeats 8000000 in
set_option maxRecDepth 100000 in
theorem lamellalaw02_SpanPieces.calls (k : Nat) (a0_0 : Int) (a0_1 : Int) (a1 : Int) (r : Bool) (w : World) (h : lamellalaw02_SpanPieces.f k a0_0 a0_1 a1 = some r) :
    Calls Try.prog 12 #[.agg #[.int .i64 a0_0, .int .i64 a0_1], .int .i64 a1] w fun e w' => e = .returned (.bool r) ∧ Below w.heap.size w w' := by
  have hu30 := Try.underlying30
  have HB := Aside0.mk (Below.refl w.heap.size w)
  have H : ((span_Pieces.f k a0_0 a0_1 a1).bind fun t416 => (if a1 < 1 then (lamellalaw02_SpanPieces.j0 k a1 t416 true a0_0 a0_1) else (lamellalaw02_SpanPieces.j0 k a1 t416 (decide (a0_0 ≥ a0_1)) a0_0 a0_1))) = some r := h
  clear h
  replace H := Option.bind_eq_some_iff.mp H
  obtain ⟨t416, A30, H⟩ := H
  replace H : (if a1 < 1 then (lamellalaw02_SpanPieces.j0 k a1 t416 true a0_0 a0_1) else (lamellalaw02_SpanPieces.j0 k a1 t416 (decide (a0_0 ≥ a0_1)) a0_0 a0_1)) = some r := H
  have A3 := Aside0.mk A30
  clear A30
  have HC4 := Aside0.mk H
  clear H
  go_enter Try.func12, Try.ntmps12
  go_upto_region 2 with (first | ((with_reducible refine gate_dst (N := 2) rfl ?_); (try (refine gate_guard (by rfl) ?_; dsimp only)); refine box_event ?hg (N := 2) ?hd (cs := #[.int .i64 a0_0, .int .i64 a0_1]) (t := 30) ?hr ?_; (case hd => rfl); (case hg => rfl); (case hr => first | (go_simp; done) | (go_simp; rfl)); intro gb415 hg w5 hbox hb; have n0_ := Aside0.mk (below_step (by repeat (first | (with_reducible first | exact HB.out | apply below_alloc | apply pw_below_drewN | apply below_drew1) | exact HB.out)) hb); have n1_ := Aside0.mk (hbox); have n2_ := Aside0.mk ((by rw [hg]; exact (below_size (by repeat (first | (with_reducible first | exact HB.out | apply below_alloc | apply pw_below_drewN | apply below_drew1) | exact HB.out))) : w.heap.size ≤ gb415)); have n3_ := Aside0.mk ((by rw [hg]; exact (below_size (by repeat (first | (with_reducible first | exact HB.out | apply below_alloc | apply pw_below_drewN | apply below_drew1) | exact HB.out))) : w.heap.size ≤ gb415)); clear HB; have HB := n0_; have BK415 := n1_; have GW415 := n2_; have GE415 := n3_; clear n0_ n1_ n2_ n3_; clear hb hbox hg; have hcz6_0 : w5.cell? ⟨gb415, 0, none⟩ = some (.int .i64 a0_0) := (blk_cell BK415.out 0).trans rfl; have hcz6_1 : w5.cell? ⟨gb415, 1, none⟩ = some (.int .i64 a0_1) := (blk_cell BK415.out 1).trans rfl; have hfz6_0 := blk_frozen BK415.out 0; have hfz6_1 := blk_frozen BK415.out 1) | ((with_reducible refine gate_callee (f := 43) rfl ?_); refine goesL_ (some 14) rfl rfl Try.func43 (by kernel_rfl) rfl #[.agg #[.int .i64 a0_0, .int .i64 a0_1], .int .i64 a1] rfl (by (try simp only [List.map_toArray, List.map_cons, List.map_nil]); first | done | rfl | (simp only [List.length_drop, List.length_take]; rfl)) ?_; (with_reducible refine (span_Pieces.calls k a0_0 a0_1 a1 t416 _ A3.out).mono ?_); rintro e w7 ⟨v417, rfl, ho0, hb⟩; refine ⟨_, rfl, ?_⟩; have n0_ := Aside0.mk (Kd.R_lower (Kd.R_newB ho0 (g := gb415) (o := .cells #[.int .i64 a0_0, .int .i64 a0_1] 30 (0, 0)) (by (with_reducible repeat (first | refine blk_drewN ?_ _ | refine blk_drew ?_ | refine blk_alloc ?_ _)); exact BK415.out)) (below_size (by repeat (first | (with_reducible first | exact HB.out | apply below_alloc | apply pw_below_drewN | apply below_drew1 | refine below_set ?_ GE415.out) | exact HB.out)))); have n1_ := Aside0.mk (blk_below (g := gb415) (o := .cells #[.int .i64 a0_0, .int .i64 a0_1] 30 (0, 0)) (by (with_reducible repeat (first | refine blk_drewN ?_ _ | refine blk_drew ?_ | refine blk_alloc ?_ _)); exact BK415.out) hb); have n2_ := Aside0.mk (below_step (by repeat (first | (with_reducible first | exact HB.out | apply below_alloc | apply pw_below_drewN | apply below_drew1 | refine below_set ?_ GE415.out) | exact HB.out)) hb); clear BK415; clear HB; have HO418 := n0_; have BK415 := n1_; have HB := n2_; clear n0_ n1_ n2_; (try clear hb); (try clear hb2); (try clear hk); (try clear hi); (try clear ho0)))
  (try simp only [Act.put, List.setIfInBounds_toArray, List.set_cons_zero, List.set_cons_succ])
  go_cut [23] (fun v23 wc => ∃ (kq : Nat) (x23_3 : Bool), v23 = .bool x23_3 ∧ Aside0 (lamellalaw02_SpanPieces.j0 kq a1 t416 x23_3 a0_0 a0_1 = some r) ∧ Aside0 (kq ≤ k) ∧ Aside0 (Kd.R k30 30 wc w.heap.size (fun k_ => k_ ≠ gb415) v417 t416) ∧ Aside0 (wc.heap[gb415]? = some (.cells #[.int .i64 a0_0, .int .i64 a0_1] 30 (0, 0))) ∧ Aside0 (Below w.heap.size w wc))
  case first =>
    have H := HC4.out
    clear HC4
    by_cases c8 : a1 < 1
    · rw [if_pos c8] at H
      have c8b0 : decide (a1 < 1) = true := decide_eq_true c8
      clear c8
      (first | rw [c8b0] | (simp only [i64_w, i32_w]; rw [c8b0]) | skip)
      have H' := Aside0.mk H
      clear H
      go_wp2
      go_meet
      case rel => exact ⟨_, (true), (by first | rfl | (simp; done) | (simp [*]; done)), H', ⟨by first | omega | exact Nat.le_refl _⟩, ⟨by (with_reducible repeat (first | apply Kd.R_alloc | apply Kd.R_drewN | apply Kd.R_drew)); exact Kd.R_mono HO418.out (fun _ hk => hk.2)⟩, ⟨by (with_reducible repeat (first | refine blk_drewN ?_ _ | refine blk_drew ?_ | refine blk_alloc ?_ _)); exact BK415.out⟩, ⟨by repeat (first | (with_reducible first | exact HB.out | apply below_alloc | apply pw_below_drewN | apply below_drew1 | refine below_set ?_ GE415.out) | exact HB.out)⟩⟩
    · rw [if_neg c8] at H
      have c8b0 : decide (a1 < 1) = false := decide_eq_false c8
      clear c8
      (first | rw [c8b0] | (simp only [i64_w, i32_w]; rw [c8b0]) | skip)
      have H' := Aside0.mk H
      clear H
      have hcz9_0 : w7.cell? ⟨gb415, 0, none⟩ = some (.int .i64 a0_0) := (blk_cell BK415.out 0).trans rfl
      have hcz9_1 : w7.cell? ⟨gb415, 1, none⟩ = some (.int .i64 a0_1) := (blk_cell BK415.out 1).trans rfl
      have hfz9_0 := blk_frozen BK415.out 0
      have hfz9_1 := blk_frozen BK415.out 1
      go_wp2
      go_meet
      case rel => exact ⟨_, (decide (a0_0 ≥ a0_1)), (by first | rfl | (simp; done) | (simp [*]; done)), H', ⟨by first | omega | exact Nat.le_refl _⟩, ⟨by (with_reducible repeat (first | apply Kd.R_alloc | apply Kd.R_drewN | apply Kd.R_drew)); exact Kd.R_mono HO418.out (fun _ hk => hk.2)⟩, ⟨by (with_reducible repeat (first | refine blk_drewN ?_ _ | refine blk_drew ?_ | refine blk_alloc ?_ _)); exact BK415.out⟩, ⟨by repeat (first | (with_reducible first | exact HB.out | apply below_alloc | apply pw_below_drewN | apply below_drew1 | refine below_set ?_ GE415.out) | exact HB.out)⟩⟩
  case rest =>
    clear HC4
    try clear c1
    try clear p2
    try clear c4
    try clear c8
    try clear c8b0
    try clear hcz6_0
    try clear hcz6_1
    try clear hcz9_0
    try clear hcz9_1
    try clear hfz6_0
    try clear hfz6_1
    try clear hfz9_0
    try clear hfz9_1
    obtain ⟨kq, x23_3, rfl, HA, HJ3, HO_5, BK415, HB⟩ := hcut
    cases kq with
    | zero => exact absurd HA.out (by simp [lamellalaw02_SpanPieces.j0])
    | succ kj3 =>
      have H := HA.out
      clear HA
      simp only [lamellalaw02_SpanPieces.j0] at H
      by_cases c10 : x23_3 = true
      · subst c10
        have H1 : (if (t416.length : Int) = 0 then ((lamellalaw02_lives.f).bind fun t419 => (some t419)) else (some false)) = some r := by rw [if_pos rfl] at H; exact H
        clear H
        have H := H1
        clear H1
        by_cases c11 : (t416.length : Int) = 0
        · rw [if_pos c11] at H
          have c11b0 : ((t416.length : Int) == 0) = true := beq_iff_eq.mpr c11
          have c11b1 : ((t416.length : Int) != 0) = false := bne_eq_false_iff_eq.mpr c11
          clear c11
          replace H := Option.bind_eq_some_iff.mp H
          obtain ⟨t419, A120, H⟩ := H
          replace H : (some t419) = some r := H
          have A12 := Aside0.mk A120
          clear A120
          obtain rfl := Option.some.inj H
          obtain ⟨Ao13, co13, eo13⟩ := Kd.R_slice HO_5.out
          subst eo13
          go_wp2_with (first | (go_at_call 22; (with_reducible refine (lamellalaw02_lives.calls  t419 _ A12.out).mono ?_); rintro e w14 ⟨rfl, hb⟩; have n0_ := Aside0.mk (Kd.R_below (by (with_reducible repeat (first | apply Kd.R_alloc | apply Kd.R_drewN | apply Kd.R_drew)); exact HO_5.out) hb); have n1_ := Aside0.mk (blk_below (g := gb415) (o := .cells #[.int .i64 a0_0, .int .i64 a0_1] 30 (0, 0)) (by (with_reducible repeat (first | refine blk_drewN ?_ _ | refine blk_drew ?_ | refine blk_alloc ?_ _)); exact BK415.out) hb); have n2_ := Aside0.mk (below_step (by repeat (first | (with_reducible first | exact HB.out | apply below_alloc | apply pw_below_drewN | apply below_drew1 | refine below_set ?_ GE415.out) | exact HB.out)) hb); clear HO_5; clear BK415; clear HB; have HO_5 := n0_; have BK415 := n1_; have HB := n2_; clear n0_ n1_ n2_; (try clear hb); (try clear hb2); (try clear hk); (try clear hi)))
          go_ret
          exact ⟨by first | rfl | (simp [errW_none, errW_some] <;> rfl) | (simp [*, errW_none, errW_some] <;> rfl), by repeat (first | (with_reducible first | exact HB.out | apply below_alloc | apply pw_below_drewN | apply below_drew1 | refine below_set ?_ GE415.out) | exact HB.out)⟩
        · rw [if_neg c11] at H
          have c11b0 : ((t416.length : Int) == 0) = false := beq_eq_false_iff_ne.mpr c11
          have c11b1 : ((t416.length : Int) != 0) = true := bne_iff_ne.mpr c11
          have c11b2 : ¬ (t416 = []) := fun h_ => c11 (by rw [h_]; rfl)
          obtain rfl := Option.some.inj H
          obtain ⟨Ao15, co15, eo15⟩ := Kd.R_slice HO_5.out
          subst eo15
          go_wp2
          go_ret
          exact ⟨by first | rfl | (simp [errW_none, errW_some] <;> rfl) | (simp [*, errW_none, errW_some] <;> rfl), by repeat (first | (with_reducible first | exact HB.out | apply below_alloc | apply pw_below_drewN | apply below_drew1 | refine below_set ?_ GE415.out) | exact HB.out)⟩
      · replace c10 := Bool.eq_false_iff.mpr c10
        subst c10
        have H1 : (if (IntKind.u64.wrap (a1)) = 0 then (none) else (if (Int.tmod (IntKind.u64.wrap ((IntKind.u64.wrap (a0_1)) - (IntKind.u64.wrap (a0_0)))) (IntKind.u64.wrap (a1))) = 0 then (lamellalaw02_SpanPieces.j1 kj3 a1 t416 (IntKind.u64.wrap (Int.tdiv (IntKind.u64.wrap ((IntKind.u64.wrap (a0_1)) - (IntKind.u64.wrap (a0_0)))) (IntKind.u64.wrap (a1)))) a0_0 a0_1) else (lamellalaw02_SpanPieces.j1 kj3 a1 t416 (IntKind.u64.wrap ((IntKind.u64.wrap (Int.tdiv (IntKind.u64.wrap ((IntKind.u64.wrap (a0_1)) - (IntKind.u64.wrap (a0_0)))) (IntKind.u64.wrap (a1)))) + 1)) a0_0 a0_1))) = some r := by rw [if_neg (show ¬ (false = true) by decide)] at H; exact H
        clear H
        have H := H1
        clear H1
        by_cases c16 : (IntKind.u64.wrap (a1)) = 0
        · rw [if_pos c16] at H
          exact absurd H (by simp)
        · rw [if_neg c16] at H
          have c16b0 : ((IntKind.u64.wrap (a1)) == 0) = false := beq_eq_false_iff_ne.mpr c16
          have c16b1 : ((IntKind.u64.wrap (a1)) != 0) = true := bne_iff_ne.mpr c16
          have HC17 := Aside0.mk H
          clear H
          have hcz18_0 : wc.cell? ⟨gb415, 0, none⟩ = some (.int .i64 a0_0) := (blk_cell BK415.out 0).trans rfl
          have hcz18_1 : wc.cell? ⟨gb415, 1, none⟩ = some (.int .i64 a0_1) := (blk_cell BK415.out 1).trans rfl
          have hfz18_0 := blk_frozen BK415.out 0
          have hfz18_1 := blk_frozen BK415.out 1
          go_upto_if 45 with (fail)
          go_cut [7] (fun v7 wc => ∃ (kq : Nat) (x7_16 : Int), v7 = .int .u64 x7_16 ∧ Aside0 (lamellalaw02_SpanPieces.j1 kq a1 t416 x7_16 a0_0 a0_1 = some r) ∧ Aside0 (kq ≤ kj3) ∧ Aside0 (Kd.R k30 30 wc w.heap.size (fun k_ => k_ ≠ gb415) v417 t416) ∧ Aside0 (wc.heap[gb415]? = some (.cells #[.int .i64 a0_0, .int .i64 a0_1] 30 (0, 0))) ∧ Aside0 (Below w.heap.size w wc))
          case first =>
            have H := HC17.out
            clear HC17
            by_cases c19 : (Int.tmod (IntKind.u64.wrap ((IntKind.u64.wrap (a0_1)) - (IntKind.u64.wrap (a0_0)))) (IntKind.u64.wrap (a1))) = 0
            · rw [if_pos c19] at H
              have c19b0 : ((Int.tmod (IntKind.u64.wrap ((IntKind.u64.wrap (a0_1)) - (IntKind.u64.wrap (a0_0)))) (IntKind.u64.wrap (a1))) == 0) = true := beq_iff_eq.mpr c19
              have c19b1 : ((Int.tmod (IntKind.u64.wrap ((IntKind.u64.wrap (a0_1)) - (IntKind.u64.wrap (a0_0)))) (IntKind.u64.wrap (a1))) != 0) = false := bne_eq_false_iff_eq.mpr c19
              clear c19
              (first | rw [c19b0] | (simp only [i64_w, i32_w]; rw [c19b0]) | skip)
              have H' := Aside0.mk H
              clear H
              go_wp2
              go_meet
              case rel => exact ⟨_, (IntKind.u64.wrap (Int.tdiv (IntKind.u64.wrap ((IntKind.u64.wrap (a0_1)) - (IntKind.u64.wrap (a0_0)))) (IntKind.u64.wrap (a1)))), (by first | rfl | (simp; done) | (simp [*]; done)), H', ⟨by have := HJ3.out; first | omega | exact Nat.le_refl _⟩, ⟨by (with_reducible repeat (first | apply Kd.R_alloc | apply Kd.R_drewN | apply Kd.R_drew)); exact HO_5.out⟩, ⟨by (with_reducible repeat (first | refine blk_drewN ?_ _ | refine blk_drew ?_ | refine blk_alloc ?_ _)); exact BK415.out⟩, ⟨by repeat (first | (with_reducible first | exact HB.out | apply below_alloc | apply pw_below_drewN | apply below_drew1 | refine below_set ?_ GE415.out) | exact HB.out)⟩⟩
            · rw [if_neg c19] at H
              have c19b0 : ((Int.tmod (IntKind.u64.wrap ((IntKind.u64.wrap (a0_1)) - (IntKind.u64.wrap (a0_0)))) (IntKind.u64.wrap (a1))) == 0) = false := beq_eq_false_iff_ne.mpr c19
              have c19b1 : ((Int.tmod (IntKind.u64.wrap ((IntKind.u64.wrap (a0_1)) - (IntKind.u64.wrap (a0_0)))) (IntKind.u64.wrap (a1))) != 0) = true := bne_iff_ne.mpr c19
              (first | rw [c19b0] | (simp only [i64_w, i32_w]; rw [c19b0]) | skip)
              have H' := Aside0.mk H
              clear H
              go_wp2
              go_meet
              case rel => exact ⟨_, (IntKind.u64.wrap ((IntKind.u64.wrap (Int.tdiv (IntKind.u64.wrap ((IntKind.u64.wrap (a0_1)) - (IntKind.u64.wrap (a0_0)))) (IntKind.u64.wrap (a1)))) + 1)), (by first | rfl | (simp; done) | (simp [*]; done)), H', ⟨by have := HJ3.out; first | omega | exact Nat.le_refl _⟩, ⟨by (with_reducible repeat (first | apply Kd.R_alloc | apply Kd.R_drewN | apply Kd.R_drew)); exact HO_5.out⟩, ⟨by (with_reducible repeat (first | refine blk_drewN ?_ _ | refine blk_drew ?_ | refine blk_alloc ?_ _)); exact BK415.out⟩, ⟨by repeat (first | (with_reducible first | exact HB.out | apply below_alloc | apply pw_below_drewN | apply below_drew1 | refine below_set ?_ GE415.out) | exact HB.out)⟩⟩
          case rest =>
            clear HC17
            try clear c1
            try clear p2
            try clear c4
            try clear c8
            try clear c8b0
            try clear c10
            try clear c11
            try clear c11b0
            try clear c11b1
            try clear c11b2
            try clear c12
            try clear c16
            try clear c16b0
            try clear c16b1
            try clear c19
            try clear c19b0
            try clear c19b1
            try clear hcz18_0
            try clear hcz18_1
            try clear hcz6_0
            try clear hcz6_1
            try clear hcz9_0
            try clear hcz9_1
            try clear hfz18_0
            try clear hfz18_1
            try clear hfz6_0
            try clear hfz6_1
            try clear hfz9_0
            try clear hfz9_1
            try clear p2
            obtain ⟨kq, x7_16, rfl, HA, HJ16, HO_5, BK415, HB⟩ := hcut
            cases kq with
            | zero => exact absurd HA.out (by simp [lamellalaw02_SpanPieces.j1])
            | succ kj16 =>
              have H := HA.out
              clear HA
              simp only [lamellalaw02_SpanPieces.j1] at H
              by_cases c20 : x7_16 > 4096
              · rw [if_pos c20] at H
                have c20b0 : decide (4096 < x7_16) = true := decide_eq_true c20
                clear c20
                by_cases c21 : (t416.length : Int) = 0
                · rw [if_pos c21] at H
                  have c21b0 : ((t416.length : Int) == 0) = true := beq_iff_eq.mpr c21
                  have c21b1 : ((t416.length : Int) != 0) = false := bne_eq_false_iff_eq.mpr c21
                  clear c21
                  replace H := Option.bind_eq_some_iff.mp H
                  obtain ⟨t420, A220, H⟩ := H
                  replace H : (some t420) = some r := H
                  have A22 := Aside0.mk A220
                  clear A220
                  obtain rfl := Option.some.inj H
                  obtain ⟨Ao23, co23, eo23⟩ := Kd.R_slice HO_5.out
                  subst eo23
                  go_wp2_with (first | (go_at_call 22; (with_reducible refine (lamellalaw02_lives.calls  t420 _ A22.out).mono ?_); rintro e w24 ⟨rfl, hb⟩; have n0_ := Aside0.mk (Kd.R_below (by (with_reducible repeat (first | apply Kd.R_alloc | apply Kd.R_drewN | apply Kd.R_drew)); exact HO_5.out) hb); have n1_ := Aside0.mk (blk_below (g := gb415) (o := .cells #[.int .i64 a0_0, .int .i64 a0_1] 30 (0, 0)) (by (with_reducible repeat (first | refine blk_drewN ?_ _ | refine blk_drew ?_ | refine blk_alloc ?_ _)); exact BK415.out) hb); have n2_ := Aside0.mk (below_step (by repeat (first | (with_reducible first | exact HB.out | apply below_alloc | apply pw_below_drewN | apply below_drew1 | refine below_set ?_ GE415.out) | exact HB.out)) hb); clear HO_5; clear BK415; clear HB; have HO_5 := n0_; have BK415 := n1_; have HB := n2_; clear n0_ n1_ n2_; (try clear hb); (try clear hb2); (try clear hk); (try clear hi)))
                  go_ret
                  exact ⟨by first | rfl | (simp [errW_none, errW_some] <;> rfl) | (simp [*, errW_none, errW_some] <;> rfl), by repeat (first | (with_reducible first | exact HB.out | apply below_alloc | apply pw_below_drewN | apply below_drew1 | refine below_set ?_ GE415.out) | exact HB.out)⟩
                · rw [if_neg c21] at H
                  have c21b0 : ((t416.length : Int) == 0) = false := beq_eq_false_iff_ne.mpr c21
                  have c21b1 : ((t416.length : Int) != 0) = true := bne_iff_ne.mpr c21
                  have c21b2 : ¬ (t416 = []) := fun h_ => c21 (by rw [h_]; rfl)
                  obtain rfl := Option.some.inj H
                  obtain ⟨Ao25, co25, eo25⟩ := Kd.R_slice HO_5.out
                  subst eo25
                  go_wp2
                  go_ret
                  exact ⟨by first | rfl | (simp [errW_none, errW_some] <;> rfl) | (simp [*, errW_none, errW_some] <;> rfl), by repeat (first | (with_reducible first | exact HB.out | apply below_alloc | apply pw_below_drewN | apply below_drew1 | refine below_set ?_ GE415.out) | exact HB.out)⟩
              · rw [if_neg c20] at H
                have c20b0 : decide (4096 < x7_16) = false := decide_eq_false c20
                clear c20
                by_cases c26 : (IntKind.u64.wrap ((t416.length : Int))) = x7_16
                · rw [if_pos c26] at H
                  have c26b0 : ((IntKind.u64.wrap ((t416.length : Int))) == x7_16) = true := beq_iff_eq.mpr c26
                  have c26b1 : ((IntKind.u64.wrap ((t416.length : Int))) != x7_16) = false := bne_eq_false_iff_eq.mpr c26
                  clear c26
                  have H' := Aside0.mk H
                  clear H
                  obtain ⟨Ao27, co27, eo27⟩ := Kd.R_slice HO_5.out
                  subst eo27
                  have hcz28_0 : wc.cell? ⟨gb415, 0, none⟩ = some (.int .i64 a0_0) := (blk_cell BK415.out 0).trans rfl
                  have hcz28_1 : wc.cell? ⟨gb415, 1, none⟩ = some (.int .i64 a0_1) := (blk_cell BK415.out 1).trans rfl
                  have hfz28_0 := blk_frozen BK415.out 0
                  have hfz28_1 := blk_frozen BK415.out 1
                  go_wp2
                  go_loopg [8, 65] kj16 (fun kq v8 v65 w' => ∃ (x8_3 : Int) (x65_3 : Int), v8 = .int .i64 x8_3 ∧ v65 = .int .i64 x65_3 ∧ Aside0 (lamellalaw02_SpanPieces.l0 kq a1 t416 x8_3 t416 (t416.length : Int) x65_3 a0_0 a0_1 = some r) ∧ Aside0 (kq ≤ kj16) ∧ Aside0 (Kd.R k30 30 w' w.heap.size (fun k_ => k_ ≠ gb415) (.slice Ao27 t416.length co27) t416) ∧ Aside0 (Kd.R k30 30 w' w.heap.size (fun k_ => k_ ≠ gb415) (.slice Ao27 t416.length co27) t416) ∧ Aside0 (w'.heap[gb415]? = some (.cells #[.int .i64 a0_0, .int .i64 a0_1] 30 (0, 0))) ∧ Aside0 (Below w.heap.size w w'))
                  case atStart => exact ⟨(a0_0), (0), (by first | rfl | (simp; done) | (simp [*]; done)), (by first | rfl | (simp; done) | (simp [*]; done)), H', ⟨Nat.le_refl _⟩, ⟨by (with_reducible repeat (first | apply Kd.R_alloc | apply Kd.R_drewN | apply Kd.R_drew)); exact HO_5.out⟩, ⟨by (with_reducible repeat (first | apply Kd.R_alloc | apply Kd.R_drewN | apply Kd.R_drew)); exact HO_5.out⟩, ⟨by (with_reducible repeat (first | refine blk_drewN ?_ _ | refine blk_drew ?_ | refine blk_alloc ?_ _)); exact BK415.out⟩, ⟨by repeat (first | (with_reducible first | exact HB.out | apply below_alloc | apply pw_below_drewN | apply below_drew1 | refine below_set ?_ GE415.out) | exact HB.out)⟩⟩
                  case round =>
                    clear H'
                    try clear c1
                    try clear c2
                    try clear p2
                    try clear c4
                    try clear c8
                    try clear c8b0
                    try clear c10
                    try clear c11
                    try clear c11b0
                    try clear c11b1
                    try clear c11b2
                    try clear c12
                    try clear c16
                    try clear c16b0
                    try clear c16b1
                    try clear c19
                    try clear c19b0
                    try clear c19b1
                    try clear c20
                    try clear c20b0
                    try clear c21
                    try clear c21b0
                    try clear c21b1
                    try clear c21b2
                    try clear c26
                    try clear c26b0
                    try clear c26b1
                    try clear hcz18_0
                    try clear hcz18_1
                    try clear hcz28_0
                    try clear hcz28_1
                    try clear hcz6_0
                    try clear hcz6_1
                    try clear hcz9_0
                    try clear hcz9_1
                    try clear hfz18_0
                    try clear hfz18_1
                    try clear hfz28_0
                    try clear hfz28_1
                    try clear hfz6_0
                    try clear hfz6_1
                    try clear hfz9_0
                    try clear hfz9_1
                    try clear p2
                    obtain ⟨x8_3, x65_3, rfl, rfl, HA, HK3, HO_5, HO_63, BK415, HB⟩ := hrel
                    cases gk with
                    | zero => exact absurd HA.out (by simp [lamellalaw02_SpanPieces.l0])
                    | succ k3 =>
                      have H := HA.out
                      clear HA
                      simp only [lamellalaw02_SpanPieces.l0] at H
                      by_cases c29 : x65_3 < (t416.length : Int)
                      · rw [if_pos c29] at H
                        have c29b0 : decide (x65_3 < (t416.length : Int)) = true := decide_eq_true c29
                        clear c29
                        by_cases c30 : 0 ≤ x65_3
                        · rw [if_pos c30] at H
                          have c30b0 : decide (0 ≤ x65_3) = true := decide_eq_true c30
                          clear c30
                          by_cases c31 : x65_3 < (t416.length : Int)
                          · rw [if_pos c31] at H
                            have c31b0 : decide (x65_3 < (t416.length : Int)) = true := decide_eq_true c31
                            clear c31
                            by_cases c32 : ((rd_T30 t416 x65_3).f0) = x8_3
                            · rw [if_pos c32] at H
                              have c32b0 : (((rd_T30 t416 x65_3).f0) == x8_3) = true := beq_iff_eq.mpr c32
                              have c32b1 : (((rd_T30 t416 x65_3).f0) != x8_3) = false := bne_eq_false_iff_eq.mpr c32
                              clear c32
                              by_cases c33 : ((rd_T30 t416 x65_3).f1) ≤ ((rd_T30 t416 x65_3).f0)
                              · rw [if_pos c33] at H
                                have c33b0 : decide (((rd_T30 t416 x65_3).f1) ≤ ((rd_T30 t416 x65_3).f0)) = true := decide_eq_true c33
                                clear c33
                                obtain rfl := Option.some.inj H
                                have p421 : 0 ≤ (x65_3 : Int) := of_decide_eq_true (by first | (with_reducible assumption) | assumption)
                                have q421 : x65_3 < (t416.length : Int) := of_decide_eq_true (by first | (with_reducible assumption) | assumption)
                                obtain ⟨ad421, e421, hx421_0, hx421_1⟩ := at_T30 (Kd.R_reads' HO_63.out).2.2 x65_3 p421 q421
                                cases e421
                                replace p421 := eq_true p421
                                replace q421 := eq_true q421
                                go_wp2_with (first | ((with_reducible refine gate_dst (N := 10) rfl ?_); (try (refine gate_guard (by rfl) ?_; dsimp only)); refine box_event ?hg (N := 10) ?hd (cs := #[.int .i64 0, .int .i64 0]) (t := 30) ?hr ?_; (case hd => rfl); (case hg => rfl); (case hr => first | (go_simp; done) | (go_simp; rfl)); intro gb422 hg w34 hbox hb; have n0_ := Aside0.mk (Kd.R_below (Kd.R_elderB (by (with_reducible repeat (first | apply Kd.R_alloc | apply Kd.R_drewN | apply Kd.R_drew)); exact HO_5.out) gb422 (Nat.le_of_eq hg.symm)) hb); have n1_ := Aside0.mk (Kd.R_below (Kd.R_elderB (by (with_reducible repeat (first | apply Kd.R_alloc | apply Kd.R_drewN | apply Kd.R_drew)); exact HO_63.out) gb422 (Nat.le_of_eq hg.symm)) hb); have n2_ := Aside0.mk (blk_below (g := gb415) (o := .cells #[.int .i64 a0_0, .int .i64 a0_1] 30 (0, 0)) (by (with_reducible repeat (first | refine blk_drewN ?_ _ | refine blk_drew ?_ | refine blk_alloc ?_ _)); exact BK415.out) hb); have n3_ := Aside0.mk (below_step (by repeat (first | (with_reducible first | exact HB.out | apply below_alloc | apply pw_below_drewN | apply below_drew1 | refine below_set ?_ GE415.out) | exact HB.out)) hb); have n4_ := Aside0.mk (hbox); have n5_ := Aside0.mk ((by rw [hg]; exact (below_size (by repeat (first | (with_reducible first | exact HB.out | apply below_alloc | apply pw_below_drewN | apply below_drew1 | refine below_set ?_ GE415.out) | exact HB.out))) : w.heap.size ≤ gb422)); have n6_ := Aside0.mk ((by rw [hg]; exact (below_size (by repeat (first | (with_reducible first | exact HB.out | apply below_alloc | apply pw_below_drewN | apply below_drew1 | refine below_set ?_ GE415.out) | exact HB.out))) : w.heap.size ≤ gb422)); have n7_ := Aside0.mk ((by rw [hg]; exact Nat.ne_of_lt (blk_lt (g := gb415) (o := .cells #[.int .i64 a0_0, .int .i64 a0_1] 30 (0, 0)) (by (with_reducible repeat (first | refine blk_drewN ?_ _ | refine blk_drew ?_ | refine blk_alloc ?_ _)); exact BK415.out)) : gb415 ≠ gb422)); have n8_ := Aside0.mk ((by rw [hg]; exact Nat.ne_of_gt (blk_lt (g := gb415) (o := .cells #[.int .i64 a0_0, .int .i64 a0_1] 30 (0, 0)) (by (with_reducible repeat (first | refine blk_drewN ?_ _ | refine blk_drew ?_ | refine blk_alloc ?_ _)); exact BK415.out)) : gb422 ≠ gb415)); clear HO_5; clear HO_63; clear BK415; clear HB; have HO_5 := n0_; have HO_63 := n1_; have BK415 := n2_; have HB := n3_; have BK422 := n4_; have GW422 := n5_; have GE422 := n6_; have NB415_422 := n7_; have NB422_415 := n8_; clear n0_ n1_ n2_ n3_ n4_ n5_ n6_ n7_ n8_; clear hb hbox hg; have hnb35 := NB422_415.out; have hnc35 := NB415_422.out; have hcz36_0 : w34.cell? ⟨gb422, 0, none⟩ = some (.int .i64 0) := (blk_cell BK422.out 0).trans rfl; have hcz36_1 : w34.cell? ⟨gb422, 1, none⟩ = some (.int .i64 0) := (blk_cell BK422.out 1).trans rfl; have hfz36_0 := blk_frozen BK422.out 0; have hfz36_1 := blk_frozen BK422.out 1))
                                go_ret
                                exact ⟨by first | rfl | (simp [errW_none, errW_some] <;> rfl) | (simp [*, errW_none, errW_some] <;> rfl), by repeat (first | (with_reducible first | exact HB.out | apply below_alloc | apply pw_below_drewN | apply below_drew1 | refine below_set ?_ GE415.out | refine below_set ?_ GE422.out) | exact HB.out)⟩
                              · rw [if_neg c33] at H
                                have c33b0 : decide (((rd_T30 t416 x65_3).f1) ≤ ((rd_T30 t416 x65_3).f0)) = false := decide_eq_false c33
                                clear c33
                                by_cases c37 : (IntKind.u64.wrap ((IntKind.u64.wrap ((rd_T30 t416 x65_3).f1)) - (IntKind.u64.wrap ((rd_T30 t416 x65_3).f0)))) > (IntKind.u64.wrap (a1))
                                · rw [if_pos c37] at H
                                  have c37b0 : decide ((IntKind.u64.wrap (a1)) < (IntKind.u64.wrap ((IntKind.u64.wrap ((rd_T30 t416 x65_3).f1)) - (IntKind.u64.wrap ((rd_T30 t416 x65_3).f0))))) = true := decide_eq_true c37
                                  clear c37
                                  obtain rfl := Option.some.inj H
                                  have p421 : 0 ≤ (x65_3 : Int) := of_decide_eq_true (by first | (with_reducible assumption) | assumption)
                                  have q421 : x65_3 < (t416.length : Int) := of_decide_eq_true (by first | (with_reducible assumption) | assumption)
                                  obtain ⟨ad421, e421, hx421_0, hx421_1⟩ := at_T30 (Kd.R_reads' HO_63.out).2.2 x65_3 p421 q421
                                  cases e421
                                  replace p421 := eq_true p421
                                  replace q421 := eq_true q421
                                  go_wp2_with (first | ((with_reducible refine gate_dst (N := 10) rfl ?_); (try (refine gate_guard (by rfl) ?_; dsimp only)); refine box_event ?hg (N := 10) ?hd (cs := #[.int .i64 0, .int .i64 0]) (t := 30) ?hr ?_; (case hd => rfl); (case hg => rfl); (case hr => first | (go_simp; done) | (go_simp; rfl)); intro gb422 hg w38 hbox hb; have n0_ := Aside0.mk (Kd.R_below (Kd.R_elderB (by (with_reducible repeat (first | apply Kd.R_alloc | apply Kd.R_drewN | apply Kd.R_drew)); exact HO_5.out) gb422 (Nat.le_of_eq hg.symm)) hb); have n1_ := Aside0.mk (Kd.R_below (Kd.R_elderB (by (with_reducible repeat (first | apply Kd.R_alloc | apply Kd.R_drewN | apply Kd.R_drew)); exact HO_63.out) gb422 (Nat.le_of_eq hg.symm)) hb); have n2_ := Aside0.mk (blk_below (g := gb415) (o := .cells #[.int .i64 a0_0, .int .i64 a0_1] 30 (0, 0)) (by (with_reducible repeat (first | refine blk_drewN ?_ _ | refine blk_drew ?_ | refine blk_alloc ?_ _)); exact BK415.out) hb); have n3_ := Aside0.mk (below_step (by repeat (first | (with_reducible first | exact HB.out | apply below_alloc | apply pw_below_drewN | apply below_drew1 | refine below_set ?_ GE415.out) | exact HB.out)) hb); have n4_ := Aside0.mk (hbox); have n5_ := Aside0.mk ((by rw [hg]; exact (below_size (by repeat (first | (with_reducible first | exact HB.out | apply below_alloc | apply pw_below_drewN | apply below_drew1 | refine below_set ?_ GE415.out) | exact HB.out))) : w.heap.size ≤ gb422)); have n6_ := Aside0.mk ((by rw [hg]; exact (below_size (by repeat (first | (with_reducible first | exact HB.out | apply below_alloc | apply pw_below_drewN | apply below_drew1 | refine below_set ?_ GE415.out) | exact HB.out))) : w.heap.size ≤ gb422)); have n7_ := Aside0.mk ((by rw [hg]; exact Nat.ne_of_lt (blk_lt (g := gb415) (o := .cells #[.int .i64 a0_0, .int .i64 a0_1] 30 (0, 0)) (by (with_reducible repeat (first | refine blk_drewN ?_ _ | refine blk_drew ?_ | refine blk_alloc ?_ _)); exact BK415.out)) : gb415 ≠ gb422)); have n8_ := Aside0.mk ((by rw [hg]; exact Nat.ne_of_gt (blk_lt (g := gb415) (o := .cells #[.int .i64 a0_0, .int .i64 a0_1] 30 (0, 0)) (by (with_reducible repeat (first | refine blk_drewN ?_ _ | refine blk_drew ?_ | refine blk_alloc ?_ _)); exact BK415.out)) : gb422 ≠ gb415)); clear HO_5; clear HO_63; clear BK415; clear HB; have HO_5 := n0_; have HO_63 := n1_; have BK415 := n2_; have HB := n3_; have BK422 := n4_; have GW422 := n5_; have GE422 := n6_; have NB415_422 := n7_; have NB422_415 := n8_; clear n0_ n1_ n2_ n3_ n4_ n5_ n6_ n7_ n8_; clear hb hbox hg; have hnb39 := NB422_415.out; have hnc39 := NB415_422.out; have hcz40_0 : w38.cell? ⟨gb422, 0, none⟩ = some (.int .i64 0) := (blk_cell BK422.out 0).trans rfl; have hcz40_1 : w38.cell? ⟨gb422, 1, none⟩ = some (.int .i64 0) := (blk_cell BK422.out 1).trans rfl; have hfz40_0 := blk_frozen BK422.out 0; have hfz40_1 := blk_frozen BK422.out 1))
                                  go_ret
                                  exact ⟨by first | rfl | (simp [errW_none, errW_some] <;> rfl) | (simp [*, errW_none, errW_some] <;> rfl), by repeat (first | (with_reducible first | exact HB.out | apply below_alloc | apply pw_below_drewN | apply below_drew1 | refine below_set ?_ GE415.out | refine below_set ?_ GE422.out) | exact HB.out)⟩
                                · rw [if_neg c37] at H
                                  have c37b0 : decide ((IntKind.u64.wrap (a1)) < (IntKind.u64.wrap ((IntKind.u64.wrap ((rd_T30 t416 x65_3).f1)) - (IntKind.u64.wrap ((rd_T30 t416 x65_3).f0))))) = false := decide_eq_false c37
                                  clear c37
                                  by_cases c41 : (wrap64 (x65_3 + 1)) < (t416.length : Int)
                                  · rw [if_pos c41] at H
                                    have c41b0 : decide ((wrap64 (x65_3 + 1)) < (t416.length : Int)) = true := decide_eq_true c41
                                    clear c41
                                    by_cases c42 : (IntKind.u64.wrap ((IntKind.u64.wrap ((rd_T30 t416 x65_3).f1)) - (IntKind.u64.wrap ((rd_T30 t416 x65_3).f0)))) = (IntKind.u64.wrap (a1))
                                    · rw [if_pos c42] at H
                                      have c42b0 : ((IntKind.u64.wrap ((IntKind.u64.wrap ((rd_T30 t416 x65_3).f1)) - (IntKind.u64.wrap ((rd_T30 t416 x65_3).f0)))) == (IntKind.u64.wrap (a1))) = true := beq_iff_eq.mpr c42
                                      have c42b1 : ((IntKind.u64.wrap ((IntKind.u64.wrap ((rd_T30 t416 x65_3).f1)) - (IntKind.u64.wrap ((rd_T30 t416 x65_3).f0)))) != (IntKind.u64.wrap (a1))) = false := bne_eq_false_iff_eq.mpr c42
                                      clear c42
                                      have H' := Aside0.mk H
                                      clear H
                                      have p421 : 0 ≤ (x65_3 : Int) := of_decide_eq_true (by first | (with_reducible assumption) | assumption)
                                      have q421 : x65_3 < (t416.length : Int) := of_decide_eq_true (by first | (with_reducible assumption) | assumption)
                                      obtain ⟨ad421, e421, hx421_0, hx421_1⟩ := at_T30 (Kd.R_reads' HO_63.out).2.2 x65_3 p421 q421
                                      cases e421
                                      replace p421 := eq_true p421
                                      replace q421 := eq_true q421
                                      go_wp2_with (first | ((with_reducible refine gate_dst (N := 10) rfl ?_); (try (refine gate_guard (by rfl) ?_; dsimp only)); refine box_event ?hg (N := 10) ?hd (cs := #[.int .i64 0, .int .i64 0]) (t := 30) ?hr ?_; (case hd => rfl); (case hg => rfl); (case hr => first | (go_simp; done) | (go_simp; rfl)); intro gb422 hg w43 hbox hb; have n0_ := Aside0.mk (Kd.R_below (Kd.R_elderB (by (with_reducible repeat (first | apply Kd.R_alloc | apply Kd.R_drewN | apply Kd.R_drew)); exact HO_5.out) gb422 (Nat.le_of_eq hg.symm)) hb); have n1_ := Aside0.mk (Kd.R_below (Kd.R_elderB (by (with_reducible repeat (first | apply Kd.R_alloc | apply Kd.R_drewN | apply Kd.R_drew)); exact HO_63.out) gb422 (Nat.le_of_eq hg.symm)) hb); have n2_ := Aside0.mk (blk_below (g := gb415) (o := .cells #[.int .i64 a0_0, .int .i64 a0_1] 30 (0, 0)) (by (with_reducible repeat (first | refine blk_drewN ?_ _ | refine blk_drew ?_ | refine blk_alloc ?_ _)); exact BK415.out) hb); have n3_ := Aside0.mk (below_step (by repeat (first | (with_reducible first | exact HB.out | apply below_alloc | apply pw_below_drewN | apply below_drew1 | refine below_set ?_ GE415.out) | exact HB.out)) hb); have n4_ := Aside0.mk (hbox); have n5_ := Aside0.mk ((by rw [hg]; exact (below_size (by repeat (first | (with_reducible first | exact HB.out | apply below_alloc | apply pw_below_drewN | apply below_drew1 | refine below_set ?_ GE415.out) | exact HB.out))) : w.heap.size ≤ gb422)); have n6_ := Aside0.mk ((by rw [hg]; exact (below_size (by repeat (first | (with_reducible first | exact HB.out | apply below_alloc | apply pw_below_drewN | apply below_drew1 | refine below_set ?_ GE415.out) | exact HB.out))) : w.heap.size ≤ gb422)); have n7_ := Aside0.mk ((by rw [hg]; exact Nat.ne_of_lt (blk_lt (g := gb415) (o := .cells #[.int .i64 a0_0, .int .i64 a0_1] 30 (0, 0)) (by (with_reducible repeat (first | refine blk_drewN ?_ _ | refine blk_drew ?_ | refine blk_alloc ?_ _)); exact BK415.out)) : gb415 ≠ gb422)); have n8_ := Aside0.mk ((by rw [hg]; exact Nat.ne_of_gt (blk_lt (g := gb415) (o := .cells #[.int .i64 a0_0, .int .i64 a0_1] 30 (0, 0)) (by (with_reducible repeat (first | refine blk_drewN ?_ _ | refine blk_drew ?_ | refine blk_alloc ?_ _)); exact BK415.out)) : gb422 ≠ gb415)); clear HO_5; clear HO_63; clear BK415; clear HB; have HO_5 := n0_; have HO_63 := n1_; have BK415 := n2_; have HB := n3_; have BK422 := n4_; have GW422 := n5_; have GE422 := n6_; have NB415_422 := n7_; have NB422_415 := n8_; clear n0_ n1_ n2_ n3_ n4_ n5_ n6_ n7_ n8_; clear hb hbox hg; have hnb44 := NB422_415.out; have hnc44 := NB415_422.out; have hcz45_0 : w43.cell? ⟨gb422, 0, none⟩ = some (.int .i64 0) := (blk_cell BK422.out 0).trans rfl; have hcz45_1 : w43.cell? ⟨gb422, 1, none⟩ = some (.int .i64 0) := (blk_cell BK422.out 1).trans rfl; have hfz45_0 := blk_frozen BK422.out 0; have hfz45_1 := blk_frozen BK422.out 1))
                                      go_roundg k3
                                      case measure => have := HJ3.out; have := HJ16.out; have := HK3.out; omega
                                      case rel => exact ⟨((rd_T30 t416 x65_3).f1), (wrap64 (x65_3 + 1)), (by first | rfl | (simp; done) | (simp [*]; done)), (by first | rfl | (simp; done) | (simp [*]; done)), H', ⟨by have := HJ3.out; have := HJ16.out; have := HK3.out; omega⟩, ⟨by (with_reducible repeat (first | apply Kd.R_alloc | apply Kd.R_drewN | apply Kd.R_drew)); exact Kd.R_mono (Kd.R_far (p := ⟨gb422, 1, none⟩) (Kd.R_far (p := ⟨gb422, 0, none⟩) (Kd.R_mono HO_5.out (fun k_ hk => (⟨hk, hk.2⟩ : _ ∧ k_ ≠ gb422))) (fun _ hk => hk.2) (.int .i64 ((rd_T30 t416 x65_3).f0))) (fun _ hk => hk.2) (.int .i64 ((rd_T30 t416 x65_3).f1))) (fun _ hk => hk.1.1)⟩, ⟨by (with_reducible repeat (first | apply Kd.R_alloc | apply Kd.R_drewN | apply Kd.R_drew)); exact Kd.R_mono (Kd.R_far (p := ⟨gb422, 1, none⟩) (Kd.R_far (p := ⟨gb422, 0, none⟩) (Kd.R_mono HO_63.out (fun k_ hk => (⟨hk, hk.2⟩ : _ ∧ k_ ≠ gb422))) (fun _ hk => hk.2) (.int .i64 ((rd_T30 t416 x65_3).f0))) (fun _ hk => hk.2) (.int .i64 ((rd_T30 t416 x65_3).f1))) (fun _ hk => hk.1.1)⟩, ⟨by (with_reducible repeat (first | refine blk_drewN ?_ _ | refine blk_drew ?_ | refine blk_alloc ?_ _)); refine blk_far ?_ NB415_422.out _; (with_reducible repeat (first | refine blk_drewN ?_ _ | refine blk_drew ?_ | refine blk_alloc ?_ _)); refine blk_far ?_ NB415_422.out _; (with_reducible repeat (first | refine blk_drewN ?_ _ | refine blk_drew ?_ | refine blk_alloc ?_ _)); exact BK415.out⟩, ⟨by repeat (first | (with_reducible first | exact HB.out | apply below_alloc | apply pw_below_drewN | apply below_drew1 | refine below_set ?_ GE415.out | refine below_set ?_ GE422.out) | exact HB.out)⟩⟩
                                    · rw [if_neg c42] at H
                                      have c42b0 : ((IntKind.u64.wrap ((IntKind.u64.wrap ((rd_T30 t416 x65_3).f1)) - (IntKind.u64.wrap ((rd_T30 t416 x65_3).f0)))) == (IntKind.u64.wrap (a1))) = false := beq_eq_false_iff_ne.mpr c42
                                      have c42b1 : ((IntKind.u64.wrap ((IntKind.u64.wrap ((rd_T30 t416 x65_3).f1)) - (IntKind.u64.wrap ((rd_T30 t416 x65_3).f0)))) != (IntKind.u64.wrap (a1))) = true := bne_iff_ne.mpr c42
                                      obtain rfl := Option.some.inj H
                                      have p421 : 0 ≤ (x65_3 : Int) := of_decide_eq_true (by first | (with_reducible assumption) | assumption)
                                      have q421 : x65_3 < (t416.length : Int) := of_decide_eq_true (by first | (with_reducible assumption) | assumption)
                                      obtain ⟨ad421, e421, hx421_0, hx421_1⟩ := at_T30 (Kd.R_reads' HO_63.out).2.2 x65_3 p421 q421
                                      cases e421
                                      replace p421 := eq_true p421
                                      replace q421 := eq_true q421
                                      go_wp2_with (first | ((with_reducible refine gate_dst (N := 10) rfl ?_); (try (refine gate_guard (by rfl) ?_; dsimp only)); refine box_event ?hg (N := 10) ?hd (cs := #[.int .i64 0, .int .i64 0]) (t := 30) ?hr ?_; (case hd => rfl); (case hg => rfl); (case hr => first | (go_simp; done) | (go_simp; rfl)); intro gb422 hg w46 hbox hb; have n0_ := Aside0.mk (Kd.R_below (Kd.R_elderB (by (with_reducible repeat (first | apply Kd.R_alloc | apply Kd.R_drewN | apply Kd.R_drew)); exact HO_5.out) gb422 (Nat.le_of_eq hg.symm)) hb); have n1_ := Aside0.mk (Kd.R_below (Kd.R_elderB (by (with_reducible repeat (first | apply Kd.R_alloc | apply Kd.R_drewN | apply Kd.R_drew)); exact HO_63.out) gb422 (Nat.le_of_eq hg.symm)) hb); have n2_ := Aside0.mk (blk_below (g := gb415) (o := .cells #[.int .i64 a0_0, .int .i64 a0_1] 30 (0, 0)) (by (with_reducible repeat (first | refine blk_drewN ?_ _ | refine blk_drew ?_ | refine blk_alloc ?_ _)); exact BK415.out) hb); have n3_ := Aside0.mk (below_step (by repeat (first | (with_reducible first | exact HB.out | apply below_alloc | apply pw_below_drewN | apply below_drew1 | refine below_set ?_ GE415.out) | exact HB.out)) hb); have n4_ := Aside0.mk (hbox); have n5_ := Aside0.mk ((by rw [hg]; exact (below_size (by repeat (first | (with_reducible first | exact HB.out | apply below_alloc | apply pw_below_drewN | apply below_drew1 | refine below_set ?_ GE415.out) | exact HB.out))) : w.heap.size ≤ gb422)); have n6_ := Aside0.mk ((by rw [hg]; exact (below_size (by repeat (first | (with_reducible first | exact HB.out | apply below_alloc | apply pw_below_drewN | apply below_drew1 | refine below_set ?_ GE415.out) | exact HB.out))) : w.heap.size ≤ gb422)); have n7_ := Aside0.mk ((by rw [hg]; exact Nat.ne_of_lt (blk_lt (g := gb415) (o := .cells #[.int .i64 a0_0, .int .i64 a0_1] 30 (0, 0)) (by (with_reducible repeat (first | refine blk_drewN ?_ _ | refine blk_drew ?_ | refine blk_alloc ?_ _)); exact BK415.out)) : gb415 ≠ gb422)); have n8_ := Aside0.mk ((by rw [hg]; exact Nat.ne_of_gt (blk_lt (g := gb415) (o := .cells #[.int .i64 a0_0, .int .i64 a0_1] 30 (0, 0)) (by (with_reducible repeat (first | refine blk_drewN ?_ _ | refine blk_drew ?_ | refine blk_alloc ?_ _)); exact BK415.out)) : gb422 ≠ gb415)); clear HO_5; clear HO_63; clear BK415; clear HB; have HO_5 := n0_; have HO_63 := n1_; have BK415 := n2_; have HB := n3_; have BK422 := n4_; have GW422 := n5_; have GE422 := n6_; have NB415_422 := n7_; have NB422_415 := n8_; clear n0_ n1_ n2_ n3_ n4_ n5_ n6_ n7_ n8_; clear hb hbox hg; have hnb47 := NB422_415.out; have hnc47 := NB415_422.out; have hcz48_0 : w46.cell? ⟨gb422, 0, none⟩ = some (.int .i64 0) := (blk_cell BK422.out 0).trans rfl; have hcz48_1 : w46.cell? ⟨gb422, 1, none⟩ = some (.int .i64 0) := (blk_cell BK422.out 1).trans rfl; have hfz48_0 := blk_frozen BK422.out 0; have hfz48_1 := blk_frozen BK422.out 1))
                                      go_ret
                                      exact ⟨by first | rfl | (simp [errW_none, errW_some] <;> rfl) | (simp [*, errW_none, errW_some] <;> rfl), by repeat (first | (with_reducible first | exact HB.out | apply below_alloc | apply pw_below_drewN | apply below_drew1 | refine below_set ?_ GE415.out | refine below_set ?_ GE422.out) | exact HB.out)⟩
                                  · rw [if_neg c41] at H
                                    have c41b0 : decide ((wrap64 (x65_3 + 1)) < (t416.length : Int)) = false := decide_eq_false c41
                                    clear c41
                                    have H' := Aside0.mk H
                                    clear H
                                    have p421 : 0 ≤ (x65_3 : Int) := of_decide_eq_true (by first | (with_reducible assumption) | assumption)
                                    have q421 : x65_3 < (t416.length : Int) := of_decide_eq_true (by first | (with_reducible assumption) | assumption)
                                    obtain ⟨ad421, e421, hx421_0, hx421_1⟩ := at_T30 (Kd.R_reads' HO_63.out).2.2 x65_3 p421 q421
                                    cases e421
                                    replace p421 := eq_true p421
                                    replace q421 := eq_true q421
                                    go_wp2_with (first | ((with_reducible refine gate_dst (N := 10) rfl ?_); (try (refine gate_guard (by rfl) ?_; dsimp only)); refine box_event ?hg (N := 10) ?hd (cs := #[.int .i64 0, .int .i64 0]) (t := 30) ?hr ?_; (case hd => rfl); (case hg => rfl); (case hr => first | (go_simp; done) | (go_simp; rfl)); intro gb422 hg w49 hbox hb; have n0_ := Aside0.mk (Kd.R_below (Kd.R_elderB (by (with_reducible repeat (first | apply Kd.R_alloc | apply Kd.R_drewN | apply Kd.R_drew)); exact HO_5.out) gb422 (Nat.le_of_eq hg.symm)) hb); have n1_ := Aside0.mk (Kd.R_below (Kd.R_elderB (by (with_reducible repeat (first | apply Kd.R_alloc | apply Kd.R_drewN | apply Kd.R_drew)); exact HO_63.out) gb422 (Nat.le_of_eq hg.symm)) hb); have n2_ := Aside0.mk (blk_below (g := gb415) (o := .cells #[.int .i64 a0_0, .int .i64 a0_1] 30 (0, 0)) (by (with_reducible repeat (first | refine blk_drewN ?_ _ | refine blk_drew ?_ | refine blk_alloc ?_ _)); exact BK415.out) hb); have n3_ := Aside0.mk (below_step (by repeat (first | (with_reducible first | exact HB.out | apply below_alloc | apply pw_below_drewN | apply below_drew1 | refine below_set ?_ GE415.out) | exact HB.out)) hb); have n4_ := Aside0.mk (hbox); have n5_ := Aside0.mk ((by rw [hg]; exact (below_size (by repeat (first | (with_reducible first | exact HB.out | apply below_alloc | apply pw_below_drewN | apply below_drew1 | refine below_set ?_ GE415.out) | exact HB.out))) : w.heap.size ≤ gb422)); have n6_ := Aside0.mk ((by rw [hg]; exact (below_size (by repeat (first | (with_reducible first | exact HB.out | apply below_alloc | apply pw_below_drewN | apply below_drew1 | refine below_set ?_ GE415.out) | exact HB.out))) : w.heap.size ≤ gb422)); have n7_ := Aside0.mk ((by rw [hg]; exact Nat.ne_of_lt (blk_lt (g := gb415) (o := .cells #[.int .i64 a0_0, .int .i64 a0_1] 30 (0, 0)) (by (with_reducible repeat (first | refine blk_drewN ?_ _ | refine blk_drew ?_ | refine blk_alloc ?_ _)); exact BK415.out)) : gb415 ≠ gb422)); have n8_ := Aside0.mk ((by rw [hg]; exact Nat.ne_of_gt (blk_lt (g := gb415) (o := .cells #[.int .i64 a0_0, .int .i64 a0_1] 30 (0, 0)) (by (with_reducible repeat (first | refine blk_drewN ?_ _ | refine blk_drew ?_ | refine blk_alloc ?_ _)); exact BK415.out)) : gb422 ≠ gb415)); clear HO_5; clear HO_63; clear BK415; clear HB; have HO_5 := n0_; have HO_63 := n1_; have BK415 := n2_; have HB := n3_; have BK422 := n4_; have GW422 := n5_; have GE422 := n6_; have NB415_422 := n7_; have NB422_415 := n8_; clear n0_ n1_ n2_ n3_ n4_ n5_ n6_ n7_ n8_; clear hb hbox hg; have hnb50 := NB422_415.out; have hnc50 := NB415_422.out; have hcz51_0 : w49.cell? ⟨gb422, 0, none⟩ = some (.int .i64 0) := (blk_cell BK422.out 0).trans rfl; have hcz51_1 : w49.cell? ⟨gb422, 1, none⟩ = some (.int .i64 0) := (blk_cell BK422.out 1).trans rfl; have hfz51_0 := blk_frozen BK422.out 0; have hfz51_1 := blk_frozen BK422.out 1))
                                    go_roundg k3
                                    case measure => have := HJ3.out; have := HJ16.out; have := HK3.out; omega
                                    case rel => exact ⟨((rd_T30 t416 x65_3).f1), (wrap64 (x65_3 + 1)), (by first | rfl | (simp; done) | (simp [*]; done)), (by first | rfl | (simp; done) | (simp [*]; done)), H', ⟨by have := HJ3.out; have := HJ16.out; have := HK3.out; omega⟩, ⟨by (with_reducible repeat (first | apply Kd.R_alloc | apply Kd.R_drewN | apply Kd.R_drew)); exact Kd.R_mono (Kd.R_far (p := ⟨gb422, 1, none⟩) (Kd.R_far (p := ⟨gb422, 0, none⟩) (Kd.R_mono HO_5.out (fun k_ hk => (⟨hk, hk.2⟩ : _ ∧ k_ ≠ gb422))) (fun _ hk => hk.2) (.int .i64 ((rd_T30 t416 x65_3).f0))) (fun _ hk => hk.2) (.int .i64 ((rd_T30 t416 x65_3).f1))) (fun _ hk => hk.1.1)⟩, ⟨by (with_reducible repeat (first | apply Kd.R_alloc | apply Kd.R_drewN | apply Kd.R_drew)); exact Kd.R_mono (Kd.R_far (p := ⟨gb422, 1, none⟩) (Kd.R_far (p := ⟨gb422, 0, none⟩) (Kd.R_mono HO_63.out (fun k_ hk => (⟨hk, hk.2⟩ : _ ∧ k_ ≠ gb422))) (fun _ hk => hk.2) (.int .i64 ((rd_T30 t416 x65_3).f0))) (fun _ hk => hk.2) (.int .i64 ((rd_T30 t416 x65_3).f1))) (fun _ hk => hk.1.1)⟩, ⟨by (with_reducible repeat (first | refine blk_drewN ?_ _ | refine blk_drew ?_ | refine blk_alloc ?_ _)); refine blk_far ?_ NB415_422.out _; (with_reducible repeat (first | refine blk_drewN ?_ _ | refine blk_drew ?_ | refine blk_alloc ?_ _)); refine blk_far ?_ NB415_422.out _; (with_reducible repeat (first | refine blk_drewN ?_ _ | refine blk_drew ?_ | refine blk_alloc ?_ _)); exact BK415.out⟩, ⟨by repeat (first | (with_reducible first | exact HB.out | apply below_alloc | apply pw_below_drewN | apply below_drew1 | refine below_set ?_ GE415.out | refine below_set ?_ GE422.out) | exact HB.out)⟩⟩
                            · rw [if_neg c32] at H
                              have c32b0 : (((rd_T30 t416 x65_3).f0) == x8_3) = false := beq_eq_false_iff_ne.mpr c32
                              have c32b1 : (((rd_T30 t416 x65_3).f0) != x8_3) = true := bne_iff_ne.mpr c32
                              obtain rfl := Option.some.inj H
                              have p421 : 0 ≤ (x65_3 : Int) := of_decide_eq_true (by first | (with_reducible assumption) | assumption)
                              have q421 : x65_3 < (t416.length : Int) := of_decide_eq_true (by first | (with_reducible assumption) | assumption)
                              obtain ⟨ad421, e421, hx421_0, hx421_1⟩ := at_T30 (Kd.R_reads' HO_63.out).2.2 x65_3 p421 q421
                              cases e421
                              replace p421 := eq_true p421
                              replace q421 := eq_true q421
                              go_wp2_with (first | ((with_reducible refine gate_dst (N := 10) rfl ?_); (try (refine gate_guard (by rfl) ?_; dsimp only)); refine box_event ?hg (N := 10) ?hd (cs := #[.int .i64 0, .int .i64 0]) (t := 30) ?hr ?_; (case hd => rfl); (case hg => rfl); (case hr => first | (go_simp; done) | (go_simp; rfl)); intro gb422 hg w52 hbox hb; have n0_ := Aside0.mk (Kd.R_below (Kd.R_elderB (by (with_reducible repeat (first | apply Kd.R_alloc | apply Kd.R_drewN | apply Kd.R_drew)); exact HO_5.out) gb422 (Nat.le_of_eq hg.symm)) hb); have n1_ := Aside0.mk (Kd.R_below (Kd.R_elderB (by (with_reducible repeat (first | apply Kd.R_alloc | apply Kd.R_drewN | apply Kd.R_drew)); exact HO_63.out) gb422 (Nat.le_of_eq hg.symm)) hb); have n2_ := Aside0.mk (blk_below (g := gb415) (o := .cells #[.int .i64 a0_0, .int .i64 a0_1] 30 (0, 0)) (by (with_reducible repeat (first | refine blk_drewN ?_ _ | refine blk_drew ?_ | refine blk_alloc ?_ _)); exact BK415.out) hb); have n3_ := Aside0.mk (below_step (by repeat (first | (with_reducible first | exact HB.out | apply below_alloc | apply pw_below_drewN | apply below_drew1 | refine below_set ?_ GE415.out) | exact HB.out)) hb); have n4_ := Aside0.mk (hbox); have n5_ := Aside0.mk ((by rw [hg]; exact (below_size (by repeat (first | (with_reducible first | exact HB.out | apply below_alloc | apply pw_below_drewN | apply below_drew1 | refine below_set ?_ GE415.out) | exact HB.out))) : w.heap.size ≤ gb422)); have n6_ := Aside0.mk ((by rw [hg]; exact (below_size (by repeat (first | (with_reducible first | exact HB.out | apply below_alloc | apply pw_below_drewN | apply below_drew1 | refine below_set ?_ GE415.out) | exact HB.out))) : w.heap.size ≤ gb422)); have n7_ := Aside0.mk ((by rw [hg]; exact Nat.ne_of_lt (blk_lt (g := gb415) (o := .cells #[.int .i64 a0_0, .int .i64 a0_1] 30 (0, 0)) (by (with_reducible repeat (first | refine blk_drewN ?_ _ | refine blk_drew ?_ | refine blk_alloc ?_ _)); exact BK415.out)) : gb415 ≠ gb422)); have n8_ := Aside0.mk ((by rw [hg]; exact Nat.ne_of_gt (blk_lt (g := gb415) (o := .cells #[.int .i64 a0_0, .int .i64 a0_1] 30 (0, 0)) (by (with_reducible repeat (first | refine blk_drewN ?_ _ | refine blk_drew ?_ | refine blk_alloc ?_ _)); exact BK415.out)) : gb422 ≠ gb415)); clear HO_5; clear HO_63; clear BK415; clear HB; have HO_5 := n0_; have HO_63 := n1_; have BK415 := n2_; have HB := n3_; have BK422 := n4_; have GW422 := n5_; have GE422 := n6_; have NB415_422 := n7_; have NB422_415 := n8_; clear n0_ n1_ n2_ n3_ n4_ n5_ n6_ n7_ n8_; clear hb hbox hg; have hnb53 := NB422_415.out; have hnc53 := NB415_422.out; have hcz54_0 : w52.cell? ⟨gb422, 0, none⟩ = some (.int .i64 0) := (blk_cell BK422.out 0).trans rfl; have hcz54_1 : w52.cell? ⟨gb422, 1, none⟩ = some (.int .i64 0) := (blk_cell BK422.out 1).trans rfl; have hfz54_0 := blk_frozen BK422.out 0; have hfz54_1 := blk_frozen BK422.out 1))
                              go_ret
                              exact ⟨by first | rfl | (simp [errW_none, errW_some] <;> rfl) | (simp [*, errW_none, errW_some] <;> rfl), by repeat (first | (with_reducible first | exact HB.out | apply below_alloc | apply pw_below_drewN | apply below_drew1 | refine below_set ?_ GE415.out | refine below_set ?_ GE422.out) | exact HB.out)⟩
                          · rw [if_neg c31] at H
                            exact absurd H (by simp)
                        · rw [if_neg c30] at H
                          exact absurd H (by simp)
                      · rw [if_neg c29] at H
                        have c29b0 : decide (x65_3 < (t416.length : Int)) = false := decide_eq_false c29
                        clear c29
                        by_cases c55 : x8_3 = a0_1
                        · rw [if_pos c55] at H
                          have c55b0 : (x8_3 == a0_1) = true := beq_iff_eq.mpr c55
                          have c55b1 : (x8_3 != a0_1) = false := bne_eq_false_iff_eq.mpr c55
                          clear c55
                          replace H := Option.bind_eq_some_iff.mp H
                          obtain ⟨t423, A560, H⟩ := H
                          replace H : (some t423) = some r := H
                          have A56 := Aside0.mk A560
                          clear A560
                          obtain rfl := Option.some.inj H
                          have hcz57_0 : wr.cell? ⟨gb415, 0, none⟩ = some (.int .i64 a0_0) := (blk_cell BK415.out 0).trans rfl
                          have hcz57_1 : wr.cell? ⟨gb415, 1, none⟩ = some (.int .i64 a0_1) := (blk_cell BK415.out 1).trans rfl
                          have hfz57_0 := blk_frozen BK415.out 0
                          have hfz57_1 := blk_frozen BK415.out 1
                          go_wp2_with (first | (go_at_call 22; (with_reducible refine (lamellalaw02_lives.calls  t423 _ A56.out).mono ?_); rintro e w58 ⟨rfl, hb⟩; have n0_ := Aside0.mk (Kd.R_below (by (with_reducible repeat (first | apply Kd.R_alloc | apply Kd.R_drewN | apply Kd.R_drew)); exact HO_5.out) hb); have n1_ := Aside0.mk (Kd.R_below (by (with_reducible repeat (first | apply Kd.R_alloc | apply Kd.R_drewN | apply Kd.R_drew)); exact HO_63.out) hb); have n2_ := Aside0.mk (blk_below (g := gb415) (o := .cells #[.int .i64 a0_0, .int .i64 a0_1] 30 (0, 0)) (by (with_reducible repeat (first | refine blk_drewN ?_ _ | refine blk_drew ?_ | refine blk_alloc ?_ _)); exact BK415.out) hb); have n3_ := Aside0.mk (below_step (by repeat (first | (with_reducible first | exact HB.out | apply below_alloc | apply pw_below_drewN | apply below_drew1 | refine below_set ?_ GE415.out) | exact HB.out)) hb); clear HO_5; clear HO_63; clear BK415; clear HB; have HO_5 := n0_; have HO_63 := n1_; have BK415 := n2_; have HB := n3_; clear n0_ n1_ n2_ n3_; (try clear hb); (try clear hb2); (try clear hk); (try clear hi)))
                          go_ret
                          exact ⟨by first | rfl | (simp [errW_none, errW_some] <;> rfl) | (simp [*, errW_none, errW_some] <;> rfl), by repeat (first | (with_reducible first | exact HB.out | apply below_alloc | apply pw_below_drewN | apply below_drew1 | refine below_set ?_ GE415.out) | exact HB.out)⟩
                        · rw [if_neg c55] at H
                          have c55b0 : (x8_3 == a0_1) = false := beq_eq_false_iff_ne.mpr c55
                          have c55b1 : (x8_3 != a0_1) = true := bne_iff_ne.mpr c55
                          obtain rfl := Option.some.inj H
                          have hcz59_0 : wr.cell? ⟨gb415, 0, none⟩ = some (.int .i64 a0_0) := (blk_cell BK415.out 0).trans rfl
                          have hcz59_1 : wr.cell? ⟨gb415, 1, none⟩ = some (.int .i64 a0_1) := (blk_cell BK415.out 1).trans rfl
                          have hfz59_0 := blk_frozen BK415.out 0
                          have hfz59_1 := blk_frozen BK415.out 1
                          go_wp2
                          go_ret
                          exact ⟨by first | rfl | (simp [errW_none, errW_some] <;> rfl) | (simp [*, errW_none, errW_some] <;> rfl), by repeat (first | (with_reducible first | exact HB.out | apply below_alloc | apply pw_below_drewN | apply below_drew1 | refine below_set ?_ GE415.out) | exact HB.out)⟩
                · rw [if_neg c26] at H
                  have c26b0 : ((IntKind.u64.wrap ((t416.length : Int))) == x7_16) = false := beq_eq_false_iff_ne.mpr c26
                  have c26b1 : ((IntKind.u64.wrap ((t416.length : Int))) != x7_16) = true := bne_iff_ne.mpr c26
                  obtain rfl := Option.some.inj H
                  obtain ⟨Ao60, co60, eo60⟩ := Kd.R_slice HO_5.out
                  subst eo60
                  go_wp2
                  go_ret
                  exact ⟨by first | rfl | (simp [errW_none, errW_some] <;> rfl) | (simp [*, errW_none, errW_some] <;> rfl), by repeat (first | (with_reducible first | exact HB.out | apply below_alloc | apply pw_below_drewN | apply below_drew1 | refine below_set ?_ GE415.out) | exact HB.out)⟩
end Go.Proofs.Ytgncbhpmnjfhhaa.S
end
section
namespace Go.Proofs.Ytgncbhpmnjfhhaa.S
open Go.RowKit Go.Proofs.YtgncbhpmnjfhhaaW.PrintWords Go.Proofs.YtgncbhpmnjfhhaaW.PrintLast Go.Proofs.YtgncbhpmnjfhhaaW.PrintMore
set_option linter.unusedVariables false
set_option linter.unusedSimpArgs false
theorem wrap_in (x : Int) (h0 : -9223372036854775808 ≤ x) (h1 : x ≤ 9223372036854775807) : wrap64 x = x := by unfold wrap64; omega
theorem rd_nat (l : List S30) (i : Nat) : rd_T30 l (i : Int) = l.getD i z30 := by unfold rd_T30; rw [Int.toNat_natCast]
theorem getD_at (l : List S30) (i : Nat) (h : i < l.length) : l.getD i z30 = l[i] := by rw [List.getD_eq_getElem?_getD, List.getElem?_eq_getElem h]; rfl
end Go.Proofs.Ytgncbhpmnjfhhaa.S
end
section
namespace Go.Proofs.Ytgncbhpmnjfhhaa.S
open Go.RowKit Go.Proofs.YtgncbhpmnjfhhaaW.PrintWords
set_option linter.unusedVariables false
def stepTo (m b from_ : Int) : Int := if m < b - from_ then from_ + m else b
def pcs (m b : Int) : Nat → Int → List S30
  | 0, _ => []
  | k + 1, f => if f < b then ⟨f, stepTo m b f⟩ :: pcs m b k (stepTo m b f) else []
theorem u64_in (x : Int) (h0 : 0 ≤ x) (h1 : x < 18446744073709551616) : IntKind.u64.wrap x = x := by rw [IntKind.wrap_u64]; omega
theorem u64_sub (x y : Int) : IntKind.u64.wrap (IntKind.u64.wrap x - IntKind.u64.wrap y) = (x - y) % 18446744073709551616 := by
  rw [IntKind.wrap_u64, IntKind.wrap_u64, IntKind.wrap_u64]; omega
theorem u64_width (x y : Int) (h0 : y ≤ x) (h1 : x - y < 18446744073709551616) : IntKind.u64.wrap (IntKind.u64.wrap x - IntKind.u64.wrap y) = x - y := by
  rw [u64_sub]; omega
section
variable {m a b : Int}
theorem pcs_f (hm0 : 1 ≤ m) (hm1 : m ≤ 9223372036854775807) (hb : b ≤ 9223372036854775807) : ∀ (k : Nat) (acc : List S30) (f : Int), -9223372036854775808 ≤ f → f ≤ 9223372036854775807 → -9223372036854775808 ≤ b → acc.length ≤ 4096 → 4097 < k + acc.length →
    span_Pieces.l0 k m acc f b = if acc.length + (pcs m b k f).length ≤ 4096 then some (acc ++ pcs m b k f) else some [] := by
  intro k
  induction k with
  | zero => intro acc f _ _ _ h1 h2; omega
  | succ k ih =>
    intro acc f hf0 hf1 hb0 h1 h2
    unfold span_Pieces.l0 span_empty.f
    rw [Option.bind_some]
    unfold pcs
    by_cases hfb : f < b
    · have e1 : decide (f ≥ b) = false := decide_eq_false (by omega)
      rw [e1, if_neg (by decide), if_pos hfb]
      by_cases h4 : (acc.length : Int) = 4096
      · rw [if_pos h4, if_neg (by simp only [List.length_cons]; omega)]
      · rw [if_neg h4, u64_width b f (by omega) (by omega), u64_in m (by omega) (by omega)]
        by_cases hw : b - f > m
        · rw [if_pos hw, if_pos (by omega), wrap_in _ (by omega) (by omega)]
          have e2 : stepTo m b f = f + m := if_pos (by omega)
          rw [e2, ih _ _ (by omega) (by omega) hb0 (by simp; omega) (by simp; omega)]
          simp only [List.length_append, List.length_cons, List.length_nil, List.append_assoc, List.cons_append, List.nil_append]
          rw [show acc.length + (0 + 1) + (pcs m b k (f + m)).length = acc.length + ((pcs m b k (f + m)).length + 1) by omega]
        · rw [if_neg hw, if_pos (by omega)]
          have e2 : stepTo m b f = b := if_neg (by omega)
          rw [e2, ih _ _ (by omega) (by omega) hb0 (by simp; omega) (by simp; omega)]
          simp only [List.length_append, List.length_cons, List.length_nil, List.append_assoc, List.cons_append, List.nil_append]
          rw [show acc.length + (0 + 1) + (pcs m b k b).length = acc.length + ((pcs m b k b).length + 1) by omega]
    · have e1 : decide (f ≥ b) = true := decide_eq_true (by omega)
      rw [e1, if_pos rfl, if_neg hfb, List.append_nil, if_pos (by simpa using h1)]
theorem pcs_len (hm0 : 1 ≤ m) : ∀ (k c : Nat) (f : Int), (c = 0 ∧ b ≤ f) ∨ (1 ≤ c ∧ ((c : Int) - 1) * m < b - f ∧ b - f ≤ (c : Int) * m) → (pcs m b k f).length = min k c := by
  intro k
  induction k with
  | zero => intro c f _; simp [pcs]
  | succ k ih =>
    intro c f h
    unfold pcs
    rcases h with ⟨rfl, hb⟩ | ⟨hc, h1, h2⟩
    · rw [if_neg (by omega)]; simp
    · have h0 : 0 ≤ ((c : Int) - 1) * m := Int.mul_nonneg (by omega) (by omega)
      rw [if_pos (by omega), List.length_cons]
      have e1 : ((c : Int) - 1) * m = (c : Int) * m - m := by rw [Int.sub_mul, Int.one_mul]
      by_cases hw : m < b - f
      · have e2 : stepTo m b f = f + m := if_pos hw
        have hc2 : 2 ≤ c := by
          rcases Nat.lt_or_ge c 2 with h | h
          · have : c = 1 := by omega
            subst this
            simp at h2; omega
          · exact h
        have e3 : (((c - 1 : Nat) : Int) - 1) * m = (c : Int) * m - m - m := by
          rw [show (((c - 1 : Nat) : Int) - 1) = (c : Int) - 1 - 1 by omega, Int.sub_mul, Int.sub_mul, Int.one_mul]
        have e4 : ((c - 1 : Nat) : Int) * m = (c : Int) * m - m := by
          rw [show ((c - 1 : Nat) : Int) = (c : Int) - 1 by omega, Int.sub_mul, Int.one_mul]
        rw [e2, ih (c - 1) (f + m) (.inr ⟨by omega, by omega, by omega⟩)]
        omega
      · have e2 : stepTo m b f = b := if_neg hw
        have hc1 : c = 1 := by
          rcases Nat.lt_or_ge c 2 with h | h
          · omega
          · have : m ≤ ((c : Int) - 1) * m := by
              have h5 : (1 : Int) * m ≤ ((c : Int) - 1) * m := Int.mul_le_mul_of_nonneg_right (by omega) (by omega)
              rwa [Int.one_mul] at h5
            omega
        subst hc1
        rw [e2, ih 0 b (.inl ⟨rfl, Int.le_refl _⟩)]
        omega
def good (m b : Int) : Int → List S30 → Prop
  | f, [] => f = b
  | f, s :: r => s.f0 = f ∧ s.f0 < s.f1 ∧ s.f1 - s.f0 ≤ m ∧ (r ≠ [] → s.f1 - s.f0 = m) ∧ s.f1 ≤ b ∧ good m b s.f1 r
theorem pcs_good (hm0 : 1 ≤ m) : ∀ (k : Nat) (f : Int), f ≤ b → (pcs m b k f).length < k → good m b f (pcs m b k f) := by
  intro k
  induction k with
  | zero => intro f _ h; omega
  | succ k ih =>
    intro f hfb h
    unfold pcs at h ⊢
    by_cases hlt : f < b
    · rw [if_pos hlt] at h ⊢
      rw [List.length_cons] at h
      by_cases hw : m < b - f
      · have e2 : stepTo m b f = f + m := if_pos hw
        rw [e2] at h ⊢
        exact ⟨rfl, by show f < f + m; omega, by show f + m - f ≤ m; omega, fun _ => by show f + m - f = m; omega, by show f + m ≤ b; omega, ih (f + m) (by omega) (by omega)⟩
      · have e2 : stepTo m b f = b := if_neg hw
        rw [e2] at h ⊢
        have hnil : pcs m b k b = [] := by cases k with
          | zero => rfl
          | succ k => exact if_neg (by omega)
        refine ⟨rfl, hlt, by show b - f ≤ m; omega, fun hr => absurd hnil hr, Int.le_refl _, ?_⟩
        rw [hnil]; rfl
    · rw [if_neg hlt]
      show f = b
      omega
theorem check_ok (hm0 : 1 ≤ m) (hm1 : m ≤ 9223372036854775807) (L : List S30) (hL : L.length ≤ 4096) (x y : Int) : ∀ (n k i : Nat) (f : Int), L.length - i = n → i ≤ L.length → n < k → good m b f (L.drop i) → -9223372036854775808 ≤ f → b ≤ 9223372036854775807 →
    lamellalaw02_SpanPieces.l0 k m L f L (L.length : Int) (i : Int) x b = some true := by
  intro n
  induction n with
  | zero =>
    intro k i f hn hi hk hg _ _
    obtain ⟨k, rfl⟩ : ∃ j, k = j + 1 := ⟨k - 1, by omega⟩
    unfold lamellalaw02_SpanPieces.l0
    rw [List.drop_of_length_le (by omega)] at hg
    have hg2 : f = b := hg
    rw [if_neg (by omega), if_pos hg2]
    rfl
  | succ n ih =>
    intro k i f hn hi hk hg hf hb
    obtain ⟨k, rfl⟩ : ∃ j, k = j + 1 := ⟨k - 1, by omega⟩
    unfold lamellalaw02_SpanPieces.l0
    have hil : i < L.length := by omega
    rw [if_pos (by omega), if_pos (by omega), if_pos (by omega), rd_nat, getD_at L i hil]
    rw [List.drop_eq_getElem_cons hil] at hg
    obtain ⟨g1, g2, g3, g4, g5, g6⟩ := hg
    rw [if_pos g1, if_neg (by omega), u64_width _ _ (by omega) (by omega), u64_in m (by omega) (by omega), if_neg (by omega), wrap_in _ (by omega) (by omega)]
    have hnext := ih k (i + 1) (L[i]).f1 (by omega) (by omega) (by omega) g6 (by omega) hb
    by_cases hl : ((i : Int) + 1) < (L.length : Int)
    · have hne : L.drop (i + 1) ≠ [] := fun e => by
        have := congrArg List.length e
        rw [List.length_drop, List.length_nil] at this
        omega
      rw [if_pos hl, if_pos (g4 hne)]
      exact hnext
    · rw [if_neg hl]
      exact hnext
end
theorem j1_ok {m a b : Int} (hm0 : 1 ≤ m) (hm1 : m ≤ 9223372036854775807) (ha : -9223372036854775808 ≤ a) (hb : b ≤ 9223372036854775807) (hab : a < b) (c : Nat) (hc : 1 ≤ c) (h1 : ((c : Int) - 1) * m < b - a) (h2 : b - a ≤ (c : Int) * m) (T : List S30)
    (hT : T = if (pcs m b 5000 a).length ≤ 4096 then pcs m b 5000 a else []) : ∀ K : Nat, 4200 < K → lamellalaw02_SpanPieces.j1 (K + 1) m T (c : Int) a b = some true := by
  intro K hK
  have hl := pcs_len (b := b) hm0 5000 c a (.inr ⟨hc, h1, h2⟩)
  simp only [lamellalaw02_SpanPieces.j1]
  by_cases hp : (c : Int) > 4096
  · rw [if_neg (by omega)] at hT
    subst hT
    rw [if_pos hp]
    rfl
  · rw [if_pos (by omega)] at hT
    subst hT
    have hlc : (pcs m b 5000 a).length = c := by omega
    rw [if_neg hp, u64_in _ (by omega) (by omega), if_pos (by omega)]
    exact check_ok hm0 hm1 _ (by omega) a a _ K 0 a rfl (Nat.zero_le _) (by omega) (pcs_good hm0 5000 a (by omega) (by omega)) ha hb
theorem pureSpanPieces (a b m : Int) (o : (-9223372036854775808 ≤ a ∧ a ≤ 9223372036854775807) ∧ (-9223372036854775808 ≤ b ∧ b ≤ 9223372036854775807)) (hm : -9223372036854775808 ≤ m ∧ m ≤ 9223372036854775807) : lamellalaw02_SpanPieces.f 5000 a b m = some true := by
  obtain ⟨⟨a0, a1⟩, b0, b1⟩ := o
  show lamellalaw02_SpanPieces.f (4999 + 1) a b m = some true
  unfold lamellalaw02_SpanPieces.f span_Pieces.f
  by_cases h1 : m < 1
  · rw [if_pos h1, Option.bind_some, if_pos h1]
    rfl
  · rw [if_neg h1, pcs_f (by omega) hm.2 b1 _ [] a a0 a1 b0 (by simp) (by simp), List.length_nil, Nat.zero_add, List.nil_append]
    obtain ⟨T, hT⟩ : ∃ T, T = if (pcs m b 5000 a).length ≤ 4096 then pcs m b 5000 a else [] := ⟨_, rfl⟩
    have hT2 : (if (pcs m b (4999 + 1) a).length ≤ 4096 then some (pcs m b (4999 + 1) a) else some []) = some T := by rw [hT]; split <;> rfl
    rw [hT2, Option.bind_some, if_neg h1]
    by_cases hab : a ≥ b
    · have hn : pcs m b 5000 a = [] := if_neg (by omega)
      rw [hn] at hT
      have hT3 : T = [] := hT
      rw [decide_eq_true hab, hT3]
      rfl
    · rw [decide_eq_false hab]
      obtain ⟨K, hK1, hK2⟩ : ∃ K : Nat, 4999 = K + 1 ∧ 4200 < K := ⟨4998, rfl, by decide⟩
      rw [hK1]
      simp only [lamellalaw02_SpanPieces.j0]
      rw [if_neg (by decide), u64_in m (by omega) (by omega), if_neg (by omega), u64_width b a (by omega) (by omega), Int.tmod_eq_emod_of_nonneg (by omega), Int.tdiv_eq_ediv_of_nonneg (by omega)]
      have e1 := Int.mul_ediv_add_emod (b - a) m
      have e2 := Int.emod_nonneg (b - a) (b := m) (by omega)
      have e3 := Int.emod_lt_of_pos (b - a) (b := m) (by omega)
      have e4 : 0 ≤ (b - a) / m := Int.ediv_nonneg (by omega) (by omega)
      have e5 : (b - a) / m ≤ b - a := Int.ediv_le_self _ (by omega)
      obtain ⟨q, hq⟩ : ∃ q, q = (b - a) / m := ⟨_, rfl⟩
      obtain ⟨r, hr⟩ : ∃ r, r = (b - a) % m := ⟨_, rfl⟩
      rw [← hq] at e1 e4 e5 ⊢
      rw [← hr] at e1 e2 e3 ⊢
      have e6 : q * m + r = b - a := by rw [Int.mul_comm]; exact e1
      rw [u64_in q e4 (by omega)]
      by_cases hr0 : r = 0
      · rw [if_pos hr0]
        have hq1 : 1 ≤ q := by
          rcases Int.lt_or_le q 1 with h | h
          · have : q = 0 := by omega
            rw [this, Int.zero_mul] at e6; omega
          · exact h
        have hqc : q = ((q.toNat : Nat) : Int) := by omega
        rw [hqc]
        refine j1_ok (by omega) hm.2 a0 b1 (by omega) q.toNat (by omega) ?_ ?_ T hT K hK2
        · rw [← hqc, Int.sub_mul, Int.one_mul]; omega
        · rw [← hqc]; omega
      · rw [if_neg hr0]
        have hm2 : 2 ≤ m := by omega
        have hq2 : q * 2 ≤ q * m := Int.mul_le_mul_of_nonneg_left hm2 e4
        rw [u64_in (q + 1) (by omega) (by omega)]
        have hqc : q + 1 = (((q + 1).toNat : Nat) : Int) := by omega
        rw [hqc]
        refine j1_ok (by omega) hm.2 a0 b1 (by omega) (q + 1).toNat (by omega) ?_ ?_ T hT K hK2
        · rw [← hqc, show q + 1 - 1 = q by omega]; omega
        · rw [← hqc, Int.add_mul, Int.one_mul]; omega
end Go.Proofs.Ytgncbhpmnjfhhaa.S
end
section
namespace Go.Proofs.Ytgncbhpmnjfhhaa.spanPieces
open Go.ChangeShapes Go.WideShapes Go.ChangeAt Go.RowKit Go.Proofs.Ytgncbhpmnjfhhaa.S
set_option linter.unusedVariables false
theorem own : ownKnob Try.prog.godebug = none := by kernel_rfl
theorem laidOut : laidOutB Try.prog = true := by kernel_rfl
set_option maxRecDepth 100000 in
theorem lifted (os : Os) (started : os.Started) (H : Type) (enc : TypeId × Value → H) :
    ReturnsInHanded {} Try.checked os 12 .any (Rows.spanPiecesSpec.pre6 enc Try.prog Try.f12 Rows.spanPiecesRow.domain false) (Rows.spanPiecesSpec.post enc Try.prog Try.f12 false true false false) := by
  refine returnsInHanded_of_change_sized (C := Try.checked) own started (by kernel_rfl) Try.func12
    (ChangeSpec.witness6 (enc := enc) (C := Try.checked) false ⟨#[], #[.agg #[.int .i64 0, .int .i64 0], .int .i64 0], []⟩ 8 (by kernel_rfl) (by kernel_rfl) (by kernel_rfl) (by kernel_rfl)) ?_
  intro W base args ds gs before hval0 hW hcnd hsz0 _
  have hval : ∀ (j : Nat) t v, Try.f12.params[j]? = some t → args[j]? = some v → Value.okWide Try.prog W .any base t v := hval0
  have hW' := hW
  obtain ⟨p, q, hA0, hV, rfl, hfz, hnd⟩ := hW
  have hA : DataW.TrodAll enc Try.prog W 0 (fun _ => true) true Try.f12.params.toList args.toList ds p := hA0
  rw [Try.params12] at hA hval
  obtain ⟨v0, vs0, d0, ds0, p0, q0, hargs, rfl, rfl, h0, r0⟩ := trodAll_cons hA
  obtain ⟨v1, vs1, d1, ds1, p1, q1, rfl, rfl, rfl, h1, r1⟩ := trodAll_cons r0
  obtain ⟨rfl, rfl, rfl⟩ := trodAll_nil r1
  obtain rfl : args = #[v0, v1] := by cases args; simp_all
  obtain ⟨rfl, rfl⟩ := trodVars_none hV
  obtain ⟨s0, rfl, rfl, rfl, o0⟩ := open_span (hval 0 30 v0 rfl rfl) h0
  obtain ⟨a1, rfl, rfl, rfl, w1⟩ := open_int Try.underlying3 (hval 1 3 v1 rfl rfl) h1
  refine (lamellalaw02_SpanPieces.calls 5000 s0.f0 s0.f1 a1 true W  (pureSpanPieces s0.f0 s0.f1 a1 o0 (wf64 w1))).mono fun e W' ⟨he, bel⟩ => ?_
  subst he
  exact ⟨_, rfl, _, _, _, [], _, [], hW', trodAll_mk1 (shut_bool Try.underlying4 _), (trodAll_cons_mk (Go.Proofs.Ytgncbhpmnjfhhaa.S.shut_span o0) (trodAll_cons_mk (shut_int Try.underlying3 w1) trodAll_mk0)), rfl, bel.frame _, fun h => by cases h⟩
theorem over : Rows.spanPiecesRow.holds Try.pinned (OpenSpec.ofChange Rows.spanPiecesSpec) :=
  OpenClaim.holds_of_wide 12 Try.f12 rfl rfl rfl rfl rfl rfl rfl ⟨rfl, rfl, rfl, rfl, rfl⟩ rfl rfl rfl rfl rfl (by kernel_rfl) Try.func12 (by kernel_rfl)
    (of_decide_eq_true (by kernel_rfl)) (by unfold Func.isWrapper; first | (rw [if_pos (by decide +kernel)]; kernel_rfl) | (rw [if_neg (by decide +kernel)]; exact ⟨rfl, rfl⟩))
    (fun os started H enc _ => lifted os started H enc)
theorem proved : Rows.SpanPiecesSaid := over
end Go.Proofs.Ytgncbhpmnjfhhaa.spanPieces
namespace Go.Proofs.Ytgncbhpmnjfhhaa
theorem spanPieces_holds : Rows.SpanPiecesSaid := spanPieces.proved
#print axioms spanPieces_holds
end Go.Proofs.Ytgncbhpmnjfhhaa
end
