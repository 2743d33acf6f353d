/- Count goes together with Join, Meet and Cut: whatever the input, the law returns true, and each argument reads behind the call as it did. No condition. -/
import Derived.Test.YtgncbhpmnjfhhaaCounts0
import Derived.Laws.Bits64
import Derived.Deep.Slices
import Derived.Lib.SmallJoins
import Derived.ChangeSame
import Derived.KernelRfl
import Derived.Test.YtgncbhpmnjfhhaaRows
import Derived.WalkKit
import Derived.ProofKit
import Derived.OpenShut
import Derived.ShutString
import Derived.ChangeOld
import Derived.Below
import Derived.SizedLaws
section
namespace Go.Proofs.Ytgncbhpmnjfhhaa.S
open Go.RowKit Go.Proofs.YtgncbhpmnjfhhaaW.PrintWords Go.Proofs.YtgncbhpmnjfhhaaW.PrintLast Go.Proofs.YtgncbhpmnjfhhaaW.PrintMore
attribute [local go_sem] max2_int min2_int max_two min_two max_three min_three max_four min_four
set_option linter.unusedVariables false
set_option linter.unusedSimpArgs false
set_option maxHeartbeats 8000000 in
set_option maxRecDepth 100000 in
theorem lamellalaw02_SpanCounts.calls (k : Nat) (A0 : Option Addr) (c0 : Nat) (l0 : List (S30)) (A1 : Option Addr) (c1 : Nat) (l1 : List (S30)) (r : Bool) (w : World) (hr0 : Kd.C k30 w A0 l0.length l0) (hc0 : l0.length ≤ c0) (hr1 : Kd.C k30 w A1 l1.length l1) (hc1 : l1.length ≤ c1) (h : lamellalaw02_SpanCounts.f k l0 l1 = some r) :
    Calls Try.prog 15 #[.slice A0 l0.length c0, .slice A1 l1.length c1] w fun e w' => e = .returned (.bool r) ∧ Below w.heap.size w w' := by
  have hu30 := Try.underlying30
  have HR0 := Aside0.mk hr0
  have HC0 := Aside0.mk hc0
  clear hr0 hc0
  have HR1 := Aside0.mk hr1
  have HC1 := Aside0.mk hc1
  clear hr1 hc1
  have HB := Aside0.mk (Below.refl w.heap.size w)
  have H : ((lamellalaw02_cut.f l0).bind fun t528 => ((lamellalaw02_cut.f l1).bind fun t531 => ((span_Norm.f k t528).bind fun t534 => (lamellalaw02_SpanCounts.l0 k t528 t531 0 t534 (t534.length : Int) 0)))) = some r := h
  clear h
  replace H := Option.bind_eq_some_iff.mp H
  obtain ⟨t528, A30, H⟩ := H
  replace H : ((lamellalaw02_cut.f l1).bind fun t531 => ((span_Norm.f k t528).bind fun t534 => (lamellalaw02_SpanCounts.l0 k t528 t531 0 t534 (t534.length : Int) 0))) = some r := H
  have A3 := Aside0.mk A30
  clear A30
  replace H := Option.bind_eq_some_iff.mp H
  obtain ⟨t531, A40, H⟩ := H
  replace H : ((span_Norm.f k t528).bind fun t534 => (lamellalaw02_SpanCounts.l0 k t528 t531 0 t534 (t534.length : Int) 0)) = some r := H
  have A4 := Aside0.mk A40
  clear A40
  replace H := Option.bind_eq_some_iff.mp H
  obtain ⟨t534, A50, H⟩ := H
  replace H : (lamellalaw02_SpanCounts.l0 k t528 t531 0 t534 (t534.length : Int) 0) = some r := H
  have A5 := Aside0.mk A50
  clear A50
  have H' := Aside0.mk H
  clear H
  go_enter Try.func15, Try.ntmps15
  go_wp2_with (first | ((with_reducible refine gate_callee (f := 17) rfl ?_); refine goesL_ (some 9) rfl rfl Try.func17 (by kernel_rfl) rfl #[.slice A0 l0.length c0] rfl (by (try simp only [List.map_toArray, List.map_cons, List.map_nil]); first | done | rfl | (simp only [List.length_drop, List.length_take]; rfl)) ?_; (with_reducible refine (lamellalaw02_cut.calls (fun k_ => k_ < w.heap.size) _ _ l0 t528 _ ?side1 A3.out).mono ?_); (case side1 => exact Kd.V_mk HC0.out (Kd.F_below (Kd.C_F k30_heap HR0.out) (by repeat (first | (with_reducible first | exact HB.out | apply below_alloc | apply pw_below_drewN | apply below_drew1) | exact HB.out)))); rintro e w6 ⟨v529, rfl, ho0, hb⟩; refine ⟨_, rfl, ?_⟩; have n0_ := Aside0.mk (Kd.V_lower (Kd.V_mono (ok' := fun k_ => True) ho0 (fun k_ hk_ => trivial)) (below_size (by repeat (first | (with_reducible first | exact HB.out | apply below_alloc | apply pw_below_drewN | apply below_drew1) | exact HB.out)))); have n1_ := Aside0.mk (below_step (by repeat (first | (with_reducible first | exact HB.out | apply below_alloc | apply pw_below_drewN | apply below_drew1) | exact HB.out)) hb); clear HB; have HO530 := n0_; have HB := n1_; clear n0_ n1_; (try clear hb); (try clear hb2); (try clear hk); (try clear hi); (try clear ho0)) | ((with_reducible refine gate_callee (f := 17) rfl ?_); refine goesL_ (some 11) rfl rfl Try.func17 (by kernel_rfl) rfl #[.slice A1 l1.length c1] rfl (by (try simp only [List.map_toArray, List.map_cons, List.map_nil]); first | done | rfl | (simp only [List.length_drop, List.length_take]; rfl)) ?_; (with_reducible refine (lamellalaw02_cut.calls (fun k_ => k_ < w.heap.size) _ _ l1 t531 _ ?side1 A4.out).mono ?_); (case side1 => exact Kd.V_mk HC1.out (Kd.F_below (Kd.C_F k30_heap HR1.out) (by repeat (first | (with_reducible first | exact HB.out | apply below_alloc | apply pw_below_drewN | apply below_drew1) | exact HB.out)))); rintro e w7 ⟨v532, rfl, ho0, hb⟩; refine ⟨_, rfl, ?_⟩; have n0_ := Aside0.mk (Kd.V_below (by (with_reducible repeat (first | apply Kd.V_alloc | apply Kd.V_drewN | apply Kd.V_drew)); exact HO530.out) hb); have n1_ := Aside0.mk (Kd.V_lower (Kd.V_mono (ok' := fun k_ => True) ho0 (fun k_ hk_ => trivial)) (below_size (by repeat (first | (with_reducible first | exact HB.out | apply below_alloc | apply pw_below_drewN | apply below_drew1) | exact HB.out)))); have n2_ := Aside0.mk (below_step (by repeat (first | (with_reducible first | exact HB.out | apply below_alloc | apply pw_below_drewN | apply below_drew1) | exact HB.out)) hb); clear HO530; clear HB; have HO530 := n0_; have HO533 := n1_; have HB := n2_; clear n0_ n1_ n2_; (try clear hb); (try clear hb2); (try clear hk); (try clear hi); (try clear ho0); obtain ⟨Ao8, co8, eo8⟩ := Kd.V_slice HO530.out; subst eo8) | ((with_reducible refine gate_callee (f := 18) rfl ?_); refine goesL_ (some 13) rfl rfl Try.func18 (by kernel_rfl) rfl #[.slice Ao8 t528.length co8] rfl (by (try simp only [List.map_toArray, List.map_cons, List.map_nil]); first | done | rfl | (simp only [List.length_drop, List.length_take]; rfl)) ?_; (with_reducible refine (span_Norm.calls k _ _ t528 t534 _ ?side1 ?side2 A5.out).mono ?_); (case side1 => repeat (first | exact (Kd.V_reads' HO530.out).2.2 | (with_reducible refine Kd.C_alloc ?_ _) | (with_reducible refine Kd.C_drewN ?_ _) | (with_reducible refine Kd.C_drew ?_))); (case side2 => exact (Kd.V_reads' HO530.out).2.1); rintro e w9 ⟨v535, rfl, ho0, hb⟩; refine ⟨_, rfl, ?_⟩; have n0_ := Aside0.mk (Kd.V_elder' (by (with_reducible repeat (first | apply Kd.V_alloc | apply Kd.V_drewN | apply Kd.V_drew)); exact HO530.out) (Kd.R_base ho0) hb); have n1_ := Aside0.mk (Kd.V_elder' (by (with_reducible repeat (first | apply Kd.V_alloc | apply Kd.V_drewN | apply Kd.V_drew)); exact HO533.out) (Kd.R_base ho0) hb); have n2_ := Aside0.mk (Kd.R_lower ho0 (below_size (by repeat (first | (with_reducible first | exact HB.out | apply below_alloc | apply pw_below_drewN | apply below_drew1) | exact HB.out)))); have n3_ := Aside0.mk (below_step (by repeat (first | (with_reducible first | exact HB.out | apply below_alloc | apply pw_below_drewN | apply below_drew1) | exact HB.out)) hb); clear HO530; clear HO533; clear HB; have HO530 := n0_; have HO533 := n1_; have HO536 := n2_; have HB := n3_; clear n0_ n1_ n2_ n3_; (try clear hb); (try clear hb2); (try clear hk); (try clear hi); (try clear ho0); obtain ⟨Ao10, co10, eo10⟩ := Kd.R_slice HO536.out; subst eo10))
  go_loopg [5, 15] k (fun kq v5 v15 w' => ∃ (x5_1 : Int) (x15_1 : Int), v5 = .int .u64 x5_1 ∧ v15 = .int .i64 x15_1 ∧ Aside0 (lamellalaw02_SpanCounts.l0 kq t528 t531 x5_1 t534 (t534.length : Int) x15_1 = some r) ∧ Aside0 (kq ≤ k) ∧ Aside0 (Kd.V k30 30 w' w.heap.size (fun k_ => some k_ ≠ ((.slice Ao10 t534.length co10) : Value).ownBlock) (.slice Ao8 t528.length co8) t528) ∧ Aside0 (Kd.V k30 30 w' w.heap.size (fun k_ => some k_ ≠ ((.slice Ao10 t534.length co10) : Value).ownBlock) v532 t531) ∧ Aside0 (Kd.R k30 30 w' w.heap.size (fun _ => True) (.slice Ao10 t534.length co10) t534) ∧ Aside0 (Below w.heap.size w w'))
  case atStart => exact ⟨(0), (0), (by first | rfl | (simp; done) | (simp [*]; done)), (by first | rfl | (simp; done) | (simp [*]; done)), H', ⟨Nat.le_refl _⟩, ⟨by (with_reducible repeat (first | apply Kd.V_alloc | apply Kd.V_drewN | apply Kd.V_drew)); exact Kd.V_mono HO530.out (fun _ hk => hk.2)⟩, ⟨by (with_reducible repeat (first | apply Kd.V_alloc | apply Kd.V_drewN | apply Kd.V_drew)); exact Kd.V_mono HO533.out (fun _ hk => hk.2)⟩, ⟨by (with_reducible repeat (first | apply Kd.R_alloc | apply Kd.R_drewN | apply Kd.R_drew)); exact HO536.out⟩, ⟨by repeat (first | (with_reducible first | exact HB.out | apply below_alloc | apply pw_below_drewN | apply below_drew1) | exact HB.out)⟩⟩
  case round =>
    clear H'
    try clear c1
    try clear p2
    obtain ⟨x5_1, x15_1, rfl, rfl, HA, HK1, HO_0, HO_1, HO_13, HB⟩ := hrel
    cases gk with
    | zero => exact absurd HA.out (by simp [lamellalaw02_SpanCounts.l0])
    | succ k1 =>
      have H := HA.out
      clear HA
      simp only [lamellalaw02_SpanCounts.l0] at H
      by_cases c11 : x15_1 < (t534.length : Int)
      · rw [if_pos c11] at H
        have c11b0 : decide (x15_1 < (t534.length : Int)) = true := decide_eq_true c11
        clear c11
        by_cases c12 : 0 ≤ x15_1
        · rw [if_pos c12] at H
          have c12b0 : decide (0 ≤ x15_1) = true := decide_eq_true c12
          clear c12
          by_cases c13 : x15_1 < (t534.length : Int)
          · rw [if_pos c13] at H
            have c13b0 : decide (x15_1 < (t534.length : Int)) = true := decide_eq_true c13
            clear c13
            have H' := Aside0.mk H
            clear H
            have p537 : 0 ≤ (x15_1 : Int) := of_decide_eq_true (by first | (with_reducible assumption) | assumption)
            have q537 : x15_1 < (t534.length : Int) := of_decide_eq_true (by first | (with_reducible assumption) | assumption)
            obtain ⟨ad537, e537, hx537_0, hx537_1⟩ := at_T30 (Kd.R_reads' HO_13.out).2.2 x15_1 p537 q537
            cases e537
            replace p537 := eq_true p537
            replace q537 := eq_true q537
            go_wp2_with (first | ((with_reducible refine gate_dst (N := 7) rfl ?_); refine box_event ?hg (N := 7) ?hd (cs := #[.int .i64 0, .int .i64 0]) (t := 30) ?hr ?_; (case hd => rfl); (case hg => rfl); (case hr => first | (go_simp; done) | (go_simp; rfl)); intro gb538 hg w14 hbox hb; have n0_ := Aside0.mk (Kd.V_below (Kd.V_elderB (by (with_reducible repeat (first | apply Kd.V_alloc | apply Kd.V_drewN | apply Kd.V_drew)); exact HO_0.out) gb538 (Nat.le_of_eq hg.symm)) hb); have n1_ := Aside0.mk (Kd.V_below (Kd.V_elderB (by (with_reducible repeat (first | apply Kd.V_alloc | apply Kd.V_drewN | apply Kd.V_drew)); exact HO_1.out) gb538 (Nat.le_of_eq hg.symm)) hb); have n2_ := Aside0.mk (Kd.R_below (Kd.R_elderB (by (with_reducible repeat (first | apply Kd.R_alloc | apply Kd.R_drewN | apply Kd.R_drew)); exact HO_13.out) gb538 (Nat.le_of_eq hg.symm)) hb); have n3_ := Aside0.mk (below_step (by repeat (first | (with_reducible first | exact HB.out | apply below_alloc | apply pw_below_drewN | apply below_drew1) | exact HB.out)) hb); have n4_ := Aside0.mk (hbox); have n5_ := Aside0.mk ((by rw [hg]; exact (below_size (by repeat (first | (with_reducible first | exact HB.out | apply below_alloc | apply pw_below_drewN | apply below_drew1) | exact HB.out))) : w.heap.size ≤ gb538)); have n6_ := Aside0.mk ((by rw [hg]; exact (below_size (by repeat (first | (with_reducible first | exact HB.out | apply below_alloc | apply pw_below_drewN | apply below_drew1) | exact HB.out))) : w.heap.size ≤ gb538)); clear HO_0; clear HO_1; clear HO_13; clear HB; have HO_0 := n0_; have HO_1 := n1_; have HO_13 := n2_; have HB := n3_; have BK538 := n4_; have GW538 := n5_; have GE538 := n6_; clear n0_ n1_ n2_ n3_ n4_ n5_ n6_; clear hb hbox hg; have hcz15_0 : w14.cell? ⟨gb538, 0, none⟩ = some (.int .i64 0) := (blk_cell BK538.out 0).trans rfl; have hcz15_1 : w14.cell? ⟨gb538, 1, none⟩ = some (.int .i64 0) := (blk_cell BK538.out 1).trans rfl; have hfz15_0 := blk_frozen BK538.out 0; have hfz15_1 := blk_frozen BK538.out 1))
            go_roundg k1
            case measure => have := HK1.out; omega
            case rel => exact ⟨(IntKind.u64.wrap (x5_1 + (IntKind.u64.wrap ((IntKind.u64.wrap ((rd_T30 t534 x15_1).f1)) - (IntKind.u64.wrap ((rd_T30 t534 x15_1).f0)))))), (wrap64 (x15_1 + 1)), (by first | rfl | (simp; done) | (simp [*]; done)), (by first | rfl | (simp; done) | (simp [*]; done)), H', ⟨by have := HK1.out; omega⟩, ⟨by (with_reducible repeat (first | apply Kd.V_alloc | apply Kd.V_drewN | apply Kd.V_drew)); exact Kd.V_mono (Kd.V_far (p := ⟨gb538, 1, none⟩) (Kd.V_far (p := ⟨gb538, 0, none⟩) (Kd.V_mono HO_0.out (fun k_ hk => (⟨hk, hk.2⟩ : _ ∧ k_ ≠ gb538))) (fun _ hk => hk.2) (.int .i64 ((rd_T30 t534 x15_1).f0))) (fun _ hk => hk.2) (.int .i64 ((rd_T30 t534 x15_1).f1))) (fun _ hk => hk.1.1)⟩, ⟨by (with_reducible repeat (first | apply Kd.V_alloc | apply Kd.V_drewN | apply Kd.V_drew)); exact Kd.V_mono (Kd.V_far (p := ⟨gb538, 1, none⟩) (Kd.V_far (p := ⟨gb538, 0, none⟩) (Kd.V_mono HO_1.out (fun k_ hk => (⟨hk, hk.2⟩ : _ ∧ k_ ≠ gb538))) (fun _ hk => hk.2) (.int .i64 ((rd_T30 t534 x15_1).f0))) (fun _ hk => hk.2) (.int .i64 ((rd_T30 t534 x15_1).f1))) (fun _ hk => hk.1.1)⟩, ⟨by (with_reducible repeat (first | apply Kd.R_alloc | apply Kd.R_drewN | apply Kd.R_drew)); exact Kd.R_mono (Kd.R_far (p := ⟨gb538, 1, none⟩) (Kd.R_far (p := ⟨gb538, 0, none⟩) (Kd.R_mono HO_13.out (fun k_ hk => (⟨hk, hk.2⟩ : _ ∧ k_ ≠ gb538))) (fun _ hk => hk.2) (.int .i64 ((rd_T30 t534 x15_1).f0))) (fun _ hk => hk.2) (.int .i64 ((rd_T30 t534 x15_1).f1))) (fun _ hk => trivial)⟩, ⟨by repeat (first | (with_reducible first | exact HB.out | apply below_alloc | apply pw_below_drewN | apply below_drew1 | refine below_set ?_ GE538.out) | exact HB.out)⟩⟩
          · rw [if_neg c13] at H
            exact absurd H (by simp)
        · rw [if_neg c12] at H
          exact absurd H (by simp)
      · rw [if_neg c11] at H
        have c11b0 : decide (x15_1 < (t534.length : Int)) = false := decide_eq_false c11
        clear c11
        replace H := Option.bind_eq_some_iff.mp H
        obtain ⟨t539, A160, H⟩ := H
        replace H : (if t539 = x5_1 then ((span_Join.f t528 t531).bind fun t540 => ((span_Count.f k1 t540).bind fun t543 => ((span_Meet.f k1 t528 t531).bind fun t544 => ((span_Count.f k1 t544).bind fun t547 => ((span_Count.f k1 t528).bind fun t548 => ((span_Count.f k1 t531).bind fun t549 => (if (IntKind.u64.wrap (t543 + t547)) = (IntKind.u64.wrap (t548 + t549)) then ((span_Cut.f k1 t528 t531).bind fun t550 => ((span_Count.f k1 t550).bind fun t553 => ((span_Meet.f k1 t528 t531).bind fun t554 => ((span_Count.f k1 t554).bind fun t557 => ((span_Count.f k1 t528).bind fun t558 => (if (IntKind.u64.wrap (t553 + t557)) = t558 then ((lamellalaw02_lives.f).bind fun t559 => (some t559)) else (some false))))))) else (some false)))))))) else (some false)) = some r := H
        have A16 := Aside0.mk A160
        clear A160
        by_cases c17 : t539 = x5_1
        · rw [if_pos c17] at H
          have c17b0 : (t539 == x5_1) = true := beq_iff_eq.mpr c17
          have c17b1 : (t539 != x5_1) = false := bne_eq_false_iff_eq.mpr c17
          clear c17
          replace H := Option.bind_eq_some_iff.mp H
          obtain ⟨t540, A180, H⟩ := H
          replace H : ((span_Count.f k1 t540).bind fun t543 => ((span_Meet.f k1 t528 t531).bind fun t544 => ((span_Count.f k1 t544).bind fun t547 => ((span_Count.f k1 t528).bind fun t548 => ((span_Count.f k1 t531).bind fun t549 => (if (IntKind.u64.wrap (t543 + t547)) = (IntKind.u64.wrap (t548 + t549)) then ((span_Cut.f k1 t528 t531).bind fun t550 => ((span_Count.f k1 t550).bind fun t553 => ((span_Meet.f k1 t528 t531).bind fun t554 => ((span_Count.f k1 t554).bind fun t557 => ((span_Count.f k1 t528).bind fun t558 => (if (IntKind.u64.wrap (t553 + t557)) = t558 then ((lamellalaw02_lives.f).bind fun t559 => (some t559)) else (some false))))))) else (some false))))))) = some r := H
          have A18 := Aside0.mk A180
          clear A180
          replace H := Option.bind_eq_some_iff.mp H
          obtain ⟨t543, A190, H⟩ := H
          replace H : ((span_Meet.f k1 t528 t531).bind fun t544 => ((span_Count.f k1 t544).bind fun t547 => ((span_Count.f k1 t528).bind fun t548 => ((span_Count.f k1 t531).bind fun t549 => (if (IntKind.u64.wrap (t543 + t547)) = (IntKind.u64.wrap (t548 + t549)) then ((span_Cut.f k1 t528 t531).bind fun t550 => ((span_Count.f k1 t550).bind fun t553 => ((span_Meet.f k1 t528 t531).bind fun t554 => ((span_Count.f k1 t554).bind fun t557 => ((span_Count.f k1 t528).bind fun t558 => (if (IntKind.u64.wrap (t553 + t557)) = t558 then ((lamellalaw02_lives.f).bind fun t559 => (some t559)) else (some false))))))) else (some false)))))) = some r := H
          have A19 := Aside0.mk A190
          clear A190
          replace H := Option.bind_eq_some_iff.mp H
          obtain ⟨t544, A200, H⟩ := H
          replace H : ((span_Count.f k1 t544).bind fun t547 => ((span_Count.f k1 t528).bind fun t548 => ((span_Count.f k1 t531).bind fun t549 => (if (IntKind.u64.wrap (t543 + t547)) = (IntKind.u64.wrap (t548 + t549)) then ((span_Cut.f k1 t528 t531).bind fun t550 => ((span_Count.f k1 t550).bind fun t553 => ((span_Meet.f k1 t528 t531).bind fun t554 => ((span_Count.f k1 t554).bind fun t557 => ((span_Count.f k1 t528).bind fun t558 => (if (IntKind.u64.wrap (t553 + t557)) = t558 then ((lamellalaw02_lives.f).bind fun t559 => (some t559)) else (some false))))))) else (some false))))) = some r := H
          have A20 := Aside0.mk A200
          clear A200
          replace H := Option.bind_eq_some_iff.mp H
          obtain ⟨t547, A210, H⟩ := H
          replace H : ((span_Count.f k1 t528).bind fun t548 => ((span_Count.f k1 t531).bind fun t549 => (if (IntKind.u64.wrap (t543 + t547)) = (IntKind.u64.wrap (t548 + t549)) then ((span_Cut.f k1 t528 t531).bind fun t550 => ((span_Count.f k1 t550).bind fun t553 => ((span_Meet.f k1 t528 t531).bind fun t554 => ((span_Count.f k1 t554).bind fun t557 => ((span_Count.f k1 t528).bind fun t558 => (if (IntKind.u64.wrap (t553 + t557)) = t558 then ((lamellalaw02_lives.f).bind fun t559 => (some t559)) else (some false))))))) else (some false)))) = some r := H
          have A21 := Aside0.mk A210
          clear A210
          replace H := Option.bind_eq_some_iff.mp H
          obtain ⟨t548, A220, H⟩ := H
          replace H : ((span_Count.f k1 t531).bind fun t549 => (if (IntKind.u64.wrap (t543 + t547)) = (IntKind.u64.wrap (t548 + t549)) then ((span_Cut.f k1 t528 t531).bind fun t550 => ((span_Count.f k1 t550).bind fun t553 => ((span_Meet.f k1 t528 t531).bind fun t554 => ((span_Count.f k1 t554).bind fun t557 => ((span_Count.f k1 t528).bind fun t558 => (if (IntKind.u64.wrap (t553 + t557)) = t558 then ((lamellalaw02_lives.f).bind fun t559 => (some t559)) else (some false))))))) else (some false))) = some r := H
          have A22 := Aside0.mk A220
          clear A220
          obtain rfl : t539 = t548 := Option.some.inj (A16.out.symm.trans A22.out)
          replace H := Option.bind_eq_some_iff.mp H
          obtain ⟨t549, A230, H⟩ := H
          replace H : (if (IntKind.u64.wrap (t543 + t547)) = (IntKind.u64.wrap (t539 + t549)) then ((span_Cut.f k1 t528 t531).bind fun t550 => ((span_Count.f k1 t550).bind fun t553 => ((span_Meet.f k1 t528 t531).bind fun t554 => ((span_Count.f k1 t554).bind fun t557 => ((span_Count.f k1 t528).bind fun t558 => (if (IntKind.u64.wrap (t553 + t557)) = t558 then ((lamellalaw02_lives.f).bind fun t559 => (some t559)) else (some false))))))) else (some false)) = some r := H
          have A23 := Aside0.mk A230
          clear A230
          by_cases c24 : (IntKind.u64.wrap (t543 + t547)) = (IntKind.u64.wrap (t539 + t549))
          · rw [if_pos c24] at H
            have c24b0 : ((IntKind.u64.wrap (t543 + t547)) == (IntKind.u64.wrap (t539 + t549))) = true := beq_iff_eq.mpr c24
            have c24b1 : ((IntKind.u64.wrap (t543 + t547)) != (IntKind.u64.wrap (t539 + t549))) = false := bne_eq_false_iff_eq.mpr c24
            clear c24
            replace H := Option.bind_eq_some_iff.mp H
            obtain ⟨t550, A250, H⟩ := H
            replace H : ((span_Count.f k1 t550).bind fun t553 => ((span_Meet.f k1 t528 t531).bind fun t554 => ((span_Count.f k1 t554).bind fun t557 => ((span_Count.f k1 t528).bind fun t558 => (if (IntKind.u64.wrap (t553 + t557)) = t558 then ((lamellalaw02_lives.f).bind fun t559 => (some t559)) else (some false)))))) = some r := H
            have A25 := Aside0.mk A250
            clear A250
            replace H := Option.bind_eq_some_iff.mp H
            obtain ⟨t553, A260, H⟩ := H
            replace H : ((span_Meet.f k1 t528 t531).bind fun t554 => ((span_Count.f k1 t554).bind fun t557 => ((span_Count.f k1 t528).bind fun t558 => (if (IntKind.u64.wrap (t553 + t557)) = t558 then ((lamellalaw02_lives.f).bind fun t559 => (some t559)) else (some false))))) = some r := H
            have A26 := Aside0.mk A260
            clear A260
            replace H := Option.bind_eq_some_iff.mp H
            obtain ⟨t554, A270, H⟩ := H
            replace H : ((span_Count.f k1 t554).bind fun t557 => ((span_Count.f k1 t528).bind fun t558 => (if (IntKind.u64.wrap (t553 + t557)) = t558 then ((lamellalaw02_lives.f).bind fun t559 => (some t559)) else (some false)))) = some r := H
            have A27 := Aside0.mk A270
            clear A270
            obtain rfl : t544 = t554 := Option.some.inj (A20.out.symm.trans A27.out)
            replace H := Option.bind_eq_some_iff.mp H
            obtain ⟨t557, A280, H⟩ := H
            replace H : ((span_Count.f k1 t528).bind fun t558 => (if (IntKind.u64.wrap (t553 + t557)) = t558 then ((lamellalaw02_lives.f).bind fun t559 => (some t559)) else (some false))) = some r := H
            have A28 := Aside0.mk A280
            clear A280
            obtain rfl : t547 = t557 := Option.some.inj (A21.out.symm.trans A28.out)
            replace H := Option.bind_eq_some_iff.mp H
            obtain ⟨t558, A290, H⟩ := H
            replace H : (if (IntKind.u64.wrap (t553 + t547)) = t558 then ((lamellalaw02_lives.f).bind fun t559 => (some t559)) else (some false)) = some r := H
            have A29 := Aside0.mk A290
            clear A290
            obtain rfl : t539 = t558 := Option.some.inj (A16.out.symm.trans A29.out)
            by_cases c30 : (IntKind.u64.wrap (t553 + t547)) = t539
            · rw [if_pos c30] at H
              have c30b0 : ((IntKind.u64.wrap (t553 + t547)) == t539) = true := beq_iff_eq.mpr c30
              have c30b1 : ((IntKind.u64.wrap (t553 + t547)) != t539) = false := bne_eq_false_iff_eq.mpr c30
              clear c30
              replace H := Option.bind_eq_some_iff.mp H
              obtain ⟨t559, A310, H⟩ := H
              replace H : (some t559) = some r := H
              have A31 := Aside0.mk A310
              clear A310
              obtain rfl := Option.some.inj H
              go_wp2_with (first | ((with_reducible refine gate_callee (f := 45) rfl ?_); refine goesL_ (some 30) rfl rfl Try.func45 (by kernel_rfl) rfl #[.slice Ao8 t528.length co8] rfl (by (try simp only [List.map_toArray, List.map_cons, List.map_nil]); first | done | rfl | (simp only [List.length_drop, List.length_take]; rfl)) ?_; (with_reducible refine (span_Count.calls k1 _ _ t528 t539 _ ?side1 ?side2 A16.out).mono ?_); (case side1 => repeat (first | exact (Kd.V_reads' HO_0.out).2.2 | (with_reducible refine Kd.C_alloc ?_ _) | (with_reducible refine Kd.C_drewN ?_ _) | (with_reducible refine Kd.C_drew ?_))); (case side2 => exact (Kd.V_reads' HO_0.out).2.1); rintro e w32 ⟨rfl, hb⟩; refine ⟨_, rfl, ?_⟩; have n0_ := Aside0.mk (Kd.V_below (by (with_reducible repeat (first | apply Kd.V_alloc | apply Kd.V_drewN | apply Kd.V_drew)); exact HO_0.out) hb); have n1_ := Aside0.mk (Kd.V_below (by (with_reducible repeat (first | apply Kd.V_alloc | apply Kd.V_drewN | apply Kd.V_drew)); exact HO_1.out) hb); have n2_ := Aside0.mk (Kd.R_below (by (with_reducible repeat (first | apply Kd.R_alloc | apply Kd.R_drewN | apply Kd.R_drew)); exact HO_13.out) hb); have n3_ := Aside0.mk (below_step (by repeat (first | (with_reducible first | exact HB.out | apply below_alloc | apply pw_below_drewN | apply below_drew1) | exact HB.out)) hb); clear HO_0; clear HO_1; clear HO_13; clear HB; have HO_0 := n0_; have HO_1 := n1_; have HO_13 := n2_; have HB := n3_; clear n0_ n1_ n2_ n3_; (try clear hb); (try clear hb2); (try clear hk); (try clear hi); obtain ⟨Ao33, co33, eo33⟩ := Kd.V_slice HO_1.out; subst eo33) | (go_at_call 44; (with_reducible refine (span_Join.calls _ _ t528 _ _ t531 t540 _ ?side1 ?side2 ?side3 ?side4 A18.out).mono ?_); (case side1 => repeat (first | exact (Kd.V_reads' HO_0.out).2.2 | (with_reducible refine Kd.C_alloc ?_ _) | (with_reducible refine Kd.C_drewN ?_ _) | (with_reducible refine Kd.C_drew ?_))); (case side2 => exact (Kd.V_reads' HO_0.out).2.1); (case side3 => repeat (first | exact (Kd.V_reads' HO_1.out).2.2 | (with_reducible refine Kd.C_alloc ?_ _) | (with_reducible refine Kd.C_drewN ?_ _) | (with_reducible refine Kd.C_drew ?_))); (case side4 => exact (Kd.V_reads' HO_1.out).2.1); rintro e w34 ⟨v541, rfl, ho0, hb⟩; have n0_ := Aside0.mk (Kd.V_elder' (by (with_reducible repeat (first | apply Kd.V_alloc | apply Kd.V_drewN | apply Kd.V_drew)); exact HO_0.out) (Kd.R_base ho0) hb); have n1_ := Aside0.mk (Kd.V_elder' (by (with_reducible repeat (first | apply Kd.V_alloc | apply Kd.V_drewN | apply Kd.V_drew)); exact HO_1.out) (Kd.R_base ho0) hb); have n2_ := Aside0.mk (Kd.R_elder' (by (with_reducible repeat (first | apply Kd.R_alloc | apply Kd.R_drewN | apply Kd.R_drew)); exact HO_13.out) (Kd.R_base ho0) hb); have n3_ := Aside0.mk (Kd.R_lower (Kd.R_new' ho0 (Kd.R_lt (by (with_reducible repeat (first | apply Kd.R_alloc | apply Kd.R_drewN | apply Kd.R_drew)); exact HO_13.out))) (below_size (by repeat (first | (with_reducible first | exact HB.out | apply below_alloc | apply pw_below_drewN | apply below_drew1) | exact HB.out)))); have n4_ := Aside0.mk (below_step (by repeat (first | (with_reducible first | exact HB.out | apply below_alloc | apply pw_below_drewN | apply below_drew1) | exact HB.out)) hb); clear HO_0; clear HO_1; clear HO_13; clear HB; have HO_0 := n0_; have HO_1 := n1_; have HO_13 := n2_; have HO542 := n3_; have HB := n4_; clear n0_ n1_ n2_ n3_ n4_; (try clear hb); (try clear hb2); (try clear hk); (try clear hi); (try clear ho0); obtain ⟨Ao35, co35, eo35⟩ := Kd.R_slice HO542.out; subst eo35) | (go_at_call 45; (with_reducible refine (span_Count.calls k1 _ _ t540 t543 _ ?side1 ?side2 A19.out).mono ?_); (case side1 => repeat (first | exact (Kd.R_reads' HO542.out).2.2 | (with_reducible refine Kd.C_alloc ?_ _) | (with_reducible refine Kd.C_drewN ?_ _) | (with_reducible refine Kd.C_drew ?_))); (case side2 => exact (Kd.R_reads' HO542.out).2.1); rintro e w36 ⟨rfl, hb⟩; have n0_ := Aside0.mk (Kd.V_below (by (with_reducible repeat (first | apply Kd.V_alloc | apply Kd.V_drewN | apply Kd.V_drew)); exact HO_0.out) hb); have n1_ := Aside0.mk (Kd.V_below (by (with_reducible repeat (first | apply Kd.V_alloc | apply Kd.V_drewN | apply Kd.V_drew)); exact HO_1.out) hb); have n2_ := Aside0.mk (Kd.R_below (by (with_reducible repeat (first | apply Kd.R_alloc | apply Kd.R_drewN | apply Kd.R_drew)); exact HO_13.out) hb); have n3_ := Aside0.mk (Kd.R_below (by (with_reducible repeat (first | apply Kd.R_alloc | apply Kd.R_drewN | apply Kd.R_drew)); exact HO542.out) hb); have n4_ := Aside0.mk (below_step (by repeat (first | (with_reducible first | exact HB.out | apply below_alloc | apply pw_below_drewN | apply below_drew1) | exact HB.out)) hb); clear HO_0; clear HO_1; clear HO_13; clear HO542; clear HB; have HO_0 := n0_; have HO_1 := n1_; have HO_13 := n2_; have HO542 := n3_; have HB := n4_; clear n0_ n1_ n2_ n3_ n4_; (try clear hb); (try clear hb2); (try clear hk); (try clear hi)) | (go_at_call 42; (with_reducible refine (span_Meet.calls k1 _ _ t528 _ _ t531 t544 _ ?side1 ?side2 ?side3 ?side4 A20.out).mono ?_); (case side1 => repeat (first | exact (Kd.V_reads' HO_0.out).2.2 | (with_reducible refine Kd.C_alloc ?_ _) | (with_reducible refine Kd.C_drewN ?_ _) | (with_reducible refine Kd.C_drew ?_))); (case side2 => exact (Kd.V_reads' HO_0.out).2.1); (case side3 => repeat (first | exact (Kd.V_reads' HO_1.out).2.2 | (with_reducible refine Kd.C_alloc ?_ _) | (with_reducible refine Kd.C_drewN ?_ _) | (with_reducible refine Kd.C_drew ?_))); (case side4 => exact (Kd.V_reads' HO_1.out).2.1); rintro e w37 ⟨v545, rfl, ho0, hb⟩; have n0_ := Aside0.mk (Kd.V_elder' (by (with_reducible repeat (first | apply Kd.V_alloc | apply Kd.V_drewN | apply Kd.V_drew)); exact HO_0.out) (Kd.R_base ho0) hb); have n1_ := Aside0.mk (Kd.V_elder' (by (with_reducible repeat (first | apply Kd.V_alloc | apply Kd.V_drewN | apply Kd.V_drew)); exact HO_1.out) (Kd.R_base ho0) hb); have n2_ := Aside0.mk (Kd.R_elder' (by (with_reducible repeat (first | apply Kd.R_alloc | apply Kd.R_drewN | apply Kd.R_drew)); exact HO_13.out) (Kd.R_base ho0) hb); have n3_ := Aside0.mk (Kd.R_elder' (by (with_reducible repeat (first | apply Kd.R_alloc | apply Kd.R_drewN | apply Kd.R_drew)); exact HO542.out) (Kd.R_base ho0) hb); have n4_ := Aside0.mk (Kd.R_lower (Kd.R_new' (Kd.R_new' ho0 (Kd.R_lt (by (with_reducible repeat (first | apply Kd.R_alloc | apply Kd.R_drewN | apply Kd.R_drew)); exact HO_13.out))) (Kd.R_lt (by (with_reducible repeat (first | apply Kd.R_alloc | apply Kd.R_drewN | apply Kd.R_drew)); exact HO542.out))) (below_size (by repeat (first | (with_reducible first | exact HB.out | apply below_alloc | apply pw_below_drewN | apply below_drew1) | exact HB.out)))); have n5_ := Aside0.mk (below_step (by repeat (first | (with_reducible first | exact HB.out | apply below_alloc | apply pw_below_drewN | apply below_drew1) | exact HB.out)) hb); clear HO_0; clear HO_1; clear HO_13; clear HO542; clear HB; have HO_0 := n0_; have HO_1 := n1_; have HO_13 := n2_; have HO542 := n3_; have HO546 := n4_; have HB := n5_; clear n0_ n1_ n2_ n3_ n4_ n5_; (try clear hb); (try clear hb2); (try clear hk); (try clear hi); (try clear ho0); obtain ⟨Ao38, co38, eo38⟩ := Kd.R_slice HO546.out; subst eo38) | (go_at_call 45; (with_reducible refine (span_Count.calls k1 _ _ t544 t547 _ ?side1 ?side2 A21.out).mono ?_); (case side1 => repeat (first | exact (Kd.R_reads' HO546.out).2.2 | (with_reducible refine Kd.C_alloc ?_ _) | (with_reducible refine Kd.C_drewN ?_ _) | (with_reducible refine Kd.C_drew ?_))); (case side2 => exact (Kd.R_reads' HO546.out).2.1); rintro e w39 ⟨rfl, hb⟩; have n0_ := Aside0.mk (Kd.V_below (by (with_reducible repeat (first | apply Kd.V_alloc | apply Kd.V_drewN | apply Kd.V_drew)); exact HO_0.out) hb); have n1_ := Aside0.mk (Kd.V_below (by (with_reducible repeat (first | apply Kd.V_alloc | apply Kd.V_drewN | apply Kd.V_drew)); exact HO_1.out) hb); have n2_ := Aside0.mk (Kd.R_below (by (with_reducible repeat (first | apply Kd.R_alloc | apply Kd.R_drewN | apply Kd.R_drew)); exact HO_13.out) hb); have n3_ := Aside0.mk (Kd.R_below (by (with_reducible repeat (first | apply Kd.R_alloc | apply Kd.R_drewN | apply Kd.R_drew)); exact HO542.out) hb); have n4_ := Aside0.mk (Kd.R_below (by (with_reducible repeat (first | apply Kd.R_alloc | apply Kd.R_drewN | apply Kd.R_drew)); exact HO546.out) hb); have n5_ := Aside0.mk (below_step (by repeat (first | (with_reducible first | exact HB.out | apply below_alloc | apply pw_below_drewN | apply below_drew1) | exact HB.out)) hb); clear HO_0; clear HO_1; clear HO_13; clear HO542; clear HO546; clear HB; have HO_0 := n0_; have HO_1 := n1_; have HO_13 := n2_; have HO542 := n3_; have HO546 := n4_; have HB := n5_; clear n0_ n1_ n2_ n3_ n4_ n5_; (try clear hb); (try clear hb2); (try clear hk); (try clear hi)) | (go_at_call 45; (with_reducible refine (span_Count.calls k1 _ _ t528 t539 _ ?side1 ?side2 A22.out).mono ?_); (case side1 => repeat (first | exact (Kd.V_reads' HO_0.out).2.2 | (with_reducible refine Kd.C_alloc ?_ _) | (with_reducible refine Kd.C_drewN ?_ _) | (with_reducible refine Kd.C_drew ?_))); (case side2 => exact (Kd.V_reads' HO_0.out).2.1); rintro e w40 ⟨rfl, hb⟩; have n0_ := Aside0.mk (Kd.V_below (by (with_reducible repeat (first | apply Kd.V_alloc | apply Kd.V_drewN | apply Kd.V_drew)); exact HO_0.out) hb); have n1_ := Aside0.mk (Kd.V_below (by (with_reducible repeat (first | apply Kd.V_alloc | apply Kd.V_drewN | apply Kd.V_drew)); exact HO_1.out) hb); have n2_ := Aside0.mk (Kd.R_below (by (with_reducible repeat (first | apply Kd.R_alloc | apply Kd.R_drewN | apply Kd.R_drew)); exact HO_13.out) hb); have n3_ := Aside0.mk (Kd.R_below (by (with_reducible repeat (first | apply Kd.R_alloc | apply Kd.R_drewN | apply Kd.R_drew)); exact HO542.out) hb); have n4_ := Aside0.mk (Kd.R_below (by (with_reducible repeat (first | apply Kd.R_alloc | apply Kd.R_drewN | apply Kd.R_drew)); exact HO546.out) hb); have n5_ := Aside0.mk (below_step (by repeat (first | (with_reducible first | exact HB.out | apply below_alloc | apply pw_below_drewN | apply below_drew1) | exact HB.out)) hb); clear HO_0; clear HO_1; clear HO_13; clear HO542; clear HO546; clear HB; have HO_0 := n0_; have HO_1 := n1_; have HO_13 := n2_; have HO542 := n3_; have HO546 := n4_; have HB := n5_; clear n0_ n1_ n2_ n3_ n4_ n5_; (try clear hb); (try clear hb2); (try clear hk); (try clear hi)) | (go_at_call 45; (with_reducible refine (span_Count.calls k1 _ _ t531 t549 _ ?side1 ?side2 A23.out).mono ?_); (case side1 => repeat (first | exact (Kd.V_reads' HO_1.out).2.2 | (with_reducible refine Kd.C_alloc ?_ _) | (with_reducible refine Kd.C_drewN ?_ _) | (with_reducible refine Kd.C_drew ?_))); (case side2 => exact (Kd.V_reads' HO_1.out).2.1); rintro e w41 ⟨rfl, hb⟩; have n0_ := Aside0.mk (Kd.V_below (by (with_reducible repeat (first | apply Kd.V_alloc | apply Kd.V_drewN | apply Kd.V_drew)); exact HO_0.out) hb); have n1_ := Aside0.mk (Kd.V_below (by (with_reducible repeat (first | apply Kd.V_alloc | apply Kd.V_drewN | apply Kd.V_drew)); exact HO_1.out) hb); have n2_ := Aside0.mk (Kd.R_below (by (with_reducible repeat (first | apply Kd.R_alloc | apply Kd.R_drewN | apply Kd.R_drew)); exact HO_13.out) hb); have n3_ := Aside0.mk (Kd.R_below (by (with_reducible repeat (first | apply Kd.R_alloc | apply Kd.R_drewN | apply Kd.R_drew)); exact HO542.out) hb); have n4_ := Aside0.mk (Kd.R_below (by (with_reducible repeat (first | apply Kd.R_alloc | apply Kd.R_drewN | apply Kd.R_drew)); exact HO546.out) hb); have n5_ := Aside0.mk (below_step (by repeat (first | (with_reducible first | exact HB.out | apply below_alloc | apply pw_below_drewN | apply below_drew1) | exact HB.out)) hb); clear HO_0; clear HO_1; clear HO_13; clear HO542; clear HO546; clear HB; have HO_0 := n0_; have HO_1 := n1_; have HO_13 := n2_; have HO542 := n3_; have HO546 := n4_; have HB := n5_; clear n0_ n1_ n2_ n3_ n4_ n5_; (try clear hb); (try clear hb2); (try clear hk); (try clear hi)) | (go_at_call 23; (with_reducible refine (span_Cut.calls k1 _ _ t528 _ _ t531 t550 _ ?side1 ?side2 ?side3 ?side4 A25.out).mono ?_); (case side1 => repeat (first | exact (Kd.V_reads' HO_0.out).2.2 | (with_reducible refine Kd.C_alloc ?_ _) | (with_reducible refine Kd.C_drewN ?_ _) | (with_reducible refine Kd.C_drew ?_))); (case side2 => exact (Kd.V_reads' HO_0.out).2.1); (case side3 => repeat (first | exact (Kd.V_reads' HO_1.out).2.2 | (with_reducible refine Kd.C_alloc ?_ _) | (with_reducible refine Kd.C_drewN ?_ _) | (with_reducible refine Kd.C_drew ?_))); (case side4 => exact (Kd.V_reads' HO_1.out).2.1); rintro e w42 ⟨v551, rfl, ho0, hb⟩; have n0_ := Aside0.mk (Kd.V_elder' (by (with_reducible repeat (first | apply Kd.V_alloc | apply Kd.V_drewN | apply Kd.V_drew)); exact HO_0.out) (Kd.R_base ho0) hb); have n1_ := Aside0.mk (Kd.V_elder' (by (with_reducible repeat (first | apply Kd.V_alloc | apply Kd.V_drewN | apply Kd.V_drew)); exact HO_1.out) (Kd.R_base ho0) hb); have n2_ := Aside0.mk (Kd.R_elder' (by (with_reducible repeat (first | apply Kd.R_alloc | apply Kd.R_drewN | apply Kd.R_drew)); exact HO_13.out) (Kd.R_base ho0) hb); have n3_ := Aside0.mk (Kd.R_elder' (by (with_reducible repeat (first | apply Kd.R_alloc | apply Kd.R_drewN | apply Kd.R_drew)); exact HO542.out) (Kd.R_base ho0) hb); have n4_ := Aside0.mk (Kd.R_elder' (by (with_reducible repeat (first | apply Kd.R_alloc | apply Kd.R_drewN | apply Kd.R_drew)); exact HO546.out) (Kd.R_base ho0) hb); have n5_ := Aside0.mk (Kd.R_lower (Kd.R_new' (Kd.R_new' (Kd.R_new' ho0 (Kd.R_lt (by (with_reducible repeat (first | apply Kd.R_alloc | apply Kd.R_drewN | apply Kd.R_drew)); exact HO_13.out))) (Kd.R_lt (by (with_reducible repeat (first | apply Kd.R_alloc | apply Kd.R_drewN | apply Kd.R_drew)); exact HO542.out))) (Kd.R_lt (by (with_reducible repeat (first | apply Kd.R_alloc | apply Kd.R_drewN | apply Kd.R_drew)); exact HO546.out))) (below_size (by repeat (first | (with_reducible first | exact HB.out | apply below_alloc | apply pw_below_drewN | apply below_drew1) | exact HB.out)))); have n6_ := Aside0.mk (below_step (by repeat (first | (with_reducible first | exact HB.out | apply below_alloc | apply pw_below_drewN | apply below_drew1) | exact HB.out)) hb); clear HO_0; clear HO_1; clear HO_13; clear HO542; clear HO546; clear HB; have HO_0 := n0_; have HO_1 := n1_; have HO_13 := n2_; have HO542 := n3_; have HO546 := n4_; have HO552 := n5_; have HB := n6_; clear n0_ n1_ n2_ n3_ n4_ n5_ n6_; (try clear hb); (try clear hb2); (try clear hk); (try clear hi); (try clear ho0); obtain ⟨Ao43, co43, eo43⟩ := Kd.R_slice HO552.out; subst eo43) | (go_at_call 45; (with_reducible refine (span_Count.calls k1 _ _ t550 t553 _ ?side1 ?side2 A26.out).mono ?_); (case side1 => repeat (first | exact (Kd.R_reads' HO552.out).2.2 | (with_reducible refine Kd.C_alloc ?_ _) | (with_reducible refine Kd.C_drewN ?_ _) | (with_reducible refine Kd.C_drew ?_))); (case side2 => exact (Kd.R_reads' HO552.out).2.1); rintro e w44 ⟨rfl, hb⟩; have n0_ := Aside0.mk (Kd.V_below (by (with_reducible repeat (first | apply Kd.V_alloc | apply Kd.V_drewN | apply Kd.V_drew)); exact HO_0.out) hb); have n1_ := Aside0.mk (Kd.V_below (by (with_reducible repeat (first | apply Kd.V_alloc | apply Kd.V_drewN | apply Kd.V_drew)); exact HO_1.out) hb); have n2_ := Aside0.mk (Kd.R_below (by (with_reducible repeat (first | apply Kd.R_alloc | apply Kd.R_drewN | apply Kd.R_drew)); exact HO_13.out) hb); have n3_ := Aside0.mk (Kd.R_below (by (with_reducible repeat (first | apply Kd.R_alloc | apply Kd.R_drewN | apply Kd.R_drew)); exact HO542.out) hb); have n4_ := Aside0.mk (Kd.R_below (by (with_reducible repeat (first | apply Kd.R_alloc | apply Kd.R_drewN | apply Kd.R_drew)); exact HO546.out) hb); have n5_ := Aside0.mk (Kd.R_below (by (with_reducible repeat (first | apply Kd.R_alloc | apply Kd.R_drewN | apply Kd.R_drew)); exact HO552.out) hb); have n6_ := Aside0.mk (below_step (by repeat (first | (with_reducible first | exact HB.out | apply below_alloc | apply pw_below_drewN | apply below_drew1) | exact HB.out)) hb); clear HO_0; clear HO_1; clear HO_13; clear HO542; clear HO546; clear HO552; clear HB; have HO_0 := n0_; have HO_1 := n1_; have HO_13 := n2_; have HO542 := n3_; have HO546 := n4_; have HO552 := n5_; have HB := n6_; clear n0_ n1_ n2_ n3_ n4_ n5_ n6_; (try clear hb); (try clear hb2); (try clear hk); (try clear hi)) | (go_at_call 42; (with_reducible refine (span_Meet.calls k1 _ _ t528 _ _ t531 t544 _ ?side1 ?side2 ?side3 ?side4 A27.out).mono ?_); (case side1 => repeat (first | exact (Kd.V_reads' HO_0.out).2.2 | (with_reducible refine Kd.C_alloc ?_ _) | (with_reducible refine Kd.C_drewN ?_ _) | (with_reducible refine Kd.C_drew ?_))); (case side2 => exact (Kd.V_reads' HO_0.out).2.1); (case side3 => repeat (first | exact (Kd.V_reads' HO_1.out).2.2 | (with_reducible refine Kd.C_alloc ?_ _) | (with_reducible refine Kd.C_drewN ?_ _) | (with_reducible refine Kd.C_drew ?_))); (case side4 => exact (Kd.V_reads' HO_1.out).2.1); rintro e w45 ⟨v555, rfl, ho0, hb⟩; have n0_ := Aside0.mk (Kd.V_elder' (by (with_reducible repeat (first | apply Kd.V_alloc | apply Kd.V_drewN | apply Kd.V_drew)); exact HO_0.out) (Kd.R_base ho0) hb); have n1_ := Aside0.mk (Kd.V_elder' (by (with_reducible repeat (first | apply Kd.V_alloc | apply Kd.V_drewN | apply Kd.V_drew)); exact HO_1.out) (Kd.R_base ho0) hb); have n2_ := Aside0.mk (Kd.R_elder' (by (with_reducible repeat (first | apply Kd.R_alloc | apply Kd.R_drewN | apply Kd.R_drew)); exact HO_13.out) (Kd.R_base ho0) hb); have n3_ := Aside0.mk (Kd.R_elder' (by (with_reducible repeat (first | apply Kd.R_alloc | apply Kd.R_drewN | apply Kd.R_drew)); exact HO542.out) (Kd.R_base ho0) hb); have n4_ := Aside0.mk (Kd.R_elder' (by (with_reducible repeat (first | apply Kd.R_alloc | apply Kd.R_drewN | apply Kd.R_drew)); exact HO546.out) (Kd.R_base ho0) hb); have n5_ := Aside0.mk (Kd.R_elder' (by (with_reducible repeat (first | apply Kd.R_alloc | apply Kd.R_drewN | apply Kd.R_drew)); exact HO552.out) (Kd.R_base ho0) hb); have n6_ := Aside0.mk (Kd.R_lower (Kd.R_new' (Kd.R_new' (Kd.R_new' (Kd.R_new' ho0 (Kd.R_lt (by (with_reducible repeat (first | apply Kd.R_alloc | apply Kd.R_drewN | apply Kd.R_drew)); exact HO_13.out))) (Kd.R_lt (by (with_reducible repeat (first | apply Kd.R_alloc | apply Kd.R_drewN | apply Kd.R_drew)); exact HO542.out))) (Kd.R_lt (by (with_reducible repeat (first | apply Kd.R_alloc | apply Kd.R_drewN | apply Kd.R_drew)); exact HO546.out))) (Kd.R_lt (by (with_reducible repeat (first | apply Kd.R_alloc | apply Kd.R_drewN | apply Kd.R_drew)); exact HO552.out))) (below_size (by repeat (first | (with_reducible first | exact HB.out | apply below_alloc | apply pw_below_drewN | apply below_drew1) | exact HB.out)))); have n7_ := Aside0.mk (below_step (by repeat (first | (with_reducible first | exact HB.out | apply below_alloc | apply pw_below_drewN | apply below_drew1) | exact HB.out)) hb); clear HO_0; clear HO_1; clear HO_13; clear HO542; clear HO546; clear HO552; clear HB; have HO_0 := n0_; have HO_1 := n1_; have HO_13 := n2_; have HO542 := n3_; have HO546 := n4_; have HO552 := n5_; have HO556 := n6_; have HB := n7_; clear n0_ n1_ n2_ n3_ n4_ n5_ n6_ n7_; (try clear hb); (try clear hb2); (try clear hk); (try clear hi); (try clear ho0); obtain ⟨Ao46, co46, eo46⟩ := Kd.R_slice HO556.out; subst eo46) | (go_at_call 45; (with_reducible refine (span_Count.calls k1 _ _ t544 t547 _ ?side1 ?side2 A28.out).mono ?_); (case side1 => repeat (first | exact (Kd.R_reads' HO556.out).2.2 | (with_reducible refine Kd.C_alloc ?_ _) | (with_reducible refine Kd.C_drewN ?_ _) | (with_reducible refine Kd.C_drew ?_))); (case side2 => exact (Kd.R_reads' HO556.out).2.1); rintro e w47 ⟨rfl, hb⟩; have n0_ := Aside0.mk (Kd.V_below (by (with_reducible repeat (first | apply Kd.V_alloc | apply Kd.V_drewN | apply Kd.V_drew)); exact HO_0.out) hb); have n1_ := Aside0.mk (Kd.V_below (by (with_reducible repeat (first | apply Kd.V_alloc | apply Kd.V_drewN | apply Kd.V_drew)); exact HO_1.out) hb); have n2_ := Aside0.mk (Kd.R_below (by (with_reducible repeat (first | apply Kd.R_alloc | apply Kd.R_drewN | apply Kd.R_drew)); exact HO_13.out) hb); have n3_ := Aside0.mk (Kd.R_below (by (with_reducible repeat (first | apply Kd.R_alloc | apply Kd.R_drewN | apply Kd.R_drew)); exact HO542.out) hb); have n4_ := Aside0.mk (Kd.R_below (by (with_reducible repeat (first | apply Kd.R_alloc | apply Kd.R_drewN | apply Kd.R_drew)); exact HO546.out) hb); have n5_ := Aside0.mk (Kd.R_below (by (with_reducible repeat (first | apply Kd.R_alloc | apply Kd.R_drewN | apply Kd.R_drew)); exact HO552.out) hb); have n6_ := Aside0.mk (Kd.R_below (by (with_reducible repeat (first | apply Kd.R_alloc | apply Kd.R_drewN | apply Kd.R_drew)); exact HO556.out) hb); have n7_ := Aside0.mk (below_step (by repeat (first | (with_reducible first | exact HB.out | apply below_alloc | apply pw_below_drewN | apply below_drew1) | exact HB.out)) hb); clear HO_0; clear HO_1; clear HO_13; clear HO542; clear HO546; clear HO552; clear HO556; clear HB; have HO_0 := n0_; have HO_1 := n1_; have HO_13 := n2_; have HO542 := n3_; have HO546 := n4_; have HO552 := n5_; have HO556 := n6_; have HB := n7_; clear n0_ n1_ n2_ n3_ n4_ n5_ n6_ n7_; (try clear hb); (try clear hb2); (try clear hk); (try clear hi)) | (go_at_call 45; (with_reducible refine (span_Count.calls k1 _ _ t528 t539 _ ?side1 ?side2 A29.out).mono ?_); (case side1 => repeat (first | exact (Kd.V_reads' HO_0.out).2.2 | (with_reducible refine Kd.C_alloc ?_ _) | (with_reducible refine Kd.C_drewN ?_ _) | (with_reducible refine Kd.C_drew ?_))); (case side2 => exact (Kd.V_reads' HO_0.out).2.1); rintro e w48 ⟨rfl, hb⟩; have n0_ := Aside0.mk (Kd.V_below (by (with_reducible repeat (first | apply Kd.V_alloc | apply Kd.V_drewN | apply Kd.V_drew)); exact HO_0.out) hb); have n1_ := Aside0.mk (Kd.V_below (by (with_reducible repeat (first | apply Kd.V_alloc | apply Kd.V_drewN | apply Kd.V_drew)); exact HO_1.out) hb); have n2_ := Aside0.mk (Kd.R_below (by (with_reducible repeat (first | apply Kd.R_alloc | apply Kd.R_drewN | apply Kd.R_drew)); exact HO_13.out) hb); have n3_ := Aside0.mk (Kd.R_below (by (with_reducible repeat (first | apply Kd.R_alloc | apply Kd.R_drewN | apply Kd.R_drew)); exact HO542.out) hb); have n4_ := Aside0.mk (Kd.R_below (by (with_reducible repeat (first | apply Kd.R_alloc | apply Kd.R_drewN | apply Kd.R_drew)); exact HO546.out) hb); have n5_ := Aside0.mk (Kd.R_below (by (with_reducible repeat (first | apply Kd.R_alloc | apply Kd.R_drewN | apply Kd.R_drew)); exact HO552.out) hb); have n6_ := Aside0.mk (Kd.R_below (by (with_reducible repeat (first | apply Kd.R_alloc | apply Kd.R_drewN | apply Kd.R_drew)); exact HO556.out) hb); have n7_ := Aside0.mk (below_step (by repeat (first | (with_reducible first | exact HB.out | apply below_alloc | apply pw_below_drewN | apply below_drew1) | exact HB.out)) hb); clear HO_0; clear HO_1; clear HO_13; clear HO542; clear HO546; clear HO552; clear HO556; clear HB; have HO_0 := n0_; have HO_1 := n1_; have HO_13 := n2_; have HO542 := n3_; have HO546 := n4_; have HO552 := n5_; have HO556 := n6_; have HB := n7_; clear n0_ n1_ n2_ n3_ n4_ n5_ n6_ n7_; (try clear hb); (try clear hb2); (try clear hk); (try clear hi)) | (go_at_call 22; (with_reducible refine (lamellalaw02_lives.calls  t559 _ A31.out).mono ?_); rintro e w49 ⟨rfl, hb⟩; have n7_ := Aside0.mk (below_step (by repeat (first | (with_reducible first | exact HB.out | apply below_alloc | apply pw_below_drewN | apply below_drew1) | exact HB.out)) hb); clear HB; have HB := n7_; clear n7_; (try clear hb)))
              go_ret
              exact ⟨by first | rfl | (simp [errW_none, errW_some] <;> rfl) | (simp [*, errW_none, errW_some] <;> rfl), by repeat (first | (with_reducible first | exact HB.out | apply below_alloc | apply pw_below_drewN | apply below_drew1) | exact HB.out)⟩
            · rw [if_neg c30] at H
              have c30b0 : ((IntKind.u64.wrap (t553 + t547)) == t539) = false := beq_eq_false_iff_ne.mpr c30
              have c30b1 : ((IntKind.u64.wrap (t553 + t547)) != t539) = true := bne_iff_ne.mpr c30
              obtain rfl := Option.some.inj H
              go_wp2_with (first | ((with_reducible refine gate_callee (f := 45) rfl ?_); refine goesL_ (some 30) rfl rfl Try.func45 (by kernel_rfl) rfl #[.slice Ao8 t528.length co8] rfl (by (try simp only [List.map_toArray, List.map_cons, List.map_nil]); first | done | rfl | (simp only [List.length_drop, List.length_take]; rfl)) ?_; (with_reducible refine (span_Count.calls k1 _ _ t528 t539 _ ?side1 ?side2 A16.out).mono ?_); (case side1 => repeat (first | exact (Kd.V_reads' HO_0.out).2.2 | (with_reducible refine Kd.C_alloc ?_ _) | (with_reducible refine Kd.C_drewN ?_ _) | (with_reducible refine Kd.C_drew ?_))); (case side2 => exact (Kd.V_reads' HO_0.out).2.1); rintro e w50 ⟨rfl, hb⟩; refine ⟨_, rfl, ?_⟩; have n0_ := Aside0.mk (Kd.V_below (by (with_reducible repeat (first | apply Kd.V_alloc | apply Kd.V_drewN | apply Kd.V_drew)); exact HO_0.out) hb); have n1_ := Aside0.mk (Kd.V_below (by (with_reducible repeat (first | apply Kd.V_alloc | apply Kd.V_drewN | apply Kd.V_drew)); exact HO_1.out) hb); have n2_ := Aside0.mk (Kd.R_below (by (with_reducible repeat (first | apply Kd.R_alloc | apply Kd.R_drewN | apply Kd.R_drew)); exact HO_13.out) hb); have n3_ := Aside0.mk (below_step (by repeat (first | (with_reducible first | exact HB.out | apply below_alloc | apply pw_below_drewN | apply below_drew1) | exact HB.out)) hb); clear HO_0; clear HO_1; clear HO_13; clear HB; have HO_0 := n0_; have HO_1 := n1_; have HO_13 := n2_; have HB := n3_; clear n0_ n1_ n2_ n3_; (try clear hb); (try clear hb2); (try clear hk); (try clear hi); obtain ⟨Ao51, co51, eo51⟩ := Kd.V_slice HO_1.out; subst eo51) | (go_at_call 44; (with_reducible refine (span_Join.calls _ _ t528 _ _ t531 t540 _ ?side1 ?side2 ?side3 ?side4 A18.out).mono ?_); (case side1 => repeat (first | exact (Kd.V_reads' HO_0.out).2.2 | (with_reducible refine Kd.C_alloc ?_ _) | (with_reducible refine Kd.C_drewN ?_ _) | (with_reducible refine Kd.C_drew ?_))); (case side2 => exact (Kd.V_reads' HO_0.out).2.1); (case side3 => repeat (first | exact (Kd.V_reads' HO_1.out).2.2 | (with_reducible refine Kd.C_alloc ?_ _) | (with_reducible refine Kd.C_drewN ?_ _) | (with_reducible refine Kd.C_drew ?_))); (case side4 => exact (Kd.V_reads' HO_1.out).2.1); rintro e w52 ⟨v541, rfl, ho0, hb⟩; have n0_ := Aside0.mk (Kd.V_elder' (by (with_reducible repeat (first | apply Kd.V_alloc | apply Kd.V_drewN | apply Kd.V_drew)); exact HO_0.out) (Kd.R_base ho0) hb); have n1_ := Aside0.mk (Kd.V_elder' (by (with_reducible repeat (first | apply Kd.V_alloc | apply Kd.V_drewN | apply Kd.V_drew)); exact HO_1.out) (Kd.R_base ho0) hb); have n2_ := Aside0.mk (Kd.R_elder' (by (with_reducible repeat (first | apply Kd.R_alloc | apply Kd.R_drewN | apply Kd.R_drew)); exact HO_13.out) (Kd.R_base ho0) hb); have n3_ := Aside0.mk (Kd.R_lower (Kd.R_new' ho0 (Kd.R_lt (by (with_reducible repeat (first | apply Kd.R_alloc | apply Kd.R_drewN | apply Kd.R_drew)); exact HO_13.out))) (below_size (by repeat (first | (with_reducible first | exact HB.out | apply below_alloc | apply pw_below_drewN | apply below_drew1) | exact HB.out)))); have n4_ := Aside0.mk (below_step (by repeat (first | (with_reducible first | exact HB.out | apply below_alloc | apply pw_below_drewN | apply below_drew1) | exact HB.out)) hb); clear HO_0; clear HO_1; clear HO_13; clear HB; have HO_0 := n0_; have HO_1 := n1_; have HO_13 := n2_; have HO542 := n3_; have HB := n4_; clear n0_ n1_ n2_ n3_ n4_; (try clear hb); (try clear hb2); (try clear hk); (try clear hi); (try clear ho0); obtain ⟨Ao53, co53, eo53⟩ := Kd.R_slice HO542.out; subst eo53) | (go_at_call 45; (with_reducible refine (span_Count.calls k1 _ _ t540 t543 _ ?side1 ?side2 A19.out).mono ?_); (case side1 => repeat (first | exact (Kd.R_reads' HO542.out).2.2 | (with_reducible refine Kd.C_alloc ?_ _) | (with_reducible refine Kd.C_drewN ?_ _) | (with_reducible refine Kd.C_drew ?_))); (case side2 => exact (Kd.R_reads' HO542.out).2.1); rintro e w54 ⟨rfl, hb⟩; have n0_ := Aside0.mk (Kd.V_below (by (with_reducible repeat (first | apply Kd.V_alloc | apply Kd.V_drewN | apply Kd.V_drew)); exact HO_0.out) hb); have n1_ := Aside0.mk (Kd.V_below (by (with_reducible repeat (first | apply Kd.V_alloc | apply Kd.V_drewN | apply Kd.V_drew)); exact HO_1.out) hb); have n2_ := Aside0.mk (Kd.R_below (by (with_reducible repeat (first | apply Kd.R_alloc | apply Kd.R_drewN | apply Kd.R_drew)); exact HO_13.out) hb); have n3_ := Aside0.mk (Kd.R_below (by (with_reducible repeat (first | apply Kd.R_alloc | apply Kd.R_drewN | apply Kd.R_drew)); exact HO542.out) hb); have n4_ := Aside0.mk (below_step (by repeat (first | (with_reducible first | exact HB.out | apply below_alloc | apply pw_below_drewN | apply below_drew1) | exact HB.out)) hb); clear HO_0; clear HO_1; clear HO_13; clear HO542; clear HB; have HO_0 := n0_; have HO_1 := n1_; have HO_13 := n2_; have HO542 := n3_; have HB := n4_; clear n0_ n1_ n2_ n3_ n4_; (try clear hb); (try clear hb2); (try clear hk); (try clear hi)) | (go_at_call 42; (with_reducible refine (span_Meet.calls k1 _ _ t528 _ _ t531 t544 _ ?side1 ?side2 ?side3 ?side4 A20.out).mono ?_); (case side1 => repeat (first | exact (Kd.V_reads' HO_0.out).2.2 | (with_reducible refine Kd.C_alloc ?_ _) | (with_reducible refine Kd.C_drewN ?_ _) | (with_reducible refine Kd.C_drew ?_))); (case side2 => exact (Kd.V_reads' HO_0.out).2.1); (case side3 => repeat (first | exact (Kd.V_reads' HO_1.out).2.2 | (with_reducible refine Kd.C_alloc ?_ _) | (with_reducible refine Kd.C_drewN ?_ _) | (with_reducible refine Kd.C_drew ?_))); (case side4 => exact (Kd.V_reads' HO_1.out).2.1); rintro e w55 ⟨v545, rfl, ho0, hb⟩; have n0_ := Aside0.mk (Kd.V_elder' (by (with_reducible repeat (first | apply Kd.V_alloc | apply Kd.V_drewN | apply Kd.V_drew)); exact HO_0.out) (Kd.R_base ho0) hb); have n1_ := Aside0.mk (Kd.V_elder' (by (with_reducible repeat (first | apply Kd.V_alloc | apply Kd.V_drewN | apply Kd.V_drew)); exact HO_1.out) (Kd.R_base ho0) hb); have n2_ := Aside0.mk (Kd.R_elder' (by (with_reducible repeat (first | apply Kd.R_alloc | apply Kd.R_drewN | apply Kd.R_drew)); exact HO_13.out) (Kd.R_base ho0) hb); have n3_ := Aside0.mk (Kd.R_elder' (by (with_reducible repeat (first | apply Kd.R_alloc | apply Kd.R_drewN | apply Kd.R_drew)); exact HO542.out) (Kd.R_base ho0) hb); have n4_ := Aside0.mk (Kd.R_lower (Kd.R_new' (Kd.R_new' ho0 (Kd.R_lt (by (with_reducible repeat (first | apply Kd.R_alloc | apply Kd.R_drewN | apply Kd.R_drew)); exact HO_13.out))) (Kd.R_lt (by (with_reducible repeat (first | apply Kd.R_alloc | apply Kd.R_drewN | apply Kd.R_drew)); exact HO542.out))) (below_size (by repeat (first | (with_reducible first | exact HB.out | apply below_alloc | apply pw_below_drewN | apply below_drew1) | exact HB.out)))); have n5_ := Aside0.mk (below_step (by repeat (first | (with_reducible first | exact HB.out | apply below_alloc | apply pw_below_drewN | apply below_drew1) | exact HB.out)) hb); clear HO_0; clear HO_1; clear HO_13; clear HO542; clear HB; have HO_0 := n0_; have HO_1 := n1_; have HO_13 := n2_; have HO542 := n3_; have HO546 := n4_; have HB := n5_; clear n0_ n1_ n2_ n3_ n4_ n5_; (try clear hb); (try clear hb2); (try clear hk); (try clear hi); (try clear ho0); obtain ⟨Ao56, co56, eo56⟩ := Kd.R_slice HO546.out; subst eo56) | (go_at_call 45; (with_reducible refine (span_Count.calls k1 _ _ t544 t547 _ ?side1 ?side2 A21.out).mono ?_); (case side1 => repeat (first | exact (Kd.R_reads' HO546.out).2.2 | (with_reducible refine Kd.C_alloc ?_ _) | (with_reducible refine Kd.C_drewN ?_ _) | (with_reducible refine Kd.C_drew ?_))); (case side2 => exact (Kd.R_reads' HO546.out).2.1); rintro e w57 ⟨rfl, hb⟩; have n0_ := Aside0.mk (Kd.V_below (by (with_reducible repeat (first | apply Kd.V_alloc | apply Kd.V_drewN | apply Kd.V_drew)); exact HO_0.out) hb); have n1_ := Aside0.mk (Kd.V_below (by (with_reducible repeat (first | apply Kd.V_alloc | apply Kd.V_drewN | apply Kd.V_drew)); exact HO_1.out) hb); have n2_ := Aside0.mk (Kd.R_below (by (with_reducible repeat (first | apply Kd.R_alloc | apply Kd.R_drewN | apply Kd.R_drew)); exact HO_13.out) hb); have n3_ := Aside0.mk (Kd.R_below (by (with_reducible repeat (first | apply Kd.R_alloc | apply Kd.R_drewN | apply Kd.R_drew)); exact HO542.out) hb); have n4_ := Aside0.mk (Kd.R_below (by (with_reducible repeat (first | apply Kd.R_alloc | apply Kd.R_drewN | apply Kd.R_drew)); exact HO546.out) hb); have n5_ := Aside0.mk (below_step (by repeat (first | (with_reducible first | exact HB.out | apply below_alloc | apply pw_below_drewN | apply below_drew1) | exact HB.out)) hb); clear HO_0; clear HO_1; clear HO_13; clear HO542; clear HO546; clear HB; have HO_0 := n0_; have HO_1 := n1_; have HO_13 := n2_; have HO542 := n3_; have HO546 := n4_; have HB := n5_; clear n0_ n1_ n2_ n3_ n4_ n5_; (try clear hb); (try clear hb2); (try clear hk); (try clear hi)) | (go_at_call 45; (with_reducible refine (span_Count.calls k1 _ _ t528 t539 _ ?side1 ?side2 A22.out).mono ?_); (case side1 => repeat (first | exact (Kd.V_reads' HO_0.out).2.2 | (with_reducible refine Kd.C_alloc ?_ _) | (with_reducible refine Kd.C_drewN ?_ _) | (with_reducible refine Kd.C_drew ?_))); (case side2 => exact (Kd.V_reads' HO_0.out).2.1); rintro e w58 ⟨rfl, hb⟩; have n0_ := Aside0.mk (Kd.V_below (by (with_reducible repeat (first | apply Kd.V_alloc | apply Kd.V_drewN | apply Kd.V_drew)); exact HO_0.out) hb); have n1_ := Aside0.mk (Kd.V_below (by (with_reducible repeat (first | apply Kd.V_alloc | apply Kd.V_drewN | apply Kd.V_drew)); exact HO_1.out) hb); have n2_ := Aside0.mk (Kd.R_below (by (with_reducible repeat (first | apply Kd.R_alloc | apply Kd.R_drewN | apply Kd.R_drew)); exact HO_13.out) hb); have n3_ := Aside0.mk (Kd.R_below (by (with_reducible repeat (first | apply Kd.R_alloc | apply Kd.R_drewN | apply Kd.R_drew)); exact HO542.out) hb); have n4_ := Aside0.mk (Kd.R_below (by (with_reducible repeat (first | apply Kd.R_alloc | apply Kd.R_drewN | apply Kd.R_drew)); exact HO546.out) hb); have n5_ := Aside0.mk (below_step (by repeat (first | (with_reducible first | exact HB.out | apply below_alloc | apply pw_below_drewN | apply below_drew1) | exact HB.out)) hb); clear HO_0; clear HO_1; clear HO_13; clear HO542; clear HO546; clear HB; have HO_0 := n0_; have HO_1 := n1_; have HO_13 := n2_; have HO542 := n3_; have HO546 := n4_; have HB := n5_; clear n0_ n1_ n2_ n3_ n4_ n5_; (try clear hb); (try clear hb2); (try clear hk); (try clear hi)) | (go_at_call 45; (with_reducible refine (span_Count.calls k1 _ _ t531 t549 _ ?side1 ?side2 A23.out).mono ?_); (case side1 => repeat (first | exact (Kd.V_reads' HO_1.out).2.2 | (with_reducible refine Kd.C_alloc ?_ _) | (with_reducible refine Kd.C_drewN ?_ _) | (with_reducible refine Kd.C_drew ?_))); (case side2 => exact (Kd.V_reads' HO_1.out).2.1); rintro e w59 ⟨rfl, hb⟩; have n0_ := Aside0.mk (Kd.V_below (by (with_reducible repeat (first | apply Kd.V_alloc | apply Kd.V_drewN | apply Kd.V_drew)); exact HO_0.out) hb); have n1_ := Aside0.mk (Kd.V_below (by (with_reducible repeat (first | apply Kd.V_alloc | apply Kd.V_drewN | apply Kd.V_drew)); exact HO_1.out) hb); have n2_ := Aside0.mk (Kd.R_below (by (with_reducible repeat (first | apply Kd.R_alloc | apply Kd.R_drewN | apply Kd.R_drew)); exact HO_13.out) hb); have n3_ := Aside0.mk (Kd.R_below (by (with_reducible repeat (first | apply Kd.R_alloc | apply Kd.R_drewN | apply Kd.R_drew)); exact HO542.out) hb); have n4_ := Aside0.mk (Kd.R_below (by (with_reducible repeat (first | apply Kd.R_alloc | apply Kd.R_drewN | apply Kd.R_drew)); exact HO546.out) hb); have n5_ := Aside0.mk (below_step (by repeat (first | (with_reducible first | exact HB.out | apply below_alloc | apply pw_below_drewN | apply below_drew1) | exact HB.out)) hb); clear HO_0; clear HO_1; clear HO_13; clear HO542; clear HO546; clear HB; have HO_0 := n0_; have HO_1 := n1_; have HO_13 := n2_; have HO542 := n3_; have HO546 := n4_; have HB := n5_; clear n0_ n1_ n2_ n3_ n4_ n5_; (try clear hb); (try clear hb2); (try clear hk); (try clear hi)) | (go_at_call 23; (with_reducible refine (span_Cut.calls k1 _ _ t528 _ _ t531 t550 _ ?side1 ?side2 ?side3 ?side4 A25.out).mono ?_); (case side1 => repeat (first | exact (Kd.V_reads' HO_0.out).2.2 | (with_reducible refine Kd.C_alloc ?_ _) | (with_reducible refine Kd.C_drewN ?_ _) | (with_reducible refine Kd.C_drew ?_))); (case side2 => exact (Kd.V_reads' HO_0.out).2.1); (case side3 => repeat (first | exact (Kd.V_reads' HO_1.out).2.2 | (with_reducible refine Kd.C_alloc ?_ _) | (with_reducible refine Kd.C_drewN ?_ _) | (with_reducible refine Kd.C_drew ?_))); (case side4 => exact (Kd.V_reads' HO_1.out).2.1); rintro e w60 ⟨v551, rfl, ho0, hb⟩; have n0_ := Aside0.mk (Kd.V_elder' (by (with_reducible repeat (first | apply Kd.V_alloc | apply Kd.V_drewN | apply Kd.V_drew)); exact HO_0.out) (Kd.R_base ho0) hb); have n1_ := Aside0.mk (Kd.V_elder' (by (with_reducible repeat (first | apply Kd.V_alloc | apply Kd.V_drewN | apply Kd.V_drew)); exact HO_1.out) (Kd.R_base ho0) hb); have n2_ := Aside0.mk (Kd.R_elder' (by (with_reducible repeat (first | apply Kd.R_alloc | apply Kd.R_drewN | apply Kd.R_drew)); exact HO_13.out) (Kd.R_base ho0) hb); have n3_ := Aside0.mk (Kd.R_elder' (by (with_reducible repeat (first | apply Kd.R_alloc | apply Kd.R_drewN | apply Kd.R_drew)); exact HO542.out) (Kd.R_base ho0) hb); have n4_ := Aside0.mk (Kd.R_elder' (by (with_reducible repeat (first | apply Kd.R_alloc | apply Kd.R_drewN | apply Kd.R_drew)); exact HO546.out) (Kd.R_base ho0) hb); have n5_ := Aside0.mk (Kd.R_lower (Kd.R_new' (Kd.R_new' (Kd.R_new' ho0 (Kd.R_lt (by (with_reducible repeat (first | apply Kd.R_alloc | apply Kd.R_drewN | apply Kd.R_drew)); exact HO_13.out))) (Kd.R_lt (by (with_reducible repeat (first | apply Kd.R_alloc | apply Kd.R_drewN | apply Kd.R_drew)); exact HO542.out))) (Kd.R_lt (by (with_reducible repeat (first | apply Kd.R_alloc | apply Kd.R_drewN | apply Kd.R_drew)); exact HO546.out))) (below_size (by repeat (first | (with_reducible first | exact HB.out | apply below_alloc | apply pw_below_drewN | apply below_drew1) | exact HB.out)))); have n6_ := Aside0.mk (below_step (by repeat (first | (with_reducible first | exact HB.out | apply below_alloc | apply pw_below_drewN | apply below_drew1) | exact HB.out)) hb); clear HO_0; clear HO_1; clear HO_13; clear HO542; clear HO546; clear HB; have HO_0 := n0_; have HO_1 := n1_; have HO_13 := n2_; have HO542 := n3_; have HO546 := n4_; have HO552 := n5_; have HB := n6_; clear n0_ n1_ n2_ n3_ n4_ n5_ n6_; (try clear hb); (try clear hb2); (try clear hk); (try clear hi); (try clear ho0); obtain ⟨Ao61, co61, eo61⟩ := Kd.R_slice HO552.out; subst eo61) | (go_at_call 45; (with_reducible refine (span_Count.calls k1 _ _ t550 t553 _ ?side1 ?side2 A26.out).mono ?_); (case side1 => repeat (first | exact (Kd.R_reads' HO552.out).2.2 | (with_reducible refine Kd.C_alloc ?_ _) | (with_reducible refine Kd.C_drewN ?_ _) | (with_reducible refine Kd.C_drew ?_))); (case side2 => exact (Kd.R_reads' HO552.out).2.1); rintro e w62 ⟨rfl, hb⟩; have n0_ := Aside0.mk (Kd.V_below (by (with_reducible repeat (first | apply Kd.V_alloc | apply Kd.V_drewN | apply Kd.V_drew)); exact HO_0.out) hb); have n1_ := Aside0.mk (Kd.V_below (by (with_reducible repeat (first | apply Kd.V_alloc | apply Kd.V_drewN | apply Kd.V_drew)); exact HO_1.out) hb); have n2_ := Aside0.mk (Kd.R_below (by (with_reducible repeat (first | apply Kd.R_alloc | apply Kd.R_drewN | apply Kd.R_drew)); exact HO_13.out) hb); have n3_ := Aside0.mk (Kd.R_below (by (with_reducible repeat (first | apply Kd.R_alloc | apply Kd.R_drewN | apply Kd.R_drew)); exact HO542.out) hb); have n4_ := Aside0.mk (Kd.R_below (by (with_reducible repeat (first | apply Kd.R_alloc | apply Kd.R_drewN | apply Kd.R_drew)); exact HO546.out) hb); have n5_ := Aside0.mk (Kd.R_below (by (with_reducible repeat (first | apply Kd.R_alloc | apply Kd.R_drewN | apply Kd.R_drew)); exact HO552.out) hb); have n6_ := Aside0.mk (below_step (by repeat (first | (with_reducible first | exact HB.out | apply below_alloc | apply pw_below_drewN | apply below_drew1) | exact HB.out)) hb); clear HO_0; clear HO_1; clear HO_13; clear HO542; clear HO546; clear HO552; clear HB; have HO_0 := n0_; have HO_1 := n1_; have HO_13 := n2_; have HO542 := n3_; have HO546 := n4_; have HO552 := n5_; have HB := n6_; clear n0_ n1_ n2_ n3_ n4_ n5_ n6_; (try clear hb); (try clear hb2); (try clear hk); (try clear hi)) | (go_at_call 42; (with_reducible refine (span_Meet.calls k1 _ _ t528 _ _ t531 t544 _ ?side1 ?side2 ?side3 ?side4 A27.out).mono ?_); (case side1 => repeat (first | exact (Kd.V_reads' HO_0.out).2.2 | (with_reducible refine Kd.C_alloc ?_ _) | (with_reducible refine Kd.C_drewN ?_ _) | (with_reducible refine Kd.C_drew ?_))); (case side2 => exact (Kd.V_reads' HO_0.out).2.1); (case side3 => repeat (first | exact (Kd.V_reads' HO_1.out).2.2 | (with_reducible refine Kd.C_alloc ?_ _) | (with_reducible refine Kd.C_drewN ?_ _) | (with_reducible refine Kd.C_drew ?_))); (case side4 => exact (Kd.V_reads' HO_1.out).2.1); rintro e w63 ⟨v555, rfl, ho0, hb⟩; have n0_ := Aside0.mk (Kd.V_elder' (by (with_reducible repeat (first | apply Kd.V_alloc | apply Kd.V_drewN | apply Kd.V_drew)); exact HO_0.out) (Kd.R_base ho0) hb); have n1_ := Aside0.mk (Kd.V_elder' (by (with_reducible repeat (first | apply Kd.V_alloc | apply Kd.V_drewN | apply Kd.V_drew)); exact HO_1.out) (Kd.R_base ho0) hb); have n2_ := Aside0.mk (Kd.R_elder' (by (with_reducible repeat (first | apply Kd.R_alloc | apply Kd.R_drewN | apply Kd.R_drew)); exact HO_13.out) (Kd.R_base ho0) hb); have n3_ := Aside0.mk (Kd.R_elder' (by (with_reducible repeat (first | apply Kd.R_alloc | apply Kd.R_drewN | apply Kd.R_drew)); exact HO542.out) (Kd.R_base ho0) hb); have n4_ := Aside0.mk (Kd.R_elder' (by (with_reducible repeat (first | apply Kd.R_alloc | apply Kd.R_drewN | apply Kd.R_drew)); exact HO546.out) (Kd.R_base ho0) hb); have n5_ := Aside0.mk (Kd.R_elder' (by (with_reducible repeat (first | apply Kd.R_alloc | apply Kd.R_drewN | apply Kd.R_drew)); exact HO552.out) (Kd.R_base ho0) hb); have n6_ := Aside0.mk (Kd.R_lower (Kd.R_new' (Kd.R_new' (Kd.R_new' (Kd.R_new' ho0 (Kd.R_lt (by (with_reducible repeat (first | apply Kd.R_alloc | apply Kd.R_drewN | apply Kd.R_drew)); exact HO_13.out))) (Kd.R_lt (by (with_reducible repeat (first | apply Kd.R_alloc | apply Kd.R_drewN | apply Kd.R_drew)); exact HO542.out))) (Kd.R_lt (by (with_reducible repeat (first | apply Kd.R_alloc | apply Kd.R_drewN | apply Kd.R_drew)); exact HO546.out))) (Kd.R_lt (by (with_reducible repeat (first | apply Kd.R_alloc | apply Kd.R_drewN | apply Kd.R_drew)); exact HO552.out))) (below_size (by repeat (first | (with_reducible first | exact HB.out | apply below_alloc | apply pw_below_drewN | apply below_drew1) | exact HB.out)))); have n7_ := Aside0.mk (below_step (by repeat (first | (with_reducible first | exact HB.out | apply below_alloc | apply pw_below_drewN | apply below_drew1) | exact HB.out)) hb); clear HO_0; clear HO_1; clear HO_13; clear HO542; clear HO546; clear HO552; clear HB; have HO_0 := n0_; have HO_1 := n1_; have HO_13 := n2_; have HO542 := n3_; have HO546 := n4_; have HO552 := n5_; have HO556 := n6_; have HB := n7_; clear n0_ n1_ n2_ n3_ n4_ n5_ n6_ n7_; (try clear hb); (try clear hb2); (try clear hk); (try clear hi); (try clear ho0); obtain ⟨Ao64, co64, eo64⟩ := Kd.R_slice HO556.out; subst eo64) | (go_at_call 45; (with_reducible refine (span_Count.calls k1 _ _ t544 t547 _ ?side1 ?side2 A28.out).mono ?_); (case side1 => repeat (first | exact (Kd.R_reads' HO556.out).2.2 | (with_reducible refine Kd.C_alloc ?_ _) | (with_reducible refine Kd.C_drewN ?_ _) | (with_reducible refine Kd.C_drew ?_))); (case side2 => exact (Kd.R_reads' HO556.out).2.1); rintro e w65 ⟨rfl, hb⟩; have n0_ := Aside0.mk (Kd.V_below (by (with_reducible repeat (first | apply Kd.V_alloc | apply Kd.V_drewN | apply Kd.V_drew)); exact HO_0.out) hb); have n1_ := Aside0.mk (Kd.V_below (by (with_reducible repeat (first | apply Kd.V_alloc | apply Kd.V_drewN | apply Kd.V_drew)); exact HO_1.out) hb); have n2_ := Aside0.mk (Kd.R_below (by (with_reducible repeat (first | apply Kd.R_alloc | apply Kd.R_drewN | apply Kd.R_drew)); exact HO_13.out) hb); have n3_ := Aside0.mk (Kd.R_below (by (with_reducible repeat (first | apply Kd.R_alloc | apply Kd.R_drewN | apply Kd.R_drew)); exact HO542.out) hb); have n4_ := Aside0.mk (Kd.R_below (by (with_reducible repeat (first | apply Kd.R_alloc | apply Kd.R_drewN | apply Kd.R_drew)); exact HO546.out) hb); have n5_ := Aside0.mk (Kd.R_below (by (with_reducible repeat (first | apply Kd.R_alloc | apply Kd.R_drewN | apply Kd.R_drew)); exact HO552.out) hb); have n6_ := Aside0.mk (Kd.R_below (by (with_reducible repeat (first | apply Kd.R_alloc | apply Kd.R_drewN | apply Kd.R_drew)); exact HO556.out) hb); have n7_ := Aside0.mk (below_step (by repeat (first | (with_reducible first | exact HB.out | apply below_alloc | apply pw_below_drewN | apply below_drew1) | exact HB.out)) hb); clear HO_0; clear HO_1; clear HO_13; clear HO542; clear HO546; clear HO552; clear HO556; clear HB; have HO_0 := n0_; have HO_1 := n1_; have HO_13 := n2_; have HO542 := n3_; have HO546 := n4_; have HO552 := n5_; have HO556 := n6_; have HB := n7_; clear n0_ n1_ n2_ n3_ n4_ n5_ n6_ n7_; (try clear hb); (try clear hb2); (try clear hk); (try clear hi)) | (go_at_call 45; (with_reducible refine (span_Count.calls k1 _ _ t528 t539 _ ?side1 ?side2 A29.out).mono ?_); (case side1 => repeat (first | exact (Kd.V_reads' HO_0.out).2.2 | (with_reducible refine Kd.C_alloc ?_ _) | (with_reducible refine Kd.C_drewN ?_ _) | (with_reducible refine Kd.C_drew ?_))); (case side2 => exact (Kd.V_reads' HO_0.out).2.1); rintro e w66 ⟨rfl, hb⟩; have n0_ := Aside0.mk (Kd.V_below (by (with_reducible repeat (first | apply Kd.V_alloc | apply Kd.V_drewN | apply Kd.V_drew)); exact HO_0.out) hb); have n1_ := Aside0.mk (Kd.V_below (by (with_reducible repeat (first | apply Kd.V_alloc | apply Kd.V_drewN | apply Kd.V_drew)); exact HO_1.out) hb); have n2_ := Aside0.mk (Kd.R_below (by (with_reducible repeat (first | apply Kd.R_alloc | apply Kd.R_drewN | apply Kd.R_drew)); exact HO_13.out) hb); have n3_ := Aside0.mk (Kd.R_below (by (with_reducible repeat (first | apply Kd.R_alloc | apply Kd.R_drewN | apply Kd.R_drew)); exact HO542.out) hb); have n4_ := Aside0.mk (Kd.R_below (by (with_reducible repeat (first | apply Kd.R_alloc | apply Kd.R_drewN | apply Kd.R_drew)); exact HO546.out) hb); have n5_ := Aside0.mk (Kd.R_below (by (with_reducible repeat (first | apply Kd.R_alloc | apply Kd.R_drewN | apply Kd.R_drew)); exact HO552.out) hb); have n6_ := Aside0.mk (Kd.R_below (by (with_reducible repeat (first | apply Kd.R_alloc | apply Kd.R_drewN | apply Kd.R_drew)); exact HO556.out) hb); have n7_ := Aside0.mk (below_step (by repeat (first | (with_reducible first | exact HB.out | apply below_alloc | apply pw_below_drewN | apply below_drew1) | exact HB.out)) hb); clear HO_0; clear HO_1; clear HO_13; clear HO542; clear HO546; clear HO552; clear HO556; clear HB; have HO_0 := n0_; have HO_1 := n1_; have HO_13 := n2_; have HO542 := n3_; have HO546 := n4_; have HO552 := n5_; have HO556 := n6_; have HB := n7_; clear n0_ n1_ n2_ n3_ n4_ n5_ n6_ n7_; (try clear hb); (try clear hb2); (try clear hk); (try clear hi)))
              go_ret
              exact ⟨by first | rfl | (simp [errW_none, errW_some] <;> rfl) | (simp [*, errW_none, errW_some] <;> rfl), by repeat (first | (with_reducible first | exact HB.out | apply below_alloc | apply pw_below_drewN | apply below_drew1) | exact HB.out)⟩
          · rw [if_neg c24] at H
            have c24b0 : ((IntKind.u64.wrap (t543 + t547)) == (IntKind.u64.wrap (t539 + t549))) = false := beq_eq_false_iff_ne.mpr c24
            have c24b1 : ((IntKind.u64.wrap (t543 + t547)) != (IntKind.u64.wrap (t539 + t549))) = true := bne_iff_ne.mpr c24
            obtain rfl := Option.some.inj H
            go_wp2_with (first | ((with_reducible refine gate_callee (f := 45) rfl ?_); refine goesL_ (some 30) rfl rfl Try.func45 (by kernel_rfl) rfl #[.slice Ao8 t528.length co8] rfl (by (try simp only [List.map_toArray, List.map_cons, List.map_nil]); first | done | rfl | (simp only [List.length_drop, List.length_take]; rfl)) ?_; (with_reducible refine (span_Count.calls k1 _ _ t528 t539 _ ?side1 ?side2 A16.out).mono ?_); (case side1 => repeat (first | exact (Kd.V_reads' HO_0.out).2.2 | (with_reducible refine Kd.C_alloc ?_ _) | (with_reducible refine Kd.C_drewN ?_ _) | (with_reducible refine Kd.C_drew ?_))); (case side2 => exact (Kd.V_reads' HO_0.out).2.1); rintro e w67 ⟨rfl, hb⟩; refine ⟨_, rfl, ?_⟩; have n0_ := Aside0.mk (Kd.V_below (by (with_reducible repeat (first | apply Kd.V_alloc | apply Kd.V_drewN | apply Kd.V_drew)); exact HO_0.out) hb); have n1_ := Aside0.mk (Kd.V_below (by (with_reducible repeat (first | apply Kd.V_alloc | apply Kd.V_drewN | apply Kd.V_drew)); exact HO_1.out) hb); have n2_ := Aside0.mk (Kd.R_below (by (with_reducible repeat (first | apply Kd.R_alloc | apply Kd.R_drewN | apply Kd.R_drew)); exact HO_13.out) hb); have n3_ := Aside0.mk (below_step (by repeat (first | (with_reducible first | exact HB.out | apply below_alloc | apply pw_below_drewN | apply below_drew1) | exact HB.out)) hb); clear HO_0; clear HO_1; clear HO_13; clear HB; have HO_0 := n0_; have HO_1 := n1_; have HO_13 := n2_; have HB := n3_; clear n0_ n1_ n2_ n3_; (try clear hb); (try clear hb2); (try clear hk); (try clear hi); obtain ⟨Ao68, co68, eo68⟩ := Kd.V_slice HO_1.out; subst eo68) | (go_at_call 44; (with_reducible refine (span_Join.calls _ _ t528 _ _ t531 t540 _ ?side1 ?side2 ?side3 ?side4 A18.out).mono ?_); (case side1 => repeat (first | exact (Kd.V_reads' HO_0.out).2.2 | (with_reducible refine Kd.C_alloc ?_ _) | (with_reducible refine Kd.C_drewN ?_ _) | (with_reducible refine Kd.C_drew ?_))); (case side2 => exact (Kd.V_reads' HO_0.out).2.1); (case side3 => repeat (first | exact (Kd.V_reads' HO_1.out).2.2 | (with_reducible refine Kd.C_alloc ?_ _) | (with_reducible refine Kd.C_drewN ?_ _) | (with_reducible refine Kd.C_drew ?_))); (case side4 => exact (Kd.V_reads' HO_1.out).2.1); rintro e w69 ⟨v541, rfl, ho0, hb⟩; have n0_ := Aside0.mk (Kd.V_elder' (by (with_reducible repeat (first | apply Kd.V_alloc | apply Kd.V_drewN | apply Kd.V_drew)); exact HO_0.out) (Kd.R_base ho0) hb); have n1_ := Aside0.mk (Kd.V_elder' (by (with_reducible repeat (first | apply Kd.V_alloc | apply Kd.V_drewN | apply Kd.V_drew)); exact HO_1.out) (Kd.R_base ho0) hb); have n2_ := Aside0.mk (Kd.R_elder' (by (with_reducible repeat (first | apply Kd.R_alloc | apply Kd.R_drewN | apply Kd.R_drew)); exact HO_13.out) (Kd.R_base ho0) hb); have n3_ := Aside0.mk (Kd.R_lower (Kd.R_new' ho0 (Kd.R_lt (by (with_reducible repeat (first | apply Kd.R_alloc | apply Kd.R_drewN | apply Kd.R_drew)); exact HO_13.out))) (below_size (by repeat (first | (with_reducible first | exact HB.out | apply below_alloc | apply pw_below_drewN | apply below_drew1) | exact HB.out)))); have n4_ := Aside0.mk (below_step (by repeat (first | (with_reducible first | exact HB.out | apply below_alloc | apply pw_below_drewN | apply below_drew1) | exact HB.out)) hb); clear HO_0; clear HO_1; clear HO_13; clear HB; have HO_0 := n0_; have HO_1 := n1_; have HO_13 := n2_; have HO542 := n3_; have HB := n4_; clear n0_ n1_ n2_ n3_ n4_; (try clear hb); (try clear hb2); (try clear hk); (try clear hi); (try clear ho0); obtain ⟨Ao70, co70, eo70⟩ := Kd.R_slice HO542.out; subst eo70) | (go_at_call 45; (with_reducible refine (span_Count.calls k1 _ _ t540 t543 _ ?side1 ?side2 A19.out).mono ?_); (case side1 => repeat (first | exact (Kd.R_reads' HO542.out).2.2 | (with_reducible refine Kd.C_alloc ?_ _) | (with_reducible refine Kd.C_drewN ?_ _) | (with_reducible refine Kd.C_drew ?_))); (case side2 => exact (Kd.R_reads' HO542.out).2.1); rintro e w71 ⟨rfl, hb⟩; have n0_ := Aside0.mk (Kd.V_below (by (with_reducible repeat (first | apply Kd.V_alloc | apply Kd.V_drewN | apply Kd.V_drew)); exact HO_0.out) hb); have n1_ := Aside0.mk (Kd.V_below (by (with_reducible repeat (first | apply Kd.V_alloc | apply Kd.V_drewN | apply Kd.V_drew)); exact HO_1.out) hb); have n2_ := Aside0.mk (Kd.R_below (by (with_reducible repeat (first | apply Kd.R_alloc | apply Kd.R_drewN | apply Kd.R_drew)); exact HO_13.out) hb); have n3_ := Aside0.mk (Kd.R_below (by (with_reducible repeat (first | apply Kd.R_alloc | apply Kd.R_drewN | apply Kd.R_drew)); exact HO542.out) hb); have n4_ := Aside0.mk (below_step (by repeat (first | (with_reducible first | exact HB.out | apply below_alloc | apply pw_below_drewN | apply below_drew1) | exact HB.out)) hb); clear HO_0; clear HO_1; clear HO_13; clear HO542; clear HB; have HO_0 := n0_; have HO_1 := n1_; have HO_13 := n2_; have HO542 := n3_; have HB := n4_; clear n0_ n1_ n2_ n3_ n4_; (try clear hb); (try clear hb2); (try clear hk); (try clear hi)) | (go_at_call 42; (with_reducible refine (span_Meet.calls k1 _ _ t528 _ _ t531 t544 _ ?side1 ?side2 ?side3 ?side4 A20.out).mono ?_); (case side1 => repeat (first | exact (Kd.V_reads' HO_0.out).2.2 | (with_reducible refine Kd.C_alloc ?_ _) | (with_reducible refine Kd.C_drewN ?_ _) | (with_reducible refine Kd.C_drew ?_))); (case side2 => exact (Kd.V_reads' HO_0.out).2.1); (case side3 => repeat (first | exact (Kd.V_reads' HO_1.out).2.2 | (with_reducible refine Kd.C_alloc ?_ _) | (with_reducible refine Kd.C_drewN ?_ _) | (with_reducible refine Kd.C_drew ?_))); (case side4 => exact (Kd.V_reads' HO_1.out).2.1); rintro e w72 ⟨v545, rfl, ho0, hb⟩; have n0_ := Aside0.mk (Kd.V_elder' (by (with_reducible repeat (first | apply Kd.V_alloc | apply Kd.V_drewN | apply Kd.V_drew)); exact HO_0.out) (Kd.R_base ho0) hb); have n1_ := Aside0.mk (Kd.V_elder' (by (with_reducible repeat (first | apply Kd.V_alloc | apply Kd.V_drewN | apply Kd.V_drew)); exact HO_1.out) (Kd.R_base ho0) hb); have n2_ := Aside0.mk (Kd.R_elder' (by (with_reducible repeat (first | apply Kd.R_alloc | apply Kd.R_drewN | apply Kd.R_drew)); exact HO_13.out) (Kd.R_base ho0) hb); have n3_ := Aside0.mk (Kd.R_elder' (by (with_reducible repeat (first | apply Kd.R_alloc | apply Kd.R_drewN | apply Kd.R_drew)); exact HO542.out) (Kd.R_base ho0) hb); have n4_ := Aside0.mk (Kd.R_lower (Kd.R_new' (Kd.R_new' ho0 (Kd.R_lt (by (with_reducible repeat (first | apply Kd.R_alloc | apply Kd.R_drewN | apply Kd.R_drew)); exact HO_13.out))) (Kd.R_lt (by (with_reducible repeat (first | apply Kd.R_alloc | apply Kd.R_drewN | apply Kd.R_drew)); exact HO542.out))) (below_size (by repeat (first | (with_reducible first | exact HB.out | apply below_alloc | apply pw_below_drewN | apply below_drew1) | exact HB.out)))); have n5_ := Aside0.mk (below_step (by repeat (first | (with_reducible first | exact HB.out | apply below_alloc | apply pw_below_drewN | apply below_drew1) | exact HB.out)) hb); clear HO_0; clear HO_1; clear HO_13; clear HO542; clear HB; have HO_0 := n0_; have HO_1 := n1_; have HO_13 := n2_; have HO542 := n3_; have HO546 := n4_; have HB := n5_; clear n0_ n1_ n2_ n3_ n4_ n5_; (try clear hb); (try clear hb2); (try clear hk); (try clear hi); (try clear ho0); obtain ⟨Ao73, co73, eo73⟩ := Kd.R_slice HO546.out; subst eo73) | (go_at_call 45; (with_reducible refine (span_Count.calls k1 _ _ t544 t547 _ ?side1 ?side2 A21.out).mono ?_); (case side1 => repeat (first | exact (Kd.R_reads' HO546.out).2.2 | (with_reducible refine Kd.C_alloc ?_ _) | (with_reducible refine Kd.C_drewN ?_ _) | (with_reducible refine Kd.C_drew ?_))); (case side2 => exact (Kd.R_reads' HO546.out).2.1); rintro e w74 ⟨rfl, hb⟩; have n0_ := Aside0.mk (Kd.V_below (by (with_reducible repeat (first | apply Kd.V_alloc | apply Kd.V_drewN | apply Kd.V_drew)); exact HO_0.out) hb); have n1_ := Aside0.mk (Kd.V_below (by (with_reducible repeat (first | apply Kd.V_alloc | apply Kd.V_drewN | apply Kd.V_drew)); exact HO_1.out) hb); have n2_ := Aside0.mk (Kd.R_below (by (with_reducible repeat (first | apply Kd.R_alloc | apply Kd.R_drewN | apply Kd.R_drew)); exact HO_13.out) hb); have n3_ := Aside0.mk (Kd.R_below (by (with_reducible repeat (first | apply Kd.R_alloc | apply Kd.R_drewN | apply Kd.R_drew)); exact HO542.out) hb); have n4_ := Aside0.mk (Kd.R_below (by (with_reducible repeat (first | apply Kd.R_alloc | apply Kd.R_drewN | apply Kd.R_drew)); exact HO546.out) hb); have n5_ := Aside0.mk (below_step (by repeat (first | (with_reducible first | exact HB.out | apply below_alloc | apply pw_below_drewN | apply below_drew1) | exact HB.out)) hb); clear HO_0; clear HO_1; clear HO_13; clear HO542; clear HO546; clear HB; have HO_0 := n0_; have HO_1 := n1_; have HO_13 := n2_; have HO542 := n3_; have HO546 := n4_; have HB := n5_; clear n0_ n1_ n2_ n3_ n4_ n5_; (try clear hb); (try clear hb2); (try clear hk); (try clear hi)) | (go_at_call 45; (with_reducible refine (span_Count.calls k1 _ _ t528 t539 _ ?side1 ?side2 A22.out).mono ?_); (case side1 => repeat (first | exact (Kd.V_reads' HO_0.out).2.2 | (with_reducible refine Kd.C_alloc ?_ _) | (with_reducible refine Kd.C_drewN ?_ _) | (with_reducible refine Kd.C_drew ?_))); (case side2 => exact (Kd.V_reads' HO_0.out).2.1); rintro e w75 ⟨rfl, hb⟩; have n0_ := Aside0.mk (Kd.V_below (by (with_reducible repeat (first | apply Kd.V_alloc | apply Kd.V_drewN | apply Kd.V_drew)); exact HO_0.out) hb); have n1_ := Aside0.mk (Kd.V_below (by (with_reducible repeat (first | apply Kd.V_alloc | apply Kd.V_drewN | apply Kd.V_drew)); exact HO_1.out) hb); have n2_ := Aside0.mk (Kd.R_below (by (with_reducible repeat (first | apply Kd.R_alloc | apply Kd.R_drewN | apply Kd.R_drew)); exact HO_13.out) hb); have n3_ := Aside0.mk (Kd.R_below (by (with_reducible repeat (first | apply Kd.R_alloc | apply Kd.R_drewN | apply Kd.R_drew)); exact HO542.out) hb); have n4_ := Aside0.mk (Kd.R_below (by (with_reducible repeat (first | apply Kd.R_alloc | apply Kd.R_drewN | apply Kd.R_drew)); exact HO546.out) hb); have n5_ := Aside0.mk (below_step (by repeat (first | (with_reducible first | exact HB.out | apply below_alloc | apply pw_below_drewN | apply below_drew1) | exact HB.out)) hb); clear HO_0; clear HO_1; clear HO_13; clear HO542; clear HO546; clear HB; have HO_0 := n0_; have HO_1 := n1_; have HO_13 := n2_; have HO542 := n3_; have HO546 := n4_; have HB := n5_; clear n0_ n1_ n2_ n3_ n4_ n5_; (try clear hb); (try clear hb2); (try clear hk); (try clear hi)) | (go_at_call 45; (with_reducible refine (span_Count.calls k1 _ _ t531 t549 _ ?side1 ?side2 A23.out).mono ?_); (case side1 => repeat (first | exact (Kd.V_reads' HO_1.out).2.2 | (with_reducible refine Kd.C_alloc ?_ _) | (with_reducible refine Kd.C_drewN ?_ _) | (with_reducible refine Kd.C_drew ?_))); (case side2 => exact (Kd.V_reads' HO_1.out).2.1); rintro e w76 ⟨rfl, hb⟩; have n0_ := Aside0.mk (Kd.V_below (by (with_reducible repeat (first | apply Kd.V_alloc | apply Kd.V_drewN | apply Kd.V_drew)); exact HO_0.out) hb); have n1_ := Aside0.mk (Kd.V_below (by (with_reducible repeat (first | apply Kd.V_alloc | apply Kd.V_drewN | apply Kd.V_drew)); exact HO_1.out) hb); have n2_ := Aside0.mk (Kd.R_below (by (with_reducible repeat (first | apply Kd.R_alloc | apply Kd.R_drewN | apply Kd.R_drew)); exact HO_13.out) hb); have n3_ := Aside0.mk (Kd.R_below (by (with_reducible repeat (first | apply Kd.R_alloc | apply Kd.R_drewN | apply Kd.R_drew)); exact HO542.out) hb); have n4_ := Aside0.mk (Kd.R_below (by (with_reducible repeat (first | apply Kd.R_alloc | apply Kd.R_drewN | apply Kd.R_drew)); exact HO546.out) hb); have n5_ := Aside0.mk (below_step (by repeat (first | (with_reducible first | exact HB.out | apply below_alloc | apply pw_below_drewN | apply below_drew1) | exact HB.out)) hb); clear HO_0; clear HO_1; clear HO_13; clear HO542; clear HO546; clear HB; have HO_0 := n0_; have HO_1 := n1_; have HO_13 := n2_; have HO542 := n3_; have HO546 := n4_; have HB := n5_; clear n0_ n1_ n2_ n3_ n4_ n5_; (try clear hb); (try clear hb2); (try clear hk); (try clear hi)))
            go_ret
            exact ⟨by first | rfl | (simp [errW_none, errW_some] <;> rfl) | (simp [*, errW_none, errW_some] <;> rfl), by repeat (first | (with_reducible first | exact HB.out | apply below_alloc | apply pw_below_drewN | apply below_drew1) | exact HB.out)⟩
        · rw [if_neg c17] at H
          have c17b0 : (t539 == x5_1) = false := beq_eq_false_iff_ne.mpr c17
          have c17b1 : (t539 != x5_1) = true := bne_iff_ne.mpr c17
          obtain rfl := Option.some.inj H
          go_wp2_with (first | ((with_reducible refine gate_callee (f := 45) rfl ?_); refine goesL_ (some 30) rfl rfl Try.func45 (by kernel_rfl) rfl #[.slice Ao8 t528.length co8] rfl (by (try simp only [List.map_toArray, List.map_cons, List.map_nil]); first | done | rfl | (simp only [List.length_drop, List.length_take]; rfl)) ?_; (with_reducible refine (span_Count.calls k1 _ _ t528 t539 _ ?side1 ?side2 A16.out).mono ?_); (case side1 => repeat (first | exact (Kd.V_reads' HO_0.out).2.2 | (with_reducible refine Kd.C_alloc ?_ _) | (with_reducible refine Kd.C_drewN ?_ _) | (with_reducible refine Kd.C_drew ?_))); (case side2 => exact (Kd.V_reads' HO_0.out).2.1); rintro e w77 ⟨rfl, hb⟩; refine ⟨_, rfl, ?_⟩; have n0_ := Aside0.mk (Kd.V_below (by (with_reducible repeat (first | apply Kd.V_alloc | apply Kd.V_drewN | apply Kd.V_drew)); exact HO_0.out) hb); have n1_ := Aside0.mk (Kd.V_below (by (with_reducible repeat (first | apply Kd.V_alloc | apply Kd.V_drewN | apply Kd.V_drew)); exact HO_1.out) hb); have n2_ := Aside0.mk (Kd.R_below (by (with_reducible repeat (first | apply Kd.R_alloc | apply Kd.R_drewN | apply Kd.R_drew)); exact HO_13.out) hb); have n3_ := Aside0.mk (below_step (by repeat (first | (with_reducible first | exact HB.out | apply below_alloc | apply pw_below_drewN | apply below_drew1) | exact HB.out)) hb); clear HO_0; clear HO_1; clear HO_13; clear HB; have HO_0 := n0_; have HO_1 := n1_; have HO_13 := n2_; have HB := n3_; clear n0_ n1_ n2_ n3_; (try clear hb); (try clear hb2); (try clear hk); (try clear hi)))
          go_ret
          exact ⟨by first | rfl | (simp [errW_none, errW_some] <;> rfl) | (simp [*, errW_none, errW_some] <;> rfl), by repeat (first | (with_reducible first | exact HB.out | apply below_alloc | apply pw_below_drewN | apply below_drew1) | exact HB.out)⟩
end Go.Proofs.Ytgncbhpmnjfhhaa.S
end
section
namespace Go.Proofs.Ytgncbhpmnjfhhaa.S
open Go.RowKit Go.Proofs.YtgncbhpmnjfhhaaW.PrintWords Go.Proofs.YtgncbhpmnjfhhaaW.PrintLast Go.Proofs.YtgncbhpmnjfhhaaW.PrintMore
set_option linter.unusedVariables false
set_option linter.unusedSimpArgs false
def tailS (c0 c1 : Int) : List S30 := if c0 < c1 then [⟨c0, c1⟩] else []
def cutGo : List S30 → Int → Int → List S30
  | [], c0, c1 => tailS c0 c1
  | t :: bs, c0, c1 => if t.f0 < c1 then tailS c0 t.f0 ++ cutGo bs t.f1 c1 else tailS c0 c1
def cutAll : List S30 → List S30 → List S30
  | _, [] => []
  | bs, s :: a => cutGo (bs.dropWhile fun t => decide (t.f1 ≤ s.f0)) s.f0 s.f1 ++ cutAll (bs.dropWhile fun t => decide (t.f1 ≤ s.f0)) a
def cutL (a b : List S30) : List S30 := cutAll (normL b) (normL a)
theorem tailS_length (c0 c1 : Int) : (tailS c0 c1).length ≤ 1 := by unfold tailS; split <;> simp
theorem cutGo_length : ∀ (bs : List S30) (c0 c1 : Int), (cutGo bs c0 c1).length ≤ bs.length + 1
  | [], c0, c1 => by simp only [cutGo, List.length_nil]; have := tailS_length c0 c1; omega
  | t :: bs, c0, c1 => by
    simp only [cutGo]
    split
    · have := cutGo_length bs t.f1 c1
      have := tailS_length c0 t.f0
      rw [List.length_append, List.length_cons]; omega
    · have := tailS_length c0 c1
      rw [List.length_cons]; omega
theorem dropWhile_length {α : Type} (p : α → Bool) : ∀ (l : List α), (l.dropWhile p).length ≤ l.length
  | [] => by simp
  | x :: l => by
    rw [List.dropWhile_cons]
    split
    · have := dropWhile_length p l; rw [List.length_cons]; omega
    · exact Nat.le_refl _
theorem cutAll_length : ∀ (a bs : List S30), (cutAll bs a).length ≤ a.length * (bs.length + 1)
  | [], bs => by simp [cutAll]
  | s :: a, bs => by
    simp only [cutAll]
    have h1 := cutGo_length (bs.dropWhile fun t => decide (t.f1 ≤ s.f0)) s.f0 s.f1
    have h2 := cutAll_length a (bs.dropWhile fun t => decide (t.f1 ≤ s.f0))
    have h3 := dropWhile_length (fun t : S30 => decide (t.f1 ≤ s.f0)) bs
    have h4 : a.length * ((bs.dropWhile fun t => decide (t.f1 ≤ s.f0)).length + 1) ≤ a.length * (bs.length + 1) := Nat.mul_le_mul_left _ (by omega)
    rw [List.length_append, List.length_cons, Nat.succ_mul]
    omega
theorem memS_tail (x c0 c1 : Int) : memS x (tailS c0 c1) ↔ c0 ≤ x ∧ x < c1 := by
  unfold tailS
  split
  · rw [memS_one]; rfl
  · constructor
    · intro h; exact absurd h (memS_nil _)
    · intro h; omega
theorem tail_plain (c0 c1 : Int) : PlainL (tailS c0 c1) := by
  unfold tailS
  split
  · rename_i h; exact PlainL_cons.2 ⟨h, fun t ht => (by cases ht), PlainL_nil⟩
  · exact PlainL_nil
theorem tail_in (c0 c1 : Int) : ∀ u ∈ tailS c0 c1, u.f0 = c0 ∧ u.f1 = c1 := by
  unfold tailS
  split
  · intro u hu; simp at hu; rw [hu]; exact ⟨rfl, rfl⟩
  · intro u hu; cases hu
theorem PlainL_append {l m : List S30} (hl : PlainL l) (hm : PlainL m) (h : ∀ s ∈ l, ∀ t ∈ m, s.f1 < t.f0) : PlainL (l ++ m) := by
  refine ⟨fun s hs => ?_, List.pairwise_append.2 ⟨hl.2, hm.2, h⟩⟩
  rcases List.mem_append.1 hs with hs | hs
  · exact hl.1 s hs
  · exact hm.1 s hs
theorem cutGo_ok : ∀ (bs : List S30) (c0 c1 : Int), PlainL bs → (∀ t ∈ bs, c0 < t.f1) →
    PlainL (cutGo bs c0 c1) ∧ (∀ u ∈ cutGo bs c0 c1, c0 ≤ u.f0 ∧ u.f1 ≤ c1) ∧ ∀ x, memS x (cutGo bs c0 c1) ↔ (c0 ≤ x ∧ x < c1) ∧ ¬ memS x bs
  | [], c0, c1, _, _ => by
    refine ⟨tail_plain _ _, fun u hu => ?_, fun x => ?_⟩
    · obtain ⟨h1, h2⟩ := tail_in c0 c1 u hu; omega
    · show memS x (tailS c0 c1) ↔ _
      rw [memS_tail]
      exact ⟨fun h => ⟨h, memS_nil _⟩, fun h => h.1⟩
  | t :: bs, c0, c1, hp, hc => by
    obtain ⟨p1, p2, p3⟩ := PlainL_cons.1 hp
    have hct := hc t List.mem_cons_self
    simp only [cutGo]
    split
    · rename_i hlt
      obtain ⟨i1, i2, i3⟩ := cutGo_ok bs t.f1 c1 p3 (fun u hu => by have := p2 u hu; have := p3.1 u hu; omega)
      refine ⟨PlainL_append (tail_plain _ _) i1 (fun s hs u hu => ?_), fun u hu => ?_, fun x => ?_⟩
      · obtain ⟨h1, h2⟩ := tail_in c0 t.f0 s hs
        have := (i2 u hu).1
        omega
      · rcases List.mem_append.1 hu with hu | hu
        · obtain ⟨h1, h2⟩ := tail_in c0 t.f0 u hu; omega
        · have := i2 u hu; omega
      · rw [memS_append, memS_tail, i3, memS_cons]
        unfold inS
        constructor
        · rintro (⟨h1, h2⟩ | ⟨⟨h1, h2⟩, h3⟩)
          · refine ⟨⟨h1, by omega⟩, ?_⟩
            rintro (⟨h4, h5⟩ | ⟨u, hu, h4, h5⟩)
            · omega
            · have := p2 u hu; omega
          · refine ⟨⟨by omega, h2⟩, ?_⟩
            rintro (⟨h4, h5⟩ | h4)
            · omega
            · exact h3 h4
        · rintro ⟨⟨h1, h2⟩, h3⟩
          by_cases hx : x < t.f0
          · exact .inl ⟨h1, hx⟩
          · refine .inr ⟨⟨?_, h2⟩, fun h => h3 (.inr h)⟩
            by_cases hx2 : x < t.f1
            · exact absurd (.inl ⟨by omega, hx2⟩) h3
            · omega
    · rename_i hge
      refine ⟨tail_plain _ _, fun u hu => ?_, fun x => ?_⟩
      · obtain ⟨h1, h2⟩ := tail_in c0 c1 u hu; omega
      · rw [memS_tail, memS_cons]
        unfold inS
        constructor
        · rintro ⟨h1, h2⟩
          refine ⟨⟨h1, h2⟩, ?_⟩
          rintro (⟨h4, h5⟩ | ⟨u, hu, h4, h5⟩)
          · omega
          · have := p2 u hu; omega
        · exact fun h => h.1
theorem dropWhile_ok (c0 : Int) : ∀ (bs : List S30), PlainL bs → PlainL (bs.dropWhile fun t => decide (t.f1 ≤ c0)) ∧ (∀ t ∈ bs.dropWhile (fun t => decide (t.f1 ≤ c0)), c0 < t.f1) ∧
    (∀ t ∈ bs.dropWhile (fun t => decide (t.f1 ≤ c0)), t ∈ bs) ∧ ∀ x, c0 ≤ x → (memS x (bs.dropWhile fun t => decide (t.f1 ≤ c0)) ↔ memS x bs)
  | [], hp => ⟨hp, fun t ht => (by cases ht), fun t ht => ht, fun x _ => Iff.rfl⟩
  | t :: bs, hp => by
    obtain ⟨p1, p2, p3⟩ := PlainL_cons.1 hp
    rw [List.dropWhile_cons]
    split
    · rename_i h
      have h' : t.f1 ≤ c0 := of_decide_eq_true h
      obtain ⟨i1, i2, i3, i4⟩ := dropWhile_ok c0 bs p3
      refine ⟨i1, i2, fun u hu => List.mem_cons_of_mem _ (i3 u hu), fun x hx => ?_⟩
      rw [i4 x hx, memS_cons]
      constructor
      · exact .inr
      · rintro (⟨h1, h2⟩ | h)
        · omega
        · exact h
    · rename_i h
      have h' : ¬ t.f1 ≤ c0 := fun hh => h (decide_eq_true hh)
      refine ⟨hp, fun u hu => ?_, fun u hu => hu, fun x _ => Iff.rfl⟩
      rcases List.mem_cons.1 hu with rfl | hu
      · omega
      · have := p2 u hu; have := p3.1 u hu; omega
theorem cutAll_ok : ∀ (a bs : List S30), PlainL a → PlainL bs →
    PlainL (cutAll bs a) ∧ (∀ u ∈ cutAll bs a, ∃ s ∈ a, s.f0 ≤ u.f0 ∧ u.f1 ≤ s.f1) ∧ ∀ x, memS x (cutAll bs a) ↔ memS x a ∧ ¬ memS x bs
  | [], bs, _, _ => ⟨PlainL_nil, fun u hu => (by cases hu), fun x => ⟨fun h => absurd h (memS_nil _), fun h => absurd h.1 (memS_nil _)⟩⟩
  | s :: a, bs, ha, hb => by
    obtain ⟨p1, p2, p3⟩ := PlainL_cons.1 ha
    obtain ⟨d1, d2, d3, d4⟩ := dropWhile_ok s.f0 bs hb
    obtain ⟨c1, c2, c3⟩ := cutGo_ok _ s.f0 s.f1 d1 d2
    obtain ⟨i1, i2, i3⟩ := cutAll_ok a _ p3 d1
    simp only [cutAll]
    refine ⟨PlainL_append c1 i1 (fun u hu v hv => ?_), fun u hu => ?_, fun x => ?_⟩
    · have h1 := (c2 u hu).2
      obtain ⟨q, hq, h2, h3⟩ := i2 v hv
      have := p2 q hq
      omega
    · rcases List.mem_append.1 hu with hu | hu
      · exact ⟨s, List.mem_cons_self, c2 u hu⟩
      · obtain ⟨q, hq, h2⟩ := i2 u hu
        exact ⟨q, List.mem_cons_of_mem _ hq, h2⟩
    · rw [memS_append, c3, i3, memS_cons]
      unfold inS
      constructor
      · rintro (⟨⟨h1, h2⟩, h3⟩ | ⟨h1, h2⟩)
        · exact ⟨.inl ⟨h1, h2⟩, fun h => h3 ((d4 x h1).2 h)⟩
        · obtain ⟨q, hq, h4, h5⟩ := h1
          have := p2 q hq
          exact ⟨.inr ⟨q, hq, h4, h5⟩, fun h => h2 ((d4 x (by omega)).2 h)⟩
      · rintro ⟨h1 | h1, h2⟩
        · exact .inl ⟨h1, fun h => h2 ((d4 x h1.1).1 h)⟩
        · obtain ⟨q, hq, h4, h5⟩ := h1
          have := p2 q hq
          exact .inr ⟨⟨q, hq, h4, h5⟩, fun h => h2 ((d4 x (by omega)).1 h)⟩
theorem cutL_plain (a b : List S30) : PlainL (cutL a b) ∧ (∀ x, memS x (cutL a b) ↔ memS x a ∧ ¬ memS x b) ∧ (cutL a b).length ≤ a.length * (b.length + 1) := by
  obtain ⟨a1, a2, a3⟩ := normL_plain a
  obtain ⟨b1, b2, b3⟩ := normL_plain b
  obtain ⟨c1, _, c3⟩ := cutAll_ok (normL a) (normL b) a1 b1
  refine ⟨c1, fun x => by rw [cutL, c3, a2, b2], ?_⟩
  exact Nat.le_trans (cutAll_length _ _) (Nat.mul_le_mul a3 (by omega))
section
variable {b a : List S30} {la : Int} {r : List S30}
theorem cut_l2 (hb : b.length < 1000000) : ∀ (m k : Nat) (out : List S30) (kk j i c0 c1 : Int) (jn K : Nat), j = (jn : Int) → jn ≤ b.length → b.length - jn = m → out.length + (b.length - jn) < 8000000000000 →
    (∀ k, K ≤ k → span_Cut.l0 k b (out ++ cutGo (b.drop jn) c0 c1) kk a la (wrap64 (i + 1)) = some r) → K + 2 * m + 3 ≤ k → span_Cut.l2 k b out kk j a la i c0 c1 = some r := by
  intro m
  induction m with
  | zero =>
    intro k out kk j i c0 c1 jn K hj hjn hm ho h hk
    obtain ⟨k, rfl⟩ : ∃ q, k = q + 1 := ⟨k - 1, by omega⟩
    obtain ⟨k, rfl⟩ : ∃ q, k = q + 1 := ⟨k - 1, by omega⟩
    subst hj
    simp only [span_Cut.l2]
    rw [if_neg (by omega)]
    simp only [span_Cut.j4]
    rw [if_neg (by decide), show span_empty.f c0 c1 = some (decide (c0 ≥ c1)) from rfl, Option.bind_some]
    rw [List.drop_eq_nil_of_le (by omega)] at h
    simp only [cutGo, tailS] at h
    by_cases hc : c0 < c1
    · rw [if_pos hc] at h
      rw [if_neg (by simp; omega), if_pos (by omega)]
      exact h k (by omega)
    · rw [if_neg hc, List.append_nil] at h
      rw [if_pos (by simp; omega)]
      exact h k (by omega)
  | succ m ih =>
    intro k out kk j i c0 c1 jn K hj hjn hm ho h hk
    obtain ⟨k, rfl⟩ : ∃ q, k = q + 1 := ⟨k - 1, by omega⟩
    obtain ⟨k, rfl⟩ : ∃ q, k = q + 1 := ⟨k - 1, by omega⟩
    subst hj
    have hlt : jn < b.length := by omega
    simp only [span_Cut.l2]
    rw [if_pos (by omega), if_pos (by omega), rd_nat, getD_at b jn hlt]
    simp only [span_Cut.j4]
    rw [List.drop_eq_getElem_cons hlt] at h
    simp only [cutGo] at h
    by_cases hc : (b[jn]).f0 < c1
    · rw [if_pos hc] at h
      rw [if_pos (by simp [hc]), if_pos (by omega), if_pos (by omega), rd_nat, getD_at b jn hlt, wrap_in ((jn : Int) + 1) (by omega) (by omega)]
      simp only [tailS] at h
      by_cases hc2 : c0 < (b[jn]).f0
      · rw [if_pos hc2] at h
        rw [if_pos hc2, if_pos (by omega)]
        refine ih k _ kk _ i _ c1 (jn + 1) K rfl (by omega) (by omega) (by simp; omega) (fun q hq => ?_) (by omega)
        rw [List.append_assoc]
        exact h q hq
      · rw [if_neg hc2, List.nil_append] at h
        rw [if_neg hc2]
        exact ih k _ kk _ i _ c1 (jn + 1) K rfl (by omega) (by omega) (by omega) h (by omega)
    · rw [if_neg hc] at h
      rw [if_neg (by simpa using hc), show span_empty.f c0 c1 = some (decide (c0 ≥ c1)) from rfl, Option.bind_some]
      simp only [tailS] at h
      by_cases hc2 : c0 < c1
      · rw [if_pos hc2] at h
        rw [if_neg (by simp; omega), if_pos (by omega)]
        exact h k (by omega)
      · rw [if_neg hc2, List.append_nil] at h
        rw [if_pos (by simp; omega)]
        exact h k (by omega)
theorem cut_l1 (hb : b.length < 1000000) : ∀ (m k : Nat) (out : List S30) (i c0 c1 : Int) (kn K : Nat), kn ≤ b.length → b.length - kn = m →
    (∀ kn', kn' ≤ b.length → b.drop kn' = (b.drop kn).dropWhile (fun t => decide (t.f1 ≤ c0)) → ∀ k, K ≤ k → span_Cut.j2 k b out (kn' : Int) a la i c0 c1 = some r) → K + m + 1 ≤ k → span_Cut.l1 k b out (kn : Int) a la i c0 c1 = some r := by
  intro m
  induction m with
  | zero =>
    intro k out i c0 c1 kn K hkn hm h hk
    obtain ⟨k, rfl⟩ : ∃ q, k = q + 1 := ⟨k - 1, by omega⟩
    simp only [span_Cut.l1]
    rw [if_neg (by omega)]
    exact h kn hkn (by rw [List.drop_eq_nil_of_le (by omega)]; rfl) k (by omega)
  | succ m ih =>
    intro k out i c0 c1 kn K hkn hm h hk
    obtain ⟨k, rfl⟩ : ∃ q, k = q + 1 := ⟨k - 1, by omega⟩
    have hlt : kn < b.length := by omega
    simp only [span_Cut.l1]
    rw [if_pos (by omega), if_pos (by omega), rd_nat, getD_at b kn hlt]
    rw [List.drop_eq_getElem_cons hlt, List.dropWhile_cons] at h
    by_cases hc : (b[kn]).f1 ≤ c0
    · rw [if_pos (by simpa using hc)] at h
      rw [if_pos hc, wrap_in ((kn : Int) + 1) (by omega) (by omega)]
      exact ih k out i c0 c1 (kn + 1) K (by omega) (by omega) h (by omega)
    · rw [if_neg (by simpa using hc)] at h
      rw [if_neg hc]
      exact h kn hkn (List.drop_eq_getElem_cons hlt) k (by omega)
theorem cut_l0 (hb : b.length < 1000000) (ha : a.length < 1000000) : ∀ (m k : Nat) (out : List S30) (kn i : Nat), kn ≤ b.length → i ≤ a.length → a.length - i = m → out.length + m * (b.length + 1) < 8000000000000 → m * (3 * b.length + 8) + 1 ≤ k →
    span_Cut.l0 k b out (kn : Int) a (a.length : Int) (i : Int) = some (out ++ cutAll (b.drop kn) (a.drop i)) := by
  intro m
  induction m with
  | zero =>
    intro k out kn i hkn hi hm ho hk
    obtain ⟨k, rfl⟩ : ∃ q, k = q + 1 := ⟨k - 1, by omega⟩
    simp only [span_Cut.l0]
    rw [if_neg (by omega), List.drop_eq_nil_of_le (show a.length ≤ i by omega)]
    simp [cutAll]
  | succ m ih =>
    intro k out kn i hkn hi hm ho hk
    obtain ⟨k, rfl⟩ : ∃ q, k = q + 1 := ⟨k - 1, by omega⟩
    have hlt : i < a.length := by omega
    simp only [span_Cut.l0]
    rw [if_pos (by omega), if_pos (by omega), if_pos (by omega), rd_nat, getD_at a i hlt, List.drop_eq_getElem_cons hlt]
    simp only [cutAll]
    have hmul : (m + 1) * (3 * b.length + 8) = m * (3 * b.length + 8) + (3 * b.length + 8) := by rw [Nat.succ_mul]
    have hmul2 : (m + 1) * (b.length + 1) = m * (b.length + 1) + (b.length + 1) := by rw [Nat.succ_mul]
    refine cut_l1 hb (b.length - kn) k out _ _ _ kn (m * (3 * b.length + 8) + 1 + 2 * b.length + 3 + 1) hkn rfl (fun kn' hkn' hd q hq => ?_) (by omega)
    obtain ⟨q, rfl⟩ : ∃ z, q = z + 1 := ⟨q - 1, by omega⟩
    simp only [span_Cut.j2]
    refine cut_l2 hb (b.length - kn') q out _ _ _ _ _ kn' (m * (3 * b.length + 8) + 1) rfl hkn' rfl (by omega) (fun z hz => ?_) (by omega)
    rw [wrap_in ((i : Int) + 1) (by omega) (by omega)]
    have hl := cutGo_length (b.drop kn') (a[i]).f0 (a[i]).f1
    rw [List.length_drop] at hl
    have := ih z (out ++ cutGo (b.drop kn') (a[i]).f0 (a[i]).f1) kn' (i + 1) hkn' (by omega) (by omega) (by rw [List.length_append]; omega) hz
    rw [show ((i : Int) + 1) = ((i + 1 : Nat) : Int) from rfl, this, List.append_assoc, hd]
end
theorem cut_spec (a b : List S30) (ha : a.length < 1000000) (hb : b.length < 1000000) : ∀ k, a.length * (3 * b.length + 8) + a.length + b.length + 1 < k → span_Cut.f k a b = some (cutL a b) := by
  intro k hk
  unfold span_Cut.f
  obtain ⟨_, _, la⟩ := normL_plain a
  obtain ⟨_, _, lb⟩ := normL_plain b
  rw [norm_spec b (by omega) k (by omega), Option.bind_some, norm_spec a (by omega) k (by omega), Option.bind_some]
  have h1 : (normL a).length * (3 * (normL b).length + 8) ≤ a.length * (3 * b.length + 8) := Nat.mul_le_mul la (by omega)
  have h2 : (normL a).length * ((normL b).length + 1) ≤ 1000000 * 1000001 := Nat.mul_le_mul (by omega) (by omega)
  have := cut_l0 (b := normL b) (a := normL a) (by omega) (by omega) (normL a).length k [] 0 0 (by omega) (by omega) (by omega) (by simp only [List.length_nil]; omega) (by omega)
  rw [show (0 : Int) = ((0 : Nat) : Int) from rfl, this]
  rfl
end Go.Proofs.Ytgncbhpmnjfhhaa.S
end
section
namespace Go.Proofs.Ytgncbhpmnjfhhaa.S
open Go.RowKit Go.Proofs.YtgncbhpmnjfhhaaW.PrintWords Go.Proofs.YtgncbhpmnjfhhaaW.PrintLast Go.Proofs.YtgncbhpmnjfhhaaW.PrintMore
set_option linter.unusedVariables false
set_option linter.unusedSimpArgs false
def bothS (s t : S30) : S30 := ⟨max s.f0 t.f0, min s.f1 t.f1⟩
def oneS (s : S30) : List S30 := if s.f0 < s.f1 then [s] else []
def meetGo : Nat → List S30 → List S30 → List S30
  | 0, _, _ => []
  | n + 1, s :: a, t :: b => oneS (bothS s t) ++ (if s.f1 < t.f1 then meetGo n a (t :: b) else meetGo n (s :: a) b)
  | n + 1, [], _ => []
  | n + 1, _ :: _, [] => []
theorem meetGo_length : ∀ (n : Nat) (a b : List S30), (meetGo n a b).length ≤ n
  | 0, _, _ => by simp [meetGo]
  | n + 1, s :: a, t :: b => by
    simp only [meetGo]
    have h : (oneS (bothS s t)).length ≤ 1 := by unfold oneS; split <;> simp
    rw [List.length_append]
    split
    · have := meetGo_length n a (t :: b); omega
    · have := meetGo_length n (s :: a) b; omega
  | n + 1, [], _ => by simp [meetGo]
  | n + 1, _ :: _, [] => by simp [meetGo]
theorem memS_oneS (x : Int) (s : S30) : memS x (oneS s) ↔ inS x s := by
  unfold oneS
  split
  · rw [memS_one]
  · constructor
    · intro h; exact absurd h (memS_nil _)
    · intro h; have := h.1; have := h.2; omega
theorem inS_both (x : Int) (s t : S30) : inS x (bothS s t) ↔ inS x s ∧ inS x t := by
  unfold inS bothS
  show max s.f0 t.f0 ≤ x ∧ x < min s.f1 t.f1 ↔ _
  omega
theorem PlainL_appendM {l m : List S30} (hl : PlainL l) (hm : PlainL m) (h : ∀ s ∈ l, ∀ t ∈ m, s.f1 < t.f0) : PlainL (l ++ m) := by
  refine ⟨fun s hs => ?_, List.pairwise_append.2 ⟨hl.2, hm.2, h⟩⟩
  rcases List.mem_append.1 hs with hs | hs
  · exact hl.1 s hs
  · exact hm.1 s hs
theorem oneS_plain (s : S30) : PlainL (oneS s) := by
  unfold oneS
  split
  · rename_i h; exact PlainL_cons.2 ⟨h, fun t ht => (by cases ht), PlainL_nil⟩
  · exact PlainL_nil
theorem meetGo_ok : ∀ (n : Nat) (a b : List S30), PlainL a → PlainL b → a.length + b.length ≤ n →
    PlainL (meetGo n a b) ∧ (∀ u ∈ meetGo n a b, (∃ s ∈ a, s.f0 ≤ u.f0) ∧ ∃ t ∈ b, t.f0 ≤ u.f0) ∧ ∀ x, memS x (meetGo n a b) ↔ memS x a ∧ memS x b
  | 0, a, b, _, _, hn => by
    obtain rfl := List.eq_nil_of_length_eq_zero (show a.length = 0 by omega)
    exact ⟨PlainL_nil, fun u hu => (by cases hu), fun x => ⟨fun h => absurd h (memS_nil _), fun h => absurd h.1 (memS_nil _)⟩⟩
  | n + 1, [], b, _, _, _ => ⟨PlainL_nil, fun u hu => (by cases hu), fun x => ⟨fun h => absurd h (memS_nil _), fun h => absurd h.1 (memS_nil _)⟩⟩
  | n + 1, s :: a, [], _, _, _ => ⟨PlainL_nil, fun u hu => (by cases hu), fun x => ⟨fun h => absurd h (memS_nil _), fun h => absurd h.2 (memS_nil _)⟩⟩
  | n + 1, s :: a, t :: b, ha, hb, hn => by
    obtain ⟨p1, p2, p3⟩ := PlainL_cons.1 ha
    obtain ⟨q1, q2, q3⟩ := PlainL_cons.1 hb
    simp only [List.length_cons] at hn
    simp only [meetGo]
    by_cases hc : s.f1 < t.f1
    · rw [if_pos hc]
      obtain ⟨i1, i2, i3⟩ := meetGo_ok n a (t :: b) p3 hb (by simp only [List.length_cons]; omega)
      refine ⟨PlainL_appendM (oneS_plain _) i1 (fun u hu v hv => ?_), fun u hu => ?_, fun x => ?_⟩
      · have hu1 : u = bothS s t := by
          unfold oneS at hu; split at hu
          · simpa using hu
          · cases hu
        obtain ⟨⟨z, hz, h1⟩, _⟩ := i2 v hv
        have := p2 z hz
        have e : u.f1 = min s.f1 t.f1 := by rw [hu1]; rfl
        omega
      · rcases List.mem_append.1 hu with hu | hu
        · have hu1 : u = bothS s t := by
            unfold oneS at hu; split at hu
            · simpa using hu
            · cases hu
          have e : u.f0 = max s.f0 t.f0 := by rw [hu1]; rfl
          exact ⟨⟨s, List.mem_cons_self, by omega⟩, ⟨t, List.mem_cons_self, by omega⟩⟩
        · obtain ⟨⟨z, hz, h1⟩, h2⟩ := i2 u hu
          exact ⟨⟨z, List.mem_cons_of_mem _ hz, h1⟩, h2⟩
      · rw [memS_append, memS_oneS, inS_both, i3, memS_cons x s a]
        constructor
        · rintro (⟨h1, h2⟩ | ⟨h1, h2⟩)
          · exact ⟨.inl h1, (memS_cons _ _ _).2 (.inl h2)⟩
          · exact ⟨.inr h1, h2⟩
        · rintro ⟨h1 | h1, h2⟩
          · rcases (memS_cons _ _ _).1 h2 with h3 | ⟨z, hz, h3, h4⟩
            · exact .inl ⟨h1, h3⟩
            · have := q2 z hz
              have := h1.2
              omega
          · exact .inr ⟨h1, h2⟩
    · rw [if_neg hc]
      obtain ⟨i1, i2, i3⟩ := meetGo_ok n (s :: a) b ha q3 (by simp only [List.length_cons]; omega)
      refine ⟨PlainL_appendM (oneS_plain _) i1 (fun u hu v hv => ?_), fun u hu => ?_, fun x => ?_⟩
      · have hu1 : u = bothS s t := by
          unfold oneS at hu; split at hu
          · simpa using hu
          · cases hu
        obtain ⟨_, ⟨z, hz, h1⟩⟩ := i2 v hv
        have := q2 z hz
        have e : u.f1 = min s.f1 t.f1 := by rw [hu1]; rfl
        omega
      · rcases List.mem_append.1 hu with hu | hu
        · have hu1 : u = bothS s t := by
            unfold oneS at hu; split at hu
            · simpa using hu
            · cases hu
          have e : u.f0 = max s.f0 t.f0 := by rw [hu1]; rfl
          exact ⟨⟨s, List.mem_cons_self, by omega⟩, ⟨t, List.mem_cons_self, by omega⟩⟩
        · obtain ⟨h2, ⟨z, hz, h1⟩⟩ := i2 u hu
          exact ⟨h2, ⟨z, List.mem_cons_of_mem _ hz, h1⟩⟩
      · rw [memS_append, memS_oneS, inS_both, i3, memS_cons x t b]
        constructor
        · rintro (⟨h1, h2⟩ | ⟨h1, h2⟩)
          · exact ⟨(memS_cons _ _ _).2 (.inl h1), .inl h2⟩
          · exact ⟨h1, .inr h2⟩
        · rintro ⟨h1, h2 | h2⟩
          · rcases (memS_cons _ _ _).1 h1 with h3 | ⟨z, hz, h3, h4⟩
            · exact .inl ⟨h3, h2⟩
            · have := p2 z hz
              have := h2.2
              omega
          · exact .inr ⟨h1, h2⟩
def meetL (a b : List S30) : List S30 := meetGo ((normL a).length + (normL b).length) (normL a) (normL b)
theorem meetL_plain (a b : List S30) : PlainL (meetL a b) ∧ (∀ x, memS x (meetL a b) ↔ memS x a ∧ memS x b) ∧ (meetL a b).length ≤ a.length + b.length := by
  obtain ⟨a1, a2, a3⟩ := normL_plain a
  obtain ⟨b1, b2, b3⟩ := normL_plain b
  obtain ⟨c1, _, c3⟩ := meetGo_ok _ (normL a) (normL b) a1 b1 (Nat.le_refl _)
  refine ⟨c1, fun x => by rw [meetL, c3, a2, b2], ?_⟩
  exact Nat.le_trans (meetGo_length _ _ _) (by omega)
theorem mn_min (a b : Int) : mn a b = min a b := by unfold mn; omega
theorem both_f (s t : S30) : span_both.f s.f0 s.f1 t.f0 t.f1 = some ((bothS s t).f0, (bothS s t).f1) := by
  unfold span_both.f bothS
  rw [mx_max, mn_min]
section
variable {a b : List S30}
theorem meet_loop (ha : a.length < 1000000) (hb : b.length < 1000000) : ∀ (m k : Nat) (out : List S30) (i j : Nat), i ≤ a.length → j ≤ b.length → (a.length - i) + (b.length - j) = m → out.length + m < 8000000000000 → 2 * m + 2 ≤ k →
    span_Meet.l0 k a b out (i : Int) (j : Int) = some (out ++ meetGo m (a.drop i) (b.drop j)) := by
  intro m
  induction m with
  | zero =>
    intro k out i j hi hj hm ho hk
    obtain ⟨k, rfl⟩ : ∃ q, k = q + 1 := ⟨k - 1, by omega⟩
    obtain ⟨k, rfl⟩ : ∃ q, k = q + 1 := ⟨k - 1, by omega⟩
    simp only [span_Meet.l0]
    rw [if_neg (by omega)]
    simp only [span_Meet.j1]
    rw [if_neg (by decide)]
    simp [meetGo]
  | succ m ih =>
    intro k out i j hi hj hm ho hk
    obtain ⟨k, rfl⟩ : ∃ q, k = q + 1 := ⟨k - 1, by omega⟩
    obtain ⟨k, rfl⟩ : ∃ q, k = q + 1 := ⟨k - 1, by omega⟩
    simp only [span_Meet.l0]
    by_cases hia : i < a.length
    · rw [if_pos (by omega)]
      by_cases hjb : j < b.length
      · simp only [span_Meet.j1]
        rw [if_pos (by simp; omega), if_pos (by omega), if_pos (by omega), if_pos (by omega), if_pos (by omega), rd_nat, rd_nat, getD_at a i hia, getD_at b j hjb, both_f, Option.bind_some]
        simp only
        rw [empty_f, Option.bind_some, List.drop_eq_getElem_cons hia, List.drop_eq_getElem_cons hjb]
        simp only [meetGo]
        rw [wrap_in ((i : Int) + 1) (by omega) (by omega), wrap_in ((j : Int) + 1) (by omega) (by omega)]
        have hA : ∀ o : List S30, o.length ≤ out.length + 1 → span_Meet.l0 k a b o ((i : Int) + 1) (j : Int) = some (o ++ meetGo m (a.drop (i + 1)) (b.drop j)) := fun o h => ih k o (i + 1) j (by omega) hj (by omega) (by omega) (by omega)
        have hB : ∀ o : List S30, o.length ≤ out.length + 1 → span_Meet.l0 k a b o (i : Int) ((j : Int) + 1) = some (o ++ meetGo m (a.drop i) (b.drop (j + 1))) := fun o h => ih k o i (j + 1) hi (by omega) (by omega) (by omega) (by omega)
        rw [List.drop_eq_getElem_cons hjb] at hA
        rw [List.drop_eq_getElem_cons hia] at hB
        unfold oneS neS
        by_cases hne : (bothS a[i] b[j]).f0 < (bothS a[i] b[j]).f1
        · rw [if_pos hne, if_neg (by simp [hne]), if_pos (by omega), Option.bind_some]
          have ee : (⟨(bothS a[i] b[j]).f0, (bothS a[i] b[j]).f1⟩ : S30) = bothS a[i] b[j] := rfl
          rw [ee]
          by_cases hc : (a[i]).f1 < (b[j]).f1
          · rw [if_pos hc, if_pos hc, hA _ (by simp), List.append_assoc]
          · rw [if_neg hc, if_neg hc, hB _ (by simp), List.append_assoc]
        · rw [if_neg hne, if_pos (by simp [hne]), List.nil_append]
          by_cases hc : (a[i]).f1 < (b[j]).f1
          · rw [if_pos hc, if_pos hc, hA _ (by omega)]
          · rw [if_neg hc, if_neg hc, hB _ (by omega)]
      · simp only [span_Meet.j1]
        rw [if_neg (by simp; omega), List.drop_eq_nil_of_le (show b.length ≤ j by omega), List.drop_eq_getElem_cons hia]
        simp [meetGo]
    · rw [if_neg (by omega)]
      simp only [span_Meet.j1]
      rw [if_neg (by decide), List.drop_eq_nil_of_le (show a.length ≤ i by omega)]
      simp [meetGo]
end
theorem meet_spec (a b : List S30) (ha : a.length < 1000000) (hb : b.length < 1000000) : ∀ k, 2 * (a.length + b.length) + 2 < k → span_Meet.f k a b = some (meetL a b) := by
  intro k hk
  unfold span_Meet.f
  obtain ⟨_, _, la⟩ := normL_plain a
  obtain ⟨_, _, lb⟩ := normL_plain b
  rw [norm_spec a (by omega) k (by omega), Option.bind_some, norm_spec b (by omega) k (by omega), Option.bind_some]
  have := meet_loop (a := normL a) (b := normL b) (by omega) (by omega) ((normL a).length + (normL b).length) k [] 0 0 (by omega) (by omega) (by omega) (by simp only [List.length_nil]; omega) (by omega)
  rw [show (0 : Int) = ((0 : Nat) : Int) from rfl, this]
  rfl
end Go.Proofs.Ytgncbhpmnjfhhaa.S
end
section
namespace Go.Proofs.Ytgncbhpmnjfhhaa.S
open Go.RowKit Go.Proofs.YtgncbhpmnjfhhaaW.PrintWords Go.Proofs.YtgncbhpmnjfhhaaW.PrintLast Go.Proofs.YtgncbhpmnjfhhaaW.PrintMore
set_option linter.unusedVariables false
set_option linter.unusedSimpArgs false
def hasL (l : List S30) (x : Int) : Bool := l.any fun s => decide (s.f0 ≤ x) && decide (x < s.f1)
theorem hasL_iff (l : List S30) (x : Int) : hasL l x = true ↔ memS x l := by
  unfold hasL
  rw [List.any_eq_true]
  constructor
  · rintro ⟨s, hs, h⟩
    simp at h
    exact ⟨s, hs, h⟩
  · rintro ⟨s, hs, h⟩
    exact ⟨s, hs, by simp; exact h⟩
end Go.Proofs.Ytgncbhpmnjfhhaa.S
end
section
namespace Go.Proofs.Ytgncbhpmnjfhhaa.S
open Go.RowKit Go.Proofs.YtgncbhpmnjfhhaaW.PrintWords
set_option linter.unusedVariables false
theorem cut60 (l : List S30) : lamellalaw02_cut.f l = some (l.take 60) := by
  unfold lamellalaw02_cut.f
  split
  · rw [if_pos (by omega)]
  · rw [List.take_of_length_le (by omega)]
theorem cut60_len (l : List S30) : (l.take 60).length ≤ 60 := by rw [List.length_take]; omega
theorem lives_f : lamellalaw02_lives.f = some true := rfl
end Go.Proofs.Ytgncbhpmnjfhhaa.S
end
section
namespace Go.Proofs.Ytgncbhpmnjfhhaa.S
open Go.RowKit Go.Proofs.YtgncbhpmnjfhhaaW.PrintWords
set_option linter.unusedVariables false
def W30 : List S30 → Int
  | [] => 0
  | s :: l => (s.f1 - s.f0) + W30 l
def cnt (P : Int → Bool) (lo : Int) : Nat → Int
  | 0 => 0
  | n + 1 => cnt P lo n + (if P (lo + n) then 1 else 0)
theorem cnt_zero {P : Int → Bool} {lo : Int} : ∀ {n : Nat}, (∀ i : Nat, i < n → P (lo + i) = false) → cnt P lo n = 0
  | 0, _ => rfl
  | n + 1, h => by
    unfold cnt
    rw [cnt_zero (fun i hi => h i (by omega)), h n (by omega)]
    rfl
theorem cnt_ext {P Q : Int → Bool} {lo : Int} : ∀ {n : Nat}, (∀ b, P b = Q b) → cnt P lo n = cnt Q lo n
  | 0, _ => rfl
  | n + 1, h => by
    unfold cnt
    rw [cnt_ext h, h]
theorem cnt_or_and (P Q : Int → Bool) (lo : Int) : ∀ (n : Nat), cnt (fun b => P b || Q b) lo n + cnt (fun b => P b && Q b) lo n = cnt P lo n + cnt Q lo n
  | 0 => rfl
  | n + 1 => by
    have := cnt_or_and P Q lo n
    unfold cnt
    cases P (lo + n) <;> cases Q (lo + n) <;> simp <;> omega
theorem cnt_cut_and (P Q : Int → Bool) (lo : Int) : ∀ (n : Nat), cnt (fun b => P b && !Q b) lo n + cnt (fun b => P b && Q b) lo n = cnt P lo n
  | 0 => rfl
  | n + 1 => by
    have := cnt_cut_and P Q lo n
    unfold cnt
    cases P (lo + n) <;> cases Q (lo + n) <;> simp <;> omega
theorem cnt_span (a b lo : Int) (h0 : lo ≤ a) (hab : a ≤ b) : ∀ (n : Nat), cnt (fun x => decide (a ≤ x) && decide (x < b)) lo n = (if lo + n ≤ a then 0 else if lo + n ≤ b then lo + n - a else b - a)
  | 0 => by
    unfold cnt
    split
    · rfl
    · split <;> omega
  | n + 1 => by
    unfold cnt
    rw [cnt_span a b lo h0 hab n]
    have hc : ((n + 1 : Nat) : Int) = (n : Int) + 1 := by omega
    have hd : (if (decide (a ≤ lo + (n : Int)) && decide (lo + (n : Int) < b)) = true then (1 : Int) else 0) = if a ≤ lo + (n : Int) ∧ lo + (n : Int) < b then 1 else 0 := by simp [Bool.and_eq_true]
    rw [hc, hd]
    repeat' split
    all_goals omega
theorem cnt_disj {P Q : Int → Bool} {lo : Int} {n : Nat} (h : ∀ b, ¬ (P b = true ∧ Q b = true)) : cnt (fun b => P b || Q b) lo n = cnt P lo n + cnt Q lo n := by
  rw [← cnt_or_and P Q lo n, cnt_zero (P := fun b => P b && Q b) (fun i _ => by
    have := h (lo + i)
    cases hp : P (lo + i) <;> cases hq : Q (lo + i) <;> simp_all)]
  omega
theorem W30_cnt (lo : Int) (n : Nat) : ∀ {l : List S30}, PlainL l → (∀ b, memS b l → lo ≤ b ∧ b < lo + n) → W30 l = cnt (hasL l) lo n
  | [], _, _ => (cnt_zero (fun _ _ => rfl)).symm
  | s :: l, hp, hb => by
    obtain ⟨h1, h2, h3⟩ := PlainL_cons.1 hp
    have b0 := hb s.f0 ⟨s, List.mem_cons_self, Int.le_refl _, h1⟩
    have b1 := hb (s.f1 - 1) ⟨s, List.mem_cons_self, by show s.f0 ≤ _; omega, by show _ < s.f1; omega⟩
    have e1 : cnt (hasL (s :: l)) lo n = cnt (fun x => decide (s.f0 ≤ x) && decide (x < s.f1)) lo n + cnt (hasL l) lo n := by
      rw [← cnt_disj (fun b => ?_)]
      · rfl
      · rintro ⟨k1, k2⟩
        obtain ⟨u, hu, m1, m2⟩ := (hasL_iff l b).1 k2
        simp only [Bool.and_eq_true, decide_eq_true_eq] at k1
        have := h2 u hu
        omega
    rw [e1, cnt_span _ _ _ b0.1 (by omega), ← W30_cnt lo n h3 (fun b hm => hb b ((memS_cons b s l).2 (.inr hm))), if_neg (by omega)]
    show (s.f1 - s.f0) + W30 l = _
    split <;> omega
theorem bound30 : ∀ (l : List S30), ∃ m : Nat, ∀ b, memS b l → -(m : Int) ≤ b ∧ b < m
  | [] => ⟨0, fun b h => absurd h (memS_nil b)⟩
  | s :: l => by
    obtain ⟨m, hm⟩ := bound30 l
    refine ⟨m + s.f0.natAbs + s.f1.natAbs, fun b hb => ?_⟩
    rcases (memS_cons b s l).1 hb with ⟨h1, h2⟩ | h
    · omega
    · have := hm b h; omega
theorem bool_ext {a b : Bool} (h : a = true ↔ b = true) : a = b := Bool.eq_iff_iff.2 h
theorem W30_laws (a b j m c : List S30) (hj : PlainL j) (hm : PlainL m) (hc : PlainL c) (na nb : List S30) (pa : PlainL na) (pb : PlainL nb) (ea : ∀ x, memS x na ↔ memS x a) (eb : ∀ x, memS x nb ↔ memS x b)
    (ej : ∀ x, memS x j ↔ memS x a ∨ memS x b) (em : ∀ x, memS x m ↔ memS x a ∧ memS x b) (ec : ∀ x, memS x c ↔ memS x a ∧ ¬ memS x b) : W30 j + W30 m = W30 na + W30 nb ∧ W30 c + W30 m = W30 na := by
  obtain ⟨M, hM⟩ := bound30 (a ++ b)
  have hA : ∀ x, memS x a → -(M : Int) ≤ x ∧ x < -(M : Int) + ((2 * M : Nat) : Int) := fun x h => by have := hM x ((memS_append x a b).2 (.inl h)); omega
  have hB : ∀ x, memS x b → -(M : Int) ≤ x ∧ x < -(M : Int) + ((2 * M : Nat) : Int) := fun x h => by have := hM x ((memS_append x a b).2 (.inr h)); omega
  rw [W30_cnt (-(M : Int)) (2 * M) hj (fun x h => ((ej x).1 h).elim (hA x) (hB x)), W30_cnt (-(M : Int)) (2 * M) hm (fun x h => hA x ((em x).1 h).1), W30_cnt (-(M : Int)) (2 * M) hc (fun x h => hA x ((ec x).1 h).1),
    W30_cnt (-(M : Int)) (2 * M) pa (fun x h => hA x ((ea x).1 h)), W30_cnt (-(M : Int)) (2 * M) pb (fun x h => hB x ((eb x).1 h))]
  have qj : ∀ x, hasL j x = (hasL na x || hasL nb x) := fun x => bool_ext (by rw [Bool.or_eq_true, hasL_iff, hasL_iff, hasL_iff, ej, ea, eb])
  have qm : ∀ x, hasL m x = (hasL na x && hasL nb x) := fun x => bool_ext (by rw [Bool.and_eq_true, hasL_iff, hasL_iff, hasL_iff, em, ea, eb])
  have qc : ∀ x, hasL c x = (hasL na x && !hasL nb x) := fun x => bool_ext (by rw [Bool.and_eq_true, Bool.not_eq_true', ← Bool.not_eq_true, hasL_iff, hasL_iff, hasL_iff, ec, ea, eb])
  rw [cnt_ext qj, cnt_ext qm, cnt_ext qc]
  exact ⟨cnt_or_and _ _ _ _, cnt_cut_and _ _ _ _⟩
theorem u64_step (A a b : Int) : IntKind.u64.wrap (IntKind.u64.wrap A + IntKind.u64.wrap (IntKind.u64.wrap b - IntKind.u64.wrap a)) = IntKind.u64.wrap (A + (b - a)) := by
  simp only [IntKind.wrap_u64]; omega
theorem W30_drop (l : List S30) (i : Nat) (h : i < l.length) : W30 (l.drop i) = ((l[i]).f1 - (l[i]).f0) + W30 (l.drop (i + 1)) := by
  rw [List.drop_eq_getElem_cons h]
  rfl
theorem count_loop (l : List S30) (hb : l.length < 1000000000) : ∀ (m k : Nat) (A : Int) (i : Nat), i ≤ l.length → l.length - i = m → m < k → span_Count.l0 k (IntKind.u64.wrap A) l (l.length : Int) (i : Int) = some (IntKind.u64.wrap (A + W30 (l.drop i))) := by
  intro m
  induction m with
  | zero =>
    intro k A i hi hm hk
    obtain ⟨k, rfl⟩ : ∃ j, k = j + 1 := ⟨k - 1, by omega⟩
    unfold span_Count.l0
    rw [if_neg (by omega), List.drop_of_length_le (by omega)]
    simp [W30]
  | succ m ih =>
    intro k A i hi hm hk
    obtain ⟨k, rfl⟩ : ∃ j, k = j + 1 := ⟨k - 1, by omega⟩
    have hil : i < l.length := by omega
    unfold span_Count.l0
    rw [if_pos (by omega), if_pos (by omega), if_pos (by omega), rd_nat, getD_at l i hil, u64_step, wrap_in _ (by omega) (by omega)]
    have := ih k (A + ((l[i]).f1 - (l[i]).f0)) (i + 1) (by omega) (by omega) (by omega)
    rw [W30_drop l i hil, ← Int.add_assoc]
    exact this
theorem count_spec (l : List S30) (hb : l.length < 1000000) (k : Nat) (hk : l.length < k) : span_Count.f k l = some (IntKind.u64.wrap (W30 (normL l))) := by
  obtain ⟨n1, n2, n3⟩ := normL_plain l
  unfold span_Count.f
  rw [norm_spec l (by omega) k hk, Option.bind_some]
  have := count_loop (normL l) (by omega) (normL l).length k 0 0 (by omega) (by omega) (by omega)
  rw [List.drop_zero, Int.zero_add] at this
  exact this
theorem norm_of_plain (l : List S30) (h : PlainL l) : normL l = l := plain_ext (normL_plain l).1 h (normL_plain l).2.1
theorem join_spec (a b : List S30) (h : a.length + b.length < 1000000) : span_Join.f a b = some (normL (a ++ b)) := if_pos (by omega)
theorem u64_add (x y : Int) : IntKind.u64.wrap (IntKind.u64.wrap x + IntKind.u64.wrap y) = IntKind.u64.wrap (x + y) := by
  simp only [IntKind.wrap_u64]; omega
theorem counts_loop (a b l : List S30) (ha : a.length ≤ 60) (hb2 : b.length ≤ 60) (hb : l.length < 1000) : ∀ (m k : Nat) (A : Int) (i : Nat), i ≤ l.length → l.length - i = m → m + 90000 < k → A + W30 (l.drop i) = W30 (normL a) →
    lamellalaw02_SpanCounts.l0 k a b (IntKind.u64.wrap A) l (l.length : Int) (i : Int) = some true := by
  intro m
  induction m with
  | zero =>
    intro k A i hi hm hk he
    obtain ⟨k, rfl⟩ : ∃ j, k = j + 1 := ⟨k - 1, by omega⟩
    rw [List.drop_of_length_le (by omega)] at he
    have he : A = W30 (normL a) := by rw [← he]; simp [W30]
    subst he
    have hm1 : a.length * (3 * b.length + 8) ≤ 60 * 188 := Nat.mul_le_mul ha (by omega)
    have hm2 : a.length * (b.length + 1) ≤ 60 * 61 := Nat.mul_le_mul ha (by omega)
    have pj := normL_plain (a ++ b)
    have pm := meetL_plain a b
    have pc := cutL_plain a b
    have pa := normL_plain a
    have pb := normL_plain b
    have hl : (a ++ b).length = a.length + b.length := List.length_append
    obtain ⟨e1, e2⟩ := W30_laws a b (normL (a ++ b)) (meetL a b) (cutL a b) pj.1 pm.1 pc.1 (normL a) (normL b) pa.1 pb.1 pa.2.1 pb.2.1 (fun x => (pj.2.1 x).trans (memS_append x a b)) pm.2.1 pc.2.1
    have qA := count_spec a (by omega) k (by omega)
    have qB := count_spec b (by omega) k (by omega)
    have qJ := count_spec (normL (a ++ b)) (by omega) k (by omega)
    have qM := count_spec (meetL a b) (by omega) k (by omega)
    have qC := count_spec (cutL a b) (by omega) k (by omega)
    rw [norm_of_plain _ pj.1] at qJ
    rw [norm_of_plain _ pm.1] at qM
    rw [norm_of_plain _ pc.1] at qC
    have sJ := join_spec a b (by omega)
    have sM := meet_spec a b (by omega) (by omega) k (by omega)
    have sC := cut_spec a b (by omega) (by omega) k (by omega)
    have nl : ¬ ((i : Int) < (l.length : Int)) := by omega
    unfold lamellalaw02_SpanCounts.l0
    simp only [if_neg nl, qA, qB, qJ, qM, qC, sJ, sM, sC, Option.bind_some, u64_add, e1, e2, if_true, lives_f]
  | succ m ih =>
    intro k A i hi hm hk he
    obtain ⟨k, rfl⟩ : ∃ j, k = j + 1 := ⟨k - 1, by omega⟩
    have hil : i < l.length := by omega
    unfold lamellalaw02_SpanCounts.l0
    rw [if_pos (by omega), if_pos (by omega), if_pos (by omega), rd_nat, getD_at l i hil, u64_step, wrap_in _ (by omega) (by omega)]
    rw [W30_drop l i hil, ← Int.add_assoc] at he
    exact ih k (A + ((l[i]).f1 - (l[i]).f0)) (i + 1) (by omega) (by omega) (by omega) he
theorem pureSpanCounts (l0 l1 : List S30) : lamellalaw02_SpanCounts.f 100000 l0 l1 = some true := by
  unfold lamellalaw02_SpanCounts.f
  rw [cut60, Option.bind_some, cut60, Option.bind_some]
  have h := cut60_len l0
  generalize l0.take 60 = a at h
  have h2 := cut60_len l1
  generalize l1.take 60 = b at h2
  obtain ⟨n1, n2, n3⟩ := normL_plain a
  rw [norm_spec a (by omega) _ (by omega), Option.bind_some]
  exact counts_loop a b (normL a) h h2 (by omega) (normL a).length 100000 0 0 (by omega) (by omega) (by omega) (by rw [List.drop_zero]; omega)
end Go.Proofs.Ytgncbhpmnjfhhaa.S
end
section
namespace Go.Proofs.Ytgncbhpmnjfhhaa.spanCounts
open Go.ChangeShapes Go.WideShapes Go.ChangeAt Go.RowKit Go.Proofs.Ytgncbhpmnjfhhaa.S
set_option linter.unusedVariables false
theorem own : ownKnob Try.prog.godebug = none := by kernel_rfl
theorem laidOut : laidOutB Try.prog = true := by kernel_rfl
set_option maxRecDepth 100000 in
theorem lifted (os : Os) (started : os.Started) (H : Type) (enc : TypeId × Value → H) :
    ReturnsInHanded {} Try.checked os 15 .any (Rows.spanCountsSpec.pre6 enc Try.prog Try.f15 Rows.spanCountsRow.domain false) (Rows.spanCountsSpec.post enc Try.prog Try.f15 false true false false) := by
  refine returnsInHanded_of_change_sized (C := Try.checked) own started (by kernel_rfl) Try.func15
    (ChangeSpec.witness6 (enc := enc) (C := Try.checked) false ⟨#[], #[.slice none 0 0, .slice none 0 0], []⟩ 8 (by kernel_rfl) (by kernel_rfl) (by kernel_rfl) (by kernel_rfl)) ?_
  intro W base args ds gs before hval0 hW hcnd hsz0 _
  have hval : ∀ (j : Nat) t v, Try.f15.params[j]? = some t → args[j]? = some v → Value.okWide Try.prog W .any base t v := hval0
  have hW' := hW
  obtain ⟨p, q, hA0, hV, rfl, hfz, hnd⟩ := hW
  have hA : DataW.TrodAll enc Try.prog W 0 (fun _ => true) true Try.f15.params.toList args.toList ds p := hA0
  rw [Try.params15] at hA hval
  obtain ⟨v0, vs0, d0, ds0, p0, q0, hargs, rfl, rfl, h0, r0⟩ := trodAll_cons hA
  obtain ⟨v1, vs1, d1, ds1, p1, q1, rfl, rfl, rfl, h1, r1⟩ := trodAll_cons r0
  obtain ⟨rfl, rfl, rfl⟩ := trodAll_nil r1
  obtain rfl : args = #[v0, v1] := by cases args; simp_all
  obtain ⟨rfl, rfl⟩ := trodVars_none hV
  obtain ⟨a0, len0, cap0, rfl⟩ := okWide_slice Try.underlying22 (hval 0 22 v0 rfl rfl)
  have k0 := h0
  have lt0 : ∀ x ∈ p0, x.block < W.heap.size := by obtain ⟨m, hm⟩ := k0; exact DataW.trod_lt m _ _ _ hm
  obtain ⟨z0, e0, c0, l0, o0⟩ := open_spans h0
  subst e0
  obtain ⟨a1, len1, cap1, rfl⟩ := okWide_slice Try.underlying22 (hval 1 22 v1 rfl rfl)
  have k1 := h1
  have lt1 : ∀ x ∈ p1, x.block < W.heap.size := by obtain ⟨m, hm⟩ := k1; exact DataW.trod_lt m _ _ _ hm
  obtain ⟨z1, e1, c1, l1, o1⟩ := open_spans h1
  subst e1
  refine (lamellalaw02_SpanCounts.calls 100000 a0 cap0 z0 a1 cap1 z1 true W c0 l0 c1 l1 (pureSpanCounts z0 z1 )).mono fun e W' ⟨he, bel⟩ => ?_
  subst he
  exact ⟨_, rfl, _, _, _, [], _, [], hW', trodAll_mk1 (shut_bool Try.underlying4 _), (trodAll_cons_mk (Below.trod laidOut (by kernel_rfl) (of_decide_eq_true (by kernel_rfl)) k0 bel lt0) (trodAll_cons_mk (Below.trod laidOut (by kernel_rfl) (of_decide_eq_true (by kernel_rfl)) k1 bel lt1) trodAll_mk0)), rfl, bel.frame _, fun h => by cases h⟩
theorem over : Rows.spanCountsRow.holds Try.pinned (OpenSpec.ofChange Rows.spanCountsSpec) :=
  OpenClaim.holds_of_wide 15 Try.f15 rfl rfl rfl rfl rfl rfl rfl ⟨rfl, rfl, rfl, rfl, rfl⟩ rfl rfl rfl rfl rfl (by kernel_rfl) Try.func15 (by kernel_rfl)
    (of_decide_eq_true (by kernel_rfl)) (by unfold Func.isWrapper; first | (rw [if_pos (by decide +kernel)]; kernel_rfl) | (rw [if_neg (by decide +kernel)]; exact ⟨rfl, rfl⟩))
    (fun os started H enc _ => lifted os started H enc)
theorem proved : Rows.SpanCountsSaid := over
end Go.Proofs.Ytgncbhpmnjfhhaa.spanCounts
namespace Go.Proofs.Ytgncbhpmnjfhhaa
theorem spanCounts_holds : Rows.SpanCountsSaid := spanCounts.proved
#print axioms spanCounts_holds
end Go.Proofs.Ytgncbhpmnjfhhaa
end
