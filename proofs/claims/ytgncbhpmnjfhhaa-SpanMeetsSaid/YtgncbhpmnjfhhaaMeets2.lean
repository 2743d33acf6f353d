/- Meets, part 3 of 4: a part of the proof of spanMeets_holds: what its walks and laws lean on. No condition. -/
import Derived.Test.YtgncbhpmnjfhhaaMeets1
section
namespace Go.Proofs.Ytgncbhpmnjfhhaa.S
open Go.RowKit Go.Proofs.YtgncbhpmnjfhhaaW.PrintWords Go.Proofs.YtgncbhpmnjfhhaaW.PrintLast Go.Proofs.YtgncbhpmnjfhhaaW.PrintMore
attribute [local go_sem] max2_int min2_int max_two min_two max_three min_three max_four min_four
set_option linter.unusedVariables false
set_option linter.unusedSimpArgs false
def span_Meet.T5 : Bool × List (List Nat × List Nat) := (true, [([], []), ([], []), ([0, 1], [0, 1]), ([2], [2]), ([], []), ([], []), ([4, 5], [4, 5]), ([6], [6]), ([3, 7], [3, 7]), ([], []), ([9, 8, 8, 0, 1, 2, 3, 4, 5, 6, 7, 8, 9], [8, 9])])
theorem span_Meet.tab5 : rtab .any (opsOf Try.f42 5) = span_Meet.T5 := by kernel_rfl
theorem span_Meet.bits5 : waitsOk span_Meet.T5.2 span_Meet.B5 = true := by kernel_rfl
def span_Meet.T8 : Bool × List (List Nat × List Nat) := (true, [([], []), ([], []), ([0, 1], [0, 1]), ([2], [2]), ([3], [3]), ([], []), ([], []), ([5, 6], [5, 6]), ([7], [7]), ([8], [8]), ([4, 9], [4, 9])])
theorem span_Meet.tab8 : rtab .any (opsOf Try.f42 8) = span_Meet.T8 := by kernel_rfl
theorem span_Meet.bits8 : waitsOk span_Meet.T8.2 span_Meet.B8 = true := by kernel_rfl
set_option maxHeartbeats 8000000 in
set_option maxRecDepth 100000 in
theorem span_Meet.calls (k : Nat) (A0 : Option Addr) (c0 : Nat) (l0 : List (S30)) (A1 : Option Addr) (c1 : Nat) (l1 : List (S30)) (r : List (S30)) (w : World) (hr0 : Kd.C k30 w A0 l0.length l0) (hc0 : l0.length ≤ c0) (hr1 : Kd.C k30 w A1 l1.length l1) (hc1 : l1.length ≤ c1) (h : span_Meet.f k l0 l1 = some r) :
    Calls Try.prog 42 #[.slice A0 l0.length c0, .slice A1 l1.length c1] w fun e w' => ∃ v0_ : Value, e = .returned (v0_) ∧ Kd.R k30 30 w' w.heap.size (fun _ => True) v0_ r ∧ Below w.heap.size w w' := by
  have hu30 := Try.underlying30
  have HR0 := Aside0.mk hr0
  have HC0 := Aside0.mk hc0
  clear hr0 hc0
  have HR1 := Aside0.mk hr1
  have HC1 := Aside0.mk hc1
  clear hr1 hc1
  have HB := Aside0.mk (Below.refl w.heap.size w)
  have H : ((span_Norm.f k l0).bind fun t374 => ((span_Norm.f k l1).bind fun t377 => (span_Meet.l0 k t374 t377 ([] : List (S30)) 0 0))) = some r := h
  clear h
  replace H := Option.bind_eq_some_iff.mp H
  obtain ⟨t374, A30, H⟩ := H
  replace H : ((span_Norm.f k l1).bind fun t377 => (span_Meet.l0 k t374 t377 ([] : List (S30)) 0 0)) = some r := H
  have A3 := Aside0.mk A30
  clear A30
  replace H := Option.bind_eq_some_iff.mp H
  obtain ⟨t377, A40, H⟩ := H
  replace H : (span_Meet.l0 k t374 t377 ([] : List (S30)) 0 0) = some r := H
  have A4 := Aside0.mk A40
  clear A40
  have H' := Aside0.mk H
  clear H
  go_enter Try.func42, Try.ntmps42
  go_wp2_with (first | ((with_reducible refine gate_callee (f := 18) rfl ?_); refine goesL_ (some 10) rfl rfl Try.func18 (by kernel_rfl) rfl #[.slice A0 l0.length c0] rfl (by (try simp only [List.map_toArray, List.map_cons, List.map_nil]); first | done | rfl | (simp only [List.length_drop, List.length_take]; rfl)) ?_; (with_reducible refine (span_Norm.calls k _ _ l0 t374 _ ?side1 ?side2 A3.out).mono ?_); (case side1 => repeat (first | exact HR0.out | (with_reducible refine Kd.C_alloc ?_ _) | (with_reducible refine Kd.C_drewN ?_ _) | (with_reducible refine Kd.C_drew ?_))); (case side2 => exact HC0.out); rintro e w5 ⟨v375, rfl, ho0, hb⟩; refine ⟨_, rfl, ?_⟩; have n0_ := Aside0.mk (Kd.R_lower ho0 (below_size (by repeat (first | (with_reducible first | exact HB.out | apply below_alloc | apply pw_below_drewN | apply below_drew1) | exact HB.out)))); have n1_ := Aside0.mk (below_step (by repeat (first | (with_reducible first | exact HB.out | apply below_alloc | apply pw_below_drewN | apply below_drew1) | exact HB.out)) hb); clear HB; have HO376 := n0_; have HB := n1_; clear n0_ n1_; (try clear hb); (try clear hb2); (try clear hk); (try clear hi); (try clear ho0)) | ((with_reducible refine gate_callee (f := 18) rfl ?_); refine goesL_ (some 12) rfl rfl Try.func18 (by kernel_rfl) rfl #[.slice A1 l1.length c1] rfl (by (try simp only [List.map_toArray, List.map_cons, List.map_nil]); first | done | rfl | (simp only [List.length_drop, List.length_take]; rfl)) ?_; (with_reducible refine (span_Norm.calls k _ _ l1 t377 _ ?side1 ?side2 A4.out).mono ?_); (case side1 => repeat (first | exact (Kd.C_below HR1.out HB.out) | (with_reducible refine Kd.C_alloc ?_ _) | (with_reducible refine Kd.C_drewN ?_ _) | (with_reducible refine Kd.C_drew ?_))); (case side2 => exact HC1.out); rintro e w6 ⟨v378, rfl, ho0, hb⟩; refine ⟨_, rfl, ?_⟩; have n0_ := Aside0.mk (Kd.R_elder' (by (with_reducible repeat (first | apply Kd.R_alloc | apply Kd.R_drewN | apply Kd.R_drew)); exact HO376.out) (Kd.R_base ho0) hb); have n1_ := Aside0.mk (Kd.R_lower (Kd.R_new' ho0 (Kd.R_lt (by (with_reducible repeat (first | apply Kd.R_alloc | apply Kd.R_drewN | apply Kd.R_drew)); exact HO376.out))) (below_size (by repeat (first | (with_reducible first | exact HB.out | apply below_alloc | apply pw_below_drewN | apply below_drew1) | exact HB.out)))); have n2_ := Aside0.mk (below_step (by repeat (first | (with_reducible first | exact HB.out | apply below_alloc | apply pw_below_drewN | apply below_drew1) | exact HB.out)) hb); clear HO376; clear HB; have HO376 := n0_; have HO379 := n1_; have HB := n2_; clear n0_ n1_ n2_; (try clear hb); (try clear hb2); (try clear hk); (try clear hi); (try clear ho0)))
  go_loopg [5, 6, 7] k (fun kq v5 v6 v7 w' => ∃ (x5_1 : List (S30)) (x6_1 : Int) (x7_1 : Int), v6 = .int .i64 x6_1 ∧ v7 = .int .i64 x7_1 ∧ Aside0 (span_Meet.l0 kq t374 t377 x5_1 x6_1 x7_1 = some r) ∧ Aside0 (kq ≤ k) ∧ Aside0 (Kd.R k30 30 w' w.heap.size (fun k_ => some k_ ≠ (v378 : Value).ownBlock ∧ some k_ ≠ (v5 : Value).ownBlock) v375 t374) ∧ Aside0 (Kd.R k30 30 w' w.heap.size (fun k_ => some k_ ≠ (v375 : Value).ownBlock ∧ some k_ ≠ (v5 : Value).ownBlock) v378 t377) ∧ Aside0 (Kd.R k30 30 w' w.heap.size (fun k_ => some k_ ≠ (v375 : Value).ownBlock ∧ some k_ ≠ (v378 : Value).ownBlock) v5 x5_1) ∧ Aside0 (Below w.heap.size w w'))
  case atStart => exact ⟨(([] : List (S30))), (0), (0), (by first | rfl | (simp; done) | (simp [*]; done)), (by first | rfl | (simp; done) | (simp [*]; done)), H', ⟨Nat.le_refl _⟩, ⟨by (with_reducible repeat (first | apply Kd.R_alloc | apply Kd.R_drewN | apply Kd.R_drew)); exact Kd.R_mono HO376.out (fun _ hk => ⟨hk.2, (by simp [Value.ownBlock])⟩)⟩, ⟨by (with_reducible repeat (first | apply Kd.R_alloc | apply Kd.R_drewN | apply Kd.R_drew)); exact Kd.R_mono HO379.out (fun _ hk => ⟨hk.2, (by simp [Value.ownBlock])⟩)⟩, ⟨by first | exact Kd.R_nil _ _ _ _ _ | exact Kd.N_nil _ _ _ _ _ | exact Kd.V_nil _ _ _ _ _ | exact Kd.Q_nil _ _ _ _ _ | exact Kd.S_nil _ _ _ _ _⟩, ⟨by repeat (first | (with_reducible first | exact HB.out | apply below_alloc | apply pw_below_drewN | apply below_drew1) | exact HB.out)⟩⟩
  case round =>
    clear H'
    try clear c1
    try clear p2
    try clear c4
    obtain ⟨x5_1, x6_1, x7_1, rfl, rfl, HA, HK1, HO_0, HO_1, HO_5, HB⟩ := hrel
    cases gk with
    | zero => exact absurd HA.out (by simp [span_Meet.l0])
    | succ k1 =>
      have H := HA.out
      clear HA
      simp only [span_Meet.l0] at H
      have HC7 := Aside0.mk H
      clear H
      go_upto_region 4 with (fail)
      go_cut [22] (fun v22 wc => ∃ (kq : Nat) (x22_6 : Bool), v22 = .bool x22_6 ∧ Aside0 (span_Meet.j1 kq t374 t377 x5_1 x6_1 x7_1 x22_6 = some r) ∧ Aside0 (kq ≤ k1) ∧ Aside0 (Kd.R k30 30 wc w.heap.size (fun k_ => some k_ ≠ (v378 : Value).ownBlock ∧ some k_ ≠ (u5 : Value).ownBlock) v375 t374) ∧ Aside0 (Kd.R k30 30 wc w.heap.size (fun k_ => some k_ ≠ (v375 : Value).ownBlock ∧ some k_ ≠ (u5 : Value).ownBlock) v378 t377) ∧ Aside0 (Kd.R k30 30 wc w.heap.size (fun k_ => some k_ ≠ (v375 : Value).ownBlock ∧ some k_ ≠ (v378 : Value).ownBlock) u5 x5_1) ∧ Aside0 (Below w.heap.size w wc))
      case first =>
        have H := HC7.out
        clear HC7
        by_cases c8 : x6_1 < (t374.length : Int)
        · rw [if_pos c8] at H
          have c8b0 : decide (x6_1 < (t374.length : Int)) = true := decide_eq_true c8
          clear c8
          (first | rw [c8b0] | (simp only [i64_w, i32_w]; rw [c8b0]) | skip)
          have H' := Aside0.mk H
          clear H
          obtain ⟨Ao9, co9, eo9⟩ := Kd.R_slice HO_0.out
          subst eo9
          obtain ⟨Ao10, co10, eo10⟩ := Kd.R_slice HO_1.out
          subst eo10
          go_wp2
          go_meet
          case rel => exact ⟨_, (decide (x7_1 < (t377.length : Int))), (by first | rfl | (simp; done) | (simp [*]; done)), H', ⟨by have := HK1.out; first | omega | exact Nat.le_refl _⟩, ⟨by (with_reducible repeat (first | apply Kd.R_alloc | apply Kd.R_drewN | apply Kd.R_drew)); exact HO_0.out⟩, ⟨by (with_reducible repeat (first | apply Kd.R_alloc | apply Kd.R_drewN | apply Kd.R_drew)); exact HO_1.out⟩, ⟨by (with_reducible repeat (first | apply Kd.R_alloc | apply Kd.R_drewN | apply Kd.R_drew)); exact HO_5.out⟩, ⟨by repeat (first | (with_reducible first | exact HB.out | apply below_alloc | apply pw_below_drewN | apply below_drew1) | exact HB.out)⟩⟩
        · rw [if_neg c8] at H
          have c8b0 : decide (x6_1 < (t374.length : Int)) = false := decide_eq_false c8
          clear c8
          (first | rw [c8b0] | (simp only [i64_w, i32_w]; rw [c8b0]) | skip)
          have H' := Aside0.mk H
          clear H
          obtain ⟨Ao11, co11, eo11⟩ := Kd.R_slice HO_0.out
          subst eo11
          go_wp2
          go_meet
          case rel => exact ⟨_, (false), (by first | rfl | (simp; done) | (simp [*]; done)), H', ⟨by have := HK1.out; first | omega | exact Nat.le_refl _⟩, ⟨by (with_reducible repeat (first | apply Kd.R_alloc | apply Kd.R_drewN | apply Kd.R_drew)); exact HO_0.out⟩, ⟨by (with_reducible repeat (first | apply Kd.R_alloc | apply Kd.R_drewN | apply Kd.R_drew)); exact HO_1.out⟩, ⟨by (with_reducible repeat (first | apply Kd.R_alloc | apply Kd.R_drewN | apply Kd.R_drew)); exact HO_5.out⟩, ⟨by repeat (first | (with_reducible first | exact HB.out | apply below_alloc | apply pw_below_drewN | apply below_drew1) | exact HB.out)⟩⟩
      case rest =>
        clear HC7
        try clear c1
        try clear p2
        try clear c4
        try clear c8
        try clear c8b0
        try clear p2
        obtain ⟨kq, x22_6, rfl, HA, HJ6, HO_0, HO_1, HO_5, HB⟩ := hcut
        cases kq with
        | zero => exact absurd HA.out (by simp [span_Meet.j1])
        | succ kj6 =>
          have H := HA.out
          clear HA
          simp only [span_Meet.j1] at H
          by_cases c12 : x22_6 = true
          · subst c12
            have H1 : (if 0 ≤ x6_1 then (if x6_1 < (t374.length : Int) then (if 0 ≤ x7_1 then (if x7_1 < (t377.length : Int) then ((span_both.f ((rd_T30 t374 x6_1).f0) ((rd_T30 t374 x6_1).f1) ((rd_T30 t377 x7_1).f0) ((rd_T30 t377 x7_1).f1)).bind fun bt382 => ((span_empty.f bt382.1 bt382.2).bind fun t385 => (if t385 = true then (if ((rd_T30 t374 x6_1).f1) < ((rd_T30 t377 x7_1).f1) then (span_Meet.l0 kj6 t374 t377 x5_1 (wrap64 (x6_1 + 1)) x7_1) else (span_Meet.l0 kj6 t374 t377 x5_1 x6_1 (wrap64 (x7_1 + 1)))) else (if x5_1.length < 8796093022208 then ((some (x5_1 ++ [(⟨bt382.1, bt382.2⟩ : S30)] : List (S30))).bind fun y388 => (if ((rd_T30 t374 x6_1).f1) < ((rd_T30 t377 x7_1).f1) then (span_Meet.l0 kj6 t374 t377 y388 (wrap64 (x6_1 + 1)) x7_1) else (span_Meet.l0 kj6 t374 t377 y388 x6_1 (wrap64 (x7_1 + 1))))) else (none))))) else (none)) else (none)) else (none)) else (none)) = some r := by rw [if_pos rfl] at H; exact H
            clear H
            have H := H1
            clear H1
            by_cases c13 : 0 ≤ x6_1
            · rw [if_pos c13] at H
              have c13b0 : decide (0 ≤ x6_1) = true := decide_eq_true c13
              clear c13
              by_cases c14 : x6_1 < (t374.length : Int)
              · rw [if_pos c14] at H
                have c14b0 : decide (x6_1 < (t374.length : Int)) = true := decide_eq_true c14
                clear c14
                by_cases c15 : 0 ≤ x7_1
                · rw [if_pos c15] at H
                  have c15b0 : decide (0 ≤ x7_1) = true := decide_eq_true c15
                  clear c15
                  by_cases c16 : x7_1 < (t377.length : Int)
                  · rw [if_pos c16] at H
                    have c16b0 : decide (x7_1 < (t377.length : Int)) = true := decide_eq_true c16
                    clear c16
                    replace H := Option.bind_eq_some_iff.mp H
                    obtain ⟨⟨t382, t383⟩, A170, H⟩ := H
                    replace H : ((span_empty.f t382 t383).bind fun t385 => (if t385 = true then (if ((rd_T30 t374 x6_1).f1) < ((rd_T30 t377 x7_1).f1) then (span_Meet.l0 kj6 t374 t377 x5_1 (wrap64 (x6_1 + 1)) x7_1) else (span_Meet.l0 kj6 t374 t377 x5_1 x6_1 (wrap64 (x7_1 + 1)))) else (if x5_1.length < 8796093022208 then ((some (x5_1 ++ [(⟨t382, t383⟩ : S30)] : List (S30))).bind fun y388 => (if ((rd_T30 t374 x6_1).f1) < ((rd_T30 t377 x7_1).f1) then (span_Meet.l0 kj6 t374 t377 y388 (wrap64 (x6_1 + 1)) x7_1) else (span_Meet.l0 kj6 t374 t377 y388 x6_1 (wrap64 (x7_1 + 1))))) else (none)))) = some r := H
                    have A17 := Aside0.mk A170
                    clear A170
                    replace H := Option.bind_eq_some_iff.mp H
                    obtain ⟨t385, A180, H⟩ := H
                    replace H : (if t385 = true then (if ((rd_T30 t374 x6_1).f1) < ((rd_T30 t377 x7_1).f1) then (span_Meet.l0 kj6 t374 t377 x5_1 (wrap64 (x6_1 + 1)) x7_1) else (span_Meet.l0 kj6 t374 t377 x5_1 x6_1 (wrap64 (x7_1 + 1)))) else (if x5_1.length < 8796093022208 then ((some (x5_1 ++ [(⟨t382, t383⟩ : S30)] : List (S30))).bind fun y388 => (if ((rd_T30 t374 x6_1).f1) < ((rd_T30 t377 x7_1).f1) then (span_Meet.l0 kj6 t374 t377 y388 (wrap64 (x6_1 + 1)) x7_1) else (span_Meet.l0 kj6 t374 t377 y388 x6_1 (wrap64 (x7_1 + 1))))) else (none))) = some r := H
                    have A18 := Aside0.mk A180
                    clear A180
                    by_cases c19 : t385 = true
                    · subst c19
                      have H1 : (if ((rd_T30 t374 x6_1).f1) < ((rd_T30 t377 x7_1).f1) then (span_Meet.l0 kj6 t374 t377 x5_1 (wrap64 (x6_1 + 1)) x7_1) else (span_Meet.l0 kj6 t374 t377 x5_1 x6_1 (wrap64 (x7_1 + 1)))) = some r := by rw [if_pos rfl] at H; exact H
                      clear H
                      have H := H1
                      clear H1
                      by_cases c20 : ((rd_T30 t374 x6_1).f1) < ((rd_T30 t377 x7_1).f1)
                      · rw [if_pos c20] at H
                        have c20b0 : decide (((rd_T30 t374 x6_1).f1) < ((rd_T30 t377 x7_1).f1)) = true := decide_eq_true c20
                        clear c20
                        have H' := Aside0.mk H
                        clear H
                        try go_wp2
                        have n0_ := Aside0.mk (Kd.R_drew HO_0.out)
                        have n1_ := Aside0.mk (Kd.R_drew HO_1.out)
                        have n2_ := Aside0.mk (Kd.R_drew HO_5.out)
                        have n3_ := Aside0.mk (below_drew1 HB.out)
                        clear HO_0
                        clear HO_1
                        clear HO_5
                        clear HB
                        have HO_0 := n0_
                        have HO_1 := n1_
                        have HO_5 := n2_
                        have HB := n3_
                        clear n0_ n1_ n2_ n3_
                        obtain ⟨Ao22, co22, eo22⟩ := Kd.R_slice HO_0.out
                        (first | subst eo22 | (injection eo22 with f1_ f2_ f3_; have f4_ := f1_.symm; have f5_ := f3_.symm; clear f1_ f2_ f3_; subst f4_; subst f5_))
                        have p380 : 0 ≤ (x6_1 : Int) := of_decide_eq_true (by first | (with_reducible assumption) | assumption)
                        have q380 : x6_1 < (t374.length : Int) := of_decide_eq_true (by first | (with_reducible assumption) | assumption)
                        obtain ⟨ad380, e380, hx380_0, hx380_1⟩ := at_T30 (Kd.R_reads' HO_0.out).2.2 x6_1 p380 q380
                        cases e380
                        replace p380 := eq_true p380
                        replace q380 := eq_true q380
                        obtain ⟨Ao23, co23, eo23⟩ := Kd.R_slice HO_1.out
                        (first | subst eo23 | (injection eo23 with f1_ f2_ f3_; have f4_ := f1_.symm; have f5_ := f3_.symm; clear f1_ f2_ f3_; subst f4_; subst f5_))
                        have p381 : 0 ≤ (x7_1 : Int) := of_decide_eq_true (by first | (with_reducible assumption) | assumption)
                        have q381 : x7_1 < (t377.length : Int) := of_decide_eq_true (by first | (with_reducible assumption) | assumption)
                        obtain ⟨ad381, e381, hx381_0, hx381_1⟩ := at_T30 (Kd.R_reads' HO_1.out).2.2 x7_1 p381 q381
                        cases e381
                        replace p381 := eq_true p381
                        replace q381 := eq_true q381
                        refine start_ (n := 11) (S := fun w' => w'.cell? (ad380.add ((x6_1).toNat * 2)) = some (.int .i64 ((rd_T30 t374 x6_1).f0)) ∧ w'.cell? ⟨(ad380.add ((x6_1).toNat * 2)).block, (ad380.add ((x6_1).toNat * 2)).off + 1, none⟩ = some (.int .i64 ((rd_T30 t374 x6_1).f1)) ∧ w'.cell? (ad381.add ((x7_1).toNat * 2)) = some (.int .i64 ((rd_T30 t377 x7_1).f0)) ∧ w'.cell? ⟨(ad381.add ((x7_1).toNat * 2)).block, (ad381.add ((x7_1).toNat * 2)).off + 1, none⟩ = some (.int .i64 ((rd_T30 t377 x7_1).f1))) (ds := []) #[false, false, false, false, false, false, false, false, false, false, false] (by kernel_rfl) rfl rfl ⟨hx380_0, hx380_1, hx381_0, hx381_1⟩ (fun hHeld => ?_); refine with_tabW span_Meet.tab5 span_Meet.bits5 (fun HT_ HW_ => ?_)
                        generalize wc.drew = w21 at HO_0 HO_1 HO_5 HB hx380_0 hx380_1 hx381_0 hx381_1 hHeld ⊢
                        refine pure_ (i := 0) (N := some 23) (v := ?_) (a' := ?_) #[true, false, false, false, false, false, false, false, false, false, false] rfl rfl (any_of HT_.out (by kernel_rfl)) (fun _ _ _ h => h) (Or.inl ⟨by rfl, ?_⟩) ?_ ?_
                        rotate_left
                        · intro w'
                          go_simp
                          with_reducible rfl
                        rotate_left
                        · simp only [Act.put, List.setIfInBounds_toArray, List.set_cons_zero, List.set_cons_succ, i64_w, i32_w]
                          rfl
                        refine pure_ (i := 1) (N := some 24) (v := ?_) (a' := ?_) #[true, true, false, false, false, false, false, false, false, false, false] rfl rfl (any_of HT_.out (by kernel_rfl)) (fun _ _ _ h => h) (Or.inl ⟨by rfl, ?_⟩) ?_ ?_
                        rotate_left
                        · intro w'
                          go_simp
                          with_reducible rfl
                        rotate_left
                        · simp only [Act.put, List.setIfInBounds_toArray, List.set_cons_zero, List.set_cons_succ, i64_w, i32_w]
                          rfl
                        refine pure_ (i := 2) (N := some 25) (v := ?_) (a' := ?_) #[true, true, true, false, false, false, false, false, false, false, false] rfl rfl (any_of HT_.out (by kernel_rfl)) (fun _ _ _ h => h) (Or.inl ⟨by rfl, ?_⟩) ?_ ?_
                        rotate_left
                        · intro w'
                          go_simp
                          with_reducible rfl
                        rotate_left
                        · simp only [Act.put, List.setIfInBounds_toArray, List.set_cons_zero, List.set_cons_succ, i64_w, i32_w]
                          rfl
                        refine pure_ (i := 4) (N := some 27) (v := ?_) (a' := ?_) #[true, true, true, false, true, false, false, false, false, false, false] rfl rfl (any_of HT_.out (by kernel_rfl)) (fun _ _ _ h => h) (Or.inl ⟨by rfl, ?_⟩) ?_ ?_
                        rotate_left
                        · intro w'
                          go_simp
                          with_reducible rfl
                        rotate_left
                        · simp only [Act.put, List.setIfInBounds_toArray, List.set_cons_zero, List.set_cons_succ, i64_w, i32_w]
                          rfl
                        refine pure_ (i := 5) (N := some 28) (v := ?_) (a' := ?_) #[true, true, true, false, true, true, false, false, false, false, false] rfl rfl (any_of HT_.out (by kernel_rfl)) (fun _ _ _ h => h) (Or.inl ⟨by rfl, ?_⟩) ?_ ?_
                        rotate_left
                        · intro w'
                          go_simp
                          with_reducible rfl
                        rotate_left
                        · simp only [Act.put, List.setIfInBounds_toArray, List.set_cons_zero, List.set_cons_succ, i64_w, i32_w]
                          rfl
                        refine pure_ (i := 6) (N := some 29) (v := ?_) (a' := ?_) #[true, true, true, false, true, true, true, false, false, false, false] rfl rfl (any_of HT_.out (by kernel_rfl)) (fun _ _ _ h => h) (Or.inl ⟨by rfl, ?_⟩) ?_ ?_
                        rotate_left
                        · intro w'
                          go_simp
                          with_reducible rfl
                        rotate_left
                        · simp only [Act.put, List.setIfInBounds_toArray, List.set_cons_zero, List.set_cons_succ, i64_w, i32_w]
                          rfl
                        refine take_ (i := 3) (N := some 26) (v := ?_) (a' := ?_) #[true, true, true, true, true, true, true, false, false, false, false] rfl rfl (take_ofW HT_.out HW_.out (by kernel_rfl)) (fun _ _ _ h => h) (Or.inl ⟨by rfl, ?_⟩) hHeld ?_ ?_
                        rotate_left
                        · rintro w' ⟨s0, s1, s2, s3⟩
                          go_simp
                          with_reducible rfl
                        rotate_left
                        · simp only [Act.put, List.setIfInBounds_toArray, List.set_cons_zero, List.set_cons_succ, i64_w, i32_w]
                          rfl
                        refine take_ (i := 7) (N := some 30) (v := ?_) (a' := ?_) #[true, true, true, true, true, true, true, true, false, false, false] rfl rfl (take_ofW HT_.out HW_.out (by kernel_rfl)) (fun _ _ _ h => h) (Or.inl ⟨by rfl, ?_⟩) hHeld ?_ ?_
                        rotate_left
                        · rintro w' ⟨s0, s1, s2, s3⟩
                          go_simp
                          with_reducible rfl
                        rotate_left
                        · simp only [Act.put, List.setIfInBounds_toArray, List.set_cons_zero, List.set_cons_succ, i64_w, i32_w]
                          rfl
                        refine join_ (σ := Nat) 1 #[true, true, true, true, true, true, true, true, true, true, false] (fun s_ => [(31, .agg #[.int .i64 t382, .int .i64 t383]), (8, .pointer (some ⟨s_, 0, none⟩))]) (fun s_ w' => (w'.cell? (ad380.add ((x6_1).toNat * 2)) = some (.int .i64 ((rd_T30 t374 x6_1).f0)) ∧ w'.cell? ⟨(ad380.add ((x6_1).toNat * 2)).block, (ad380.add ((x6_1).toNat * 2)).off + 1, none⟩ = some (.int .i64 ((rd_T30 t374 x6_1).f1)) ∧ w'.cell? (ad381.add ((x7_1).toNat * 2)) = some (.int .i64 ((rd_T30 t377 x7_1).f0)) ∧ w'.cell? ⟨(ad381.add ((x7_1).toNat * 2)).block, (ad381.add ((x7_1).toNat * 2)).off + 1, none⟩ = some (.int .i64 ((rd_T30 t377 x7_1).f1))) ∧ (Kd.R k30 30 w' w.heap.size (fun k_ => some k_ ≠ (.slice (some ad381) t377.length co23 : Value).ownBlock ∧ some k_ ≠ (u5 : Value).ownBlock ∧ k_ ≠ s_) (.slice (some ad380) t374.length co22) t374) ∧ (Kd.R k30 30 w' w.heap.size (fun k_ => some k_ ≠ (.slice (some ad380) t374.length co22 : Value).ownBlock ∧ some k_ ≠ (u5 : Value).ownBlock ∧ k_ ≠ s_) (.slice (some ad381) t377.length co23) t377) ∧ (Kd.R k30 30 w' w.heap.size (fun k_ => some k_ ≠ (.slice (some ad380) t374.length co22 : Value).ownBlock ∧ some k_ ≠ (.slice (some ad381) t377.length co23 : Value).ownBlock ∧ k_ ≠ s_) u5 x5_1) ∧ (w'.heap[s_]? = some (.cells #[.int .i64 0, .int .i64 0] 30 (0, 0))) ∧ (w.heap.size ≤ s_) ∧ (w.heap.size ≤ s_) ∧ (Below w.heap.size w w')) ?_ ?_
                        rotate_left
                        · intro hCont
                          refine two_ (i := 8) (j := 9) (Ni := some 31) (Nj := some 8) #[true, true, true, true, true, true, true, true, true, false, false] #[true, true, true, true, true, true, true, true, false, true, false] rfl rfl rfl rfl (two_of HT_.out (by kernel_rfl)) (by decide) (by decide) (fun K hK => ?_) (fun K hK => ?_)
                          · skip
                            refine goes_ Try.func55 (by kernel_rfl) rfl #[.agg #[.int .i64 ((rd_T30 t374 x6_1).f0), .int .i64 ((rd_T30 t374 x6_1).f1)], .agg #[.int .i64 ((rd_T30 t377 x7_1).f0), .int .i64 ((rd_T30 t377 x7_1).f1)]] (by rfl) rfl rfl (by (try simp only [List.map_toArray, List.map_cons, List.map_nil]); first | done | rfl | (simp only [List.length_drop, List.length_take]; rfl)) ?_
                            with_reducible refine (span_both.calls ((rd_T30 t374 x6_1).f0) ((rd_T30 t374 x6_1).f1) ((rd_T30 t377 x7_1).f0) ((rd_T30 t377 x7_1).f1) t382 t383 _ A17.out).mono ?_
                            rintro e w24 ⟨rfl, hb⟩
                            have HS0_ := (hb.cell (World.block_lt_of_cell? _ _ (hHeld.1))).trans (hHeld.1)
                            have HS1_ := (hb.cell (World.block_lt_of_cell? _ _ (hHeld.2.1))).trans (hHeld.2.1)
                            have HS2_ := (hb.cell (World.block_lt_of_cell? _ _ (hHeld.2.2.1))).trans (hHeld.2.2.1)
                            have HS3_ := (hb.cell (World.block_lt_of_cell? _ _ (hHeld.2.2.2))).trans (hHeld.2.2.2)
                            refine ⟨_, rfl, ?_⟩
                            have n0_ := Aside0.mk (Kd.R_below (by (with_reducible repeat (first | apply Kd.R_alloc | apply Kd.R_drewN | apply Kd.R_drew)); exact HO_0.out) hb)
                            have n1_ := Aside0.mk (Kd.R_below (by (with_reducible repeat (first | apply Kd.R_alloc | apply Kd.R_drewN | apply Kd.R_drew)); exact HO_1.out) hb)
                            have n2_ := Aside0.mk (Kd.R_below (by (with_reducible repeat (first | apply Kd.R_alloc | apply Kd.R_drewN | apply Kd.R_drew)); exact HO_5.out) hb)
                            have n3_ := Aside0.mk (below_step (by repeat (first | (with_reducible first | exact HB.out | apply below_alloc | apply pw_below_drewN | apply below_drew1) | exact HB.out)) hb)
                            clear HO_0
                            clear HO_1
                            clear HO_5
                            clear HB
                            have HO_0 := n0_
                            have HO_1 := n1_
                            have HO_5 := n2_
                            have HB := n3_
                            clear n0_ n1_ n2_ n3_
                            (try clear hb)
                            (try clear hb2)
                            (try clear hk)
                            (try clear hi)
                            refine hK.out _ _ ⟨HS0_, HS1_, HS2_, HS3_⟩ (fun hHeld => ?_)
                            clear hK K
                            refine norm_ (a' := ?_) ?_ ?_
                            rotate_left
                            · show Act.put _ (some 31) _ = _
                              simp only [Act.put, List.setIfInBounds_toArray, List.set_cons_zero, List.set_cons_succ, i64_w, i32_w]
                              rfl
                            refine one_ (i := 9) (N := some 8) #[true, true, true, true, true, true, true, true, true, true, false] rfl rfl (one_of HT_.out (by kernel_rfl)) (by decide) (fun K hK => ?_)
                            refine box_step ?hg (N := 8) ?hd (cs := #[.int .i64 0, .int .i64 0]) (t := 30) ?hr ?_; (case hd => rfl); (case hg => rfl); (case hr => first | (go_simp; done) | (go_simp; rfl))
                            intro gb384 hg w25 hbox hb
                            have HS0_ := (hb.cell (World.block_lt_of_cell? _ _ (hHeld.1))).trans (hHeld.1)
                            have HS1_ := (hb.cell (World.block_lt_of_cell? _ _ (hHeld.2.1))).trans (hHeld.2.1)
                            have HS2_ := (hb.cell (World.block_lt_of_cell? _ _ (hHeld.2.2.1))).trans (hHeld.2.2.1)
                            have HS3_ := (hb.cell (World.block_lt_of_cell? _ _ (hHeld.2.2.2))).trans (hHeld.2.2.2)
                            have n0_ := Aside0.mk (Kd.R_below (Kd.R_elderB (by (with_reducible repeat (first | apply Kd.R_alloc | apply Kd.R_drewN | apply Kd.R_drew)); exact HO_0.out) gb384 (Nat.le_of_eq hg.symm)) hb)
                            have n1_ := Aside0.mk (Kd.R_below (Kd.R_elderB (by (with_reducible repeat (first | apply Kd.R_alloc | apply Kd.R_drewN | apply Kd.R_drew)); exact HO_1.out) gb384 (Nat.le_of_eq hg.symm)) hb)
                            have n2_ := Aside0.mk (Kd.R_below (Kd.R_elderB (by (with_reducible repeat (first | apply Kd.R_alloc | apply Kd.R_drewN | apply Kd.R_drew)); exact HO_5.out) gb384 (Nat.le_of_eq hg.symm)) hb)
                            have n3_ := Aside0.mk (below_step (by repeat (first | (with_reducible first | exact HB.out | apply below_alloc | apply pw_below_drewN | apply below_drew1) | exact HB.out)) hb)
                            have n4_ := Aside0.mk (hbox)
                            have n5_ := Aside0.mk ((by rw [hg]; exact (below_size (by repeat (first | (with_reducible first | exact HB.out | apply below_alloc | apply pw_below_drewN | apply below_drew1) | exact HB.out))) : w.heap.size ≤ gb384))
                            have n6_ := Aside0.mk ((by rw [hg]; exact (below_size (by repeat (first | (with_reducible first | exact HB.out | apply below_alloc | apply pw_below_drewN | apply below_drew1) | exact HB.out))) : w.heap.size ≤ gb384))
                            clear HO_0
                            clear HO_1
                            clear HO_5
                            clear HB
                            have HO_0 := n0_
                            have HO_1 := n1_
                            have HO_5 := n2_
                            have HB := n3_
                            have BK384 := n4_
                            have GW384 := n5_
                            have GE384 := n6_
                            clear n0_ n1_ n2_ n3_ n4_ n5_ n6_
                            clear hb hbox hg
                            refine hK.out _ _ ⟨HS0_, HS1_, HS2_, HS3_⟩ (fun hHeld => ?_)
                            clear hK K
                            refine norm_ (a' := ?_) ?_ ?_
                            rotate_left
                            · show Act.put _ (some 8) _ = _
                              simp only [Act.put, List.setIfInBounds_toArray, List.set_cons_zero, List.set_cons_succ, i64_w, i32_w]
                              rfl
                            exact norm_ (by simp only [putAll, Act.put, List.setIfInBounds_toArray, List.set_cons_zero, List.set_cons_succ]) (hCont (gb384) _ ⟨hHeld, (by (with_reducible repeat (first | apply Kd.R_alloc | apply Kd.R_drewN | apply Kd.R_drew)); exact Kd.R_mono HO_0.out (fun _ hk => ⟨hk.1.1, ⟨hk.1.2, hk.2⟩⟩)), (by (with_reducible repeat (first | apply Kd.R_alloc | apply Kd.R_drewN | apply Kd.R_drew)); exact Kd.R_mono HO_1.out (fun _ hk => ⟨hk.1.1, ⟨hk.1.2, hk.2⟩⟩)), (by (with_reducible repeat (first | apply Kd.R_alloc | apply Kd.R_drewN | apply Kd.R_drew)); exact Kd.R_mono HO_5.out (fun _ hk => ⟨hk.1.1, ⟨hk.1.2, hk.2⟩⟩)), (by (with_reducible repeat (first | refine blk_drewN ?_ _ | refine blk_drew ?_ | refine blk_alloc ?_ _)); exact BK384.out), GW384.out, GE384.out, (by repeat (first | (with_reducible first | exact HB.out | apply below_alloc | apply pw_below_drewN | apply below_drew1 | refine below_set ?_ GE384.out) | exact HB.out))⟩)
                          · skip
                            refine box_step ?hg (N := 8) ?hd (cs := #[.int .i64 0, .int .i64 0]) (t := 30) ?hr ?_; (case hd => rfl); (case hg => rfl); (case hr => first | (go_simp; done) | (go_simp; rfl))
                            intro gb384 hg w24 hbox hb
                            have HS0_ := (hb.cell (World.block_lt_of_cell? _ _ (hHeld.1))).trans (hHeld.1)
                            have HS1_ := (hb.cell (World.block_lt_of_cell? _ _ (hHeld.2.1))).trans (hHeld.2.1)
                            have HS2_ := (hb.cell (World.block_lt_of_cell? _ _ (hHeld.2.2.1))).trans (hHeld.2.2.1)
                            have HS3_ := (hb.cell (World.block_lt_of_cell? _ _ (hHeld.2.2.2))).trans (hHeld.2.2.2)
                            have n0_ := Aside0.mk (Kd.R_below (Kd.R_elderB (by (with_reducible repeat (first | apply Kd.R_alloc | apply Kd.R_drewN | apply Kd.R_drew)); exact HO_0.out) gb384 (Nat.le_of_eq hg.symm)) hb)
                            have n1_ := Aside0.mk (Kd.R_below (Kd.R_elderB (by (with_reducible repeat (first | apply Kd.R_alloc | apply Kd.R_drewN | apply Kd.R_drew)); exact HO_1.out) gb384 (Nat.le_of_eq hg.symm)) hb)
                            have n2_ := Aside0.mk (Kd.R_below (Kd.R_elderB (by (with_reducible repeat (first | apply Kd.R_alloc | apply Kd.R_drewN | apply Kd.R_drew)); exact HO_5.out) gb384 (Nat.le_of_eq hg.symm)) hb)
                            have n3_ := Aside0.mk (below_step (by repeat (first | (with_reducible first | exact HB.out | apply below_alloc | apply pw_below_drewN | apply below_drew1) | exact HB.out)) hb)
                            have n4_ := Aside0.mk (hbox)
                            have n5_ := Aside0.mk ((by rw [hg]; exact (below_size (by repeat (first | (with_reducible first | exact HB.out | apply below_alloc | apply pw_below_drewN | apply below_drew1) | exact HB.out))) : w.heap.size ≤ gb384))
                            have n6_ := Aside0.mk ((by rw [hg]; exact (below_size (by repeat (first | (with_reducible first | exact HB.out | apply below_alloc | apply pw_below_drewN | apply below_drew1) | exact HB.out))) : w.heap.size ≤ gb384))
                            clear HO_0
                            clear HO_1
                            clear HO_5
                            clear HB
                            have HO_0 := n0_
                            have HO_1 := n1_
                            have HO_5 := n2_
                            have HB := n3_
                            have BK384 := n4_
                            have GW384 := n5_
                            have GE384 := n6_
                            clear n0_ n1_ n2_ n3_ n4_ n5_ n6_
                            clear hb hbox hg
                            refine hK.out _ _ ⟨HS0_, HS1_, HS2_, HS3_⟩ (fun hHeld => ?_)
                            clear hK K
                            refine norm_ (a' := ?_) ?_ ?_
                            rotate_left
                            · show Act.put _ (some 8) _ = _
                              simp only [Act.put, List.setIfInBounds_toArray, List.set_cons_zero, List.set_cons_succ, i64_w, i32_w]
                              rfl
                            refine one_ (i := 8) (N := some 31) #[true, true, true, true, true, true, true, true, true, true, false] rfl rfl (one_of HT_.out (by kernel_rfl)) (by decide) (fun K hK => ?_)
                            refine goes_ Try.func55 (by kernel_rfl) rfl #[.agg #[.int .i64 ((rd_T30 t374 x6_1).f0), .int .i64 ((rd_T30 t374 x6_1).f1)], .agg #[.int .i64 ((rd_T30 t377 x7_1).f0), .int .i64 ((rd_T30 t377 x7_1).f1)]] (by rfl) rfl rfl (by (try simp only [List.map_toArray, List.map_cons, List.map_nil]); first | done | rfl | (simp only [List.length_drop, List.length_take]; rfl)) ?_
                            with_reducible refine (span_both.calls ((rd_T30 t374 x6_1).f0) ((rd_T30 t374 x6_1).f1) ((rd_T30 t377 x7_1).f0) ((rd_T30 t377 x7_1).f1) t382 t383 _ A17.out).mono ?_
                            rintro e w25 ⟨rfl, hb⟩
                            have HS0_ := (hb.cell (World.block_lt_of_cell? _ _ (hHeld.1))).trans (hHeld.1)
                            have HS1_ := (hb.cell (World.block_lt_of_cell? _ _ (hHeld.2.1))).trans (hHeld.2.1)
                            have HS2_ := (hb.cell (World.block_lt_of_cell? _ _ (hHeld.2.2.1))).trans (hHeld.2.2.1)
                            have HS3_ := (hb.cell (World.block_lt_of_cell? _ _ (hHeld.2.2.2))).trans (hHeld.2.2.2)
                            refine ⟨_, rfl, ?_⟩
                            have n0_ := Aside0.mk (Kd.R_below (by (with_reducible repeat (first | apply Kd.R_alloc | apply Kd.R_drewN | apply Kd.R_drew)); exact HO_0.out) hb)
                            have n1_ := Aside0.mk (Kd.R_below (by (with_reducible repeat (first | apply Kd.R_alloc | apply Kd.R_drewN | apply Kd.R_drew)); exact HO_1.out) hb)
                            have n2_ := Aside0.mk (Kd.R_below (by (with_reducible repeat (first | apply Kd.R_alloc | apply Kd.R_drewN | apply Kd.R_drew)); exact HO_5.out) hb)
                            have n3_ := Aside0.mk (blk_below (g := gb384) (o := .cells #[.int .i64 0, .int .i64 0] 30 (0, 0)) (by (with_reducible repeat (first | refine blk_drewN ?_ _ | refine blk_drew ?_ | refine blk_alloc ?_ _)); exact BK384.out) hb)
                            have n4_ := Aside0.mk (below_step (by repeat (first | (with_reducible first | exact HB.out | apply below_alloc | apply pw_below_drewN | apply below_drew1 | refine below_set ?_ GE384.out) | exact HB.out)) hb)
                            clear HO_0
                            clear HO_1
                            clear HO_5
                            clear BK384
                            clear HB
                            have HO_0 := n0_
                            have HO_1 := n1_
                            have HO_5 := n2_
                            have BK384 := n3_
                            have HB := n4_
                            clear n0_ n1_ n2_ n3_ n4_
                            (try clear hb)
                            (try clear hb2)
                            (try clear hk)
                            (try clear hi)
                            refine hK.out _ _ ⟨HS0_, HS1_, HS2_, HS3_⟩ (fun hHeld => ?_)
                            clear hK K
                            refine norm_ (a' := ?_) ?_ ?_
                            rotate_left
                            · show Act.put _ (some 31) _ = _
                              simp only [Act.put, List.setIfInBounds_toArray, List.set_cons_zero, List.set_cons_succ, i64_w, i32_w]
                              rfl
                            exact norm_ (by simp only [putAll, Act.put, List.setIfInBounds_toArray, List.set_cons_zero, List.set_cons_succ]) (hCont (gb384) _ ⟨hHeld, (by (with_reducible repeat (first | apply Kd.R_alloc | apply Kd.R_drewN | apply Kd.R_drew)); exact Kd.R_mono HO_0.out (fun _ hk => ⟨hk.1.1, ⟨hk.1.2, hk.2⟩⟩)), (by (with_reducible repeat (first | apply Kd.R_alloc | apply Kd.R_drewN | apply Kd.R_drew)); exact Kd.R_mono HO_1.out (fun _ hk => ⟨hk.1.1, ⟨hk.1.2, hk.2⟩⟩)), (by (with_reducible repeat (first | apply Kd.R_alloc | apply Kd.R_drewN | apply Kd.R_drew)); exact Kd.R_mono HO_5.out (fun _ hk => ⟨hk.1.1, ⟨hk.1.2, hk.2⟩⟩)), (by (with_reducible repeat (first | refine blk_drewN ?_ _ | refine blk_drew ?_ | refine blk_alloc ?_ _)); exact BK384.out), GW384.out, GE384.out, (by repeat (first | (with_reducible first | exact HB.out | apply below_alloc | apply pw_below_drewN | apply below_drew1 | refine below_set ?_ GE384.out) | exact HB.out))⟩)
                        rintro gb384 w26 ⟨hS_, h0_, h1_, h2_, h3_, h4_, h5_, h6_⟩
                        have n0_ : Aside0 (Kd.R k30 30 w26 w.heap.size (fun k_ => some k_ ≠ (.slice (some ad381) t377.length co23 : Value).ownBlock ∧ some k_ ≠ (u5 : Value).ownBlock ∧ k_ ≠ gb384) (.slice (some ad380) t374.length co22) t374) := ⟨h0_⟩
                        have n1_ : Aside0 (Kd.R k30 30 w26 w.heap.size (fun k_ => some k_ ≠ (.slice (some ad380) t374.length co22 : Value).ownBlock ∧ some k_ ≠ (u5 : Value).ownBlock ∧ k_ ≠ gb384) (.slice (some ad381) t377.length co23) t377) := ⟨h1_⟩
                        have n2_ : Aside0 (Kd.R k30 30 w26 w.heap.size (fun k_ => some k_ ≠ (.slice (some ad380) t374.length co22 : Value).ownBlock ∧ some k_ ≠ (.slice (some ad381) t377.length co23 : Value).ownBlock ∧ k_ ≠ gb384) u5 x5_1) := ⟨h2_⟩
                        have n3_ : Aside0 (w26.heap[gb384]? = some (.cells #[.int .i64 0, .int .i64 0] 30 (0, 0))) := ⟨h3_⟩
                        have n4_ : Aside0 (w.heap.size ≤ gb384) := ⟨h4_⟩
                        have n5_ : Aside0 (w.heap.size ≤ gb384) := ⟨h5_⟩
                        have n6_ : Aside0 (Below w.heap.size w w26) := ⟨h6_⟩
                        clear HO_0
                        clear HO_1
                        clear HO_5
                        clear HB
                        clear h0_ h1_ h2_ h3_ h4_ h5_ h6_
                        have HO_0 := n0_
                        have HO_1 := n1_
                        have HO_5 := n2_
                        have BK384 := n3_
                        have GW384 := n4_
                        have GE384 := n5_
                        have HB := n6_
                        clear n0_ n1_ n2_ n3_ n4_ n5_ n6_
                        have hHeld : w26.cell? (ad380.add ((x6_1).toNat * 2)) = some (.int .i64 ((rd_T30 t374 x6_1).f0)) ∧ w26.cell? ⟨(ad380.add ((x6_1).toNat * 2)).block, (ad380.add ((x6_1).toNat * 2)).off + 1, none⟩ = some (.int .i64 ((rd_T30 t374 x6_1).f1)) ∧ w26.cell? (ad381.add ((x7_1).toNat * 2)) = some (.int .i64 ((rd_T30 t377 x7_1).f0)) ∧ w26.cell? ⟨(ad381.add ((x7_1).toNat * 2)).block, (ad381.add ((x7_1).toNat * 2)).off + 1, none⟩ = some (.int .i64 ((rd_T30 t377 x7_1).f1)) := hS_
                        refine norm_ (a' := ?_) ?_ ?_
                        rotate_left
                        · simp only [putAll, Act.put, List.setIfInBounds_toArray, List.set_cons_zero, List.set_cons_succ]
                          rfl
                        refine one_ (i := 10) (N := none) #[true, true, true, true, true, true, true, true, true, true, true] rfl rfl (one_of HT_.out (by kernel_rfl)) (by decide) (fun K hK => ?_)
                        have hs27 : w26.cell? ⟨gb384, 0, none⟩ = some (.int .i64 0) := (blk_cell BK384.out 0).trans rfl
                        have hfs27 := blk_frozen BK384.out 0
                        have hs28 : w26.cell? ⟨gb384, 1, none⟩ = some (.int .i64 0) := (blk_cell BK384.out 1).trans rfl
                        have hfs28 := blk_frozen BK384.out 1
                        refine skip_ (w1 := ?_) (by rfl) rfl ?_ ?_
                        rotate_left
                        · go_simp
                          rfl
                        refine hK.out _ _ ⟨((cell_far (p := ⟨gb384, _, none⟩) (by first | exact Kd.own_blk (Kd.R_away HO_0.out (fun _ hk => hk.2.2)) | (rw [add_block]; exact Kd.own_blk (Kd.R_away HO_0.out (fun _ hk => hk.2.2))) | (show (Addr.add _ _).block ≠ _; rw [add_block]; exact Kd.own_blk (Kd.R_away HO_0.out (fun _ hk => hk.2.2))) | (dsimp only; exact Kd.own_blk (Kd.R_away HO_0.out (fun _ hk => hk.2.2)))) _).trans (((cell_far (p := ⟨gb384, _, none⟩) (by first | exact Kd.own_blk (Kd.R_away HO_0.out (fun _ hk => hk.2.2)) | (rw [add_block]; exact Kd.own_blk (Kd.R_away HO_0.out (fun _ hk => hk.2.2))) | (show (Addr.add _ _).block ≠ _; rw [add_block]; exact Kd.own_blk (Kd.R_away HO_0.out (fun _ hk => hk.2.2))) | (dsimp only; exact Kd.own_blk (Kd.R_away HO_0.out (fun _ hk => hk.2.2)))) _).trans (hHeld.1)))), ((cell_far (p := ⟨gb384, _, none⟩) (by first | exact Kd.own_blk (Kd.R_away HO_0.out (fun _ hk => hk.2.2)) | (rw [add_block]; exact Kd.own_blk (Kd.R_away HO_0.out (fun _ hk => hk.2.2))) | (show (Addr.add _ _).block ≠ _; rw [add_block]; exact Kd.own_blk (Kd.R_away HO_0.out (fun _ hk => hk.2.2))) | (dsimp only; exact Kd.own_blk (Kd.R_away HO_0.out (fun _ hk => hk.2.2)))) _).trans (((cell_far (p := ⟨gb384, _, none⟩) (by first | exact Kd.own_blk (Kd.R_away HO_0.out (fun _ hk => hk.2.2)) | (rw [add_block]; exact Kd.own_blk (Kd.R_away HO_0.out (fun _ hk => hk.2.2))) | (show (Addr.add _ _).block ≠ _; rw [add_block]; exact Kd.own_blk (Kd.R_away HO_0.out (fun _ hk => hk.2.2))) | (dsimp only; exact Kd.own_blk (Kd.R_away HO_0.out (fun _ hk => hk.2.2)))) _).trans (hHeld.2.1)))), ((cell_far (p := ⟨gb384, _, none⟩) (by first | exact Kd.own_blk (Kd.R_away HO_1.out (fun _ hk => hk.2.2)) | (rw [add_block]; exact Kd.own_blk (Kd.R_away HO_1.out (fun _ hk => hk.2.2))) | (show (Addr.add _ _).block ≠ _; rw [add_block]; exact Kd.own_blk (Kd.R_away HO_1.out (fun _ hk => hk.2.2))) | (dsimp only; exact Kd.own_blk (Kd.R_away HO_1.out (fun _ hk => hk.2.2)))) _).trans (((cell_far (p := ⟨gb384, _, none⟩) (by first | exact Kd.own_blk (Kd.R_away HO_1.out (fun _ hk => hk.2.2)) | (rw [add_block]; exact Kd.own_blk (Kd.R_away HO_1.out (fun _ hk => hk.2.2))) | (show (Addr.add _ _).block ≠ _; rw [add_block]; exact Kd.own_blk (Kd.R_away HO_1.out (fun _ hk => hk.2.2))) | (dsimp only; exact Kd.own_blk (Kd.R_away HO_1.out (fun _ hk => hk.2.2)))) _).trans (hHeld.2.2.1)))), ((cell_far (p := ⟨gb384, _, none⟩) (by first | exact Kd.own_blk (Kd.R_away HO_1.out (fun _ hk => hk.2.2)) | (rw [add_block]; exact Kd.own_blk (Kd.R_away HO_1.out (fun _ hk => hk.2.2))) | (show (Addr.add _ _).block ≠ _; rw [add_block]; exact Kd.own_blk (Kd.R_away HO_1.out (fun _ hk => hk.2.2))) | (dsimp only; exact Kd.own_blk (Kd.R_away HO_1.out (fun _ hk => hk.2.2)))) _).trans (((cell_far (p := ⟨gb384, _, none⟩) (by first | exact Kd.own_blk (Kd.R_away HO_1.out (fun _ hk => hk.2.2)) | (rw [add_block]; exact Kd.own_blk (Kd.R_away HO_1.out (fun _ hk => hk.2.2))) | (show (Addr.add _ _).block ≠ _; rw [add_block]; exact Kd.own_blk (Kd.R_away HO_1.out (fun _ hk => hk.2.2))) | (dsimp only; exact Kd.own_blk (Kd.R_away HO_1.out (fun _ hk => hk.2.2)))) _).trans (hHeld.2.2.2))))⟩ (fun hHeld => ?_)
                        clear hK K
                        refine done_ (done_of HT_.out (by kernel_rfl)) ?_
                        have hcz29_0 : w26.cell? ⟨gb384, 0, none⟩ = some (.int .i64 0) := (blk_cell BK384.out 0).trans rfl
                        have hcz29_1 : w26.cell? ⟨gb384, 1, none⟩ = some (.int .i64 0) := (blk_cell BK384.out 1).trans rfl
                        have hfz29_0 := blk_frozen BK384.out 0
                        have hfz29_1 := blk_frozen BK384.out 1
                        try go_wp2_with (first | ((with_reducible refine gate_callee (f := 48) rfl ?_); refine goesL_ (some 33) rfl rfl Try.func48 (by kernel_rfl) rfl #[.agg #[.int .i64 t382, .int .i64 t383]] rfl (by (try simp only [List.map_toArray, List.map_cons, List.map_nil]); first | done | rfl | (simp only [List.length_drop, List.length_take]; rfl)) ?_; (with_reducible refine (span_empty.calls t382 t383 true _ A18.out).mono ?_); rintro e w30 ⟨rfl, hb⟩; refine ⟨_, rfl, ?_⟩; have n0_ := Aside0.mk (Kd.R_below (by (with_reducible repeat (first | apply Kd.R_alloc | apply Kd.R_drewN | apply Kd.R_drew)); exact (Kd.R_mono (Kd.R_far (p := ⟨gb384, 1, none⟩) (Kd.R_far (p := ⟨gb384, 0, none⟩) (Kd.R_mono HO_0.out (fun k_ hk => (⟨hk, hk.2.2⟩ : _ ∧ k_ ≠ gb384))) (fun _ hk => hk.2) (.int .i64 t382)) (fun _ hk => hk.2) (.int .i64 t383)) (fun _ h_ => h_.1))) hb); have n1_ := Aside0.mk (Kd.R_below (by (with_reducible repeat (first | apply Kd.R_alloc | apply Kd.R_drewN | apply Kd.R_drew)); exact (Kd.R_mono (Kd.R_far (p := ⟨gb384, 1, none⟩) (Kd.R_far (p := ⟨gb384, 0, none⟩) (Kd.R_mono HO_1.out (fun k_ hk => (⟨hk, hk.2.2⟩ : _ ∧ k_ ≠ gb384))) (fun _ hk => hk.2) (.int .i64 t382)) (fun _ hk => hk.2) (.int .i64 t383)) (fun _ h_ => h_.1))) hb); have n2_ := Aside0.mk (Kd.R_below (by (with_reducible repeat (first | apply Kd.R_alloc | apply Kd.R_drewN | apply Kd.R_drew)); exact (Kd.R_mono (Kd.R_far (p := ⟨gb384, 1, none⟩) (Kd.R_far (p := ⟨gb384, 0, none⟩) (Kd.R_mono HO_5.out (fun k_ hk => (⟨hk, hk.2.2⟩ : _ ∧ k_ ≠ gb384))) (fun _ hk => hk.2) (.int .i64 t382)) (fun _ hk => hk.2) (.int .i64 t383)) (fun _ h_ => h_.1))) hb); have n3_ := Aside0.mk (blk_below (g := gb384) (o := .cells #[.int .i64 t382, .int .i64 t383] 30 (0, 0)) (by (with_reducible repeat (first | refine blk_drewN ?_ _ | refine blk_drew ?_ | refine blk_alloc ?_ _)); refine blk_put (cs := #[.int .i64 t382, .int .i64 0]) ?_ 1 _ rfl; (with_reducible repeat (first | refine blk_drewN ?_ _ | refine blk_drew ?_ | refine blk_alloc ?_ _)); refine blk_put (cs := #[.int .i64 0, .int .i64 0]) ?_ 0 _ rfl; (with_reducible repeat (first | refine blk_drewN ?_ _ | refine blk_drew ?_ | refine blk_alloc ?_ _)); exact BK384.out) hb); have n4_ := Aside0.mk (below_step (by repeat (first | (with_reducible first | exact HB.out | apply below_alloc | apply pw_below_drewN | apply below_drew1 | refine below_set ?_ GE384.out) | exact HB.out)) hb); clear HO_0; clear HO_1; clear HO_5; clear BK384; clear HB; have HO_0 := n0_; have HO_1 := n1_; have HO_5 := n2_; have BK384 := n3_; have HB := n4_; clear n0_ n1_ n2_ n3_ n4_; (try clear hb); (try clear hb2); (try clear hk); (try clear hi)))
                        have n0_ := Aside0.mk (Kd.R_drew HO_0.out)
                        have n1_ := Aside0.mk (Kd.R_drew HO_1.out)
                        have n2_ := Aside0.mk (Kd.R_drew HO_5.out)
                        have n3_ := Aside0.mk (blk_drew BK384.out)
                        have n4_ := Aside0.mk (below_drew1 HB.out)
                        clear HO_0
                        clear HO_1
                        clear HO_5
                        clear BK384
                        clear HB
                        have HO_0 := n0_
                        have HO_1 := n1_
                        have HO_5 := n2_
                        have BK384 := n3_
                        have HB := n4_
                        clear n0_ n1_ n2_ n3_ n4_
                        have p386 : 0 ≤ (x6_1 : Int) := of_decide_eq_true (by first | (with_reducible assumption) | assumption)
                        have q386 : x6_1 < (t374.length : Int) := of_decide_eq_true (by first | (with_reducible assumption) | assumption)
                        obtain ⟨ad386, e386, hx386_0, hx386_1⟩ := at_T30 (Kd.R_reads' HO_0.out).2.2 x6_1 p386 q386
                        obtain rfl : ad380 = ad386 := (by injection e386)
                        replace p386 := eq_true p386
                        replace q386 := eq_true q386
                        have p387 : 0 ≤ (x7_1 : Int) := of_decide_eq_true (by first | (with_reducible assumption) | assumption)
                        have q387 : x7_1 < (t377.length : Int) := of_decide_eq_true (by first | (with_reducible assumption) | assumption)
                        obtain ⟨ad387, e387, hx387_0, hx387_1⟩ := at_T30 (Kd.R_reads' HO_1.out).2.2 x7_1 p387 q387
                        obtain rfl : ad381 = ad387 := (by injection e387)
                        replace p387 := eq_true p387
                        replace q387 := eq_true q387
                        refine start_ (n := 11) (S := fun w' => w'.cell? (ad380.add ((x6_1).toNat * 2)) = some (.int .i64 ((rd_T30 t374 x6_1).f0)) ∧ w'.cell? ⟨(ad380.add ((x6_1).toNat * 2)).block, (ad380.add ((x6_1).toNat * 2)).off + 1, none⟩ = some (.int .i64 ((rd_T30 t374 x6_1).f1)) ∧ w'.cell? (ad381.add ((x7_1).toNat * 2)) = some (.int .i64 ((rd_T30 t377 x7_1).f0)) ∧ w'.cell? ⟨(ad381.add ((x7_1).toNat * 2)).block, (ad381.add ((x7_1).toNat * 2)).off + 1, none⟩ = some (.int .i64 ((rd_T30 t377 x7_1).f1))) (ds := []) #[false, false, false, false, false, false, false, false, false, false, false] (by kernel_rfl) rfl rfl ⟨hx386_0, hx386_1, hx387_0, hx387_1⟩ (fun hHeld => ?_); refine with_tabW span_Meet.tab8 span_Meet.bits8 (fun HT_ HW_ => ?_)
                        generalize w30.drew = w31 at HO_0 HO_1 HO_5 BK384 HB hx386_0 hx386_1 hx387_0 hx387_1 hHeld ⊢
                        refine pure_ (i := 0) (N := some 39) (v := ?_) (a' := ?_) #[true, false, false, false, false, false, false, false, false, false, false] rfl rfl (any_of HT_.out (by kernel_rfl)) (fun _ _ _ h => h) (Or.inl ⟨by rfl, ?_⟩) ?_ ?_
                        rotate_left
                        · intro w'
                          go_simp
                          with_reducible rfl
                        rotate_left
                        · simp only [Act.put, List.setIfInBounds_toArray, List.set_cons_zero, List.set_cons_succ, i64_w, i32_w]
                          rfl
                        refine pure_ (i := 1) (N := some 40) (v := ?_) (a' := ?_) #[true, true, false, false, false, false, false, false, false, false, false] rfl rfl (any_of HT_.out (by kernel_rfl)) (fun _ _ _ h => h) (Or.inl ⟨by rfl, ?_⟩) ?_ ?_
                        rotate_left
                        · intro w'
                          go_simp
                          with_reducible rfl
                        rotate_left
                        · simp only [Act.put, List.setIfInBounds_toArray, List.set_cons_zero, List.set_cons_succ, i64_w, i32_w]
                          rfl
                        refine pure_ (i := 2) (N := some 41) (v := ?_) (a' := ?_) #[true, true, true, false, false, false, false, false, false, false, false] rfl rfl (any_of HT_.out (by kernel_rfl)) (fun _ _ _ h => h) (Or.inl ⟨by rfl, ?_⟩) ?_ ?_
                        rotate_left
                        · intro w'
                          go_simp
                          with_reducible rfl
                        rotate_left
                        · simp only [Act.put, List.setIfInBounds_toArray, List.set_cons_zero, List.set_cons_succ, i64_w, i32_w]
                          rfl
                        refine pure_ (i := 3) (N := some 42) (v := ?_) (a' := ?_) #[true, true, true, true, false, false, false, false, false, false, false] rfl rfl (any_of HT_.out (by kernel_rfl)) (fun _ _ _ h => h) (Or.inl ⟨by rfl, ?_⟩) ?_ ?_
                        rotate_left
                        · intro w'
                          go_simp
                          with_reducible rfl
                        rotate_left
                        · simp only [Act.put, List.setIfInBounds_toArray, List.set_cons_zero, List.set_cons_succ, i64_w, i32_w]
                          rfl
                        refine pure_ (i := 5) (N := some 44) (v := ?_) (a' := ?_) #[true, true, true, true, false, true, false, false, false, false, false] rfl rfl (any_of HT_.out (by kernel_rfl)) (fun _ _ _ h => h) (Or.inl ⟨by rfl, ?_⟩) ?_ ?_
                        rotate_left
                        · intro w'
                          go_simp
                          with_reducible rfl
                        rotate_left
                        · simp only [Act.put, List.setIfInBounds_toArray, List.set_cons_zero, List.set_cons_succ, i64_w, i32_w]
                          rfl
                        refine pure_ (i := 6) (N := some 45) (v := ?_) (a' := ?_) #[true, true, true, true, false, true, true, false, false, false, false] rfl rfl (any_of HT_.out (by kernel_rfl)) (fun _ _ _ h => h) (Or.inl ⟨by rfl, ?_⟩) ?_ ?_
                        rotate_left
                        · intro w'
                          go_simp
                          with_reducible rfl
                        rotate_left
                        · simp only [Act.put, List.setIfInBounds_toArray, List.set_cons_zero, List.set_cons_succ, i64_w, i32_w]
                          rfl
                        refine pure_ (i := 7) (N := some 46) (v := ?_) (a' := ?_) #[true, true, true, true, false, true, true, true, false, false, false] rfl rfl (any_of HT_.out (by kernel_rfl)) (fun _ _ _ h => h) (Or.inl ⟨by rfl, ?_⟩) ?_ ?_
                        rotate_left
                        · intro w'
                          go_simp
                          with_reducible rfl
                        rotate_left
                        · simp only [Act.put, List.setIfInBounds_toArray, List.set_cons_zero, List.set_cons_succ, i64_w, i32_w]
                          rfl
                        refine pure_ (i := 8) (N := some 47) (v := ?_) (a' := ?_) #[true, true, true, true, false, true, true, true, true, false, false] rfl rfl (any_of HT_.out (by kernel_rfl)) (fun _ _ _ h => h) (Or.inl ⟨by rfl, ?_⟩) ?_ ?_
                        rotate_left
                        · intro w'
                          go_simp
                          with_reducible rfl
                        rotate_left
                        · simp only [Act.put, List.setIfInBounds_toArray, List.set_cons_zero, List.set_cons_succ, i64_w, i32_w]
                          rfl
                        refine take_ (i := 4) (N := some 43) (v := ?_) (a' := ?_) #[true, true, true, true, true, true, true, true, true, false, false] rfl rfl (take_ofW HT_.out HW_.out (by kernel_rfl)) (fun _ _ _ h => h) (Or.inl ⟨by rfl, ?_⟩) hHeld ?_ ?_
                        rotate_left
                        · rintro w' ⟨s0, s1, s2, s3⟩
                          go_simp
                          with_reducible rfl
                        rotate_left
                        · simp only [Act.put, List.setIfInBounds_toArray, List.set_cons_zero, List.set_cons_succ, i64_w, i32_w]
                          rfl
                        refine take_ (i := 9) (N := some 48) (v := ?_) (a' := ?_) #[true, true, true, true, true, true, true, true, true, true, false] rfl rfl (take_ofW HT_.out HW_.out (by kernel_rfl)) (fun _ _ _ h => h) (Or.inl ⟨by rfl, ?_⟩) hHeld ?_ ?_
                        rotate_left
                        · rintro w' ⟨s0, s1, s2, s3⟩
                          go_simp
                          with_reducible rfl
                        rotate_left
                        · simp only [Act.put, List.setIfInBounds_toArray, List.set_cons_zero, List.set_cons_succ, i64_w, i32_w]
                          rfl
                        refine pure_ (i := 10) (N := some 49) (v := ?_) (a' := ?_) #[true, true, true, true, true, true, true, true, true, true, true] rfl rfl (any_of HT_.out (by kernel_rfl)) (fun _ _ _ h => h) (Or.inl ⟨by rfl, ?_⟩) ?_ ?_
                        rotate_left
                        · intro w'
                          go_simp
                          with_reducible rfl
                        rotate_left
                        · simp only [Act.put, List.setIfInBounds_toArray, List.set_cons_zero, List.set_cons_succ, i64_w, i32_w]
                          rfl
                        refine done_ (done_of HT_.out (by kernel_rfl)) ?_
                        try go_wp2
                        go_roundg kj6
                        case measure => have := HK1.out; have := HJ6.out; omega
                        case rel => exact ⟨(x5_1), (wrap64 (x6_1 + 1)), (x7_1), (by first | rfl | (simp; done) | (simp [*]; done)), (by first | rfl | (simp; done) | (simp [*]; done)), H', ⟨by have := HK1.out; have := HJ6.out; omega⟩, ⟨by (with_reducible repeat (first | apply Kd.R_alloc | apply Kd.R_drewN | apply Kd.R_drew)); exact Kd.R_mono HO_0.out (fun _ hk => ⟨hk.1, hk.2.1⟩)⟩, ⟨by (with_reducible repeat (first | apply Kd.R_alloc | apply Kd.R_drewN | apply Kd.R_drew)); exact Kd.R_mono HO_1.out (fun _ hk => ⟨hk.1, hk.2.1⟩)⟩, ⟨by (with_reducible repeat (first | apply Kd.R_alloc | apply Kd.R_drewN | apply Kd.R_drew)); exact Kd.R_mono HO_5.out (fun _ hk => ⟨hk.1, hk.2.1⟩)⟩, ⟨by repeat (first | (with_reducible first | exact HB.out | apply below_alloc | apply pw_below_drewN | apply below_drew1 | refine below_set ?_ GE384.out) | exact HB.out)⟩⟩
                      · rw [if_neg c20] at H
                        have c20b0 : decide (((rd_T30 t374 x6_1).f1) < ((rd_T30 t377 x7_1).f1)) = false := decide_eq_false c20
                        clear c20
                        have H' := Aside0.mk H
                        clear H
                        try go_wp2
                        have n0_ := Aside0.mk (Kd.R_drew HO_0.out)
                        have n1_ := Aside0.mk (Kd.R_drew HO_1.out)
                        have n2_ := Aside0.mk (Kd.R_drew HO_5.out)
                        have n3_ := Aside0.mk (below_drew1 HB.out)
                        clear HO_0
                        clear HO_1
                        clear HO_5
                        clear HB
                        have HO_0 := n0_
                        have HO_1 := n1_
                        have HO_5 := n2_
                        have HB := n3_
                        clear n0_ n1_ n2_ n3_
                        obtain ⟨Ao33, co33, eo33⟩ := Kd.R_slice HO_0.out
                        (first | subst eo33 | (injection eo33 with f1_ f2_ f3_; have f4_ := f1_.symm; have f5_ := f3_.symm; clear f1_ f2_ f3_; subst f4_; subst f5_))
                        have p380 : 0 ≤ (x6_1 : Int) := of_decide_eq_true (by first | (with_reducible assumption) | assumption)
                        have q380 : x6_1 < (t374.length : Int) := of_decide_eq_true (by first | (with_reducible assumption) | assumption)
                        obtain ⟨ad380, e380, hx380_0, hx380_1⟩ := at_T30 (Kd.R_reads' HO_0.out).2.2 x6_1 p380 q380
                        cases e380
                        replace p380 := eq_true p380
                        replace q380 := eq_true q380
                        obtain ⟨Ao34, co34, eo34⟩ := Kd.R_slice HO_1.out
                        (first | subst eo34 | (injection eo34 with f1_ f2_ f3_; have f4_ := f1_.symm; have f5_ := f3_.symm; clear f1_ f2_ f3_; subst f4_; subst f5_))
                        have p381 : 0 ≤ (x7_1 : Int) := of_decide_eq_true (by first | (with_reducible assumption) | assumption)
                        have q381 : x7_1 < (t377.length : Int) := of_decide_eq_true (by first | (with_reducible assumption) | assumption)
                        obtain ⟨ad381, e381, hx381_0, hx381_1⟩ := at_T30 (Kd.R_reads' HO_1.out).2.2 x7_1 p381 q381
                        cases e381
                        replace p381 := eq_true p381
                        replace q381 := eq_true q381
                        refine start_ (n := 11) (S := fun w' => w'.cell? (ad380.add ((x6_1).toNat * 2)) = some (.int .i64 ((rd_T30 t374 x6_1).f0)) ∧ w'.cell? ⟨(ad380.add ((x6_1).toNat * 2)).block, (ad380.add ((x6_1).toNat * 2)).off + 1, none⟩ = some (.int .i64 ((rd_T30 t374 x6_1).f1)) ∧ w'.cell? (ad381.add ((x7_1).toNat * 2)) = some (.int .i64 ((rd_T30 t377 x7_1).f0)) ∧ w'.cell? ⟨(ad381.add ((x7_1).toNat * 2)).block, (ad381.add ((x7_1).toNat * 2)).off + 1, none⟩ = some (.int .i64 ((rd_T30 t377 x7_1).f1))) (ds := []) #[false, false, false, false, false, false, false, false, false, false, false] (by kernel_rfl) rfl rfl ⟨hx380_0, hx380_1, hx381_0, hx381_1⟩ (fun hHeld => ?_); refine with_tabW span_Meet.tab5 span_Meet.bits5 (fun HT_ HW_ => ?_)
                        generalize wc.drew = w32 at HO_0 HO_1 HO_5 HB hx380_0 hx380_1 hx381_0 hx381_1 hHeld ⊢
                        refine pure_ (i := 0) (N := some 23) (v := ?_) (a' := ?_) #[true, false, false, false, false, false, false, false, false, false, false] rfl rfl (any_of HT_.out (by kernel_rfl)) (fun _ _ _ h => h) (Or.inl ⟨by rfl, ?_⟩) ?_ ?_
                        rotate_left
                        · intro w'
                          go_simp
                          with_reducible rfl
                        rotate_left
                        · simp only [Act.put, List.setIfInBounds_toArray, List.set_cons_zero, List.set_cons_succ, i64_w, i32_w]
                          rfl
                        refine pure_ (i := 1) (N := some 24) (v := ?_) (a' := ?_) #[true, true, false, false, false, false, false, false, false, false, false] rfl rfl (any_of HT_.out (by kernel_rfl)) (fun _ _ _ h => h) (Or.inl ⟨by rfl, ?_⟩) ?_ ?_
                        rotate_left
                        · intro w'
                          go_simp
                          with_reducible rfl
                        rotate_left
                        · simp only [Act.put, List.setIfInBounds_toArray, List.set_cons_zero, List.set_cons_succ, i64_w, i32_w]
                          rfl
                        refine pure_ (i := 2) (N := some 25) (v := ?_) (a' := ?_) #[true, true, true, false, false, false, false, false, false, false, false] rfl rfl (any_of HT_.out (by kernel_rfl)) (fun _ _ _ h => h) (Or.inl ⟨by rfl, ?_⟩) ?_ ?_
                        rotate_left
                        · intro w'
                          go_simp
                          with_reducible rfl
                        rotate_left
                        · simp only [Act.put, List.setIfInBounds_toArray, List.set_cons_zero, List.set_cons_succ, i64_w, i32_w]
                          rfl
                        refine pure_ (i := 4) (N := some 27) (v := ?_) (a' := ?_) #[true, true, true, false, true, false, false, false, false, false, false] rfl rfl (any_of HT_.out (by kernel_rfl)) (fun _ _ _ h => h) (Or.inl ⟨by rfl, ?_⟩) ?_ ?_
                        rotate_left
                        · intro w'
                          go_simp
                          with_reducible rfl
                        rotate_left
                        · simp only [Act.put, List.setIfInBounds_toArray, List.set_cons_zero, List.set_cons_succ, i64_w, i32_w]
                          rfl
                        refine pure_ (i := 5) (N := some 28) (v := ?_) (a' := ?_) #[true, true, true, false, true, true, false, false, false, false, false] rfl rfl (any_of HT_.out (by kernel_rfl)) (fun _ _ _ h => h) (Or.inl ⟨by rfl, ?_⟩) ?_ ?_
                        rotate_left
                        · intro w'
                          go_simp
                          with_reducible rfl
                        rotate_left
                        · simp only [Act.put, List.setIfInBounds_toArray, List.set_cons_zero, List.set_cons_succ, i64_w, i32_w]
                          rfl
                        refine pure_ (i := 6) (N := some 29) (v := ?_) (a' := ?_) #[true, true, true, false, true, true, true, false, false, false, false] rfl rfl (any_of HT_.out (by kernel_rfl)) (fun _ _ _ h => h) (Or.inl ⟨by rfl, ?_⟩) ?_ ?_
                        rotate_left
                        · intro w'
                          go_simp
                          with_reducible rfl
                        rotate_left
                        · simp only [Act.put, List.setIfInBounds_toArray, List.set_cons_zero, List.set_cons_succ, i64_w, i32_w]
                          rfl
                        refine take_ (i := 3) (N := some 26) (v := ?_) (a' := ?_) #[true, true, true, true, true, true, true, false, false, false, false] rfl rfl (take_ofW HT_.out HW_.out (by kernel_rfl)) (fun _ _ _ h => h) (Or.inl ⟨by rfl, ?_⟩) hHeld ?_ ?_
                        rotate_left
                        · rintro w' ⟨s0, s1, s2, s3⟩
                          go_simp
                          with_reducible rfl
                        rotate_left
                        · simp only [Act.put, List.setIfInBounds_toArray, List.set_cons_zero, List.set_cons_succ, i64_w, i32_w]
                          rfl
                        refine take_ (i := 7) (N := some 30) (v := ?_) (a' := ?_) #[true, true, true, true, true, true, true, true, false, false, false] rfl rfl (take_ofW HT_.out HW_.out (by kernel_rfl)) (fun _ _ _ h => h) (Or.inl ⟨by rfl, ?_⟩) hHeld ?_ ?_
                        rotate_left
                        · rintro w' ⟨s0, s1, s2, s3⟩
                          go_simp
                          with_reducible rfl
                        rotate_left
                        · simp only [Act.put, List.setIfInBounds_toArray, List.set_cons_zero, List.set_cons_succ, i64_w, i32_w]
                          rfl
                        refine join_ (σ := Nat) 1 #[true, true, true, true, true, true, true, true, true, true, false] (fun s_ => [(31, .agg #[.int .i64 t382, .int .i64 t383]), (8, .pointer (some ⟨s_, 0, none⟩))]) (fun s_ w' => (w'.cell? (ad380.add ((x6_1).toNat * 2)) = some (.int .i64 ((rd_T30 t374 x6_1).f0)) ∧ w'.cell? ⟨(ad380.add ((x6_1).toNat * 2)).block, (ad380.add ((x6_1).toNat * 2)).off + 1, none⟩ = some (.int .i64 ((rd_T30 t374 x6_1).f1)) ∧ w'.cell? (ad381.add ((x7_1).toNat * 2)) = some (.int .i64 ((rd_T30 t377 x7_1).f0)) ∧ w'.cell? ⟨(ad381.add ((x7_1).toNat * 2)).block, (ad381.add ((x7_1).toNat * 2)).off + 1, none⟩ = some (.int .i64 ((rd_T30 t377 x7_1).f1))) ∧ (Kd.R k30 30 w' w.heap.size (fun k_ => some k_ ≠ (.slice (some ad381) t377.length co34 : Value).ownBlock ∧ some k_ ≠ (u5 : Value).ownBlock ∧ k_ ≠ s_) (.slice (some ad380) t374.length co33) t374) ∧ (Kd.R k30 30 w' w.heap.size (fun k_ => some k_ ≠ (.slice (some ad380) t374.length co33 : Value).ownBlock ∧ some k_ ≠ (u5 : Value).ownBlock ∧ k_ ≠ s_) (.slice (some ad381) t377.length co34) t377) ∧ (Kd.R k30 30 w' w.heap.size (fun k_ => some k_ ≠ (.slice (some ad380) t374.length co33 : Value).ownBlock ∧ some k_ ≠ (.slice (some ad381) t377.length co34 : Value).ownBlock ∧ k_ ≠ s_) u5 x5_1) ∧ (w'.heap[s_]? = some (.cells #[.int .i64 0, .int .i64 0] 30 (0, 0))) ∧ (w.heap.size ≤ s_) ∧ (w.heap.size ≤ s_) ∧ (Below w.heap.size w w')) ?_ ?_
                        rotate_left
                        · intro hCont
                          refine two_ (i := 8) (j := 9) (Ni := some 31) (Nj := some 8) #[true, true, true, true, true, true, true, true, true, false, false] #[true, true, true, true, true, true, true, true, false, true, false] rfl rfl rfl rfl (two_of HT_.out (by kernel_rfl)) (by decide) (by decide) (fun K hK => ?_) (fun K hK => ?_)
                          · skip
                            refine goes_ Try.func55 (by kernel_rfl) rfl #[.agg #[.int .i64 ((rd_T30 t374 x6_1).f0), .int .i64 ((rd_T30 t374 x6_1).f1)], .agg #[.int .i64 ((rd_T30 t377 x7_1).f0), .int .i64 ((rd_T30 t377 x7_1).f1)]] (by rfl) rfl rfl (by (try simp only [List.map_toArray, List.map_cons, List.map_nil]); first | done | rfl | (simp only [List.length_drop, List.length_take]; rfl)) ?_
                            with_reducible refine (span_both.calls ((rd_T30 t374 x6_1).f0) ((rd_T30 t374 x6_1).f1) ((rd_T30 t377 x7_1).f0) ((rd_T30 t377 x7_1).f1) t382 t383 _ A17.out).mono ?_
                            rintro e w35 ⟨rfl, hb⟩
                            have HS0_ := (hb.cell (World.block_lt_of_cell? _ _ (hHeld.1))).trans (hHeld.1)
                            have HS1_ := (hb.cell (World.block_lt_of_cell? _ _ (hHeld.2.1))).trans (hHeld.2.1)
                            have HS2_ := (hb.cell (World.block_lt_of_cell? _ _ (hHeld.2.2.1))).trans (hHeld.2.2.1)
                            have HS3_ := (hb.cell (World.block_lt_of_cell? _ _ (hHeld.2.2.2))).trans (hHeld.2.2.2)
                            refine ⟨_, rfl, ?_⟩
                            have n0_ := Aside0.mk (Kd.R_below (by (with_reducible repeat (first | apply Kd.R_alloc | apply Kd.R_drewN | apply Kd.R_drew)); exact HO_0.out) hb)
                            have n1_ := Aside0.mk (Kd.R_below (by (with_reducible repeat (first | apply Kd.R_alloc | apply Kd.R_drewN | apply Kd.R_drew)); exact HO_1.out) hb)
                            have n2_ := Aside0.mk (Kd.R_below (by (with_reducible repeat (first | apply Kd.R_alloc | apply Kd.R_drewN | apply Kd.R_drew)); exact HO_5.out) hb)
                            have n3_ := Aside0.mk (below_step (by repeat (first | (with_reducible first | exact HB.out | apply below_alloc | apply pw_below_drewN | apply below_drew1) | exact HB.out)) hb)
                            clear HO_0
                            clear HO_1
                            clear HO_5
                            clear HB
                            have HO_0 := n0_
                            have HO_1 := n1_
                            have HO_5 := n2_
                            have HB := n3_
                            clear n0_ n1_ n2_ n3_
                            (try clear hb)
                            (try clear hb2)
                            (try clear hk)
                            (try clear hi)
                            refine hK.out _ _ ⟨HS0_, HS1_, HS2_, HS3_⟩ (fun hHeld => ?_)
                            clear hK K
                            refine norm_ (a' := ?_) ?_ ?_
                            rotate_left
                            · show Act.put _ (some 31) _ = _
                              simp only [Act.put, List.setIfInBounds_toArray, List.set_cons_zero, List.set_cons_succ, i64_w, i32_w]
                              rfl
                            refine one_ (i := 9) (N := some 8) #[true, true, true, true, true, true, true, true, true, true, false] rfl rfl (one_of HT_.out (by kernel_rfl)) (by decide) (fun K hK => ?_)
                            refine box_step ?hg (N := 8) ?hd (cs := #[.int .i64 0, .int .i64 0]) (t := 30) ?hr ?_; (case hd => rfl); (case hg => rfl); (case hr => first | (go_simp; done) | (go_simp; rfl))
                            intro gb384 hg w36 hbox hb
                            have HS0_ := (hb.cell (World.block_lt_of_cell? _ _ (hHeld.1))).trans (hHeld.1)
                            have HS1_ := (hb.cell (World.block_lt_of_cell? _ _ (hHeld.2.1))).trans (hHeld.2.1)
                            have HS2_ := (hb.cell (World.block_lt_of_cell? _ _ (hHeld.2.2.1))).trans (hHeld.2.2.1)
                            have HS3_ := (hb.cell (World.block_lt_of_cell? _ _ (hHeld.2.2.2))).trans (hHeld.2.2.2)
                            have n0_ := Aside0.mk (Kd.R_below (Kd.R_elderB (by (with_reducible repeat (first | apply Kd.R_alloc | apply Kd.R_drewN | apply Kd.R_drew)); exact HO_0.out) gb384 (Nat.le_of_eq hg.symm)) hb)
                            have n1_ := Aside0.mk (Kd.R_below (Kd.R_elderB (by (with_reducible repeat (first | apply Kd.R_alloc | apply Kd.R_drewN | apply Kd.R_drew)); exact HO_1.out) gb384 (Nat.le_of_eq hg.symm)) hb)
                            have n2_ := Aside0.mk (Kd.R_below (Kd.R_elderB (by (with_reducible repeat (first | apply Kd.R_alloc | apply Kd.R_drewN | apply Kd.R_drew)); exact HO_5.out) gb384 (Nat.le_of_eq hg.symm)) hb)
                            have n3_ := Aside0.mk (below_step (by repeat (first | (with_reducible first | exact HB.out | apply below_alloc | apply pw_below_drewN | apply below_drew1) | exact HB.out)) hb)
                            have n4_ := Aside0.mk (hbox)
                            have n5_ := Aside0.mk ((by rw [hg]; exact (below_size (by repeat (first | (with_reducible first | exact HB.out | apply below_alloc | apply pw_below_drewN | apply below_drew1) | exact HB.out))) : w.heap.size ≤ gb384))
                            have n6_ := Aside0.mk ((by rw [hg]; exact (below_size (by repeat (first | (with_reducible first | exact HB.out | apply below_alloc | apply pw_below_drewN | apply below_drew1) | exact HB.out))) : w.heap.size ≤ gb384))
                            clear HO_0
                            clear HO_1
                            clear HO_5
                            clear HB
                            have HO_0 := n0_
                            have HO_1 := n1_
                            have HO_5 := n2_
                            have HB := n3_
                            have BK384 := n4_
                            have GW384 := n5_
                            have GE384 := n6_
                            clear n0_ n1_ n2_ n3_ n4_ n5_ n6_
                            clear hb hbox hg
                            refine hK.out _ _ ⟨HS0_, HS1_, HS2_, HS3_⟩ (fun hHeld => ?_)
                            clear hK K
                            refine norm_ (a' := ?_) ?_ ?_
                            rotate_left
                            · show Act.put _ (some 8) _ = _
                              simp only [Act.put, List.setIfInBounds_toArray, List.set_cons_zero, List.set_cons_succ, i64_w, i32_w]
                              rfl
                            exact norm_ (by simp only [putAll, Act.put, List.setIfInBounds_toArray, List.set_cons_zero, List.set_cons_succ]) (hCont (gb384) _ ⟨hHeld, (by (with_reducible repeat (first | apply Kd.R_alloc | apply Kd.R_drewN | apply Kd.R_drew)); exact Kd.R_mono HO_0.out (fun _ hk => ⟨hk.1.1, ⟨hk.1.2, hk.2⟩⟩)), (by (with_reducible repeat (first | apply Kd.R_alloc | apply Kd.R_drewN | apply Kd.R_drew)); exact Kd.R_mono HO_1.out (fun _ hk => ⟨hk.1.1, ⟨hk.1.2, hk.2⟩⟩)), (by (with_reducible repeat (first | apply Kd.R_alloc | apply Kd.R_drewN | apply Kd.R_drew)); exact Kd.R_mono HO_5.out (fun _ hk => ⟨hk.1.1, ⟨hk.1.2, hk.2⟩⟩)), (by (with_reducible repeat (first | refine blk_drewN ?_ _ | refine blk_drew ?_ | refine blk_alloc ?_ _)); exact BK384.out), GW384.out, GE384.out, (by repeat (first | (with_reducible first | exact HB.out | apply below_alloc | apply pw_below_drewN | apply below_drew1 | refine below_set ?_ GE384.out) | exact HB.out))⟩)
                          · skip
                            refine box_step ?hg (N := 8) ?hd (cs := #[.int .i64 0, .int .i64 0]) (t := 30) ?hr ?_; (case hd => rfl); (case hg => rfl); (case hr => first | (go_simp; done) | (go_simp; rfl))
                            intro gb384 hg w35 hbox hb
                            have HS0_ := (hb.cell (World.block_lt_of_cell? _ _ (hHeld.1))).trans (hHeld.1)
                            have HS1_ := (hb.cell (World.block_lt_of_cell? _ _ (hHeld.2.1))).trans (hHeld.2.1)
                            have HS2_ := (hb.cell (World.block_lt_of_cell? _ _ (hHeld.2.2.1))).trans (hHeld.2.2.1)
                            have HS3_ := (hb.cell (World.block_lt_of_cell? _ _ (hHeld.2.2.2))).trans (hHeld.2.2.2)
                            have n0_ := Aside0.mk (Kd.R_below (Kd.R_elderB (by (with_reducible repeat (first | apply Kd.R_alloc | apply Kd.R_drewN | apply Kd.R_drew)); exact HO_0.out) gb384 (Nat.le_of_eq hg.symm)) hb)
                            have n1_ := Aside0.mk (Kd.R_below (Kd.R_elderB (by (with_reducible repeat (first | apply Kd.R_alloc | apply Kd.R_drewN | apply Kd.R_drew)); exact HO_1.out) gb384 (Nat.le_of_eq hg.symm)) hb)
                            have n2_ := Aside0.mk (Kd.R_below (Kd.R_elderB (by (with_reducible repeat (first | apply Kd.R_alloc | apply Kd.R_drewN | apply Kd.R_drew)); exact HO_5.out) gb384 (Nat.le_of_eq hg.symm)) hb)
                            have n3_ := Aside0.mk (below_step (by repeat (first | (with_reducible first | exact HB.out | apply below_alloc | apply pw_below_drewN | apply below_drew1) | exact HB.out)) hb)
                            have n4_ := Aside0.mk (hbox)
                            have n5_ := Aside0.mk ((by rw [hg]; exact (below_size (by repeat (first | (with_reducible first | exact HB.out | apply below_alloc | apply pw_below_drewN | apply below_drew1) | exact HB.out))) : w.heap.size ≤ gb384))
                            have n6_ := Aside0.mk ((by rw [hg]; exact (below_size (by repeat (first | (with_reducible first | exact HB.out | apply below_alloc | apply pw_below_drewN | apply below_drew1) | exact HB.out))) : w.heap.size ≤ gb384))
                            clear HO_0
                            clear HO_1
                            clear HO_5
                            clear HB
                            have HO_0 := n0_
                            have HO_1 := n1_
                            have HO_5 := n2_
                            have HB := n3_
                            have BK384 := n4_
                            have GW384 := n5_
                            have GE384 := n6_
                            clear n0_ n1_ n2_ n3_ n4_ n5_ n6_
                            clear hb hbox hg
                            refine hK.out _ _ ⟨HS0_, HS1_, HS2_, HS3_⟩ (fun hHeld => ?_)
                            clear hK K
                            refine norm_ (a' := ?_) ?_ ?_
                            rotate_left
                            · show Act.put _ (some 8) _ = _
                              simp only [Act.put, List.setIfInBounds_toArray, List.set_cons_zero, List.set_cons_succ, i64_w, i32_w]
                              rfl
                            refine one_ (i := 8) (N := some 31) #[true, true, true, true, true, true, true, true, true, true, false] rfl rfl (one_of HT_.out (by kernel_rfl)) (by decide) (fun K hK => ?_)
                            refine goes_ Try.func55 (by kernel_rfl) rfl #[.agg #[.int .i64 ((rd_T30 t374 x6_1).f0), .int .i64 ((rd_T30 t374 x6_1).f1)], .agg #[.int .i64 ((rd_T30 t377 x7_1).f0), .int .i64 ((rd_T30 t377 x7_1).f1)]] (by rfl) rfl rfl (by (try simp only [List.map_toArray, List.map_cons, List.map_nil]); first | done | rfl | (simp only [List.length_drop, List.length_take]; rfl)) ?_
                            with_reducible refine (span_both.calls ((rd_T30 t374 x6_1).f0) ((rd_T30 t374 x6_1).f1) ((rd_T30 t377 x7_1).f0) ((rd_T30 t377 x7_1).f1) t382 t383 _ A17.out).mono ?_
                            rintro e w36 ⟨rfl, hb⟩
                            have HS0_ := (hb.cell (World.block_lt_of_cell? _ _ (hHeld.1))).trans (hHeld.1)
                            have HS1_ := (hb.cell (World.block_lt_of_cell? _ _ (hHeld.2.1))).trans (hHeld.2.1)
                            have HS2_ := (hb.cell (World.block_lt_of_cell? _ _ (hHeld.2.2.1))).trans (hHeld.2.2.1)
                            have HS3_ := (hb.cell (World.block_lt_of_cell? _ _ (hHeld.2.2.2))).trans (hHeld.2.2.2)
                            refine ⟨_, rfl, ?_⟩
                            have n0_ := Aside0.mk (Kd.R_below (by (with_reducible repeat (first | apply Kd.R_alloc | apply Kd.R_drewN | apply Kd.R_drew)); exact HO_0.out) hb)
                            have n1_ := Aside0.mk (Kd.R_below (by (with_reducible repeat (first | apply Kd.R_alloc | apply Kd.R_drewN | apply Kd.R_drew)); exact HO_1.out) hb)
                            have n2_ := Aside0.mk (Kd.R_below (by (with_reducible repeat (first | apply Kd.R_alloc | apply Kd.R_drewN | apply Kd.R_drew)); exact HO_5.out) hb)
                            have n3_ := Aside0.mk (blk_below (g := gb384) (o := .cells #[.int .i64 0, .int .i64 0] 30 (0, 0)) (by (with_reducible repeat (first | refine blk_drewN ?_ _ | refine blk_drew ?_ | refine blk_alloc ?_ _)); exact BK384.out) hb)
                            have n4_ := Aside0.mk (below_step (by repeat (first | (with_reducible first | exact HB.out | apply below_alloc | apply pw_below_drewN | apply below_drew1 | refine below_set ?_ GE384.out) | exact HB.out)) hb)
                            clear HO_0
                            clear HO_1
                            clear HO_5
                            clear BK384
                            clear HB
                            have HO_0 := n0_
                            have HO_1 := n1_
                            have HO_5 := n2_
                            have BK384 := n3_
                            have HB := n4_
                            clear n0_ n1_ n2_ n3_ n4_
                            (try clear hb)
                            (try clear hb2)
                            (try clear hk)
                            (try clear hi)
                            refine hK.out _ _ ⟨HS0_, HS1_, HS2_, HS3_⟩ (fun hHeld => ?_)
                            clear hK K
                            refine norm_ (a' := ?_) ?_ ?_
                            rotate_left
                            · show Act.put _ (some 31) _ = _
                              simp only [Act.put, List.setIfInBounds_toArray, List.set_cons_zero, List.set_cons_succ, i64_w, i32_w]
                              rfl
                            exact norm_ (by simp only [putAll, Act.put, List.setIfInBounds_toArray, List.set_cons_zero, List.set_cons_succ]) (hCont (gb384) _ ⟨hHeld, (by (with_reducible repeat (first | apply Kd.R_alloc | apply Kd.R_drewN | apply Kd.R_drew)); exact Kd.R_mono HO_0.out (fun _ hk => ⟨hk.1.1, ⟨hk.1.2, hk.2⟩⟩)), (by (with_reducible repeat (first | apply Kd.R_alloc | apply Kd.R_drewN | apply Kd.R_drew)); exact Kd.R_mono HO_1.out (fun _ hk => ⟨hk.1.1, ⟨hk.1.2, hk.2⟩⟩)), (by (with_reducible repeat (first | apply Kd.R_alloc | apply Kd.R_drewN | apply Kd.R_drew)); exact Kd.R_mono HO_5.out (fun _ hk => ⟨hk.1.1, ⟨hk.1.2, hk.2⟩⟩)), (by (with_reducible repeat (first | refine blk_drewN ?_ _ | refine blk_drew ?_ | refine blk_alloc ?_ _)); exact BK384.out), GW384.out, GE384.out, (by repeat (first | (with_reducible first | exact HB.out | apply below_alloc | apply pw_below_drewN | apply below_drew1 | refine below_set ?_ GE384.out) | exact HB.out))⟩)
                        rintro gb384 w37 ⟨hS_, h0_, h1_, h2_, h3_, h4_, h5_, h6_⟩
                        have n0_ : Aside0 (Kd.R k30 30 w37 w.heap.size (fun k_ => some k_ ≠ (.slice (some ad381) t377.length co34 : Value).ownBlock ∧ some k_ ≠ (u5 : Value).ownBlock ∧ k_ ≠ gb384) (.slice (some ad380) t374.length co33) t374) := ⟨h0_⟩
                        have n1_ : Aside0 (Kd.R k30 30 w37 w.heap.size (fun k_ => some k_ ≠ (.slice (some ad380) t374.length co33 : Value).ownBlock ∧ some k_ ≠ (u5 : Value).ownBlock ∧ k_ ≠ gb384) (.slice (some ad381) t377.length co34) t377) := ⟨h1_⟩
                        have n2_ : Aside0 (Kd.R k30 30 w37 w.heap.size (fun k_ => some k_ ≠ (.slice (some ad380) t374.length co33 : Value).ownBlock ∧ some k_ ≠ (.slice (some ad381) t377.length co34 : Value).ownBlock ∧ k_ ≠ gb384) u5 x5_1) := ⟨h2_⟩
                        have n3_ : Aside0 (w37.heap[gb384]? = some (.cells #[.int .i64 0, .int .i64 0] 30 (0, 0))) := ⟨h3_⟩
                        have n4_ : Aside0 (w.heap.size ≤ gb384) := ⟨h4_⟩
                        have n5_ : Aside0 (w.heap.size ≤ gb384) := ⟨h5_⟩
                        have n6_ : Aside0 (Below w.heap.size w w37) := ⟨h6_⟩
                        clear HO_0
                        clear HO_1
                        clear HO_5
                        clear HB
                        clear h0_ h1_ h2_ h3_ h4_ h5_ h6_
                        have HO_0 := n0_
                        have HO_1 := n1_
                        have HO_5 := n2_
                        have BK384 := n3_
                        have GW384 := n4_
                        have GE384 := n5_
                        have HB := n6_
                        clear n0_ n1_ n2_ n3_ n4_ n5_ n6_
                        have hHeld : w37.cell? (ad380.add ((x6_1).toNat * 2)) = some (.int .i64 ((rd_T30 t374 x6_1).f0)) ∧ w37.cell? ⟨(ad380.add ((x6_1).toNat * 2)).block, (ad380.add ((x6_1).toNat * 2)).off + 1, none⟩ = some (.int .i64 ((rd_T30 t374 x6_1).f1)) ∧ w37.cell? (ad381.add ((x7_1).toNat * 2)) = some (.int .i64 ((rd_T30 t377 x7_1).f0)) ∧ w37.cell? ⟨(ad381.add ((x7_1).toNat * 2)).block, (ad381.add ((x7_1).toNat * 2)).off + 1, none⟩ = some (.int .i64 ((rd_T30 t377 x7_1).f1)) := hS_
                        refine norm_ (a' := ?_) ?_ ?_
                        rotate_left
                        · simp only [putAll, Act.put, List.setIfInBounds_toArray, List.set_cons_zero, List.set_cons_succ]
                          rfl
                        refine one_ (i := 10) (N := none) #[true, true, true, true, true, true, true, true, true, true, true] rfl rfl (one_of HT_.out (by kernel_rfl)) (by decide) (fun K hK => ?_)
                        have hs38 : w37.cell? ⟨gb384, 0, none⟩ = some (.int .i64 0) := (blk_cell BK384.out 0).trans rfl
                        have hfs38 := blk_frozen BK384.out 0
                        have hs39 : w37.cell? ⟨gb384, 1, none⟩ = some (.int .i64 0) := (blk_cell BK384.out 1).trans rfl
                        have hfs39 := blk_frozen BK384.out 1
                        refine skip_ (w1 := ?_) (by rfl) rfl ?_ ?_
                        rotate_left
                        · go_simp
                          rfl
                        refine hK.out _ _ ⟨((cell_far (p := ⟨gb384, _, none⟩) (by first | exact Kd.own_blk (Kd.R_away HO_0.out (fun _ hk => hk.2.2)) | (rw [add_block]; exact Kd.own_blk (Kd.R_away HO_0.out (fun _ hk => hk.2.2))) | (show (Addr.add _ _).block ≠ _; rw [add_block]; exact Kd.own_blk (Kd.R_away HO_0.out (fun _ hk => hk.2.2))) | (dsimp only; exact Kd.own_blk (Kd.R_away HO_0.out (fun _ hk => hk.2.2)))) _).trans (((cell_far (p := ⟨gb384, _, none⟩) (by first | exact Kd.own_blk (Kd.R_away HO_0.out (fun _ hk => hk.2.2)) | (rw [add_block]; exact Kd.own_blk (Kd.R_away HO_0.out (fun _ hk => hk.2.2))) | (show (Addr.add _ _).block ≠ _; rw [add_block]; exact Kd.own_blk (Kd.R_away HO_0.out (fun _ hk => hk.2.2))) | (dsimp only; exact Kd.own_blk (Kd.R_away HO_0.out (fun _ hk => hk.2.2)))) _).trans (hHeld.1)))), ((cell_far (p := ⟨gb384, _, none⟩) (by first | exact Kd.own_blk (Kd.R_away HO_0.out (fun _ hk => hk.2.2)) | (rw [add_block]; exact Kd.own_blk (Kd.R_away HO_0.out (fun _ hk => hk.2.2))) | (show (Addr.add _ _).block ≠ _; rw [add_block]; exact Kd.own_blk (Kd.R_away HO_0.out (fun _ hk => hk.2.2))) | (dsimp only; exact Kd.own_blk (Kd.R_away HO_0.out (fun _ hk => hk.2.2)))) _).trans (((cell_far (p := ⟨gb384, _, none⟩) (by first | exact Kd.own_blk (Kd.R_away HO_0.out (fun _ hk => hk.2.2)) | (rw [add_block]; exact Kd.own_blk (Kd.R_away HO_0.out (fun _ hk => hk.2.2))) | (show (Addr.add _ _).block ≠ _; rw [add_block]; exact Kd.own_blk (Kd.R_away HO_0.out (fun _ hk => hk.2.2))) | (dsimp only; exact Kd.own_blk (Kd.R_away HO_0.out (fun _ hk => hk.2.2)))) _).trans (hHeld.2.1)))), ((cell_far (p := ⟨gb384, _, none⟩) (by first | exact Kd.own_blk (Kd.R_away HO_1.out (fun _ hk => hk.2.2)) | (rw [add_block]; exact Kd.own_blk (Kd.R_away HO_1.out (fun _ hk => hk.2.2))) | (show (Addr.add _ _).block ≠ _; rw [add_block]; exact Kd.own_blk (Kd.R_away HO_1.out (fun _ hk => hk.2.2))) | (dsimp only; exact Kd.own_blk (Kd.R_away HO_1.out (fun _ hk => hk.2.2)))) _).trans (((cell_far (p := ⟨gb384, _, none⟩) (by first | exact Kd.own_blk (Kd.R_away HO_1.out (fun _ hk => hk.2.2)) | (rw [add_block]; exact Kd.own_blk (Kd.R_away HO_1.out (fun _ hk => hk.2.2))) | (show (Addr.add _ _).block ≠ _; rw [add_block]; exact Kd.own_blk (Kd.R_away HO_1.out (fun _ hk => hk.2.2))) | (dsimp only; exact Kd.own_blk (Kd.R_away HO_1.out (fun _ hk => hk.2.2)))) _).trans (hHeld.2.2.1)))), ((cell_far (p := ⟨gb384, _, none⟩) (by first | exact Kd.own_blk (Kd.R_away HO_1.out (fun _ hk => hk.2.2)) | (rw [add_block]; exact Kd.own_blk (Kd.R_away HO_1.out (fun _ hk => hk.2.2))) | (show (Addr.add _ _).block ≠ _; rw [add_block]; exact Kd.own_blk (Kd.R_away HO_1.out (fun _ hk => hk.2.2))) | (dsimp only; exact Kd.own_blk (Kd.R_away HO_1.out (fun _ hk => hk.2.2)))) _).trans (((cell_far (p := ⟨gb384, _, none⟩) (by first | exact Kd.own_blk (Kd.R_away HO_1.out (fun _ hk => hk.2.2)) | (rw [add_block]; exact Kd.own_blk (Kd.R_away HO_1.out (fun _ hk => hk.2.2))) | (show (Addr.add _ _).block ≠ _; rw [add_block]; exact Kd.own_blk (Kd.R_away HO_1.out (fun _ hk => hk.2.2))) | (dsimp only; exact Kd.own_blk (Kd.R_away HO_1.out (fun _ hk => hk.2.2)))) _).trans (hHeld.2.2.2))))⟩ (fun hHeld => ?_)
                        clear hK K
                        refine done_ (done_of HT_.out (by kernel_rfl)) ?_
                        have hcz40_0 : w37.cell? ⟨gb384, 0, none⟩ = some (.int .i64 0) := (blk_cell BK384.out 0).trans rfl
                        have hcz40_1 : w37.cell? ⟨gb384, 1, none⟩ = some (.int .i64 0) := (blk_cell BK384.out 1).trans rfl
                        have hfz40_0 := blk_frozen BK384.out 0
                        have hfz40_1 := blk_frozen BK384.out 1
                        try go_wp2_with (first | ((with_reducible refine gate_callee (f := 48) rfl ?_); refine goesL_ (some 33) rfl rfl Try.func48 (by kernel_rfl) rfl #[.agg #[.int .i64 t382, .int .i64 t383]] rfl (by (try simp only [List.map_toArray, List.map_cons, List.map_nil]); first | done | rfl | (simp only [List.length_drop, List.length_take]; rfl)) ?_; (with_reducible refine (span_empty.calls t382 t383 true _ A18.out).mono ?_); rintro e w41 ⟨rfl, hb⟩; refine ⟨_, rfl, ?_⟩; have n0_ := Aside0.mk (Kd.R_below (by (with_reducible repeat (first | apply Kd.R_alloc | apply Kd.R_drewN | apply Kd.R_drew)); exact (Kd.R_mono (Kd.R_far (p := ⟨gb384, 1, none⟩) (Kd.R_far (p := ⟨gb384, 0, none⟩) (Kd.R_mono HO_0.out (fun k_ hk => (⟨hk, hk.2.2⟩ : _ ∧ k_ ≠ gb384))) (fun _ hk => hk.2) (.int .i64 t382)) (fun _ hk => hk.2) (.int .i64 t383)) (fun _ h_ => h_.1))) hb); have n1_ := Aside0.mk (Kd.R_below (by (with_reducible repeat (first | apply Kd.R_alloc | apply Kd.R_drewN | apply Kd.R_drew)); exact (Kd.R_mono (Kd.R_far (p := ⟨gb384, 1, none⟩) (Kd.R_far (p := ⟨gb384, 0, none⟩) (Kd.R_mono HO_1.out (fun k_ hk => (⟨hk, hk.2.2⟩ : _ ∧ k_ ≠ gb384))) (fun _ hk => hk.2) (.int .i64 t382)) (fun _ hk => hk.2) (.int .i64 t383)) (fun _ h_ => h_.1))) hb); have n2_ := Aside0.mk (Kd.R_below (by (with_reducible repeat (first | apply Kd.R_alloc | apply Kd.R_drewN | apply Kd.R_drew)); exact (Kd.R_mono (Kd.R_far (p := ⟨gb384, 1, none⟩) (Kd.R_far (p := ⟨gb384, 0, none⟩) (Kd.R_mono HO_5.out (fun k_ hk => (⟨hk, hk.2.2⟩ : _ ∧ k_ ≠ gb384))) (fun _ hk => hk.2) (.int .i64 t382)) (fun _ hk => hk.2) (.int .i64 t383)) (fun _ h_ => h_.1))) hb); have n3_ := Aside0.mk (blk_below (g := gb384) (o := .cells #[.int .i64 t382, .int .i64 t383] 30 (0, 0)) (by (with_reducible repeat (first | refine blk_drewN ?_ _ | refine blk_drew ?_ | refine blk_alloc ?_ _)); refine blk_put (cs := #[.int .i64 t382, .int .i64 0]) ?_ 1 _ rfl; (with_reducible repeat (first | refine blk_drewN ?_ _ | refine blk_drew ?_ | refine blk_alloc ?_ _)); refine blk_put (cs := #[.int .i64 0, .int .i64 0]) ?_ 0 _ rfl; (with_reducible repeat (first | refine blk_drewN ?_ _ | refine blk_drew ?_ | refine blk_alloc ?_ _)); exact BK384.out) hb); have n4_ := Aside0.mk (below_step (by repeat (first | (with_reducible first | exact HB.out | apply below_alloc | apply pw_below_drewN | apply below_drew1 | refine below_set ?_ GE384.out) | exact HB.out)) hb); clear HO_0; clear HO_1; clear HO_5; clear BK384; clear HB; have HO_0 := n0_; have HO_1 := n1_; have HO_5 := n2_; have BK384 := n3_; have HB := n4_; clear n0_ n1_ n2_ n3_ n4_; (try clear hb); (try clear hb2); (try clear hk); (try clear hi)))
                        have n0_ := Aside0.mk (Kd.R_drew HO_0.out)
                        have n1_ := Aside0.mk (Kd.R_drew HO_1.out)
                        have n2_ := Aside0.mk (Kd.R_drew HO_5.out)
                        have n3_ := Aside0.mk (blk_drew BK384.out)
                        have n4_ := Aside0.mk (below_drew1 HB.out)
                        clear HO_0
                        clear HO_1
                        clear HO_5
                        clear BK384
                        clear HB
                        have HO_0 := n0_
                        have HO_1 := n1_
                        have HO_5 := n2_
                        have BK384 := n3_
                        have HB := n4_
                        clear n0_ n1_ n2_ n3_ n4_
                        have p386 : 0 ≤ (x6_1 : Int) := of_decide_eq_true (by first | (with_reducible assumption) | assumption)
                        have q386 : x6_1 < (t374.length : Int) := of_decide_eq_true (by first | (with_reducible assumption) | assumption)
                        obtain ⟨ad386, e386, hx386_0, hx386_1⟩ := at_T30 (Kd.R_reads' HO_0.out).2.2 x6_1 p386 q386
                        obtain rfl : ad380 = ad386 := (by injection e386)
                        replace p386 := eq_true p386
                        replace q386 := eq_true q386
                        have p387 : 0 ≤ (x7_1 : Int) := of_decide_eq_true (by first | (with_reducible assumption) | assumption)
                        have q387 : x7_1 < (t377.length : Int) := of_decide_eq_true (by first | (with_reducible assumption) | assumption)
                        obtain ⟨ad387, e387, hx387_0, hx387_1⟩ := at_T30 (Kd.R_reads' HO_1.out).2.2 x7_1 p387 q387
                        obtain rfl : ad381 = ad387 := (by injection e387)
                        replace p387 := eq_true p387
                        replace q387 := eq_true q387
                        refine start_ (n := 11) (S := fun w' => w'.cell? (ad380.add ((x6_1).toNat * 2)) = some (.int .i64 ((rd_T30 t374 x6_1).f0)) ∧ w'.cell? ⟨(ad380.add ((x6_1).toNat * 2)).block, (ad380.add ((x6_1).toNat * 2)).off + 1, none⟩ = some (.int .i64 ((rd_T30 t374 x6_1).f1)) ∧ w'.cell? (ad381.add ((x7_1).toNat * 2)) = some (.int .i64 ((rd_T30 t377 x7_1).f0)) ∧ w'.cell? ⟨(ad381.add ((x7_1).toNat * 2)).block, (ad381.add ((x7_1).toNat * 2)).off + 1, none⟩ = some (.int .i64 ((rd_T30 t377 x7_1).f1))) (ds := []) #[false, false, false, false, false, false, false, false, false, false, false] (by kernel_rfl) rfl rfl ⟨hx386_0, hx386_1, hx387_0, hx387_1⟩ (fun hHeld => ?_); refine with_tabW span_Meet.tab8 span_Meet.bits8 (fun HT_ HW_ => ?_)
                        generalize w41.drew = w42 at HO_0 HO_1 HO_5 BK384 HB hx386_0 hx386_1 hx387_0 hx387_1 hHeld ⊢
                        refine pure_ (i := 0) (N := some 39) (v := ?_) (a' := ?_) #[true, false, false, false, false, false, false, false, false, false, false] rfl rfl (any_of HT_.out (by kernel_rfl)) (fun _ _ _ h => h) (Or.inl ⟨by rfl, ?_⟩) ?_ ?_
                        rotate_left
                        · intro w'
                          go_simp
                          with_reducible rfl
                        rotate_left
                        · simp only [Act.put, List.setIfInBounds_toArray, List.set_cons_zero, List.set_cons_succ, i64_w, i32_w]
                          rfl
                        refine pure_ (i := 1) (N := some 40) (v := ?_) (a' := ?_) #[true, true, false, false, false, false, false, false, false, false, false] rfl rfl (any_of HT_.out (by kernel_rfl)) (fun _ _ _ h => h) (Or.inl ⟨by rfl, ?_⟩) ?_ ?_
                        rotate_left
                        · intro w'
                          go_simp
                          with_reducible rfl
                        rotate_left
                        · simp only [Act.put, List.setIfInBounds_toArray, List.set_cons_zero, List.set_cons_succ, i64_w, i32_w]
                          rfl
                        refine pure_ (i := 2) (N := some 41) (v := ?_) (a' := ?_) #[true, true, true, false, false, false, false, false, false, false, false] rfl rfl (any_of HT_.out (by kernel_rfl)) (fun _ _ _ h => h) (Or.inl ⟨by rfl, ?_⟩) ?_ ?_
                        rotate_left
                        · intro w'
                          go_simp
                          with_reducible rfl
                        rotate_left
                        · simp only [Act.put, List.setIfInBounds_toArray, List.set_cons_zero, List.set_cons_succ, i64_w, i32_w]
                          rfl
                        refine pure_ (i := 3) (N := some 42) (v := ?_) (a' := ?_) #[true, true, true, true, false, false, false, false, false, false, false] rfl rfl (any_of HT_.out (by kernel_rfl)) (fun _ _ _ h => h) (Or.inl ⟨by rfl, ?_⟩) ?_ ?_
                        rotate_left
                        · intro w'
                          go_simp
                          with_reducible rfl
                        rotate_left
                        · simp only [Act.put, List.setIfInBounds_toArray, List.set_cons_zero, List.set_cons_succ, i64_w, i32_w]
                          rfl
                        refine pure_ (i := 5) (N := some 44) (v := ?_) (a' := ?_) #[true, true, true, true, false, true, false, false, false, false, false] rfl rfl (any_of HT_.out (by kernel_rfl)) (fun _ _ _ h => h) (Or.inl ⟨by rfl, ?_⟩) ?_ ?_
                        rotate_left
                        · intro w'
                          go_simp
                          with_reducible rfl
                        rotate_left
                        · simp only [Act.put, List.setIfInBounds_toArray, List.set_cons_zero, List.set_cons_succ, i64_w, i32_w]
                          rfl
                        refine pure_ (i := 6) (N := some 45) (v := ?_) (a' := ?_) #[true, true, true, true, false, true, true, false, false, false, false] rfl rfl (any_of HT_.out (by kernel_rfl)) (fun _ _ _ h => h) (Or.inl ⟨by rfl, ?_⟩) ?_ ?_
                        rotate_left
                        · intro w'
                          go_simp
                          with_reducible rfl
                        rotate_left
                        · simp only [Act.put, List.setIfInBounds_toArray, List.set_cons_zero, List.set_cons_succ, i64_w, i32_w]
                          rfl
                        refine pure_ (i := 7) (N := some 46) (v := ?_) (a' := ?_) #[true, true, true, true, false, true, true, true, false, false, false] rfl rfl (any_of HT_.out (by kernel_rfl)) (fun _ _ _ h => h) (Or.inl ⟨by rfl, ?_⟩) ?_ ?_
                        rotate_left
                        · intro w'
                          go_simp
                          with_reducible rfl
                        rotate_left
                        · simp only [Act.put, List.setIfInBounds_toArray, List.set_cons_zero, List.set_cons_succ, i64_w, i32_w]
                          rfl
                        refine pure_ (i := 8) (N := some 47) (v := ?_) (a' := ?_) #[true, true, true, true, false, true, true, true, true, false, false] rfl rfl (any_of HT_.out (by kernel_rfl)) (fun _ _ _ h => h) (Or.inl ⟨by rfl, ?_⟩) ?_ ?_
                        rotate_left
                        · intro w'
                          go_simp
                          with_reducible rfl
                        rotate_left
                        · simp only [Act.put, List.setIfInBounds_toArray, List.set_cons_zero, List.set_cons_succ, i64_w, i32_w]
                          rfl
                        refine take_ (i := 4) (N := some 43) (v := ?_) (a' := ?_) #[true, true, true, true, true, true, true, true, true, false, false] rfl rfl (take_ofW HT_.out HW_.out (by kernel_rfl)) (fun _ _ _ h => h) (Or.inl ⟨by rfl, ?_⟩) hHeld ?_ ?_
                        rotate_left
                        · rintro w' ⟨s0, s1, s2, s3⟩
                          go_simp
                          with_reducible rfl
                        rotate_left
                        · simp only [Act.put, List.setIfInBounds_toArray, List.set_cons_zero, List.set_cons_succ, i64_w, i32_w]
                          rfl
                        refine take_ (i := 9) (N := some 48) (v := ?_) (a' := ?_) #[true, true, true, true, true, true, true, true, true, true, false] rfl rfl (take_ofW HT_.out HW_.out (by kernel_rfl)) (fun _ _ _ h => h) (Or.inl ⟨by rfl, ?_⟩) hHeld ?_ ?_
                        rotate_left
                        · rintro w' ⟨s0, s1, s2, s3⟩
                          go_simp
                          with_reducible rfl
                        rotate_left
                        · simp only [Act.put, List.setIfInBounds_toArray, List.set_cons_zero, List.set_cons_succ, i64_w, i32_w]
                          rfl
                        refine pure_ (i := 10) (N := some 49) (v := ?_) (a' := ?_) #[true, true, true, true, true, true, true, true, true, true, true] rfl rfl (any_of HT_.out (by kernel_rfl)) (fun _ _ _ h => h) (Or.inl ⟨by rfl, ?_⟩) ?_ ?_
                        rotate_left
                        · intro w'
                          go_simp
                          with_reducible rfl
                        rotate_left
                        · simp only [Act.put, List.setIfInBounds_toArray, List.set_cons_zero, List.set_cons_succ, i64_w, i32_w]
                          rfl
                        refine done_ (done_of HT_.out (by kernel_rfl)) ?_
                        try go_wp2
                        go_roundg kj6
                        case measure => have := HK1.out; have := HJ6.out; omega
                        case rel => exact ⟨(x5_1), (x6_1), (wrap64 (x7_1 + 1)), (by first | rfl | (simp; done) | (simp [*]; done)), (by first | rfl | (simp; done) | (simp [*]; done)), H', ⟨by have := HK1.out; have := HJ6.out; omega⟩, ⟨by (with_reducible repeat (first | apply Kd.R_alloc | apply Kd.R_drewN | apply Kd.R_drew)); exact Kd.R_mono HO_0.out (fun _ hk => ⟨hk.1, hk.2.1⟩)⟩, ⟨by (with_reducible repeat (first | apply Kd.R_alloc | apply Kd.R_drewN | apply Kd.R_drew)); exact Kd.R_mono HO_1.out (fun _ hk => ⟨hk.1, hk.2.1⟩)⟩, ⟨by (with_reducible repeat (first | apply Kd.R_alloc | apply Kd.R_drewN | apply Kd.R_drew)); exact Kd.R_mono HO_5.out (fun _ hk => ⟨hk.1, hk.2.1⟩)⟩, ⟨by repeat (first | (with_reducible first | exact HB.out | apply below_alloc | apply pw_below_drewN | apply below_drew1 | refine below_set ?_ GE384.out) | exact HB.out)⟩⟩
                    · replace c19 := Bool.eq_false_iff.mpr c19
                      subst c19
                      have H1 : (if x5_1.length < 8796093022208 then ((some (x5_1 ++ [(⟨t382, t383⟩ : S30)] : List (S30))).bind fun y388 => (if ((rd_T30 t374 x6_1).f1) < ((rd_T30 t377 x7_1).f1) then (span_Meet.l0 kj6 t374 t377 y388 (wrap64 (x6_1 + 1)) x7_1) else (span_Meet.l0 kj6 t374 t377 y388 x6_1 (wrap64 (x7_1 + 1))))) else (none)) = some r := by rw [if_neg (show ¬ (false = true) by decide)] at H; exact H
                      clear H
                      have H := H1
                      clear H1
                      by_cases c43 : x5_1.length < 8796093022208
                      · rw [if_pos c43] at H
                        have LMc43 := Aside0.mk c43
                        clear c43
                        obtain ⟨y388, hy388⟩ : ∃ y_ : List (S30), y_ = (x5_1 ++ [(⟨t382, t383⟩ : S30)]) := ⟨_, rfl⟩
                        replace H : (if ((rd_T30 t374 x6_1).f1) < ((rd_T30 t377 x7_1).f1) then (span_Meet.l0 kj6 t374 t377 y388 (wrap64 (x6_1 + 1)) x7_1) else (span_Meet.l0 kj6 t374 t377 y388 x6_1 (wrap64 (x7_1 + 1)))) = some r := by first | (rw [hy388]; with_reducible exact H) | (have H2_ := (Option.bind_some _ _).symm.trans H; rw [hy388]; with_reducible exact H2_) | (have H2_ := (Option.bind_some _ _).symm.trans H; with_reducible exact H2_) | with_reducible exact H | (rw [hy388]; exact H) | exact H
                        have Ny388 := Aside0.mk hy388
                        clear hy388
                        by_cases c44 : ((rd_T30 t374 x6_1).f1) < ((rd_T30 t377 x7_1).f1)
                        · rw [if_pos c44] at H
                          have c44b0 : decide (((rd_T30 t374 x6_1).f1) < ((rd_T30 t377 x7_1).f1)) = true := decide_eq_true c44
                          clear c44
                          have H' := Aside0.mk H
                          clear H
                          try go_wp2
                          have n0_ := Aside0.mk (Kd.R_drew HO_0.out)
                          have n1_ := Aside0.mk (Kd.R_drew HO_1.out)
                          have n2_ := Aside0.mk (Kd.R_drew HO_5.out)
                          have n3_ := Aside0.mk (below_drew1 HB.out)
                          clear HO_0
                          clear HO_1
                          clear HO_5
                          clear HB
                          have HO_0 := n0_
                          have HO_1 := n1_
                          have HO_5 := n2_
                          have HB := n3_
                          clear n0_ n1_ n2_ n3_
                          obtain ⟨Ao46, co46, eo46⟩ := Kd.R_slice HO_0.out
                          (first | subst eo46 | (injection eo46 with f1_ f2_ f3_; have f4_ := f1_.symm; have f5_ := f3_.symm; clear f1_ f2_ f3_; subst f4_; subst f5_))
                          have p380 : 0 ≤ (x6_1 : Int) := of_decide_eq_true (by first | (with_reducible assumption) | assumption)
                          have q380 : x6_1 < (t374.length : Int) := of_decide_eq_true (by first | (with_reducible assumption) | assumption)
                          obtain ⟨ad380, e380, hx380_0, hx380_1⟩ := at_T30 (Kd.R_reads' HO_0.out).2.2 x6_1 p380 q380
                          cases e380
                          replace p380 := eq_true p380
                          replace q380 := eq_true q380
                          obtain ⟨Ao47, co47, eo47⟩ := Kd.R_slice HO_1.out
                          (first | subst eo47 | (injection eo47 with f1_ f2_ f3_; have f4_ := f1_.symm; have f5_ := f3_.symm; clear f1_ f2_ f3_; subst f4_; subst f5_))
                          have p381 : 0 ≤ (x7_1 : Int) := of_decide_eq_true (by first | (with_reducible assumption) | assumption)
                          have q381 : x7_1 < (t377.length : Int) := of_decide_eq_true (by first | (with_reducible assumption) | assumption)
                          obtain ⟨ad381, e381, hx381_0, hx381_1⟩ := at_T30 (Kd.R_reads' HO_1.out).2.2 x7_1 p381 q381
                          cases e381
                          replace p381 := eq_true p381
                          replace q381 := eq_true q381
                          refine start_ (n := 11) (S := fun w' => w'.cell? (ad380.add ((x6_1).toNat * 2)) = some (.int .i64 ((rd_T30 t374 x6_1).f0)) ∧ w'.cell? ⟨(ad380.add ((x6_1).toNat * 2)).block, (ad380.add ((x6_1).toNat * 2)).off + 1, none⟩ = some (.int .i64 ((rd_T30 t374 x6_1).f1)) ∧ w'.cell? (ad381.add ((x7_1).toNat * 2)) = some (.int .i64 ((rd_T30 t377 x7_1).f0)) ∧ w'.cell? ⟨(ad381.add ((x7_1).toNat * 2)).block, (ad381.add ((x7_1).toNat * 2)).off + 1, none⟩ = some (.int .i64 ((rd_T30 t377 x7_1).f1))) (ds := []) #[false, false, false, false, false, false, false, false, false, false, false] (by kernel_rfl) rfl rfl ⟨hx380_0, hx380_1, hx381_0, hx381_1⟩ (fun hHeld => ?_); refine with_tabW span_Meet.tab5 span_Meet.bits5 (fun HT_ HW_ => ?_)
                          generalize wc.drew = w45 at HO_0 HO_1 HO_5 HB hx380_0 hx380_1 hx381_0 hx381_1 hHeld ⊢
                          refine pure_ (i := 0) (N := some 23) (v := ?_) (a' := ?_) #[true, false, false, false, false, false, false, false, false, false, false] rfl rfl (any_of HT_.out (by kernel_rfl)) (fun _ _ _ h => h) (Or.inl ⟨by rfl, ?_⟩) ?_ ?_
                          rotate_left
                          · intro w'
                            go_simp
                            with_reducible rfl
                          rotate_left
                          · simp only [Act.put, List.setIfInBounds_toArray, List.set_cons_zero, List.set_cons_succ, i64_w, i32_w]
                            rfl
                          refine pure_ (i := 1) (N := some 24) (v := ?_) (a' := ?_) #[true, true, false, false, false, false, false, false, false, false, false] rfl rfl (any_of HT_.out (by kernel_rfl)) (fun _ _ _ h => h) (Or.inl ⟨by rfl, ?_⟩) ?_ ?_
                          rotate_left
                          · intro w'
                            go_simp
                            with_reducible rfl
                          rotate_left
                          · simp only [Act.put, List.setIfInBounds_toArray, List.set_cons_zero, List.set_cons_succ, i64_w, i32_w]
                            rfl
                          refine pure_ (i := 2) (N := some 25) (v := ?_) (a' := ?_) #[true, true, true, false, false, false, false, false, false, false, false] rfl rfl (any_of HT_.out (by kernel_rfl)) (fun _ _ _ h => h) (Or.inl ⟨by rfl, ?_⟩) ?_ ?_
                          rotate_left
                          · intro w'
                            go_simp
                            with_reducible rfl
                          rotate_left
                          · simp only [Act.put, List.setIfInBounds_toArray, List.set_cons_zero, List.set_cons_succ, i64_w, i32_w]
                            rfl
                          refine pure_ (i := 4) (N := some 27) (v := ?_) (a' := ?_) #[true, true, true, false, true, false, false, false, false, false, false] rfl rfl (any_of HT_.out (by kernel_rfl)) (fun _ _ _ h => h) (Or.inl ⟨by rfl, ?_⟩) ?_ ?_
                          rotate_left
                          · intro w'
                            go_simp
                            with_reducible rfl
                          rotate_left
                          · simp only [Act.put, List.setIfInBounds_toArray, List.set_cons_zero, List.set_cons_succ, i64_w, i32_w]
                            rfl
                          refine pure_ (i := 5) (N := some 28) (v := ?_) (a' := ?_) #[true, true, true, false, true, true, false, false, false, false, false] rfl rfl (any_of HT_.out (by kernel_rfl)) (fun _ _ _ h => h) (Or.inl ⟨by rfl, ?_⟩) ?_ ?_
                          rotate_left
                          · intro w'
                            go_simp
                            with_reducible rfl
                          rotate_left
                          · simp only [Act.put, List.setIfInBounds_toArray, List.set_cons_zero, List.set_cons_succ, i64_w, i32_w]
                            rfl
                          refine pure_ (i := 6) (N := some 29) (v := ?_) (a' := ?_) #[true, true, true, false, true, true, true, false, false, false, false] rfl rfl (any_of HT_.out (by kernel_rfl)) (fun _ _ _ h => h) (Or.inl ⟨by rfl, ?_⟩) ?_ ?_
                          rotate_left
                          · intro w'
                            go_simp
                            with_reducible rfl
                          rotate_left
                          · simp only [Act.put, List.setIfInBounds_toArray, List.set_cons_zero, List.set_cons_succ, i64_w, i32_w]
                            rfl
                          refine take_ (i := 3) (N := some 26) (v := ?_) (a' := ?_) #[true, true, true, true, true, true, true, false, false, false, false] rfl rfl (take_ofW HT_.out HW_.out (by kernel_rfl)) (fun _ _ _ h => h) (Or.inl ⟨by rfl, ?_⟩) hHeld ?_ ?_
                          rotate_left
                          · rintro w' ⟨s0, s1, s2, s3⟩
                            go_simp
                            with_reducible rfl
                          rotate_left
                          · simp only [Act.put, List.setIfInBounds_toArray, List.set_cons_zero, List.set_cons_succ, i64_w, i32_w]
                            rfl
                          refine take_ (i := 7) (N := some 30) (v := ?_) (a' := ?_) #[true, true, true, true, true, true, true, true, false, false, false] rfl rfl (take_ofW HT_.out HW_.out (by kernel_rfl)) (fun _ _ _ h => h) (Or.inl ⟨by rfl, ?_⟩) hHeld ?_ ?_
                          rotate_left
                          · rintro w' ⟨s0, s1, s2, s3⟩
                            go_simp
                            with_reducible rfl
                          rotate_left
                          · simp only [Act.put, List.setIfInBounds_toArray, List.set_cons_zero, List.set_cons_succ, i64_w, i32_w]
                            rfl
                          refine join_ (σ := Nat) 1 #[true, true, true, true, true, true, true, true, true, true, false] (fun s_ => [(31, .agg #[.int .i64 t382, .int .i64 t383]), (8, .pointer (some ⟨s_, 0, none⟩))]) (fun s_ w' => (w'.cell? (ad380.add ((x6_1).toNat * 2)) = some (.int .i64 ((rd_T30 t374 x6_1).f0)) ∧ w'.cell? ⟨(ad380.add ((x6_1).toNat * 2)).block, (ad380.add ((x6_1).toNat * 2)).off + 1, none⟩ = some (.int .i64 ((rd_T30 t374 x6_1).f1)) ∧ w'.cell? (ad381.add ((x7_1).toNat * 2)) = some (.int .i64 ((rd_T30 t377 x7_1).f0)) ∧ w'.cell? ⟨(ad381.add ((x7_1).toNat * 2)).block, (ad381.add ((x7_1).toNat * 2)).off + 1, none⟩ = some (.int .i64 ((rd_T30 t377 x7_1).f1))) ∧ (Kd.R k30 30 w' w.heap.size (fun k_ => some k_ ≠ (.slice (some ad381) t377.length co47 : Value).ownBlock ∧ some k_ ≠ (u5 : Value).ownBlock ∧ k_ ≠ s_) (.slice (some ad380) t374.length co46) t374) ∧ (Kd.R k30 30 w' w.heap.size (fun k_ => some k_ ≠ (.slice (some ad380) t374.length co46 : Value).ownBlock ∧ some k_ ≠ (u5 : Value).ownBlock ∧ k_ ≠ s_) (.slice (some ad381) t377.length co47) t377) ∧ (Kd.R k30 30 w' w.heap.size (fun k_ => some k_ ≠ (.slice (some ad380) t374.length co46 : Value).ownBlock ∧ some k_ ≠ (.slice (some ad381) t377.length co47 : Value).ownBlock ∧ k_ ≠ s_) u5 x5_1) ∧ (w'.heap[s_]? = some (.cells #[.int .i64 0, .int .i64 0] 30 (0, 0))) ∧ (w.heap.size ≤ s_) ∧ (w.heap.size ≤ s_) ∧ (Below w.heap.size w w')) ?_ ?_
                          rotate_left
                          · intro hCont
                            refine two_ (i := 8) (j := 9) (Ni := some 31) (Nj := some 8) #[true, true, true, true, true, true, true, true, true, false, false] #[true, true, true, true, true, true, true, true, false, true, false] rfl rfl rfl rfl (two_of HT_.out (by kernel_rfl)) (by decide) (by decide) (fun K hK => ?_) (fun K hK => ?_)
                            · skip
                              refine goes_ Try.func55 (by kernel_rfl) rfl #[.agg #[.int .i64 ((rd_T30 t374 x6_1).f0), .int .i64 ((rd_T30 t374 x6_1).f1)], .agg #[.int .i64 ((rd_T30 t377 x7_1).f0), .int .i64 ((rd_T30 t377 x7_1).f1)]] (by rfl) rfl rfl (by (try simp only [List.map_toArray, List.map_cons, List.map_nil]); first | done | rfl | (simp only [List.length_drop, List.length_take]; rfl)) ?_
                              with_reducible refine (span_both.calls ((rd_T30 t374 x6_1).f0) ((rd_T30 t374 x6_1).f1) ((rd_T30 t377 x7_1).f0) ((rd_T30 t377 x7_1).f1) t382 t383 _ A17.out).mono ?_
                              rintro e w48 ⟨rfl, hb⟩
                              have HS0_ := (hb.cell (World.block_lt_of_cell? _ _ (hHeld.1))).trans (hHeld.1)
                              have HS1_ := (hb.cell (World.block_lt_of_cell? _ _ (hHeld.2.1))).trans (hHeld.2.1)
                              have HS2_ := (hb.cell (World.block_lt_of_cell? _ _ (hHeld.2.2.1))).trans (hHeld.2.2.1)
                              have HS3_ := (hb.cell (World.block_lt_of_cell? _ _ (hHeld.2.2.2))).trans (hHeld.2.2.2)
                              refine ⟨_, rfl, ?_⟩
                              have n0_ := Aside0.mk (Kd.R_below (by (with_reducible repeat (first | apply Kd.R_alloc | apply Kd.R_drewN | apply Kd.R_drew)); exact HO_0.out) hb)
                              have n1_ := Aside0.mk (Kd.R_below (by (with_reducible repeat (first | apply Kd.R_alloc | apply Kd.R_drewN | apply Kd.R_drew)); exact HO_1.out) hb)
                              have n2_ := Aside0.mk (Kd.R_below (by (with_reducible repeat (first | apply Kd.R_alloc | apply Kd.R_drewN | apply Kd.R_drew)); exact HO_5.out) hb)
                              have n3_ := Aside0.mk (below_step (by repeat (first | (with_reducible first | exact HB.out | apply below_alloc | apply pw_below_drewN | apply below_drew1) | exact HB.out)) hb)
                              clear HO_0
                              clear HO_1
                              clear HO_5
                              clear HB
                              have HO_0 := n0_
                              have HO_1 := n1_
                              have HO_5 := n2_
                              have HB := n3_
                              clear n0_ n1_ n2_ n3_
                              (try clear hb)
                              (try clear hb2)
                              (try clear hk)
                              (try clear hi)
                              refine hK.out _ _ ⟨HS0_, HS1_, HS2_, HS3_⟩ (fun hHeld => ?_)
                              clear hK K
                              refine norm_ (a' := ?_) ?_ ?_
                              rotate_left
                              · show Act.put _ (some 31) _ = _
                                simp only [Act.put, List.setIfInBounds_toArray, List.set_cons_zero, List.set_cons_succ, i64_w, i32_w]
                                rfl
                              refine one_ (i := 9) (N := some 8) #[true, true, true, true, true, true, true, true, true, true, false] rfl rfl (one_of HT_.out (by kernel_rfl)) (by decide) (fun K hK => ?_)
                              refine box_step ?hg (N := 8) ?hd (cs := #[.int .i64 0, .int .i64 0]) (t := 30) ?hr ?_; (case hd => rfl); (case hg => rfl); (case hr => first | (go_simp; done) | (go_simp; rfl))
                              intro gb384 hg w49 hbox hb
                              have HS0_ := (hb.cell (World.block_lt_of_cell? _ _ (hHeld.1))).trans (hHeld.1)
                              have HS1_ := (hb.cell (World.block_lt_of_cell? _ _ (hHeld.2.1))).trans (hHeld.2.1)
                              have HS2_ := (hb.cell (World.block_lt_of_cell? _ _ (hHeld.2.2.1))).trans (hHeld.2.2.1)
                              have HS3_ := (hb.cell (World.block_lt_of_cell? _ _ (hHeld.2.2.2))).trans (hHeld.2.2.2)
                              have n0_ := Aside0.mk (Kd.R_below (Kd.R_elderB (by (with_reducible repeat (first | apply Kd.R_alloc | apply Kd.R_drewN | apply Kd.R_drew)); exact HO_0.out) gb384 (Nat.le_of_eq hg.symm)) hb)
                              have n1_ := Aside0.mk (Kd.R_below (Kd.R_elderB (by (with_reducible repeat (first | apply Kd.R_alloc | apply Kd.R_drewN | apply Kd.R_drew)); exact HO_1.out) gb384 (Nat.le_of_eq hg.symm)) hb)
                              have n2_ := Aside0.mk (Kd.R_below (Kd.R_elderB (by (with_reducible repeat (first | apply Kd.R_alloc | apply Kd.R_drewN | apply Kd.R_drew)); exact HO_5.out) gb384 (Nat.le_of_eq hg.symm)) hb)
                              have n3_ := Aside0.mk (below_step (by repeat (first | (with_reducible first | exact HB.out | apply below_alloc | apply pw_below_drewN | apply below_drew1) | exact HB.out)) hb)
                              have n4_ := Aside0.mk (hbox)
                              have n5_ := Aside0.mk ((by rw [hg]; exact (below_size (by repeat (first | (with_reducible first | exact HB.out | apply below_alloc | apply pw_below_drewN | apply below_drew1) | exact HB.out))) : w.heap.size ≤ gb384))
                              have n6_ := Aside0.mk ((by rw [hg]; exact (below_size (by repeat (first | (with_reducible first | exact HB.out | apply below_alloc | apply pw_below_drewN | apply below_drew1) | exact HB.out))) : w.heap.size ≤ gb384))
                              clear HO_0
                              clear HO_1
                              clear HO_5
                              clear HB
                              have HO_0 := n0_
                              have HO_1 := n1_
                              have HO_5 := n2_
                              have HB := n3_
                              have BK384 := n4_
                              have GW384 := n5_
                              have GE384 := n6_
                              clear n0_ n1_ n2_ n3_ n4_ n5_ n6_
                              clear hb hbox hg
                              refine hK.out _ _ ⟨HS0_, HS1_, HS2_, HS3_⟩ (fun hHeld => ?_)
                              clear hK K
                              refine norm_ (a' := ?_) ?_ ?_
                              rotate_left
                              · show Act.put _ (some 8) _ = _
                                simp only [Act.put, List.setIfInBounds_toArray, List.set_cons_zero, List.set_cons_succ, i64_w, i32_w]
                                rfl
                              exact norm_ (by simp only [putAll, Act.put, List.setIfInBounds_toArray, List.set_cons_zero, List.set_cons_succ]) (hCont (gb384) _ ⟨hHeld, (by (with_reducible repeat (first | apply Kd.R_alloc | apply Kd.R_drewN | apply Kd.R_drew)); exact Kd.R_mono HO_0.out (fun _ hk => ⟨hk.1.1, ⟨hk.1.2, hk.2⟩⟩)), (by (with_reducible repeat (first | apply Kd.R_alloc | apply Kd.R_drewN | apply Kd.R_drew)); exact Kd.R_mono HO_1.out (fun _ hk => ⟨hk.1.1, ⟨hk.1.2, hk.2⟩⟩)), (by (with_reducible repeat (first | apply Kd.R_alloc | apply Kd.R_drewN | apply Kd.R_drew)); exact Kd.R_mono HO_5.out (fun _ hk => ⟨hk.1.1, ⟨hk.1.2, hk.2⟩⟩)), (by (with_reducible repeat (first | refine blk_drewN ?_ _ | refine blk_drew ?_ | refine blk_alloc ?_ _)); exact BK384.out), GW384.out, GE384.out, (by repeat (first | (with_reducible first | exact HB.out | apply below_alloc | apply pw_below_drewN | apply below_drew1 | refine below_set ?_ GE384.out) | exact HB.out))⟩)
                            · skip
                              refine box_step ?hg (N := 8) ?hd (cs := #[.int .i64 0, .int .i64 0]) (t := 30) ?hr ?_; (case hd => rfl); (case hg => rfl); (case hr => first | (go_simp; done) | (go_simp; rfl))
                              intro gb384 hg w48 hbox hb
                              have HS0_ := (hb.cell (World.block_lt_of_cell? _ _ (hHeld.1))).trans (hHeld.1)
                              have HS1_ := (hb.cell (World.block_lt_of_cell? _ _ (hHeld.2.1))).trans (hHeld.2.1)
                              have HS2_ := (hb.cell (World.block_lt_of_cell? _ _ (hHeld.2.2.1))).trans (hHeld.2.2.1)
                              have HS3_ := (hb.cell (World.block_lt_of_cell? _ _ (hHeld.2.2.2))).trans (hHeld.2.2.2)
                              have n0_ := Aside0.mk (Kd.R_below (Kd.R_elderB (by (with_reducible repeat (first | apply Kd.R_alloc | apply Kd.R_drewN | apply Kd.R_drew)); exact HO_0.out) gb384 (Nat.le_of_eq hg.symm)) hb)
                              have n1_ := Aside0.mk (Kd.R_below (Kd.R_elderB (by (with_reducible repeat (first | apply Kd.R_alloc | apply Kd.R_drewN | apply Kd.R_drew)); exact HO_1.out) gb384 (Nat.le_of_eq hg.symm)) hb)
                              have n2_ := Aside0.mk (Kd.R_below (Kd.R_elderB (by (with_reducible repeat (first | apply Kd.R_alloc | apply Kd.R_drewN | apply Kd.R_drew)); exact HO_5.out) gb384 (Nat.le_of_eq hg.symm)) hb)
                              have n3_ := Aside0.mk (below_step (by repeat (first | (with_reducible first | exact HB.out | apply below_alloc | apply pw_below_drewN | apply below_drew1) | exact HB.out)) hb)
                              have n4_ := Aside0.mk (hbox)
                              have n5_ := Aside0.mk ((by rw [hg]; exact (below_size (by repeat (first | (with_reducible first | exact HB.out | apply below_alloc | apply pw_below_drewN | apply below_drew1) | exact HB.out))) : w.heap.size ≤ gb384))
                              have n6_ := Aside0.mk ((by rw [hg]; exact (below_size (by repeat (first | (with_reducible first | exact HB.out | apply below_alloc | apply pw_below_drewN | apply below_drew1) | exact HB.out))) : w.heap.size ≤ gb384))
                              clear HO_0
                              clear HO_1
                              clear HO_5
                              clear HB
                              have HO_0 := n0_
                              have HO_1 := n1_
                              have HO_5 := n2_
                              have HB := n3_
                              have BK384 := n4_
                              have GW384 := n5_
                              have GE384 := n6_
                              clear n0_ n1_ n2_ n3_ n4_ n5_ n6_
                              clear hb hbox hg
                              refine hK.out _ _ ⟨HS0_, HS1_, HS2_, HS3_⟩ (fun hHeld => ?_)
                              clear hK K
                              refine norm_ (a' := ?_) ?_ ?_
                              rotate_left
                              · show Act.put _ (some 8) _ = _
                                simp only [Act.put, List.setIfInBounds_toArray, List.set_cons_zero, List.set_cons_succ, i64_w, i32_w]
                                rfl
                              refine one_ (i := 8) (N := some 31) #[true, true, true, true, true, true, true, true, true, true, false] rfl rfl (one_of HT_.out (by kernel_rfl)) (by decide) (fun K hK => ?_)
                              refine goes_ Try.func55 (by kernel_rfl) rfl #[.agg #[.int .i64 ((rd_T30 t374 x6_1).f0), .int .i64 ((rd_T30 t374 x6_1).f1)], .agg #[.int .i64 ((rd_T30 t377 x7_1).f0), .int .i64 ((rd_T30 t377 x7_1).f1)]] (by rfl) rfl rfl (by (try simp only [List.map_toArray, List.map_cons, List.map_nil]); first | done | rfl | (simp only [List.length_drop, List.length_take]; rfl)) ?_
                              with_reducible refine (span_both.calls ((rd_T30 t374 x6_1).f0) ((rd_T30 t374 x6_1).f1) ((rd_T30 t377 x7_1).f0) ((rd_T30 t377 x7_1).f1) t382 t383 _ A17.out).mono ?_
                              rintro e w49 ⟨rfl, hb⟩
                              have HS0_ := (hb.cell (World.block_lt_of_cell? _ _ (hHeld.1))).trans (hHeld.1)
                              have HS1_ := (hb.cell (World.block_lt_of_cell? _ _ (hHeld.2.1))).trans (hHeld.2.1)
                              have HS2_ := (hb.cell (World.block_lt_of_cell? _ _ (hHeld.2.2.1))).trans (hHeld.2.2.1)
                              have HS3_ := (hb.cell (World.block_lt_of_cell? _ _ (hHeld.2.2.2))).trans (hHeld.2.2.2)
                              refine ⟨_, rfl, ?_⟩
                              have n0_ := Aside0.mk (Kd.R_below (by (with_reducible repeat (first | apply Kd.R_alloc | apply Kd.R_drewN | apply Kd.R_drew)); exact HO_0.out) hb)
                              have n1_ := Aside0.mk (Kd.R_below (by (with_reducible repeat (first | apply Kd.R_alloc | apply Kd.R_drewN | apply Kd.R_drew)); exact HO_1.out) hb)
                              have n2_ := Aside0.mk (Kd.R_below (by (with_reducible repeat (first | apply Kd.R_alloc | apply Kd.R_drewN | apply Kd.R_drew)); exact HO_5.out) hb)
                              have n3_ := Aside0.mk (blk_below (g := gb384) (o := .cells #[.int .i64 0, .int .i64 0] 30 (0, 0)) (by (with_reducible repeat (first | refine blk_drewN ?_ _ | refine blk_drew ?_ | refine blk_alloc ?_ _)); exact BK384.out) hb)
                              have n4_ := Aside0.mk (below_step (by repeat (first | (with_reducible first | exact HB.out | apply below_alloc | apply pw_below_drewN | apply below_drew1 | refine below_set ?_ GE384.out) | exact HB.out)) hb)
                              clear HO_0
                              clear HO_1
                              clear HO_5
                              clear BK384
                              clear HB
                              have HO_0 := n0_
                              have HO_1 := n1_
                              have HO_5 := n2_
                              have BK384 := n3_
                              have HB := n4_
                              clear n0_ n1_ n2_ n3_ n4_
                              (try clear hb)
                              (try clear hb2)
                              (try clear hk)
                              (try clear hi)
                              refine hK.out _ _ ⟨HS0_, HS1_, HS2_, HS3_⟩ (fun hHeld => ?_)
                              clear hK K
                              refine norm_ (a' := ?_) ?_ ?_
                              rotate_left
                              · show Act.put _ (some 31) _ = _
                                simp only [Act.put, List.setIfInBounds_toArray, List.set_cons_zero, List.set_cons_succ, i64_w, i32_w]
                                rfl
                              exact norm_ (by simp only [putAll, Act.put, List.setIfInBounds_toArray, List.set_cons_zero, List.set_cons_succ]) (hCont (gb384) _ ⟨hHeld, (by (with_reducible repeat (first | apply Kd.R_alloc | apply Kd.R_drewN | apply Kd.R_drew)); exact Kd.R_mono HO_0.out (fun _ hk => ⟨hk.1.1, ⟨hk.1.2, hk.2⟩⟩)), (by (with_reducible repeat (first | apply Kd.R_alloc | apply Kd.R_drewN | apply Kd.R_drew)); exact Kd.R_mono HO_1.out (fun _ hk => ⟨hk.1.1, ⟨hk.1.2, hk.2⟩⟩)), (by (with_reducible repeat (first | apply Kd.R_alloc | apply Kd.R_drewN | apply Kd.R_drew)); exact Kd.R_mono HO_5.out (fun _ hk => ⟨hk.1.1, ⟨hk.1.2, hk.2⟩⟩)), (by (with_reducible repeat (first | refine blk_drewN ?_ _ | refine blk_drew ?_ | refine blk_alloc ?_ _)); exact BK384.out), GW384.out, GE384.out, (by repeat (first | (with_reducible first | exact HB.out | apply below_alloc | apply pw_below_drewN | apply below_drew1 | refine below_set ?_ GE384.out) | exact HB.out))⟩)
                          rintro gb384 w50 ⟨hS_, h0_, h1_, h2_, h3_, h4_, h5_, h6_⟩
                          have n0_ : Aside0 (Kd.R k30 30 w50 w.heap.size (fun k_ => some k_ ≠ (.slice (some ad381) t377.length co47 : Value).ownBlock ∧ some k_ ≠ (u5 : Value).ownBlock ∧ k_ ≠ gb384) (.slice (some ad380) t374.length co46) t374) := ⟨h0_⟩
                          have n1_ : Aside0 (Kd.R k30 30 w50 w.heap.size (fun k_ => some k_ ≠ (.slice (some ad380) t374.length co46 : Value).ownBlock ∧ some k_ ≠ (u5 : Value).ownBlock ∧ k_ ≠ gb384) (.slice (some ad381) t377.length co47) t377) := ⟨h1_⟩
                          have n2_ : Aside0 (Kd.R k30 30 w50 w.heap.size (fun k_ => some k_ ≠ (.slice (some ad380) t374.length co46 : Value).ownBlock ∧ some k_ ≠ (.slice (some ad381) t377.length co47 : Value).ownBlock ∧ k_ ≠ gb384) u5 x5_1) := ⟨h2_⟩
                          have n3_ : Aside0 (w50.heap[gb384]? = some (.cells #[.int .i64 0, .int .i64 0] 30 (0, 0))) := ⟨h3_⟩
                          have n4_ : Aside0 (w.heap.size ≤ gb384) := ⟨h4_⟩
                          have n5_ : Aside0 (w.heap.size ≤ gb384) := ⟨h5_⟩
                          have n6_ : Aside0 (Below w.heap.size w w50) := ⟨h6_⟩
                          clear HO_0
                          clear HO_1
                          clear HO_5
                          clear HB
                          clear h0_ h1_ h2_ h3_ h4_ h5_ h6_
                          have HO_0 := n0_
                          have HO_1 := n1_
                          have HO_5 := n2_
                          have BK384 := n3_
                          have GW384 := n4_
                          have GE384 := n5_
                          have HB := n6_
                          clear n0_ n1_ n2_ n3_ n4_ n5_ n6_
                          have hHeld : w50.cell? (ad380.add ((x6_1).toNat * 2)) = some (.int .i64 ((rd_T30 t374 x6_1).f0)) ∧ w50.cell? ⟨(ad380.add ((x6_1).toNat * 2)).block, (ad380.add ((x6_1).toNat * 2)).off + 1, none⟩ = some (.int .i64 ((rd_T30 t374 x6_1).f1)) ∧ w50.cell? (ad381.add ((x7_1).toNat * 2)) = some (.int .i64 ((rd_T30 t377 x7_1).f0)) ∧ w50.cell? ⟨(ad381.add ((x7_1).toNat * 2)).block, (ad381.add ((x7_1).toNat * 2)).off + 1, none⟩ = some (.int .i64 ((rd_T30 t377 x7_1).f1)) := hS_
                          refine norm_ (a' := ?_) ?_ ?_
                          rotate_left
                          · simp only [putAll, Act.put, List.setIfInBounds_toArray, List.set_cons_zero, List.set_cons_succ]
                            rfl
                          refine one_ (i := 10) (N := none) #[true, true, true, true, true, true, true, true, true, true, true] rfl rfl (one_of HT_.out (by kernel_rfl)) (by decide) (fun K hK => ?_)
                          have hs51 : w50.cell? ⟨gb384, 0, none⟩ = some (.int .i64 0) := (blk_cell BK384.out 0).trans rfl
                          have hfs51 := blk_frozen BK384.out 0
                          have hs52 : w50.cell? ⟨gb384, 1, none⟩ = some (.int .i64 0) := (blk_cell BK384.out 1).trans rfl
                          have hfs52 := blk_frozen BK384.out 1
                          refine skip_ (w1 := ?_) (by rfl) rfl ?_ ?_
                          rotate_left
                          · go_simp
                            rfl
                          refine hK.out _ _ ⟨((cell_far (p := ⟨gb384, _, none⟩) (by first | exact Kd.own_blk (Kd.R_away HO_0.out (fun _ hk => hk.2.2)) | (rw [add_block]; exact Kd.own_blk (Kd.R_away HO_0.out (fun _ hk => hk.2.2))) | (show (Addr.add _ _).block ≠ _; rw [add_block]; exact Kd.own_blk (Kd.R_away HO_0.out (fun _ hk => hk.2.2))) | (dsimp only; exact Kd.own_blk (Kd.R_away HO_0.out (fun _ hk => hk.2.2)))) _).trans (((cell_far (p := ⟨gb384, _, none⟩) (by first | exact Kd.own_blk (Kd.R_away HO_0.out (fun _ hk => hk.2.2)) | (rw [add_block]; exact Kd.own_blk (Kd.R_away HO_0.out (fun _ hk => hk.2.2))) | (show (Addr.add _ _).block ≠ _; rw [add_block]; exact Kd.own_blk (Kd.R_away HO_0.out (fun _ hk => hk.2.2))) | (dsimp only; exact Kd.own_blk (Kd.R_away HO_0.out (fun _ hk => hk.2.2)))) _).trans (hHeld.1)))), ((cell_far (p := ⟨gb384, _, none⟩) (by first | exact Kd.own_blk (Kd.R_away HO_0.out (fun _ hk => hk.2.2)) | (rw [add_block]; exact Kd.own_blk (Kd.R_away HO_0.out (fun _ hk => hk.2.2))) | (show (Addr.add _ _).block ≠ _; rw [add_block]; exact Kd.own_blk (Kd.R_away HO_0.out (fun _ hk => hk.2.2))) | (dsimp only; exact Kd.own_blk (Kd.R_away HO_0.out (fun _ hk => hk.2.2)))) _).trans (((cell_far (p := ⟨gb384, _, none⟩) (by first | exact Kd.own_blk (Kd.R_away HO_0.out (fun _ hk => hk.2.2)) | (rw [add_block]; exact Kd.own_blk (Kd.R_away HO_0.out (fun _ hk => hk.2.2))) | (show (Addr.add _ _).block ≠ _; rw [add_block]; exact Kd.own_blk (Kd.R_away HO_0.out (fun _ hk => hk.2.2))) | (dsimp only; exact Kd.own_blk (Kd.R_away HO_0.out (fun _ hk => hk.2.2)))) _).trans (hHeld.2.1)))), ((cell_far (p := ⟨gb384, _, none⟩) (by first | exact Kd.own_blk (Kd.R_away HO_1.out (fun _ hk => hk.2.2)) | (rw [add_block]; exact Kd.own_blk (Kd.R_away HO_1.out (fun _ hk => hk.2.2))) | (show (Addr.add _ _).block ≠ _; rw [add_block]; exact Kd.own_blk (Kd.R_away HO_1.out (fun _ hk => hk.2.2))) | (dsimp only; exact Kd.own_blk (Kd.R_away HO_1.out (fun _ hk => hk.2.2)))) _).trans (((cell_far (p := ⟨gb384, _, none⟩) (by first | exact Kd.own_blk (Kd.R_away HO_1.out (fun _ hk => hk.2.2)) | (rw [add_block]; exact Kd.own_blk (Kd.R_away HO_1.out (fun _ hk => hk.2.2))) | (show (Addr.add _ _).block ≠ _; rw [add_block]; exact Kd.own_blk (Kd.R_away HO_1.out (fun _ hk => hk.2.2))) | (dsimp only; exact Kd.own_blk (Kd.R_away HO_1.out (fun _ hk => hk.2.2)))) _).trans (hHeld.2.2.1)))), ((cell_far (p := ⟨gb384, _, none⟩) (by first | exact Kd.own_blk (Kd.R_away HO_1.out (fun _ hk => hk.2.2)) | (rw [add_block]; exact Kd.own_blk (Kd.R_away HO_1.out (fun _ hk => hk.2.2))) | (show (Addr.add _ _).block ≠ _; rw [add_block]; exact Kd.own_blk (Kd.R_away HO_1.out (fun _ hk => hk.2.2))) | (dsimp only; exact Kd.own_blk (Kd.R_away HO_1.out (fun _ hk => hk.2.2)))) _).trans (((cell_far (p := ⟨gb384, _, none⟩) (by first | exact Kd.own_blk (Kd.R_away HO_1.out (fun _ hk => hk.2.2)) | (rw [add_block]; exact Kd.own_blk (Kd.R_away HO_1.out (fun _ hk => hk.2.2))) | (show (Addr.add _ _).block ≠ _; rw [add_block]; exact Kd.own_blk (Kd.R_away HO_1.out (fun _ hk => hk.2.2))) | (dsimp only; exact Kd.own_blk (Kd.R_away HO_1.out (fun _ hk => hk.2.2)))) _).trans (hHeld.2.2.2))))⟩ (fun hHeld => ?_)
                          clear hK K
                          refine done_ (done_of HT_.out (by kernel_rfl)) ?_
                          have hcz53_0 : w50.cell? ⟨gb384, 0, none⟩ = some (.int .i64 0) := (blk_cell BK384.out 0).trans rfl
                          have hcz53_1 : w50.cell? ⟨gb384, 1, none⟩ = some (.int .i64 0) := (blk_cell BK384.out 1).trans rfl
                          have hfz53_0 := blk_frozen BK384.out 0
                          have hfz53_1 := blk_frozen BK384.out 1
                          try go_wp2_with (first | ((with_reducible refine gate_callee (f := 48) rfl ?_); refine goesL_ (some 33) rfl rfl Try.func48 (by kernel_rfl) rfl #[.agg #[.int .i64 t382, .int .i64 t383]] rfl (by (try simp only [List.map_toArray, List.map_cons, List.map_nil]); first | done | rfl | (simp only [List.length_drop, List.length_take]; rfl)) ?_; (with_reducible refine (span_empty.calls t382 t383 false _ A18.out).mono ?_); rintro e w54 ⟨rfl, hb⟩; refine ⟨_, rfl, ?_⟩; have n0_ := Aside0.mk (Kd.R_below (by (with_reducible repeat (first | apply Kd.R_alloc | apply Kd.R_drewN | apply Kd.R_drew)); exact (Kd.R_mono (Kd.R_far (p := ⟨gb384, 1, none⟩) (Kd.R_far (p := ⟨gb384, 0, none⟩) (Kd.R_mono HO_0.out (fun k_ hk => (⟨hk, hk.2.2⟩ : _ ∧ k_ ≠ gb384))) (fun _ hk => hk.2) (.int .i64 t382)) (fun _ hk => hk.2) (.int .i64 t383)) (fun _ h_ => h_.1))) hb); have n1_ := Aside0.mk (Kd.R_below (by (with_reducible repeat (first | apply Kd.R_alloc | apply Kd.R_drewN | apply Kd.R_drew)); exact (Kd.R_mono (Kd.R_far (p := ⟨gb384, 1, none⟩) (Kd.R_far (p := ⟨gb384, 0, none⟩) (Kd.R_mono HO_1.out (fun k_ hk => (⟨hk, hk.2.2⟩ : _ ∧ k_ ≠ gb384))) (fun _ hk => hk.2) (.int .i64 t382)) (fun _ hk => hk.2) (.int .i64 t383)) (fun _ h_ => h_.1))) hb); have n2_ := Aside0.mk (Kd.R_below (by (with_reducible repeat (first | apply Kd.R_alloc | apply Kd.R_drewN | apply Kd.R_drew)); exact (Kd.R_mono (Kd.R_far (p := ⟨gb384, 1, none⟩) (Kd.R_far (p := ⟨gb384, 0, none⟩) (Kd.R_mono HO_5.out (fun k_ hk => (⟨hk, hk.2.2⟩ : _ ∧ k_ ≠ gb384))) (fun _ hk => hk.2) (.int .i64 t382)) (fun _ hk => hk.2) (.int .i64 t383)) (fun _ h_ => h_.1))) hb); have n3_ := Aside0.mk (blk_below (g := gb384) (o := .cells #[.int .i64 t382, .int .i64 t383] 30 (0, 0)) (by (with_reducible repeat (first | refine blk_drewN ?_ _ | refine blk_drew ?_ | refine blk_alloc ?_ _)); refine blk_put (cs := #[.int .i64 t382, .int .i64 0]) ?_ 1 _ rfl; (with_reducible repeat (first | refine blk_drewN ?_ _ | refine blk_drew ?_ | refine blk_alloc ?_ _)); refine blk_put (cs := #[.int .i64 0, .int .i64 0]) ?_ 0 _ rfl; (with_reducible repeat (first | refine blk_drewN ?_ _ | refine blk_drew ?_ | refine blk_alloc ?_ _)); exact BK384.out) hb); have n4_ := Aside0.mk (below_step (by repeat (first | (with_reducible first | exact HB.out | apply below_alloc | apply pw_below_drewN | apply below_drew1 | refine below_set ?_ GE384.out) | exact HB.out)) hb); clear HO_0; clear HO_1; clear HO_5; clear BK384; clear HB; have HO_0 := n0_; have HO_1 := n1_; have HO_5 := n2_; have BK384 := n3_; have HB := n4_; clear n0_ n1_ n2_ n3_ n4_; (try clear hb); (try clear hb2); (try clear hk); (try clear hi); have hcz55_0 : w54.cell? ⟨gb384, 0, none⟩ = some (.int .i64 t382) := (blk_cell BK384.out 0).trans rfl; have hcz55_1 : w54.cell? ⟨gb384, 1, none⟩ = some (.int .i64 t383) := (blk_cell BK384.out 1).trans rfl; have hfz55_0 := blk_frozen BK384.out 0; have hfz55_1 := blk_frozen BK384.out 1) | ((with_reducible refine gate_builtin (b := .append) (xs := #[.tmp 35, .tmp 37]) rfl ?_); (try (refine gate_guard (by rfl) ?_; dsimp only)); at_builtin; refine Kd.R_append k30 (w0 := w) w.heap.size rfl (.tmp 35) (.tmp 37) 22 30 (.agg #[(.int .i64 0), (.int .i64 0)]) 16 rfl Try.underlying22 info30 rfl (by decide) (by omega) u5 x5_1 (⟨t382, t383⟩ : S30) [.int .i64 t382, .int .i64 t383] (fun k_ => some k_ ≠ (.slice (some ad380) t374.length co46 : Value).ownBlock ∧ some k_ ≠ (.slice (some ad381) t377.length co47 : Value).ownBlock ∧ k_ ≠ gb384) (fun _ => False) rfl rfl ?aP (fun _ hk => hk.elim) ?aF ?aO ?aB ?aS ?aL ?_; (case aP => exact k30_mkM _ _ _ (⟨t382, t383⟩ : S30)); (case aB => exact (by repeat (first | (with_reducible first | exact HB.out | apply below_alloc | apply pw_below_drewN | apply below_drew1 | refine below_set ?_ GE384.out) | exact HB.out))); (case aF => exact (fun k_ hk => ⟨Kd.fresh' (Kd.R_lt (by (with_reducible repeat (first | apply Kd.R_alloc | apply Kd.R_drewN | apply Kd.R_drew)); exact HO_0.out)) k_ hk, Kd.fresh' (Kd.R_lt (by (with_reducible repeat (first | apply Kd.R_alloc | apply Kd.R_drewN | apply Kd.R_drew)); exact HO_1.out)) k_ hk, Kd.freshB (g := gb384) (o := .cells #[.int .i64 t382, .int .i64 t383] 30 (0, 0)) (by (with_reducible repeat (first | refine blk_drewN ?_ _ | refine blk_drew ?_ | refine blk_alloc ?_ _)); exact BK384.out) k_ hk⟩)); (case aO => exact (by (with_reducible repeat (first | apply Kd.R_alloc | apply Kd.R_drewN | apply Kd.R_drew)); exact HO_5.out)); (case aS => exact (below_size (by repeat (first | (with_reducible first | exact HB.out | apply below_alloc | apply pw_below_drewN | apply below_drew1 | refine below_set ?_ GE384.out) | exact HB.out)))); (case aL => have := LMc43.out; omega); intro v389 w56 ho hb hg hat; rw [← Ny388.out] at ho; have n0_ := Aside0.mk (Kd.R_after (ok := (fun k_ => some k_ ≠ (.slice (some ad381) t377.length co47 : Value).ownBlock ∧ k_ ≠ gb384)) (by (with_reducible repeat (first | apply Kd.R_alloc | apply Kd.R_drewN | apply Kd.R_drew)); exact Kd.R_mono HO_0.out (fun _ hk => ⟨⟨hk.1, hk.2.2⟩, hk.2.1⟩)) hg hat); have n1_ := Aside0.mk (Kd.R_after (ok := (fun k_ => some k_ ≠ (.slice (some ad380) t374.length co46 : Value).ownBlock ∧ k_ ≠ gb384)) (by (with_reducible repeat (first | apply Kd.R_alloc | apply Kd.R_drewN | apply Kd.R_drew)); exact Kd.R_mono HO_1.out (fun _ hk => ⟨⟨hk.1, hk.2.2⟩, hk.2.1⟩)) hg hat); have n2_ := Aside0.mk (blk_grown (g := gb384) (o := .cells #[.int .i64 t382, .int .i64 t383] 30 (0, 0)) (by (with_reducible repeat (first | refine blk_drewN ?_ _ | refine blk_drew ?_ | refine blk_alloc ?_ _)); exact BK384.out) hg (Kd.R_away HO_5.out (fun _ hk => hk.2.2))); have n3_ := Aside0.mk (hb); have n4_ := Aside0.mk (ho); clear HO_0; clear HO_1; clear BK384; clear HB; clear HO_5; have HO_0 := n0_; have HO_1 := n1_; have BK384 := n2_; have HB := n3_; have HO390 := n4_; clear n0_ n1_ n2_ n3_ n4_; clear ho hb hg hat))
                          have n0_ := Aside0.mk (Kd.R_drew HO_0.out)
                          have n1_ := Aside0.mk (Kd.R_drew HO_1.out)
                          have n2_ := Aside0.mk (Kd.R_drew HO390.out)
                          have n3_ := Aside0.mk (blk_drew BK384.out)
                          have n4_ := Aside0.mk (below_drew1 HB.out)
                          clear HO_0
                          clear HO_1
                          clear HO390
                          clear BK384
                          clear HB
                          have HO_0 := n0_
                          have HO_1 := n1_
                          have HO390 := n2_
                          have BK384 := n3_
                          have HB := n4_
                          clear n0_ n1_ n2_ n3_ n4_
                          have p391 : 0 ≤ (x6_1 : Int) := of_decide_eq_true (by first | (with_reducible assumption) | assumption)
                          have q391 : x6_1 < (t374.length : Int) := of_decide_eq_true (by first | (with_reducible assumption) | assumption)
                          obtain ⟨ad391, e391, hx391_0, hx391_1⟩ := at_T30 (Kd.R_reads' HO_0.out).2.2 x6_1 p391 q391
                          obtain rfl : ad380 = ad391 := (by injection e391)
                          replace p391 := eq_true p391
                          replace q391 := eq_true q391
                          have p392 : 0 ≤ (x7_1 : Int) := of_decide_eq_true (by first | (with_reducible assumption) | assumption)
                          have q392 : x7_1 < (t377.length : Int) := of_decide_eq_true (by first | (with_reducible assumption) | assumption)
                          obtain ⟨ad392, e392, hx392_0, hx392_1⟩ := at_T30 (Kd.R_reads' HO_1.out).2.2 x7_1 p392 q392
                          obtain rfl : ad381 = ad392 := (by injection e392)
                          replace p392 := eq_true p392
                          replace q392 := eq_true q392
                          refine start_ (n := 11) (S := fun w' => w'.cell? (ad380.add ((x6_1).toNat * 2)) = some (.int .i64 ((rd_T30 t374 x6_1).f0)) ∧ w'.cell? ⟨(ad380.add ((x6_1).toNat * 2)).block, (ad380.add ((x6_1).toNat * 2)).off + 1, none⟩ = some (.int .i64 ((rd_T30 t374 x6_1).f1)) ∧ w'.cell? (ad381.add ((x7_1).toNat * 2)) = some (.int .i64 ((rd_T30 t377 x7_1).f0)) ∧ w'.cell? ⟨(ad381.add ((x7_1).toNat * 2)).block, (ad381.add ((x7_1).toNat * 2)).off + 1, none⟩ = some (.int .i64 ((rd_T30 t377 x7_1).f1))) (ds := []) #[false, false, false, false, false, false, false, false, false, false, false] (by kernel_rfl) rfl rfl ⟨hx391_0, hx391_1, hx392_0, hx392_1⟩ (fun hHeld => ?_); refine with_tabW span_Meet.tab8 span_Meet.bits8 (fun HT_ HW_ => ?_)
                          generalize w56.drew = w57 at HO_0 HO_1 HO390 BK384 HB hx391_0 hx391_1 hx392_0 hx392_1 hHeld ⊢
                          refine pure_ (i := 0) (N := some 39) (v := ?_) (a' := ?_) #[true, false, false, false, false, false, false, false, false, false, false] rfl rfl (any_of HT_.out (by kernel_rfl)) (fun _ _ _ h => h) (Or.inl ⟨by rfl, ?_⟩) ?_ ?_
                          rotate_left
                          · intro w'
                            go_simp
                            with_reducible rfl
                          rotate_left
                          · simp only [Act.put, List.setIfInBounds_toArray, List.set_cons_zero, List.set_cons_succ, i64_w, i32_w]
                            rfl
                          refine pure_ (i := 1) (N := some 40) (v := ?_) (a' := ?_) #[true, true, false, false, false, false, false, false, false, false, false] rfl rfl (any_of HT_.out (by kernel_rfl)) (fun _ _ _ h => h) (Or.inl ⟨by rfl, ?_⟩) ?_ ?_
                          rotate_left
                          · intro w'
                            go_simp
                            with_reducible rfl
                          rotate_left
                          · simp only [Act.put, List.setIfInBounds_toArray, List.set_cons_zero, List.set_cons_succ, i64_w, i32_w]
                            rfl
                          refine pure_ (i := 2) (N := some 41) (v := ?_) (a' := ?_) #[true, true, true, false, false, false, false, false, false, false, false] rfl rfl (any_of HT_.out (by kernel_rfl)) (fun _ _ _ h => h) (Or.inl ⟨by rfl, ?_⟩) ?_ ?_
                          rotate_left
                          · intro w'
                            go_simp
                            with_reducible rfl
                          rotate_left
                          · simp only [Act.put, List.setIfInBounds_toArray, List.set_cons_zero, List.set_cons_succ, i64_w, i32_w]
                            rfl
                          refine pure_ (i := 3) (N := some 42) (v := ?_) (a' := ?_) #[true, true, true, true, false, false, false, false, false, false, false] rfl rfl (any_of HT_.out (by kernel_rfl)) (fun _ _ _ h => h) (Or.inl ⟨by rfl, ?_⟩) ?_ ?_
                          rotate_left
                          · intro w'
                            go_simp
                            with_reducible rfl
                          rotate_left
                          · simp only [Act.put, List.setIfInBounds_toArray, List.set_cons_zero, List.set_cons_succ, i64_w, i32_w]
                            rfl
                          refine pure_ (i := 5) (N := some 44) (v := ?_) (a' := ?_) #[true, true, true, true, false, true, false, false, false, false, false] rfl rfl (any_of HT_.out (by kernel_rfl)) (fun _ _ _ h => h) (Or.inl ⟨by rfl, ?_⟩) ?_ ?_
                          rotate_left
                          · intro w'
                            go_simp
                            with_reducible rfl
                          rotate_left
                          · simp only [Act.put, List.setIfInBounds_toArray, List.set_cons_zero, List.set_cons_succ, i64_w, i32_w]
                            rfl
                          refine pure_ (i := 6) (N := some 45) (v := ?_) (a' := ?_) #[true, true, true, true, false, true, true, false, false, false, false] rfl rfl (any_of HT_.out (by kernel_rfl)) (fun _ _ _ h => h) (Or.inl ⟨by rfl, ?_⟩) ?_ ?_
                          rotate_left
                          · intro w'
                            go_simp
                            with_reducible rfl
                          rotate_left
                          · simp only [Act.put, List.setIfInBounds_toArray, List.set_cons_zero, List.set_cons_succ, i64_w, i32_w]
                            rfl
                          refine pure_ (i := 7) (N := some 46) (v := ?_) (a' := ?_) #[true, true, true, true, false, true, true, true, false, false, false] rfl rfl (any_of HT_.out (by kernel_rfl)) (fun _ _ _ h => h) (Or.inl ⟨by rfl, ?_⟩) ?_ ?_
                          rotate_left
                          · intro w'
                            go_simp
                            with_reducible rfl
                          rotate_left
                          · simp only [Act.put, List.setIfInBounds_toArray, List.set_cons_zero, List.set_cons_succ, i64_w, i32_w]
                            rfl
                          refine pure_ (i := 8) (N := some 47) (v := ?_) (a' := ?_) #[true, true, true, true, false, true, true, true, true, false, false] rfl rfl (any_of HT_.out (by kernel_rfl)) (fun _ _ _ h => h) (Or.inl ⟨by rfl, ?_⟩) ?_ ?_
                          rotate_left
                          · intro w'
                            go_simp
                            with_reducible rfl
                          rotate_left
                          · simp only [Act.put, List.setIfInBounds_toArray, List.set_cons_zero, List.set_cons_succ, i64_w, i32_w]
                            rfl
                          refine take_ (i := 4) (N := some 43) (v := ?_) (a' := ?_) #[true, true, true, true, true, true, true, true, true, false, false] rfl rfl (take_ofW HT_.out HW_.out (by kernel_rfl)) (fun _ _ _ h => h) (Or.inl ⟨by rfl, ?_⟩) hHeld ?_ ?_
                          rotate_left
                          · rintro w' ⟨s0, s1, s2, s3⟩
                            go_simp
                            with_reducible rfl
                          rotate_left
                          · simp only [Act.put, List.setIfInBounds_toArray, List.set_cons_zero, List.set_cons_succ, i64_w, i32_w]
                            rfl
                          refine take_ (i := 9) (N := some 48) (v := ?_) (a' := ?_) #[true, true, true, true, true, true, true, true, true, true, false] rfl rfl (take_ofW HT_.out HW_.out (by kernel_rfl)) (fun _ _ _ h => h) (Or.inl ⟨by rfl, ?_⟩) hHeld ?_ ?_
                          rotate_left
                          · rintro w' ⟨s0, s1, s2, s3⟩
                            go_simp
                            with_reducible rfl
                          rotate_left
                          · simp only [Act.put, List.setIfInBounds_toArray, List.set_cons_zero, List.set_cons_succ, i64_w, i32_w]
                            rfl
                          refine pure_ (i := 10) (N := some 49) (v := ?_) (a' := ?_) #[true, true, true, true, true, true, true, true, true, true, true] rfl rfl (any_of HT_.out (by kernel_rfl)) (fun _ _ _ h => h) (Or.inl ⟨by rfl, ?_⟩) ?_ ?_
                          rotate_left
                          · intro w'
                            go_simp
                            with_reducible rfl
                          rotate_left
                          · simp only [Act.put, List.setIfInBounds_toArray, List.set_cons_zero, List.set_cons_succ, i64_w, i32_w]
                            rfl
                          refine done_ (done_of HT_.out (by kernel_rfl)) ?_
                          try go_wp2
                          go_roundg kj6
                          case measure => have := HK1.out; have := HJ6.out; omega
                          case rel => exact ⟨(y388), (wrap64 (x6_1 + 1)), (x7_1), (by first | rfl | (simp; done) | (simp [*]; done)), (by first | rfl | (simp; done) | (simp [*]; done)), H', ⟨by have := HK1.out; have := HJ6.out; omega⟩, ⟨by (with_reducible repeat (first | apply Kd.R_alloc | apply Kd.R_drewN | apply Kd.R_drew)); exact Kd.R_mono HO_0.out (fun _ hk => ⟨hk.1.1, hk.2⟩)⟩, ⟨by (with_reducible repeat (first | apply Kd.R_alloc | apply Kd.R_drewN | apply Kd.R_drew)); exact Kd.R_mono HO_1.out (fun _ hk => ⟨hk.1.1, hk.2⟩)⟩, ⟨by (with_reducible repeat (first | apply Kd.R_alloc | apply Kd.R_drewN | apply Kd.R_drew)); exact Kd.R_mono HO390.out (fun _ hk => ⟨hk.1, hk.2.1⟩)⟩, ⟨by repeat (first | (with_reducible first | exact HB.out | apply below_alloc | apply pw_below_drewN | apply below_drew1 | refine below_set ?_ GE384.out) | exact HB.out)⟩⟩
                        · rw [if_neg c44] at H
                          have c44b0 : decide (((rd_T30 t374 x6_1).f1) < ((rd_T30 t377 x7_1).f1)) = false := decide_eq_false c44
                          clear c44
                          have H' := Aside0.mk H
                          clear H
                          try go_wp2
                          have n0_ := Aside0.mk (Kd.R_drew HO_0.out)
                          have n1_ := Aside0.mk (Kd.R_drew HO_1.out)
                          have n2_ := Aside0.mk (Kd.R_drew HO_5.out)
                          have n3_ := Aside0.mk (below_drew1 HB.out)
                          clear HO_0
                          clear HO_1
                          clear HO_5
                          clear HB
                          have HO_0 := n0_
                          have HO_1 := n1_
                          have HO_5 := n2_
                          have HB := n3_
                          clear n0_ n1_ n2_ n3_
                          obtain ⟨Ao59, co59, eo59⟩ := Kd.R_slice HO_0.out
                          (first | subst eo59 | (injection eo59 with f1_ f2_ f3_; have f4_ := f1_.symm; have f5_ := f3_.symm; clear f1_ f2_ f3_; subst f4_; subst f5_))
                          have p380 : 0 ≤ (x6_1 : Int) := of_decide_eq_true (by first | (with_reducible assumption) | assumption)
                          have q380 : x6_1 < (t374.length : Int) := of_decide_eq_true (by first | (with_reducible assumption) | assumption)
                          obtain ⟨ad380, e380, hx380_0, hx380_1⟩ := at_T30 (Kd.R_reads' HO_0.out).2.2 x6_1 p380 q380
                          cases e380
                          replace p380 := eq_true p380
                          replace q380 := eq_true q380
                          obtain ⟨Ao60, co60, eo60⟩ := Kd.R_slice HO_1.out
                          (first | subst eo60 | (injection eo60 with f1_ f2_ f3_; have f4_ := f1_.symm; have f5_ := f3_.symm; clear f1_ f2_ f3_; subst f4_; subst f5_))
                          have p381 : 0 ≤ (x7_1 : Int) := of_decide_eq_true (by first | (with_reducible assumption) | assumption)
                          have q381 : x7_1 < (t377.length : Int) := of_decide_eq_true (by first | (with_reducible assumption) | assumption)
                          obtain ⟨ad381, e381, hx381_0, hx381_1⟩ := at_T30 (Kd.R_reads' HO_1.out).2.2 x7_1 p381 q381
                          cases e381
                          replace p381 := eq_true p381
                          replace q381 := eq_true q381
                          refine start_ (n := 11) (S := fun w' => w'.cell? (ad380.add ((x6_1).toNat * 2)) = some (.int .i64 ((rd_T30 t374 x6_1).f0)) ∧ w'.cell? ⟨(ad380.add ((x6_1).toNat * 2)).block, (ad380.add ((x6_1).toNat * 2)).off + 1, none⟩ = some (.int .i64 ((rd_T30 t374 x6_1).f1)) ∧ w'.cell? (ad381.add ((x7_1).toNat * 2)) = some (.int .i64 ((rd_T30 t377 x7_1).f0)) ∧ w'.cell? ⟨(ad381.add ((x7_1).toNat * 2)).block, (ad381.add ((x7_1).toNat * 2)).off + 1, none⟩ = some (.int .i64 ((rd_T30 t377 x7_1).f1))) (ds := []) #[false, false, false, false, false, false, false, false, false, false, false] (by kernel_rfl) rfl rfl ⟨hx380_0, hx380_1, hx381_0, hx381_1⟩ (fun hHeld => ?_); refine with_tabW span_Meet.tab5 span_Meet.bits5 (fun HT_ HW_ => ?_)
                          generalize wc.drew = w58 at HO_0 HO_1 HO_5 HB hx380_0 hx380_1 hx381_0 hx381_1 hHeld ⊢
                          refine pure_ (i := 0) (N := some 23) (v := ?_) (a' := ?_) #[true, false, false, false, false, false, false, false, false, false, false] rfl rfl (any_of HT_.out (by kernel_rfl)) (fun _ _ _ h => h) (Or.inl ⟨by rfl, ?_⟩) ?_ ?_
                          rotate_left
                          · intro w'
                            go_simp
                            with_reducible rfl
                          rotate_left
                          · simp only [Act.put, List.setIfInBounds_toArray, List.set_cons_zero, List.set_cons_succ, i64_w, i32_w]
                            rfl
                          refine pure_ (i := 1) (N := some 24) (v := ?_) (a' := ?_) #[true, true, false, false, false, false, false, false, false, false, false] rfl rfl (any_of HT_.out (by kernel_rfl)) (fun _ _ _ h => h) (Or.inl ⟨by rfl, ?_⟩) ?_ ?_
                          rotate_left
                          · intro w'
                            go_simp
                            with_reducible rfl
                          rotate_left
                          · simp only [Act.put, List.setIfInBounds_toArray, List.set_cons_zero, List.set_cons_succ, i64_w, i32_w]
                            rfl
                          refine pure_ (i := 2) (N := some 25) (v := ?_) (a' := ?_) #[true, true, true, false, false, false, false, false, false, false, false] rfl rfl (any_of HT_.out (by kernel_rfl)) (fun _ _ _ h => h) (Or.inl ⟨by rfl, ?_⟩) ?_ ?_
                          rotate_left
                          · intro w'
                            go_simp
                            with_reducible rfl
                          rotate_left
                          · simp only [Act.put, List.setIfInBounds_toArray, List.set_cons_zero, List.set_cons_succ, i64_w, i32_w]
                            rfl
                          refine pure_ (i := 4) (N := some 27) (v := ?_) (a' := ?_) #[true, true, true, false, true, false, false, false, false, false, false] rfl rfl (any_of HT_.out (by kernel_rfl)) (fun _ _ _ h => h) (Or.inl ⟨by rfl, ?_⟩) ?_ ?_
                          rotate_left
                          · intro w'
                            go_simp
                            with_reducible rfl
                          rotate_left
                          · simp only [Act.put, List.setIfInBounds_toArray, List.set_cons_zero, List.set_cons_succ, i64_w, i32_w]
                            rfl
                          refine pure_ (i := 5) (N := some 28) (v := ?_) (a' := ?_) #[true, true, true, false, true, true, false, false, false, false, false] rfl rfl (any_of HT_.out (by kernel_rfl)) (fun _ _ _ h => h) (Or.inl ⟨by rfl, ?_⟩) ?_ ?_
                          rotate_left
                          · intro w'
                            go_simp
                            with_reducible rfl
                          rotate_left
                          · simp only [Act.put, List.setIfInBounds_toArray, List.set_cons_zero, List.set_cons_succ, i64_w, i32_w]
                            rfl
                          refine pure_ (i := 6) (N := some 29) (v := ?_) (a' := ?_) #[true, true, true, false, true, true, true, false, false, false, false] rfl rfl (any_of HT_.out (by kernel_rfl)) (fun _ _ _ h => h) (Or.inl ⟨by rfl, ?_⟩) ?_ ?_
                          rotate_left
                          · intro w'
                            go_simp
                            with_reducible rfl
                          rotate_left
                          · simp only [Act.put, List.setIfInBounds_toArray, List.set_cons_zero, List.set_cons_succ, i64_w, i32_w]
                            rfl
                          refine take_ (i := 3) (N := some 26) (v := ?_) (a' := ?_) #[true, true, true, true, true, true, true, false, false, false, false] rfl rfl (take_ofW HT_.out HW_.out (by kernel_rfl)) (fun _ _ _ h => h) (Or.inl ⟨by rfl, ?_⟩) hHeld ?_ ?_
                          rotate_left
                          · rintro w' ⟨s0, s1, s2, s3⟩
                            go_simp
                            with_reducible rfl
                          rotate_left
                          · simp only [Act.put, List.setIfInBounds_toArray, List.set_cons_zero, List.set_cons_succ, i64_w, i32_w]
                            rfl
                          refine take_ (i := 7) (N := some 30) (v := ?_) (a' := ?_) #[true, true, true, true, true, true, true, true, false, false, false] rfl rfl (take_ofW HT_.out HW_.out (by kernel_rfl)) (fun _ _ _ h => h) (Or.inl ⟨by rfl, ?_⟩) hHeld ?_ ?_
                          rotate_left
                          · rintro w' ⟨s0, s1, s2, s3⟩
                            go_simp
                            with_reducible rfl
                          rotate_left
                          · simp only [Act.put, List.setIfInBounds_toArray, List.set_cons_zero, List.set_cons_succ, i64_w, i32_w]
                            rfl
                          refine join_ (σ := Nat) 1 #[true, true, true, true, true, true, true, true, true, true, false] (fun s_ => [(31, .agg #[.int .i64 t382, .int .i64 t383]), (8, .pointer (some ⟨s_, 0, none⟩))]) (fun s_ w' => (w'.cell? (ad380.add ((x6_1).toNat * 2)) = some (.int .i64 ((rd_T30 t374 x6_1).f0)) ∧ w'.cell? ⟨(ad380.add ((x6_1).toNat * 2)).block, (ad380.add ((x6_1).toNat * 2)).off + 1, none⟩ = some (.int .i64 ((rd_T30 t374 x6_1).f1)) ∧ w'.cell? (ad381.add ((x7_1).toNat * 2)) = some (.int .i64 ((rd_T30 t377 x7_1).f0)) ∧ w'.cell? ⟨(ad381.add ((x7_1).toNat * 2)).block, (ad381.add ((x7_1).toNat * 2)).off + 1, none⟩ = some (.int .i64 ((rd_T30 t377 x7_1).f1))) ∧ (Kd.R k30 30 w' w.heap.size (fun k_ => some k_ ≠ (.slice (some ad381) t377.length co60 : Value).ownBlock ∧ some k_ ≠ (u5 : Value).ownBlock ∧ k_ ≠ s_) (.slice (some ad380) t374.length co59) t374) ∧ (Kd.R k30 30 w' w.heap.size (fun k_ => some k_ ≠ (.slice (some ad380) t374.length co59 : Value).ownBlock ∧ some k_ ≠ (u5 : Value).ownBlock ∧ k_ ≠ s_) (.slice (some ad381) t377.length co60) t377) ∧ (Kd.R k30 30 w' w.heap.size (fun k_ => some k_ ≠ (.slice (some ad380) t374.length co59 : Value).ownBlock ∧ some k_ ≠ (.slice (some ad381) t377.length co60 : Value).ownBlock ∧ k_ ≠ s_) u5 x5_1) ∧ (w'.heap[s_]? = some (.cells #[.int .i64 0, .int .i64 0] 30 (0, 0))) ∧ (w.heap.size ≤ s_) ∧ (w.heap.size ≤ s_) ∧ (Below w.heap.size w w')) ?_ ?_
                          rotate_left
                          · intro hCont
                            refine two_ (i := 8) (j := 9) (Ni := some 31) (Nj := some 8) #[true, true, true, true, true, true, true, true, true, false, false] #[true, true, true, true, true, true, true, true, false, true, false] rfl rfl rfl rfl (two_of HT_.out (by kernel_rfl)) (by decide) (by decide) (fun K hK => ?_) (fun K hK => ?_)
                            · skip
                              refine goes_ Try.func55 (by kernel_rfl) rfl #[.agg #[.int .i64 ((rd_T30 t374 x6_1).f0), .int .i64 ((rd_T30 t374 x6_1).f1)], .agg #[.int .i64 ((rd_T30 t377 x7_1).f0), .int .i64 ((rd_T30 t377 x7_1).f1)]] (by rfl) rfl rfl (by (try simp only [List.map_toArray, List.map_cons, List.map_nil]); first | done | rfl | (simp only [List.length_drop, List.length_take]; rfl)) ?_
                              with_reducible refine (span_both.calls ((rd_T30 t374 x6_1).f0) ((rd_T30 t374 x6_1).f1) ((rd_T30 t377 x7_1).f0) ((rd_T30 t377 x7_1).f1) t382 t383 _ A17.out).mono ?_
                              rintro e w61 ⟨rfl, hb⟩
                              have HS0_ := (hb.cell (World.block_lt_of_cell? _ _ (hHeld.1))).trans (hHeld.1)
                              have HS1_ := (hb.cell (World.block_lt_of_cell? _ _ (hHeld.2.1))).trans (hHeld.2.1)
                              have HS2_ := (hb.cell (World.block_lt_of_cell? _ _ (hHeld.2.2.1))).trans (hHeld.2.2.1)
                              have HS3_ := (hb.cell (World.block_lt_of_cell? _ _ (hHeld.2.2.2))).trans (hHeld.2.2.2)
                              refine ⟨_, rfl, ?_⟩
                              have n0_ := Aside0.mk (Kd.R_below (by (with_reducible repeat (first | apply Kd.R_alloc | apply Kd.R_drewN | apply Kd.R_drew)); exact HO_0.out) hb)
                              have n1_ := Aside0.mk (Kd.R_below (by (with_reducible repeat (first | apply Kd.R_alloc | apply Kd.R_drewN | apply Kd.R_drew)); exact HO_1.out) hb)
                              have n2_ := Aside0.mk (Kd.R_below (by (with_reducible repeat (first | apply Kd.R_alloc | apply Kd.R_drewN | apply Kd.R_drew)); exact HO_5.out) hb)
                              have n3_ := Aside0.mk (below_step (by repeat (first | (with_reducible first | exact HB.out | apply below_alloc | apply pw_below_drewN | apply below_drew1) | exact HB.out)) hb)
                              clear HO_0
                              clear HO_1
                              clear HO_5
                              clear HB
                              have HO_0 := n0_
                              have HO_1 := n1_
                              have HO_5 := n2_
                              have HB := n3_
                              clear n0_ n1_ n2_ n3_
                              (try clear hb)
                              (try clear hb2)
                              (try clear hk)
                              (try clear hi)
                              refine hK.out _ _ ⟨HS0_, HS1_, HS2_, HS3_⟩ (fun hHeld => ?_)
                              clear hK K
                              refine norm_ (a' := ?_) ?_ ?_
                              rotate_left
                              · show Act.put _ (some 31) _ = _
                                simp only [Act.put, List.setIfInBounds_toArray, List.set_cons_zero, List.set_cons_succ, i64_w, i32_w]
                                rfl
                              refine one_ (i := 9) (N := some 8) #[true, true, true, true, true, true, true, true, true, true, false] rfl rfl (one_of HT_.out (by kernel_rfl)) (by decide) (fun K hK => ?_)
                              refine box_step ?hg (N := 8) ?hd (cs := #[.int .i64 0, .int .i64 0]) (t := 30) ?hr ?_; (case hd => rfl); (case hg => rfl); (case hr => first | (go_simp; done) | (go_simp; rfl))
                              intro gb384 hg w62 hbox hb
                              have HS0_ := (hb.cell (World.block_lt_of_cell? _ _ (hHeld.1))).trans (hHeld.1)
                              have HS1_ := (hb.cell (World.block_lt_of_cell? _ _ (hHeld.2.1))).trans (hHeld.2.1)
                              have HS2_ := (hb.cell (World.block_lt_of_cell? _ _ (hHeld.2.2.1))).trans (hHeld.2.2.1)
                              have HS3_ := (hb.cell (World.block_lt_of_cell? _ _ (hHeld.2.2.2))).trans (hHeld.2.2.2)
                              have n0_ := Aside0.mk (Kd.R_below (Kd.R_elderB (by (with_reducible repeat (first | apply Kd.R_alloc | apply Kd.R_drewN | apply Kd.R_drew)); exact HO_0.out) gb384 (Nat.le_of_eq hg.symm)) hb)
                              have n1_ := Aside0.mk (Kd.R_below (Kd.R_elderB (by (with_reducible repeat (first | apply Kd.R_alloc | apply Kd.R_drewN | apply Kd.R_drew)); exact HO_1.out) gb384 (Nat.le_of_eq hg.symm)) hb)
                              have n2_ := Aside0.mk (Kd.R_below (Kd.R_elderB (by (with_reducible repeat (first | apply Kd.R_alloc | apply Kd.R_drewN | apply Kd.R_drew)); exact HO_5.out) gb384 (Nat.le_of_eq hg.symm)) hb)
                              have n3_ := Aside0.mk (below_step (by repeat (first | (with_reducible first | exact HB.out | apply below_alloc | apply pw_below_drewN | apply below_drew1) | exact HB.out)) hb)
                              have n4_ := Aside0.mk (hbox)
                              have n5_ := Aside0.mk ((by rw [hg]; exact (below_size (by repeat (first | (with_reducible first | exact HB.out | apply below_alloc | apply pw_below_drewN | apply below_drew1) | exact HB.out))) : w.heap.size ≤ gb384))
                              have n6_ := Aside0.mk ((by rw [hg]; exact (below_size (by repeat (first | (with_reducible first | exact HB.out | apply below_alloc | apply pw_below_drewN | apply below_drew1) | exact HB.out))) : w.heap.size ≤ gb384))
                              clear HO_0
                              clear HO_1
                              clear HO_5
                              clear HB
                              have HO_0 := n0_
                              have HO_1 := n1_
                              have HO_5 := n2_
                              have HB := n3_
                              have BK384 := n4_
                              have GW384 := n5_
                              have GE384 := n6_
                              clear n0_ n1_ n2_ n3_ n4_ n5_ n6_
                              clear hb hbox hg
                              refine hK.out _ _ ⟨HS0_, HS1_, HS2_, HS3_⟩ (fun hHeld => ?_)
                              clear hK K
                              refine norm_ (a' := ?_) ?_ ?_
                              rotate_left
                              · show Act.put _ (some 8) _ = _
                                simp only [Act.put, List.setIfInBounds_toArray, List.set_cons_zero, List.set_cons_succ, i64_w, i32_w]
                                rfl
                              exact norm_ (by simp only [putAll, Act.put, List.setIfInBounds_toArray, List.set_cons_zero, List.set_cons_succ]) (hCont (gb384) _ ⟨hHeld, (by (with_reducible repeat (first | apply Kd.R_alloc | apply Kd.R_drewN | apply Kd.R_drew)); exact Kd.R_mono HO_0.out (fun _ hk => ⟨hk.1.1, ⟨hk.1.2, hk.2⟩⟩)), (by (with_reducible repeat (first | apply Kd.R_alloc | apply Kd.R_drewN | apply Kd.R_drew)); exact Kd.R_mono HO_1.out (fun _ hk => ⟨hk.1.1, ⟨hk.1.2, hk.2⟩⟩)), (by (with_reducible repeat (first | apply Kd.R_alloc | apply Kd.R_drewN | apply Kd.R_drew)); exact Kd.R_mono HO_5.out (fun _ hk => ⟨hk.1.1, ⟨hk.1.2, hk.2⟩⟩)), (by (with_reducible repeat (first | refine blk_drewN ?_ _ | refine blk_drew ?_ | refine blk_alloc ?_ _)); exact BK384.out), GW384.out, GE384.out, (by repeat (first | (with_reducible first | exact HB.out | apply below_alloc | apply pw_below_drewN | apply below_drew1 | refine below_set ?_ GE384.out) | exact HB.out))⟩)
                            · skip
                              refine box_step ?hg (N := 8) ?hd (cs := #[.int .i64 0, .int .i64 0]) (t := 30) ?hr ?_; (case hd => rfl); (case hg => rfl); (case hr => first | (go_simp; done) | (go_simp; rfl))
                              intro gb384 hg w61 hbox hb
                              have HS0_ := (hb.cell (World.block_lt_of_cell? _ _ (hHeld.1))).trans (hHeld.1)
                              have HS1_ := (hb.cell (World.block_lt_of_cell? _ _ (hHeld.2.1))).trans (hHeld.2.1)
                              have HS2_ := (hb.cell (World.block_lt_of_cell? _ _ (hHeld.2.2.1))).trans (hHeld.2.2.1)
                              have HS3_ := (hb.cell (World.block_lt_of_cell? _ _ (hHeld.2.2.2))).trans (hHeld.2.2.2)
                              have n0_ := Aside0.mk (Kd.R_below (Kd.R_elderB (by (with_reducible repeat (first | apply Kd.R_alloc | apply Kd.R_drewN | apply Kd.R_drew)); exact HO_0.out) gb384 (Nat.le_of_eq hg.symm)) hb)
                              have n1_ := Aside0.mk (Kd.R_below (Kd.R_elderB (by (with_reducible repeat (first | apply Kd.R_alloc | apply Kd.R_drewN | apply Kd.R_drew)); exact HO_1.out) gb384 (Nat.le_of_eq hg.symm)) hb)
                              have n2_ := Aside0.mk (Kd.R_below (Kd.R_elderB (by (with_reducible repeat (first | apply Kd.R_alloc | apply Kd.R_drewN | apply Kd.R_drew)); exact HO_5.out) gb384 (Nat.le_of_eq hg.symm)) hb)
                              have n3_ := Aside0.mk (below_step (by repeat (first | (with_reducible first | exact HB.out | apply below_alloc | apply pw_below_drewN | apply below_drew1) | exact HB.out)) hb)
                              have n4_ := Aside0.mk (hbox)
                              have n5_ := Aside0.mk ((by rw [hg]; exact (below_size (by repeat (first | (with_reducible first | exact HB.out | apply below_alloc | apply pw_below_drewN | apply below_drew1) | exact HB.out))) : w.heap.size ≤ gb384))
                              have n6_ := Aside0.mk ((by rw [hg]; exact (below_size (by repeat (first | (with_reducible first | exact HB.out | apply below_alloc | apply pw_below_drewN | apply below_drew1) | exact HB.out))) : w.heap.size ≤ gb384))
                              clear HO_0
                              clear HO_1
                              clear HO_5
                              clear HB
                              have HO_0 := n0_
                              have HO_1 := n1_
                              have HO_5 := n2_
                              have HB := n3_
                              have BK384 := n4_
                              have GW384 := n5_
                              have GE384 := n6_
                              clear n0_ n1_ n2_ n3_ n4_ n5_ n6_
                              clear hb hbox hg
                              refine hK.out _ _ ⟨HS0_, HS1_, HS2_, HS3_⟩ (fun hHeld => ?_)
                              clear hK K
                              refine norm_ (a' := ?_) ?_ ?_
                              rotate_left
                              · show Act.put _ (some 8) _ = _
                                simp only [Act.put, List.setIfInBounds_toArray, List.set_cons_zero, List.set_cons_succ, i64_w, i32_w]
                                rfl
                              refine one_ (i := 8) (N := some 31) #[true, true, true, true, true, true, true, true, true, true, false] rfl rfl (one_of HT_.out (by kernel_rfl)) (by decide) (fun K hK => ?_)
                              refine goes_ Try.func55 (by kernel_rfl) rfl #[.agg #[.int .i64 ((rd_T30 t374 x6_1).f0), .int .i64 ((rd_T30 t374 x6_1).f1)], .agg #[.int .i64 ((rd_T30 t377 x7_1).f0), .int .i64 ((rd_T30 t377 x7_1).f1)]] (by rfl) rfl rfl (by (try simp only [List.map_toArray, List.map_cons, List.map_nil]); first | done | rfl | (simp only [List.length_drop, List.length_take]; rfl)) ?_
                              with_reducible refine (span_both.calls ((rd_T30 t374 x6_1).f0) ((rd_T30 t374 x6_1).f1) ((rd_T30 t377 x7_1).f0) ((rd_T30 t377 x7_1).f1) t382 t383 _ A17.out).mono ?_
                              rintro e w62 ⟨rfl, hb⟩
                              have HS0_ := (hb.cell (World.block_lt_of_cell? _ _ (hHeld.1))).trans (hHeld.1)
                              have HS1_ := (hb.cell (World.block_lt_of_cell? _ _ (hHeld.2.1))).trans (hHeld.2.1)
                              have HS2_ := (hb.cell (World.block_lt_of_cell? _ _ (hHeld.2.2.1))).trans (hHeld.2.2.1)
                              have HS3_ := (hb.cell (World.block_lt_of_cell? _ _ (hHeld.2.2.2))).trans (hHeld.2.2.2)
                              refine ⟨_, rfl, ?_⟩
                              have n0_ := Aside0.mk (Kd.R_below (by (with_reducible repeat (first | apply Kd.R_alloc | apply Kd.R_drewN | apply Kd.R_drew)); exact HO_0.out) hb)
                              have n1_ := Aside0.mk (Kd.R_below (by (with_reducible repeat (first | apply Kd.R_alloc | apply Kd.R_drewN | apply Kd.R_drew)); exact HO_1.out) hb)
                              have n2_ := Aside0.mk (Kd.R_below (by (with_reducible repeat (first | apply Kd.R_alloc | apply Kd.R_drewN | apply Kd.R_drew)); exact HO_5.out) hb)
                              have n3_ := Aside0.mk (blk_below (g := gb384) (o := .cells #[.int .i64 0, .int .i64 0] 30 (0, 0)) (by (with_reducible repeat (first | refine blk_drewN ?_ _ | refine blk_drew ?_ | refine blk_alloc ?_ _)); exact BK384.out) hb)
                              have n4_ := Aside0.mk (below_step (by repeat (first | (with_reducible first | exact HB.out | apply below_alloc | apply pw_below_drewN | apply below_drew1 | refine below_set ?_ GE384.out) | exact HB.out)) hb)
                              clear HO_0
                              clear HO_1
                              clear HO_5
                              clear BK384
                              clear HB
                              have HO_0 := n0_
                              have HO_1 := n1_
                              have HO_5 := n2_
                              have BK384 := n3_
                              have HB := n4_
                              clear n0_ n1_ n2_ n3_ n4_
                              (try clear hb)
                              (try clear hb2)
                              (try clear hk)
                              (try clear hi)
                              refine hK.out _ _ ⟨HS0_, HS1_, HS2_, HS3_⟩ (fun hHeld => ?_)
                              clear hK K
                              refine norm_ (a' := ?_) ?_ ?_
                              rotate_left
                              · show Act.put _ (some 31) _ = _
                                simp only [Act.put, List.setIfInBounds_toArray, List.set_cons_zero, List.set_cons_succ, i64_w, i32_w]
                                rfl
                              exact norm_ (by simp only [putAll, Act.put, List.setIfInBounds_toArray, List.set_cons_zero, List.set_cons_succ]) (hCont (gb384) _ ⟨hHeld, (by (with_reducible repeat (first | apply Kd.R_alloc | apply Kd.R_drewN | apply Kd.R_drew)); exact Kd.R_mono HO_0.out (fun _ hk => ⟨hk.1.1, ⟨hk.1.2, hk.2⟩⟩)), (by (with_reducible repeat (first | apply Kd.R_alloc | apply Kd.R_drewN | apply Kd.R_drew)); exact Kd.R_mono HO_1.out (fun _ hk => ⟨hk.1.1, ⟨hk.1.2, hk.2⟩⟩)), (by (with_reducible repeat (first | apply Kd.R_alloc | apply Kd.R_drewN | apply Kd.R_drew)); exact Kd.R_mono HO_5.out (fun _ hk => ⟨hk.1.1, ⟨hk.1.2, hk.2⟩⟩)), (by (with_reducible repeat (first | refine blk_drewN ?_ _ | refine blk_drew ?_ | refine blk_alloc ?_ _)); exact BK384.out), GW384.out, GE384.out, (by repeat (first | (with_reducible first | exact HB.out | apply below_alloc | apply pw_below_drewN | apply below_drew1 | refine below_set ?_ GE384.out) | exact HB.out))⟩)
                          rintro gb384 w63 ⟨hS_, h0_, h1_, h2_, h3_, h4_, h5_, h6_⟩
                          have n0_ : Aside0 (Kd.R k30 30 w63 w.heap.size (fun k_ => some k_ ≠ (.slice (some ad381) t377.length co60 : Value).ownBlock ∧ some k_ ≠ (u5 : Value).ownBlock ∧ k_ ≠ gb384) (.slice (some ad380) t374.length co59) t374) := ⟨h0_⟩
                          have n1_ : Aside0 (Kd.R k30 30 w63 w.heap.size (fun k_ => some k_ ≠ (.slice (some ad380) t374.length co59 : Value).ownBlock ∧ some k_ ≠ (u5 : Value).ownBlock ∧ k_ ≠ gb384) (.slice (some ad381) t377.length co60) t377) := ⟨h1_⟩
                          have n2_ : Aside0 (Kd.R k30 30 w63 w.heap.size (fun k_ => some k_ ≠ (.slice (some ad380) t374.length co59 : Value).ownBlock ∧ some k_ ≠ (.slice (some ad381) t377.length co60 : Value).ownBlock ∧ k_ ≠ gb384) u5 x5_1) := ⟨h2_⟩
                          have n3_ : Aside0 (w63.heap[gb384]? = some (.cells #[.int .i64 0, .int .i64 0] 30 (0, 0))) := ⟨h3_⟩
                          have n4_ : Aside0 (w.heap.size ≤ gb384) := ⟨h4_⟩
                          have n5_ : Aside0 (w.heap.size ≤ gb384) := ⟨h5_⟩
                          have n6_ : Aside0 (Below w.heap.size w w63) := ⟨h6_⟩
                          clear HO_0
                          clear HO_1
                          clear HO_5
                          clear HB
                          clear h0_ h1_ h2_ h3_ h4_ h5_ h6_
                          have HO_0 := n0_
                          have HO_1 := n1_
                          have HO_5 := n2_
                          have BK384 := n3_
                          have GW384 := n4_
                          have GE384 := n5_
                          have HB := n6_
                          clear n0_ n1_ n2_ n3_ n4_ n5_ n6_
                          have hHeld : w63.cell? (ad380.add ((x6_1).toNat * 2)) = some (.int .i64 ((rd_T30 t374 x6_1).f0)) ∧ w63.cell? ⟨(ad380.add ((x6_1).toNat * 2)).block, (ad380.add ((x6_1).toNat * 2)).off + 1, none⟩ = some (.int .i64 ((rd_T30 t374 x6_1).f1)) ∧ w63.cell? (ad381.add ((x7_1).toNat * 2)) = some (.int .i64 ((rd_T30 t377 x7_1).f0)) ∧ w63.cell? ⟨(ad381.add ((x7_1).toNat * 2)).block, (ad381.add ((x7_1).toNat * 2)).off + 1, none⟩ = some (.int .i64 ((rd_T30 t377 x7_1).f1)) := hS_
                          refine norm_ (a' := ?_) ?_ ?_
                          rotate_left
                          · simp only [putAll, Act.put, List.setIfInBounds_toArray, List.set_cons_zero, List.set_cons_succ]
                            rfl
                          refine one_ (i := 10) (N := none) #[true, true, true, true, true, true, true, true, true, true, true] rfl rfl (one_of HT_.out (by kernel_rfl)) (by decide) (fun K hK => ?_)
                          have hs64 : w63.cell? ⟨gb384, 0, none⟩ = some (.int .i64 0) := (blk_cell BK384.out 0).trans rfl
                          have hfs64 := blk_frozen BK384.out 0
                          have hs65 : w63.cell? ⟨gb384, 1, none⟩ = some (.int .i64 0) := (blk_cell BK384.out 1).trans rfl
                          have hfs65 := blk_frozen BK384.out 1
                          refine skip_ (w1 := ?_) (by rfl) rfl ?_ ?_
                          rotate_left
                          · go_simp
                            rfl
                          refine hK.out _ _ ⟨((cell_far (p := ⟨gb384, _, none⟩) (by first | exact Kd.own_blk (Kd.R_away HO_0.out (fun _ hk => hk.2.2)) | (rw [add_block]; exact Kd.own_blk (Kd.R_away HO_0.out (fun _ hk => hk.2.2))) | (show (Addr.add _ _).block ≠ _; rw [add_block]; exact Kd.own_blk (Kd.R_away HO_0.out (fun _ hk => hk.2.2))) | (dsimp only; exact Kd.own_blk (Kd.R_away HO_0.out (fun _ hk => hk.2.2)))) _).trans (((cell_far (p := ⟨gb384, _, none⟩) (by first | exact Kd.own_blk (Kd.R_away HO_0.out (fun _ hk => hk.2.2)) | (rw [add_block]; exact Kd.own_blk (Kd.R_away HO_0.out (fun _ hk => hk.2.2))) | (show (Addr.add _ _).block ≠ _; rw [add_block]; exact Kd.own_blk (Kd.R_away HO_0.out (fun _ hk => hk.2.2))) | (dsimp only; exact Kd.own_blk (Kd.R_away HO_0.out (fun _ hk => hk.2.2)))) _).trans (hHeld.1)))), ((cell_far (p := ⟨gb384, _, none⟩) (by first | exact Kd.own_blk (Kd.R_away HO_0.out (fun _ hk => hk.2.2)) | (rw [add_block]; exact Kd.own_blk (Kd.R_away HO_0.out (fun _ hk => hk.2.2))) | (show (Addr.add _ _).block ≠ _; rw [add_block]; exact Kd.own_blk (Kd.R_away HO_0.out (fun _ hk => hk.2.2))) | (dsimp only; exact Kd.own_blk (Kd.R_away HO_0.out (fun _ hk => hk.2.2)))) _).trans (((cell_far (p := ⟨gb384, _, none⟩) (by first | exact Kd.own_blk (Kd.R_away HO_0.out (fun _ hk => hk.2.2)) | (rw [add_block]; exact Kd.own_blk (Kd.R_away HO_0.out (fun _ hk => hk.2.2))) | (show (Addr.add _ _).block ≠ _; rw [add_block]; exact Kd.own_blk (Kd.R_away HO_0.out (fun _ hk => hk.2.2))) | (dsimp only; exact Kd.own_blk (Kd.R_away HO_0.out (fun _ hk => hk.2.2)))) _).trans (hHeld.2.1)))), ((cell_far (p := ⟨gb384, _, none⟩) (by first | exact Kd.own_blk (Kd.R_away HO_1.out (fun _ hk => hk.2.2)) | (rw [add_block]; exact Kd.own_blk (Kd.R_away HO_1.out (fun _ hk => hk.2.2))) | (show (Addr.add _ _).block ≠ _; rw [add_block]; exact Kd.own_blk (Kd.R_away HO_1.out (fun _ hk => hk.2.2))) | (dsimp only; exact Kd.own_blk (Kd.R_away HO_1.out (fun _ hk => hk.2.2)))) _).trans (((cell_far (p := ⟨gb384, _, none⟩) (by first | exact Kd.own_blk (Kd.R_away HO_1.out (fun _ hk => hk.2.2)) | (rw [add_block]; exact Kd.own_blk (Kd.R_away HO_1.out (fun _ hk => hk.2.2))) | (show (Addr.add _ _).block ≠ _; rw [add_block]; exact Kd.own_blk (Kd.R_away HO_1.out (fun _ hk => hk.2.2))) | (dsimp only; exact Kd.own_blk (Kd.R_away HO_1.out (fun _ hk => hk.2.2)))) _).trans (hHeld.2.2.1)))), ((cell_far (p := ⟨gb384, _, none⟩) (by first | exact Kd.own_blk (Kd.R_away HO_1.out (fun _ hk => hk.2.2)) | (rw [add_block]; exact Kd.own_blk (Kd.R_away HO_1.out (fun _ hk => hk.2.2))) | (show (Addr.add _ _).block ≠ _; rw [add_block]; exact Kd.own_blk (Kd.R_away HO_1.out (fun _ hk => hk.2.2))) | (dsimp only; exact Kd.own_blk (Kd.R_away HO_1.out (fun _ hk => hk.2.2)))) _).trans (((cell_far (p := ⟨gb384, _, none⟩) (by first | exact Kd.own_blk (Kd.R_away HO_1.out (fun _ hk => hk.2.2)) | (rw [add_block]; exact Kd.own_blk (Kd.R_away HO_1.out (fun _ hk => hk.2.2))) | (show (Addr.add _ _).block ≠ _; rw [add_block]; exact Kd.own_blk (Kd.R_away HO_1.out (fun _ hk => hk.2.2))) | (dsimp only; exact Kd.own_blk (Kd.R_away HO_1.out (fun _ hk => hk.2.2)))) _).trans (hHeld.2.2.2))))⟩ (fun hHeld => ?_)
                          clear hK K
                          refine done_ (done_of HT_.out (by kernel_rfl)) ?_
                          have hcz66_0 : w63.cell? ⟨gb384, 0, none⟩ = some (.int .i64 0) := (blk_cell BK384.out 0).trans rfl
                          have hcz66_1 : w63.cell? ⟨gb384, 1, none⟩ = some (.int .i64 0) := (blk_cell BK384.out 1).trans rfl
                          have hfz66_0 := blk_frozen BK384.out 0
                          have hfz66_1 := blk_frozen BK384.out 1
                          try go_wp2_with (first | ((with_reducible refine gate_callee (f := 48) rfl ?_); refine goesL_ (some 33) rfl rfl Try.func48 (by kernel_rfl) rfl #[.agg #[.int .i64 t382, .int .i64 t383]] rfl (by (try simp only [List.map_toArray, List.map_cons, List.map_nil]); first | done | rfl | (simp only [List.length_drop, List.length_take]; rfl)) ?_; (with_reducible refine (span_empty.calls t382 t383 false _ A18.out).mono ?_); rintro e w67 ⟨rfl, hb⟩; refine ⟨_, rfl, ?_⟩; have n0_ := Aside0.mk (Kd.R_below (by (with_reducible repeat (first | apply Kd.R_alloc | apply Kd.R_drewN | apply Kd.R_drew)); exact (Kd.R_mono (Kd.R_far (p := ⟨gb384, 1, none⟩) (Kd.R_far (p := ⟨gb384, 0, none⟩) (Kd.R_mono HO_0.out (fun k_ hk => (⟨hk, hk.2.2⟩ : _ ∧ k_ ≠ gb384))) (fun _ hk => hk.2) (.int .i64 t382)) (fun _ hk => hk.2) (.int .i64 t383)) (fun _ h_ => h_.1))) hb); have n1_ := Aside0.mk (Kd.R_below (by (with_reducible repeat (first | apply Kd.R_alloc | apply Kd.R_drewN | apply Kd.R_drew)); exact (Kd.R_mono (Kd.R_far (p := ⟨gb384, 1, none⟩) (Kd.R_far (p := ⟨gb384, 0, none⟩) (Kd.R_mono HO_1.out (fun k_ hk => (⟨hk, hk.2.2⟩ : _ ∧ k_ ≠ gb384))) (fun _ hk => hk.2) (.int .i64 t382)) (fun _ hk => hk.2) (.int .i64 t383)) (fun _ h_ => h_.1))) hb); have n2_ := Aside0.mk (Kd.R_below (by (with_reducible repeat (first | apply Kd.R_alloc | apply Kd.R_drewN | apply Kd.R_drew)); exact (Kd.R_mono (Kd.R_far (p := ⟨gb384, 1, none⟩) (Kd.R_far (p := ⟨gb384, 0, none⟩) (Kd.R_mono HO_5.out (fun k_ hk => (⟨hk, hk.2.2⟩ : _ ∧ k_ ≠ gb384))) (fun _ hk => hk.2) (.int .i64 t382)) (fun _ hk => hk.2) (.int .i64 t383)) (fun _ h_ => h_.1))) hb); have n3_ := Aside0.mk (blk_below (g := gb384) (o := .cells #[.int .i64 t382, .int .i64 t383] 30 (0, 0)) (by (with_reducible repeat (first | refine blk_drewN ?_ _ | refine blk_drew ?_ | refine blk_alloc ?_ _)); refine blk_put (cs := #[.int .i64 t382, .int .i64 0]) ?_ 1 _ rfl; (with_reducible repeat (first | refine blk_drewN ?_ _ | refine blk_drew ?_ | refine blk_alloc ?_ _)); refine blk_put (cs := #[.int .i64 0, .int .i64 0]) ?_ 0 _ rfl; (with_reducible repeat (first | refine blk_drewN ?_ _ | refine blk_drew ?_ | refine blk_alloc ?_ _)); exact BK384.out) hb); have n4_ := Aside0.mk (below_step (by repeat (first | (with_reducible first | exact HB.out | apply below_alloc | apply pw_below_drewN | apply below_drew1 | refine below_set ?_ GE384.out) | exact HB.out)) hb); clear HO_0; clear HO_1; clear HO_5; clear BK384; clear HB; have HO_0 := n0_; have HO_1 := n1_; have HO_5 := n2_; have BK384 := n3_; have HB := n4_; clear n0_ n1_ n2_ n3_ n4_; (try clear hb); (try clear hb2); (try clear hk); (try clear hi); have hcz68_0 : w67.cell? ⟨gb384, 0, none⟩ = some (.int .i64 t382) := (blk_cell BK384.out 0).trans rfl; have hcz68_1 : w67.cell? ⟨gb384, 1, none⟩ = some (.int .i64 t383) := (blk_cell BK384.out 1).trans rfl; have hfz68_0 := blk_frozen BK384.out 0; have hfz68_1 := blk_frozen BK384.out 1) | ((with_reducible refine gate_builtin (b := .append) (xs := #[.tmp 35, .tmp 37]) rfl ?_); (try (refine gate_guard (by rfl) ?_; dsimp only)); at_builtin; refine Kd.R_append k30 (w0 := w) w.heap.size rfl (.tmp 35) (.tmp 37) 22 30 (.agg #[(.int .i64 0), (.int .i64 0)]) 16 rfl Try.underlying22 info30 rfl (by decide) (by omega) u5 x5_1 (⟨t382, t383⟩ : S30) [.int .i64 t382, .int .i64 t383] (fun k_ => some k_ ≠ (.slice (some ad380) t374.length co59 : Value).ownBlock ∧ some k_ ≠ (.slice (some ad381) t377.length co60 : Value).ownBlock ∧ k_ ≠ gb384) (fun _ => False) rfl rfl ?aP (fun _ hk => hk.elim) ?aF ?aO ?aB ?aS ?aL ?_; (case aP => exact k30_mkM _ _ _ (⟨t382, t383⟩ : S30)); (case aB => exact (by repeat (first | (with_reducible first | exact HB.out | apply below_alloc | apply pw_below_drewN | apply below_drew1 | refine below_set ?_ GE384.out) | exact HB.out))); (case aF => exact (fun k_ hk => ⟨Kd.fresh' (Kd.R_lt (by (with_reducible repeat (first | apply Kd.R_alloc | apply Kd.R_drewN | apply Kd.R_drew)); exact HO_0.out)) k_ hk, Kd.fresh' (Kd.R_lt (by (with_reducible repeat (first | apply Kd.R_alloc | apply Kd.R_drewN | apply Kd.R_drew)); exact HO_1.out)) k_ hk, Kd.freshB (g := gb384) (o := .cells #[.int .i64 t382, .int .i64 t383] 30 (0, 0)) (by (with_reducible repeat (first | refine blk_drewN ?_ _ | refine blk_drew ?_ | refine blk_alloc ?_ _)); exact BK384.out) k_ hk⟩)); (case aO => exact (by (with_reducible repeat (first | apply Kd.R_alloc | apply Kd.R_drewN | apply Kd.R_drew)); exact HO_5.out)); (case aS => exact (below_size (by repeat (first | (with_reducible first | exact HB.out | apply below_alloc | apply pw_below_drewN | apply below_drew1 | refine below_set ?_ GE384.out) | exact HB.out)))); (case aL => have := LMc43.out; omega); intro v389 w69 ho hb hg hat; rw [← Ny388.out] at ho; have n0_ := Aside0.mk (Kd.R_after (ok := (fun k_ => some k_ ≠ (.slice (some ad381) t377.length co60 : Value).ownBlock ∧ k_ ≠ gb384)) (by (with_reducible repeat (first | apply Kd.R_alloc | apply Kd.R_drewN | apply Kd.R_drew)); exact Kd.R_mono HO_0.out (fun _ hk => ⟨⟨hk.1, hk.2.2⟩, hk.2.1⟩)) hg hat); have n1_ := Aside0.mk (Kd.R_after (ok := (fun k_ => some k_ ≠ (.slice (some ad380) t374.length co59 : Value).ownBlock ∧ k_ ≠ gb384)) (by (with_reducible repeat (first | apply Kd.R_alloc | apply Kd.R_drewN | apply Kd.R_drew)); exact Kd.R_mono HO_1.out (fun _ hk => ⟨⟨hk.1, hk.2.2⟩, hk.2.1⟩)) hg hat); have n2_ := Aside0.mk (blk_grown (g := gb384) (o := .cells #[.int .i64 t382, .int .i64 t383] 30 (0, 0)) (by (with_reducible repeat (first | refine blk_drewN ?_ _ | refine blk_drew ?_ | refine blk_alloc ?_ _)); exact BK384.out) hg (Kd.R_away HO_5.out (fun _ hk => hk.2.2))); have n3_ := Aside0.mk (hb); have n4_ := Aside0.mk (ho); clear HO_0; clear HO_1; clear BK384; clear HB; clear HO_5; have HO_0 := n0_; have HO_1 := n1_; have BK384 := n2_; have HB := n3_; have HO390 := n4_; clear n0_ n1_ n2_ n3_ n4_; clear ho hb hg hat))
                          have n0_ := Aside0.mk (Kd.R_drew HO_0.out)
                          have n1_ := Aside0.mk (Kd.R_drew HO_1.out)
                          have n2_ := Aside0.mk (Kd.R_drew HO390.out)
                          have n3_ := Aside0.mk (blk_drew BK384.out)
                          have n4_ := Aside0.mk (below_drew1 HB.out)
                          clear HO_0
                          clear HO_1
                          clear HO390
                          clear BK384
                          clear HB
                          have HO_0 := n0_
                          have HO_1 := n1_
                          have HO390 := n2_
                          have BK384 := n3_
                          have HB := n4_
                          clear n0_ n1_ n2_ n3_ n4_
                          have p391 : 0 ≤ (x6_1 : Int) := of_decide_eq_true (by first | (with_reducible assumption) | assumption)
                          have q391 : x6_1 < (t374.length : Int) := of_decide_eq_true (by first | (with_reducible assumption) | assumption)
                          obtain ⟨ad391, e391, hx391_0, hx391_1⟩ := at_T30 (Kd.R_reads' HO_0.out).2.2 x6_1 p391 q391
                          obtain rfl : ad380 = ad391 := (by injection e391)
                          replace p391 := eq_true p391
                          replace q391 := eq_true q391
                          have p392 : 0 ≤ (x7_1 : Int) := of_decide_eq_true (by first | (with_reducible assumption) | assumption)
                          have q392 : x7_1 < (t377.length : Int) := of_decide_eq_true (by first | (with_reducible assumption) | assumption)
                          obtain ⟨ad392, e392, hx392_0, hx392_1⟩ := at_T30 (Kd.R_reads' HO_1.out).2.2 x7_1 p392 q392
                          obtain rfl : ad381 = ad392 := (by injection e392)
                          replace p392 := eq_true p392
                          replace q392 := eq_true q392
                          refine start_ (n := 11) (S := fun w' => w'.cell? (ad380.add ((x6_1).toNat * 2)) = some (.int .i64 ((rd_T30 t374 x6_1).f0)) ∧ w'.cell? ⟨(ad380.add ((x6_1).toNat * 2)).block, (ad380.add ((x6_1).toNat * 2)).off + 1, none⟩ = some (.int .i64 ((rd_T30 t374 x6_1).f1)) ∧ w'.cell? (ad381.add ((x7_1).toNat * 2)) = some (.int .i64 ((rd_T30 t377 x7_1).f0)) ∧ w'.cell? ⟨(ad381.add ((x7_1).toNat * 2)).block, (ad381.add ((x7_1).toNat * 2)).off + 1, none⟩ = some (.int .i64 ((rd_T30 t377 x7_1).f1))) (ds := []) #[false, false, false, false, false, false, false, false, false, false, false] (by kernel_rfl) rfl rfl ⟨hx391_0, hx391_1, hx392_0, hx392_1⟩ (fun hHeld => ?_); refine with_tabW span_Meet.tab8 span_Meet.bits8 (fun HT_ HW_ => ?_)
                          generalize w69.drew = w70 at HO_0 HO_1 HO390 BK384 HB hx391_0 hx391_1 hx392_0 hx392_1 hHeld ⊢
                          refine pure_ (i := 0) (N := some 39) (v := ?_) (a' := ?_) #[true, false, false, false, false, false, false, false, false, false, false] rfl rfl (any_of HT_.out (by kernel_rfl)) (fun _ _ _ h => h) (Or.inl ⟨by rfl, ?_⟩) ?_ ?_
                          rotate_left
                          · intro w'
                            go_simp
                            with_reducible rfl
                          rotate_left
                          · simp only [Act.put, List.setIfInBounds_toArray, List.set_cons_zero, List.set_cons_succ, i64_w, i32_w]
                            rfl
                          refine pure_ (i := 1) (N := some 40) (v := ?_) (a' := ?_) #[true, true, false, false, false, false, false, false, false, false, false] rfl rfl (any_of HT_.out (by kernel_rfl)) (fun _ _ _ h => h) (Or.inl ⟨by rfl, ?_⟩) ?_ ?_
                          rotate_left
                          · intro w'
                            go_simp
                            with_reducible rfl
                          rotate_left
                          · simp only [Act.put, List.setIfInBounds_toArray, List.set_cons_zero, List.set_cons_succ, i64_w, i32_w]
                            rfl
                          refine pure_ (i := 2) (N := some 41) (v := ?_) (a' := ?_) #[true, true, true, false, false, false, false, false, false, false, false] rfl rfl (any_of HT_.out (by kernel_rfl)) (fun _ _ _ h => h) (Or.inl ⟨by rfl, ?_⟩) ?_ ?_
                          rotate_left
                          · intro w'
                            go_simp
                            with_reducible rfl
                          rotate_left
                          · simp only [Act.put, List.setIfInBounds_toArray, List.set_cons_zero, List.set_cons_succ, i64_w, i32_w]
                            rfl
                          refine pure_ (i := 3) (N := some 42) (v := ?_) (a' := ?_) #[true, true, true, true, false, false, false, false, false, false, false] rfl rfl (any_of HT_.out (by kernel_rfl)) (fun _ _ _ h => h) (Or.inl ⟨by rfl, ?_⟩) ?_ ?_
                          rotate_left
                          · intro w'
                            go_simp
                            with_reducible rfl
                          rotate_left
                          · simp only [Act.put, List.setIfInBounds_toArray, List.set_cons_zero, List.set_cons_succ, i64_w, i32_w]
                            rfl
                          refine pure_ (i := 5) (N := some 44) (v := ?_) (a' := ?_) #[true, true, true, true, false, true, false, false, false, false, false] rfl rfl (any_of HT_.out (by kernel_rfl)) (fun _ _ _ h => h) (Or.inl ⟨by rfl, ?_⟩) ?_ ?_
                          rotate_left
                          · intro w'
                            go_simp
                            with_reducible rfl
                          rotate_left
                          · simp only [Act.put, List.setIfInBounds_toArray, List.set_cons_zero, List.set_cons_succ, i64_w, i32_w]
                            rfl
                          refine pure_ (i := 6) (N := some 45) (v := ?_) (a' := ?_) #[true, true, true, true, false, true, true, false, false, false, false] rfl rfl (any_of HT_.out (by kernel_rfl)) (fun _ _ _ h => h) (Or.inl ⟨by rfl, ?_⟩) ?_ ?_
                          rotate_left
                          · intro w'
                            go_simp
                            with_reducible rfl
                          rotate_left
                          · simp only [Act.put, List.setIfInBounds_toArray, List.set_cons_zero, List.set_cons_succ, i64_w, i32_w]
                            rfl
                          refine pure_ (i := 7) (N := some 46) (v := ?_) (a' := ?_) #[true, true, true, true, false, true, true, true, false, false, false] rfl rfl (any_of HT_.out (by kernel_rfl)) (fun _ _ _ h => h) (Or.inl ⟨by rfl, ?_⟩) ?_ ?_
                          rotate_left
                          · intro w'
                            go_simp
                            with_reducible rfl
                          rotate_left
                          · simp only [Act.put, List.setIfInBounds_toArray, List.set_cons_zero, List.set_cons_succ, i64_w, i32_w]
                            rfl
                          refine pure_ (i := 8) (N := some 47) (v := ?_) (a' := ?_) #[true, true, true, true, false, true, true, true, true, false, false] rfl rfl (any_of HT_.out (by kernel_rfl)) (fun _ _ _ h => h) (Or.inl ⟨by rfl, ?_⟩) ?_ ?_
                          rotate_left
                          · intro w'
                            go_simp
                            with_reducible rfl
                          rotate_left
                          · simp only [Act.put, List.setIfInBounds_toArray, List.set_cons_zero, List.set_cons_succ, i64_w, i32_w]
                            rfl
                          refine take_ (i := 4) (N := some 43) (v := ?_) (a' := ?_) #[true, true, true, true, true, true, true, true, true, false, false] rfl rfl (take_ofW HT_.out HW_.out (by kernel_rfl)) (fun _ _ _ h => h) (Or.inl ⟨by rfl, ?_⟩) hHeld ?_ ?_
                          rotate_left
                          · rintro w' ⟨s0, s1, s2, s3⟩
                            go_simp
                            with_reducible rfl
                          rotate_left
                          · simp only [Act.put, List.setIfInBounds_toArray, List.set_cons_zero, List.set_cons_succ, i64_w, i32_w]
                            rfl
                          refine take_ (i := 9) (N := some 48) (v := ?_) (a' := ?_) #[true, true, true, true, true, true, true, true, true, true, false] rfl rfl (take_ofW HT_.out HW_.out (by kernel_rfl)) (fun _ _ _ h => h) (Or.inl ⟨by rfl, ?_⟩) hHeld ?_ ?_
                          rotate_left
                          · rintro w' ⟨s0, s1, s2, s3⟩
                            go_simp
                            with_reducible rfl
                          rotate_left
                          · simp only [Act.put, List.setIfInBounds_toArray, List.set_cons_zero, List.set_cons_succ, i64_w, i32_w]
                            rfl
                          refine pure_ (i := 10) (N := some 49) (v := ?_) (a' := ?_) #[true, true, true, true, true, true, true, true, true, true, true] rfl rfl (any_of HT_.out (by kernel_rfl)) (fun _ _ _ h => h) (Or.inl ⟨by rfl, ?_⟩) ?_ ?_
                          rotate_left
                          · intro w'
                            go_simp
                            with_reducible rfl
                          rotate_left
                          · simp only [Act.put, List.setIfInBounds_toArray, List.set_cons_zero, List.set_cons_succ, i64_w, i32_w]
                            rfl
                          refine done_ (done_of HT_.out (by kernel_rfl)) ?_
                          try go_wp2
                          go_roundg kj6
                          case measure => have := HK1.out; have := HJ6.out; omega
                          case rel => exact ⟨(y388), (x6_1), (wrap64 (x7_1 + 1)), (by first | rfl | (simp; done) | (simp [*]; done)), (by first | rfl | (simp; done) | (simp [*]; done)), H', ⟨by have := HK1.out; have := HJ6.out; omega⟩, ⟨by (with_reducible repeat (first | apply Kd.R_alloc | apply Kd.R_drewN | apply Kd.R_drew)); exact Kd.R_mono HO_0.out (fun _ hk => ⟨hk.1.1, hk.2⟩)⟩, ⟨by (with_reducible repeat (first | apply Kd.R_alloc | apply Kd.R_drewN | apply Kd.R_drew)); exact Kd.R_mono HO_1.out (fun _ hk => ⟨hk.1.1, hk.2⟩)⟩, ⟨by (with_reducible repeat (first | apply Kd.R_alloc | apply Kd.R_drewN | apply Kd.R_drew)); exact Kd.R_mono HO390.out (fun _ hk => ⟨hk.1, hk.2.1⟩)⟩, ⟨by repeat (first | (with_reducible first | exact HB.out | apply below_alloc | apply pw_below_drewN | apply below_drew1 | refine below_set ?_ GE384.out) | exact HB.out)⟩⟩
                      · rw [if_neg c43] at H
                        exact absurd H (by simp)
                  · rw [if_neg c16] at H
                    exact absurd H (by simp)
                · rw [if_neg c15] at H
                  exact absurd H (by simp)
              · rw [if_neg c14] at H
                exact absurd H (by simp)
            · rw [if_neg c13] at H
              exact absurd H (by simp)
          · replace c12 := Bool.eq_false_iff.mpr c12
            subst c12
            have H1 : (some x5_1) = some r := by rw [if_neg (show ¬ (false = true) by decide)] at H; exact H
            clear H
            have H := H1
            clear H1
            obtain rfl := Option.some.inj H
            go_wp2
            go_ret
            exact ⟨_, by first | rfl | (simp [errW_none, errW_some] <;> rfl) | (simp [*, errW_none, errW_some] <;> rfl), by (with_reducible repeat (first | apply Kd.R_alloc | apply Kd.R_drewN | apply Kd.R_drew)); exact Kd.R_mono HO_5.out (fun _ hk => trivial), by repeat (first | (with_reducible first | exact HB.out | apply below_alloc | apply pw_below_drewN | apply below_drew1) | exact HB.out)⟩
end Go.Proofs.Ytgncbhpmnjfhhaa.S
end
section
namespace Go.Proofs.Ytgncbhpmnjfhhaa.S
open Go.RowKit Go.Proofs.YtgncbhpmnjfhhaaW.PrintWords Go.Proofs.YtgncbhpmnjfhhaaW.PrintLast Go.Proofs.YtgncbhpmnjfhhaaW.PrintMore
attribute [local go_sem] max2_int min2_int max_two min_two max_three min_three max_four min_four
set_option linter.unusedVariables false
set_option linter.unusedSimpArgs false
set_option maxHeartbeats 8000000 in
set_option maxRecDepth 100000 in
theorem lamellalaw02_SpanMeets.calls (k : Nat) (A0 : Option Addr) (c0 : Nat) (l0 : List (S30)) (A1 : Option Addr) (c1 : Nat) (l1 : List (S30)) (r : Bool) (w : World) (hr0 : Kd.C k30 w A0 l0.length l0) (hc0 : l0.length ≤ c0) (hr1 : Kd.C k30 w A1 l1.length l1) (hc1 : l1.length ≤ c1) (h : lamellalaw02_SpanMeets.f k l0 l1 = some r) :
    Calls Try.prog 11 #[.slice A0 l0.length c0, .slice A1 l1.length c1] w fun e w' => e = .returned (.bool r) ∧ Below w.heap.size w w' := by
  have HR0 := Aside0.mk hr0
  have HC0 := Aside0.mk hc0
  clear hr0 hc0
  have HR1 := Aside0.mk hr1
  have HC1 := Aside0.mk hc1
  clear hr1 hc1
  have HB := Aside0.mk (Below.refl w.heap.size w)
  have H : ((lamellalaw02_cut.f l0).bind fun t393 => ((lamellalaw02_cut.f l1).bind fun t396 => ((span_Meet.f k t393 t396).bind fun t399 => ((lamellaref02_Of.f k t393 t396 1).bind fun t402 => ((lamellaref02_Same.f k t399 t402).bind fun t405 => (if t405 = true then ((lamellalaw02_lives.f).bind fun t406 => (some t406)) else (some false))))))) = some r := h
  clear h
  replace H := Option.bind_eq_some_iff.mp H
  obtain ⟨t393, A30, H⟩ := H
  replace H : ((lamellalaw02_cut.f l1).bind fun t396 => ((span_Meet.f k t393 t396).bind fun t399 => ((lamellaref02_Of.f k t393 t396 1).bind fun t402 => ((lamellaref02_Same.f k t399 t402).bind fun t405 => (if t405 = true then ((lamellalaw02_lives.f).bind fun t406 => (some t406)) else (some false)))))) = some r := H
  have A3 := Aside0.mk A30
  clear A30
  replace H := Option.bind_eq_some_iff.mp H
  obtain ⟨t396, A40, H⟩ := H
  replace H : ((span_Meet.f k t393 t396).bind fun t399 => ((lamellaref02_Of.f k t393 t396 1).bind fun t402 => ((lamellaref02_Same.f k t399 t402).bind fun t405 => (if t405 = true then ((lamellalaw02_lives.f).bind fun t406 => (some t406)) else (some false))))) = some r := H
  have A4 := Aside0.mk A40
  clear A40
  replace H := Option.bind_eq_some_iff.mp H
  obtain ⟨t399, A50, H⟩ := H
  replace H : ((lamellaref02_Of.f k t393 t396 1).bind fun t402 => ((lamellaref02_Same.f k t399 t402).bind fun t405 => (if t405 = true then ((lamellalaw02_lives.f).bind fun t406 => (some t406)) else (some false)))) = some r := H
  have A5 := Aside0.mk A50
  clear A50
  replace H := Option.bind_eq_some_iff.mp H
  obtain ⟨t402, A60, H⟩ := H
  replace H : ((lamellaref02_Same.f k t399 t402).bind fun t405 => (if t405 = true then ((lamellalaw02_lives.f).bind fun t406 => (some t406)) else (some false))) = some r := H
  have A6 := Aside0.mk A60
  clear A60
  replace H := Option.bind_eq_some_iff.mp H
  obtain ⟨t405, A70, H⟩ := H
  replace H : (if t405 = true then ((lamellalaw02_lives.f).bind fun t406 => (some t406)) else (some false)) = some r := H
  have A7 := Aside0.mk A70
  clear A70
  by_cases c8 : t405 = true
  · subst c8
    have H1 : ((lamellalaw02_lives.f).bind fun t406 => (some t406)) = some r := by rw [if_pos rfl] at H; exact H
    clear H
    have H := H1
    clear H1
    replace H := Option.bind_eq_some_iff.mp H
    obtain ⟨t406, A90, H⟩ := H
    replace H : (some t406) = some r := H
    have A9 := Aside0.mk A90
    clear A90
    obtain rfl := Option.some.inj H
    go_enter Try.func11, Try.ntmps11
    go_wp2_with (first | ((with_reducible refine gate_callee (f := 17) rfl ?_); refine goesL_ (some 6) rfl rfl Try.func17 (by kernel_rfl) rfl #[.slice A0 l0.length c0] rfl (by (try simp only [List.map_toArray, List.map_cons, List.map_nil]); first | done | rfl | (simp only [List.length_drop, List.length_take]; rfl)) ?_; (with_reducible refine (lamellalaw02_cut.calls (fun k_ => k_ < w.heap.size) _ _ l0 t393 _ ?side1 A3.out).mono ?_); (case side1 => exact Kd.V_mk HC0.out (Kd.F_below (Kd.C_F k30_heap HR0.out) (by repeat (first | (with_reducible first | exact HB.out | apply below_alloc | apply pw_below_drewN | apply below_drew1) | exact HB.out)))); rintro e w10 ⟨v394, rfl, ho0, hb⟩; refine ⟨_, rfl, ?_⟩; have n0_ := Aside0.mk (Kd.V_lower (Kd.V_mono (ok' := fun k_ => True) ho0 (fun k_ hk_ => trivial)) (below_size (by repeat (first | (with_reducible first | exact HB.out | apply below_alloc | apply pw_below_drewN | apply below_drew1) | exact HB.out)))); have n1_ := Aside0.mk (below_step (by repeat (first | (with_reducible first | exact HB.out | apply below_alloc | apply pw_below_drewN | apply below_drew1) | exact HB.out)) hb); clear HB; have HO395 := n0_; have HB := n1_; clear n0_ n1_; (try clear hb); (try clear hb2); (try clear hk); (try clear hi); (try clear ho0)) | ((with_reducible refine gate_callee (f := 17) rfl ?_); refine goesL_ (some 8) rfl rfl Try.func17 (by kernel_rfl) rfl #[.slice A1 l1.length c1] rfl (by (try simp only [List.map_toArray, List.map_cons, List.map_nil]); first | done | rfl | (simp only [List.length_drop, List.length_take]; rfl)) ?_; (with_reducible refine (lamellalaw02_cut.calls (fun k_ => k_ < w.heap.size) _ _ l1 t396 _ ?side1 A4.out).mono ?_); (case side1 => exact Kd.V_mk HC1.out (Kd.F_below (Kd.C_F k30_heap HR1.out) (by repeat (first | (with_reducible first | exact HB.out | apply below_alloc | apply pw_below_drewN | apply below_drew1) | exact HB.out)))); rintro e w11 ⟨v397, rfl, ho0, hb⟩; refine ⟨_, rfl, ?_⟩; have n0_ := Aside0.mk (Kd.V_below (by (with_reducible repeat (first | apply Kd.V_alloc | apply Kd.V_drewN | apply Kd.V_drew)); exact HO395.out) hb); have n1_ := Aside0.mk (Kd.V_lower (Kd.V_mono (ok' := fun k_ => True) ho0 (fun k_ hk_ => trivial)) (below_size (by repeat (first | (with_reducible first | exact HB.out | apply below_alloc | apply pw_below_drewN | apply below_drew1) | exact HB.out)))); have n2_ := Aside0.mk (below_step (by repeat (first | (with_reducible first | exact HB.out | apply below_alloc | apply pw_below_drewN | apply below_drew1) | exact HB.out)) hb); clear HO395; clear HB; have HO395 := n0_; have HO398 := n1_; have HB := n2_; clear n0_ n1_ n2_; (try clear hb); (try clear hb2); (try clear hk); (try clear hi); (try clear ho0); obtain ⟨Ao12, co12, eo12⟩ := Kd.V_slice HO395.out; subst eo12; obtain ⟨Ao13, co13, eo13⟩ := Kd.V_slice HO398.out; subst eo13) | ((with_reducible refine gate_callee (f := 42) rfl ?_); refine goesL_ (some 11) rfl rfl Try.func42 (by kernel_rfl) rfl #[.slice Ao12 t393.length co12, .slice Ao13 t396.length co13] rfl (by (try simp only [List.map_toArray, List.map_cons, List.map_nil]); first | done | rfl | (simp only [List.length_drop, List.length_take]; rfl)) ?_; (with_reducible refine (span_Meet.calls k _ _ t393 _ _ t396 t399 _ ?side1 ?side2 ?side3 ?side4 A5.out).mono ?_); (case side1 => repeat (first | exact (Kd.V_reads' HO395.out).2.2 | (with_reducible refine Kd.C_alloc ?_ _) | (with_reducible refine Kd.C_drewN ?_ _) | (with_reducible refine Kd.C_drew ?_))); (case side2 => exact (Kd.V_reads' HO395.out).2.1); (case side3 => repeat (first | exact (Kd.V_reads' HO398.out).2.2 | (with_reducible refine Kd.C_alloc ?_ _) | (with_reducible refine Kd.C_drewN ?_ _) | (with_reducible refine Kd.C_drew ?_))); (case side4 => exact (Kd.V_reads' HO398.out).2.1); rintro e w14 ⟨v400, rfl, ho0, hb⟩; refine ⟨_, rfl, ?_⟩; have n0_ := Aside0.mk (Kd.V_elder' (by (with_reducible repeat (first | apply Kd.V_alloc | apply Kd.V_drewN | apply Kd.V_drew)); exact HO395.out) (Kd.R_base ho0) hb); have n1_ := Aside0.mk (Kd.V_elder' (by (with_reducible repeat (first | apply Kd.V_alloc | apply Kd.V_drewN | apply Kd.V_drew)); exact HO398.out) (Kd.R_base ho0) hb); have n2_ := Aside0.mk (Kd.R_lower ho0 (below_size (by repeat (first | (with_reducible first | exact HB.out | apply below_alloc | apply pw_below_drewN | apply below_drew1) | exact HB.out)))); have n3_ := Aside0.mk (below_step (by repeat (first | (with_reducible first | exact HB.out | apply below_alloc | apply pw_below_drewN | apply below_drew1) | exact HB.out)) hb); clear HO395; clear HO398; clear HB; have HO395 := n0_; have HO398 := n1_; have HO401 := n2_; have HB := n3_; clear n0_ n1_ n2_ n3_; (try clear hb); (try clear hb2); (try clear hk); (try clear hi); (try clear ho0)) | ((with_reducible refine gate_callee (f := 20) rfl ?_); refine goesL_ (some 14) rfl rfl Try.func20 (by kernel_rfl) rfl #[.slice Ao12 t393.length co12, .slice Ao13 t396.length co13, .int .i64 1] rfl (by (try simp only [List.map_toArray, List.map_cons, List.map_nil]); first | done | rfl | (simp only [List.length_drop, List.length_take]; rfl)) ?_; (with_reducible refine (lamellaref02_Of.calls k (fun k_ => (True ∧ some k_ ≠ (v400 : Value).ownBlock)) _ _ t393 (fun k_ => (True ∧ some k_ ≠ (v400 : Value).ownBlock)) _ _ t396 1 t402 _ ?side1 ?side2 A6.out).mono ?_); (case side1 => exact HO395.out); (case side2 => exact HO398.out); rintro e w15 ⟨v403, rfl, ho0, hb⟩; refine ⟨_, rfl, ?_⟩; have n0_ := Aside0.mk (Kd.V_elder' (by (with_reducible repeat (first | apply Kd.V_alloc | apply Kd.V_drewN | apply Kd.V_drew)); exact HO395.out) (Kd.R_base ho0) hb); have n1_ := Aside0.mk (Kd.V_elder' (by (with_reducible repeat (first | apply Kd.V_alloc | apply Kd.V_drewN | apply Kd.V_drew)); exact HO398.out) (Kd.R_base ho0) hb); have n2_ := Aside0.mk (Kd.R_elder' (by (with_reducible repeat (first | apply Kd.R_alloc | apply Kd.R_drewN | apply Kd.R_drew)); exact HO401.out) (Kd.R_base ho0) hb); have n3_ := Aside0.mk (Kd.R_lower (Kd.R_new' (Kd.R_mono (ok' := fun k_ => True) ho0 (fun _ hk_ => trivial)) (Kd.R_lt (by (with_reducible repeat (first | apply Kd.R_alloc | apply Kd.R_drewN | apply Kd.R_drew)); exact HO401.out))) (below_size (by repeat (first | (with_reducible first | exact HB.out | apply below_alloc | apply pw_below_drewN | apply below_drew1) | exact HB.out)))); have n4_ := Aside0.mk (below_step (by repeat (first | (with_reducible first | exact HB.out | apply below_alloc | apply pw_below_drewN | apply below_drew1) | exact HB.out)) hb); clear HO395; clear HO398; clear HO401; clear HB; have HO395 := n0_; have HO398 := n1_; have HO401 := n2_; have HO404 := n3_; have HB := n4_; clear n0_ n1_ n2_ n3_ n4_; (try clear hb); (try clear hb2); (try clear hk); (try clear hi); (try clear ho0); obtain ⟨Ao16, co16, eo16⟩ := Kd.R_slice HO401.out; subst eo16; obtain ⟨Ao17, co17, eo17⟩ := Kd.R_slice HO404.out; subst eo17) | ((with_reducible refine gate_callee (f := 19) rfl ?_); refine goesL_ (some 15) rfl rfl Try.func19 (by kernel_rfl) rfl #[.slice Ao16 t399.length co16, .slice Ao17 t402.length co17] rfl (by (try simp only [List.map_toArray, List.map_cons, List.map_nil]); first | done | rfl | (simp only [List.length_drop, List.length_take]; rfl)) ?_; (with_reducible refine (lamellaref02_Same.calls k _ _ t399 _ _ t402 true _ ?side1 ?side2 ?side3 ?side4 A7.out).mono ?_); (case side1 => repeat (first | exact (Kd.R_reads' HO401.out).2.2 | (with_reducible refine Kd.C_alloc ?_ _) | (with_reducible refine Kd.C_drewN ?_ _) | (with_reducible refine Kd.C_drew ?_))); (case side2 => exact (Kd.R_reads' HO401.out).2.1); (case side3 => repeat (first | exact (Kd.R_reads' HO404.out).2.2 | (with_reducible refine Kd.C_alloc ?_ _) | (with_reducible refine Kd.C_drewN ?_ _) | (with_reducible refine Kd.C_drew ?_))); (case side4 => exact (Kd.R_reads' HO404.out).2.1); rintro e w' ⟨rfl, ⟨nd, rfl⟩⟩; refine ⟨_, rfl, ?_⟩) | (go_at_call 22; (with_reducible refine (lamellalaw02_lives.calls  t406 _ A9.out).mono ?_); rintro e w18 ⟨rfl, hb⟩; have n0_ := Aside0.mk (Kd.V_below (by (with_reducible repeat (first | apply Kd.V_alloc | apply Kd.V_drewN | apply Kd.V_drew)); exact HO395.out) hb); have n1_ := Aside0.mk (Kd.V_below (by (with_reducible repeat (first | apply Kd.V_alloc | apply Kd.V_drewN | apply Kd.V_drew)); exact HO398.out) hb); have n2_ := Aside0.mk (Kd.R_below (by (with_reducible repeat (first | apply Kd.R_alloc | apply Kd.R_drewN | apply Kd.R_drew)); exact HO401.out) hb); have n3_ := Aside0.mk (Kd.R_below (by (with_reducible repeat (first | apply Kd.R_alloc | apply Kd.R_drewN | apply Kd.R_drew)); exact HO404.out) hb); have n4_ := Aside0.mk (below_step (by repeat (first | (with_reducible first | exact HB.out | apply below_alloc | apply pw_below_drewN | apply below_drew1) | exact HB.out)) hb); clear HO395; clear HO398; clear HO401; clear HO404; clear HB; have HO395 := n0_; have HO398 := n1_; have HO401 := n2_; have HO404 := n3_; have HB := n4_; clear n0_ n1_ n2_ n3_ n4_; (try clear hb); (try clear hb2); (try clear hk); (try clear hi)))
    go_ret
    exact ⟨by first | rfl | (simp [errW_none, errW_some] <;> rfl) | (simp [*, errW_none, errW_some] <;> rfl), by repeat (first | (with_reducible first | exact HB.out | apply below_alloc | apply pw_below_drewN | apply below_drew1) | exact HB.out)⟩
  · replace c8 := Bool.eq_false_iff.mpr c8
    subst c8
    have H1 : (some false) = some r := by rw [if_neg (show ¬ (false = true) by decide)] at H; exact H
    clear H
    have H := H1
    clear H1
    obtain rfl := Option.some.inj H
    go_enter Try.func11, Try.ntmps11
    go_wp2_with (first | ((with_reducible refine gate_callee (f := 17) rfl ?_); refine goesL_ (some 6) rfl rfl Try.func17 (by kernel_rfl) rfl #[.slice A0 l0.length c0] rfl (by (try simp only [List.map_toArray, List.map_cons, List.map_nil]); first | done | rfl | (simp only [List.length_drop, List.length_take]; rfl)) ?_; (with_reducible refine (lamellalaw02_cut.calls (fun k_ => k_ < w.heap.size) _ _ l0 t393 _ ?side1 A3.out).mono ?_); (case side1 => exact Kd.V_mk HC0.out (Kd.F_below (Kd.C_F k30_heap HR0.out) (by repeat (first | (with_reducible first | exact HB.out | apply below_alloc | apply pw_below_drewN | apply below_drew1) | exact HB.out)))); rintro e w19 ⟨v394, rfl, ho0, hb⟩; refine ⟨_, rfl, ?_⟩; have n0_ := Aside0.mk (Kd.V_lower (Kd.V_mono (ok' := fun k_ => True) ho0 (fun k_ hk_ => trivial)) (below_size (by repeat (first | (with_reducible first | exact HB.out | apply below_alloc | apply pw_below_drewN | apply below_drew1) | exact HB.out)))); have n1_ := Aside0.mk (below_step (by repeat (first | (with_reducible first | exact HB.out | apply below_alloc | apply pw_below_drewN | apply below_drew1) | exact HB.out)) hb); clear HB; have HO395 := n0_; have HB := n1_; clear n0_ n1_; (try clear hb); (try clear hb2); (try clear hk); (try clear hi); (try clear ho0)) | ((with_reducible refine gate_callee (f := 17) rfl ?_); refine goesL_ (some 8) rfl rfl Try.func17 (by kernel_rfl) rfl #[.slice A1 l1.length c1] rfl (by (try simp only [List.map_toArray, List.map_cons, List.map_nil]); first | done | rfl | (simp only [List.length_drop, List.length_take]; rfl)) ?_; (with_reducible refine (lamellalaw02_cut.calls (fun k_ => k_ < w.heap.size) _ _ l1 t396 _ ?side1 A4.out).mono ?_); (case side1 => exact Kd.V_mk HC1.out (Kd.F_below (Kd.C_F k30_heap HR1.out) (by repeat (first | (with_reducible first | exact HB.out | apply below_alloc | apply pw_below_drewN | apply below_drew1) | exact HB.out)))); rintro e w20 ⟨v397, rfl, ho0, hb⟩; refine ⟨_, rfl, ?_⟩; have n0_ := Aside0.mk (Kd.V_below (by (with_reducible repeat (first | apply Kd.V_alloc | apply Kd.V_drewN | apply Kd.V_drew)); exact HO395.out) hb); have n1_ := Aside0.mk (Kd.V_lower (Kd.V_mono (ok' := fun k_ => True) ho0 (fun k_ hk_ => trivial)) (below_size (by repeat (first | (with_reducible first | exact HB.out | apply below_alloc | apply pw_below_drewN | apply below_drew1) | exact HB.out)))); have n2_ := Aside0.mk (below_step (by repeat (first | (with_reducible first | exact HB.out | apply below_alloc | apply pw_below_drewN | apply below_drew1) | exact HB.out)) hb); clear HO395; clear HB; have HO395 := n0_; have HO398 := n1_; have HB := n2_; clear n0_ n1_ n2_; (try clear hb); (try clear hb2); (try clear hk); (try clear hi); (try clear ho0); obtain ⟨Ao21, co21, eo21⟩ := Kd.V_slice HO395.out; subst eo21; obtain ⟨Ao22, co22, eo22⟩ := Kd.V_slice HO398.out; subst eo22) | ((with_reducible refine gate_callee (f := 42) rfl ?_); refine goesL_ (some 11) rfl rfl Try.func42 (by kernel_rfl) rfl #[.slice Ao21 t393.length co21, .slice Ao22 t396.length co22] rfl (by (try simp only [List.map_toArray, List.map_cons, List.map_nil]); first | done | rfl | (simp only [List.length_drop, List.length_take]; rfl)) ?_; (with_reducible refine (span_Meet.calls k _ _ t393 _ _ t396 t399 _ ?side1 ?side2 ?side3 ?side4 A5.out).mono ?_); (case side1 => repeat (first | exact (Kd.V_reads' HO395.out).2.2 | (with_reducible refine Kd.C_alloc ?_ _) | (with_reducible refine Kd.C_drewN ?_ _) | (with_reducible refine Kd.C_drew ?_))); (case side2 => exact (Kd.V_reads' HO395.out).2.1); (case side3 => repeat (first | exact (Kd.V_reads' HO398.out).2.2 | (with_reducible refine Kd.C_alloc ?_ _) | (with_reducible refine Kd.C_drewN ?_ _) | (with_reducible refine Kd.C_drew ?_))); (case side4 => exact (Kd.V_reads' HO398.out).2.1); rintro e w23 ⟨v400, rfl, ho0, hb⟩; refine ⟨_, rfl, ?_⟩; have n0_ := Aside0.mk (Kd.V_elder' (by (with_reducible repeat (first | apply Kd.V_alloc | apply Kd.V_drewN | apply Kd.V_drew)); exact HO395.out) (Kd.R_base ho0) hb); have n1_ := Aside0.mk (Kd.V_elder' (by (with_reducible repeat (first | apply Kd.V_alloc | apply Kd.V_drewN | apply Kd.V_drew)); exact HO398.out) (Kd.R_base ho0) hb); have n2_ := Aside0.mk (Kd.R_lower ho0 (below_size (by repeat (first | (with_reducible first | exact HB.out | apply below_alloc | apply pw_below_drewN | apply below_drew1) | exact HB.out)))); have n3_ := Aside0.mk (below_step (by repeat (first | (with_reducible first | exact HB.out | apply below_alloc | apply pw_below_drewN | apply below_drew1) | exact HB.out)) hb); clear HO395; clear HO398; clear HB; have HO395 := n0_; have HO398 := n1_; have HO401 := n2_; have HB := n3_; clear n0_ n1_ n2_ n3_; (try clear hb); (try clear hb2); (try clear hk); (try clear hi); (try clear ho0)) | ((with_reducible refine gate_callee (f := 20) rfl ?_); refine goesL_ (some 14) rfl rfl Try.func20 (by kernel_rfl) rfl #[.slice Ao21 t393.length co21, .slice Ao22 t396.length co22, .int .i64 1] rfl (by (try simp only [List.map_toArray, List.map_cons, List.map_nil]); first | done | rfl | (simp only [List.length_drop, List.length_take]; rfl)) ?_; (with_reducible refine (lamellaref02_Of.calls k (fun k_ => (True ∧ some k_ ≠ (v400 : Value).ownBlock)) _ _ t393 (fun k_ => (True ∧ some k_ ≠ (v400 : Value).ownBlock)) _ _ t396 1 t402 _ ?side1 ?side2 A6.out).mono ?_); (case side1 => exact HO395.out); (case side2 => exact HO398.out); rintro e w24 ⟨v403, rfl, ho0, hb⟩; refine ⟨_, rfl, ?_⟩; have n0_ := Aside0.mk (Kd.V_elder' (by (with_reducible repeat (first | apply Kd.V_alloc | apply Kd.V_drewN | apply Kd.V_drew)); exact HO395.out) (Kd.R_base ho0) hb); have n1_ := Aside0.mk (Kd.V_elder' (by (with_reducible repeat (first | apply Kd.V_alloc | apply Kd.V_drewN | apply Kd.V_drew)); exact HO398.out) (Kd.R_base ho0) hb); have n2_ := Aside0.mk (Kd.R_elder' (by (with_reducible repeat (first | apply Kd.R_alloc | apply Kd.R_drewN | apply Kd.R_drew)); exact HO401.out) (Kd.R_base ho0) hb); have n3_ := Aside0.mk (Kd.R_lower (Kd.R_new' (Kd.R_mono (ok' := fun k_ => True) ho0 (fun _ hk_ => trivial)) (Kd.R_lt (by (with_reducible repeat (first | apply Kd.R_alloc | apply Kd.R_drewN | apply Kd.R_drew)); exact HO401.out))) (below_size (by repeat (first | (with_reducible first | exact HB.out | apply below_alloc | apply pw_below_drewN | apply below_drew1) | exact HB.out)))); have n4_ := Aside0.mk (below_step (by repeat (first | (with_reducible first | exact HB.out | apply below_alloc | apply pw_below_drewN | apply below_drew1) | exact HB.out)) hb); clear HO395; clear HO398; clear HO401; clear HB; have HO395 := n0_; have HO398 := n1_; have HO401 := n2_; have HO404 := n3_; have HB := n4_; clear n0_ n1_ n2_ n3_ n4_; (try clear hb); (try clear hb2); (try clear hk); (try clear hi); (try clear ho0); obtain ⟨Ao25, co25, eo25⟩ := Kd.R_slice HO401.out; subst eo25; obtain ⟨Ao26, co26, eo26⟩ := Kd.R_slice HO404.out; subst eo26) | ((with_reducible refine gate_callee (f := 19) rfl ?_); refine goesL_ (some 15) rfl rfl Try.func19 (by kernel_rfl) rfl #[.slice Ao25 t399.length co25, .slice Ao26 t402.length co26] rfl (by (try simp only [List.map_toArray, List.map_cons, List.map_nil]); first | done | rfl | (simp only [List.length_drop, List.length_take]; rfl)) ?_; (with_reducible refine (lamellaref02_Same.calls k _ _ t399 _ _ t402 false _ ?side1 ?side2 ?side3 ?side4 A7.out).mono ?_); (case side1 => repeat (first | exact (Kd.R_reads' HO401.out).2.2 | (with_reducible refine Kd.C_alloc ?_ _) | (with_reducible refine Kd.C_drewN ?_ _) | (with_reducible refine Kd.C_drew ?_))); (case side2 => exact (Kd.R_reads' HO401.out).2.1); (case side3 => repeat (first | exact (Kd.R_reads' HO404.out).2.2 | (with_reducible refine Kd.C_alloc ?_ _) | (with_reducible refine Kd.C_drewN ?_ _) | (with_reducible refine Kd.C_drew ?_))); (case side4 => exact (Kd.R_reads' HO404.out).2.1); rintro e w' ⟨rfl, ⟨nd, rfl⟩⟩; refine ⟨_, rfl, ?_⟩))
    go_ret
    exact ⟨by first | rfl | (simp [errW_none, errW_some] <;> rfl) | (simp [*, errW_none, errW_some] <;> rfl), by repeat (first | (with_reducible first | exact HB.out | apply below_alloc | apply pw_below_drewN | apply below_drew1) | exact HB.out)⟩
end Go.Proofs.Ytgncbhpmnjfhhaa.S
end
section
namespace Go.Proofs.Ytgncbhpmnjfhhaa.S
set_option linter.unusedVariables false
def inS (b : Int) (s : S30) : Prop := s.f0 ≤ b ∧ b < s.f1
def memS (b : Int) (l : List S30) : Prop := ∃ s ∈ l, inS b s
def PlainL (l : List S30) : Prop := (∀ s ∈ l, s.f0 < s.f1) ∧ l.Pairwise (fun s t => s.f1 < t.f0)
theorem memS_nil (b : Int) : ¬ memS b [] := fun ⟨s, h, _⟩ => by cases h
theorem memS_cons (b : Int) (s : S30) (l : List S30) : memS b (s :: l) ↔ inS b s ∨ memS b l := by
  constructor
  · rintro ⟨t, ht, h⟩
    rcases List.mem_cons.1 ht with rfl | ht
    · exact .inl h
    · exact .inr ⟨t, ht, h⟩
  · rintro (h | ⟨t, ht, h⟩)
    · exact ⟨s, List.mem_cons_self, h⟩
    · exact ⟨t, List.mem_cons_of_mem _ ht, h⟩
theorem memS_append (b : Int) (l m : List S30) : memS b (l ++ m) ↔ memS b l ∨ memS b m := by
  constructor
  · rintro ⟨t, ht, h⟩
    rcases List.mem_append.1 ht with ht | ht
    · exact .inl ⟨t, ht, h⟩
    · exact .inr ⟨t, ht, h⟩
  · rintro (⟨t, ht, h⟩ | ⟨t, ht, h⟩)
    · exact ⟨t, List.mem_append_left _ ht, h⟩
    · exact ⟨t, List.mem_append_right _ ht, h⟩
theorem memS_one (b : Int) (s : S30) : memS b [s] ↔ inS b s := by rw [memS_cons]; simp [memS_nil]
theorem PlainL_nil : PlainL [] := ⟨fun s h => (by cases h), List.Pairwise.nil⟩
theorem PlainL_cons {s : S30} {l : List S30} : PlainL (s :: l) ↔ s.f0 < s.f1 ∧ (∀ t ∈ l, s.f1 < t.f0) ∧ PlainL l := by
  unfold PlainL
  rw [List.pairwise_cons]
  constructor
  · rintro ⟨h1, h2, h3⟩
    exact ⟨h1 s List.mem_cons_self, h2, fun t ht => h1 t (List.mem_cons_of_mem _ ht), h3⟩
  · rintro ⟨h1, h2, h3, h4⟩
    refine ⟨fun t ht => ?_, h2, h4⟩
    rcases List.mem_cons.1 ht with rfl | ht
    · exact h1
    · exact h3 t ht
theorem PlainL_snoc {l : List S30} {s : S30} : PlainL (l ++ [s]) ↔ PlainL l ∧ s.f0 < s.f1 ∧ ∀ t ∈ l, t.f1 < s.f0 := by
  unfold PlainL
  rw [List.pairwise_append]
  constructor
  · rintro ⟨h1, h2, _, h3⟩
    exact ⟨⟨fun t ht => h1 t (List.mem_append_left _ ht), h2⟩, h1 s (by simp), fun t ht => h3 t ht s (by simp)⟩
  · rintro ⟨⟨h1, h2⟩, h3, h4⟩
    refine ⟨fun t ht => ?_, h2, by simp, fun t ht u hu => ?_⟩
    · rcases List.mem_append.1 ht with ht | ht
      · exact h1 t ht
      · simp at ht; rw [ht]; exact h3
    · simp at hu; rw [hu]; exact h4 t ht
theorem plain_ext : ∀ {l m : List S30}, PlainL l → PlainL m → (∀ b, memS b l ↔ memS b m) → l = m
  | [], [], _, _, _ => rfl
  | [], t :: m, _, hm, h => by
    obtain ⟨h1, _, _⟩ := PlainL_cons.1 hm
    exact absurd ((h t.f0).2 ⟨t, List.mem_cons_self, Int.le_refl _, h1⟩) (memS_nil _)
  | s :: l, [], hl, _, h => by
    obtain ⟨h1, _, _⟩ := PlainL_cons.1 hl
    exact absurd ((h s.f0).1 ⟨s, List.mem_cons_self, Int.le_refl _, h1⟩) (memS_nil _)
  | s :: l, t :: m, hl, hm, h => by
    obtain ⟨a1, a2, a3⟩ := PlainL_cons.1 hl
    obtain ⟨b1, b2, b3⟩ := PlainL_cons.1 hm
    have lowl : ∀ b, memS b (s :: l) → s.f0 ≤ b := by
      rintro b ⟨u, hu, h1, h2⟩
      rcases List.mem_cons.1 hu with rfl | hu
      · exact h1
      · have := a2 u hu; omega
    have lowm : ∀ b, memS b (t :: m) → t.f0 ≤ b := by
      rintro b ⟨u, hu, h1, h2⟩
      rcases List.mem_cons.1 hu with rfl | hu
      · exact h1
      · have := b2 u hu; omega
    have e0 : s.f0 = t.f0 := by
      have h1 := lowm _ ((h s.f0).1 ⟨s, List.mem_cons_self, Int.le_refl _, a1⟩)
      have h2 := lowl _ ((h t.f0).2 ⟨t, List.mem_cons_self, Int.le_refl _, b1⟩)
      omega
    have outl : ¬ memS s.f1 (s :: l) := by
      rintro ⟨u, hu, h1, h2⟩
      rcases List.mem_cons.1 hu with rfl | hu
      · omega
      · have := a2 u hu; omega
    have outm : ¬ memS t.f1 (t :: m) := by
      rintro ⟨u, hu, h1, h2⟩
      rcases List.mem_cons.1 hu with rfl | hu
      · omega
      · have := b2 u hu; omega
    have e1 : s.f1 = t.f1 := by
      rcases Int.lt_trichotomy s.f1 t.f1 with hlt | he | hgt
      · exact absurd ((h s.f1).2 ⟨t, List.mem_cons_self, by omega, hlt⟩) outl
      · exact he
      · exact absurd ((h t.f1).1 ⟨s, List.mem_cons_self, by omega, hgt⟩) outm
    have es : s = t := S30.ext' e0 e1
    subst es
    have : l = m := plain_ext a3 b3 (fun b => by
      have hb := h b
      rw [memS_cons, memS_cons] at hb
      constructor
      · intro hm'
        rcases hb.1 (.inr hm') with hh | hh
        · obtain ⟨u, hu, h1, h2⟩ := hm'
          have := a2 u hu
          have := hh.2
          omega
        · exact hh
      · intro hm'
        rcases hb.2 (.inr hm') with hh | hh
        · obtain ⟨u, hu, h1, h2⟩ := hm'
          have := b2 u hu
          have := hh.2
          omega
        · exact hh)
    rw [this]
theorem lastS_snoc (l : List S30) (s : S30) : lastS (l ++ [s]) = s := by simp [lastS]
theorem set_last (l : List S30) (s t : S30) : (l ++ [s]).set ((l ++ [s]).length - 1) t = l ++ [t] := by simp
theorem snoc_of (l : List S30) (h : l.length ≠ 0) : ∃ o p, l = o ++ [p] := by
  rcases List.eq_nil_or_concat l with rfl | ⟨o, p, rfl⟩
  · exact absurd rfl h
  · exact ⟨o, p, by simp⟩
theorem mergeStep_ok {out : List S30} {s : S30} (hp : PlainL out) (hs : s.f0 < s.f1) (hle : ∀ t ∈ out, t.f0 ≤ s.f0) :
    PlainL (mergeStep out s) ∧ (∀ b, memS b (mergeStep out s) ↔ memS b out ∨ inS b s) ∧ (∀ t ∈ mergeStep out s, t.f0 ≤ s.f0) ∧ (mergeStep out s).length ≤ out.length + 1 := by
  unfold mergeStep
  split
  · rename_i h0
    obtain rfl := List.eq_nil_of_length_eq_zero h0
    refine ⟨?_, ?_, ?_, by simp⟩
    · rw [List.nil_append]; exact PlainL_cons.2 ⟨hs, fun t ht => (by cases ht), PlainL_nil⟩
    · intro b; rw [memS_append, memS_one]
    · intro t ht; simp at ht; rw [ht]; exact Int.le_refl _
  · rename_i h0
    obtain ⟨o, p, rfl⟩ := snoc_of out h0
    rw [lastS_snoc]
    obtain ⟨q1, q2, q3⟩ := PlainL_snoc.1 hp
    have hps : p.f0 ≤ s.f0 := hle p (by simp)
    split
    · rename_i hj
      rw [set_last]
      refine ⟨PlainL_snoc.2 ⟨q1, ?_, q3⟩, ?_, ?_, by simp⟩
      · show p.f0 < max p.f1 s.f1; omega
      · intro b
        rw [memS_append, memS_one, memS_append, memS_one]
        unfold inS
        constructor
        · rintro (h | ⟨h1, h2⟩)
          · exact .inl (.inl h)
          · have h2' : b < max p.f1 s.f1 := h2
            have h1' : p.f0 ≤ b := h1
            by_cases hb : b < p.f1
            · exact .inl (.inr ⟨h1', hb⟩)
            · exact .inr ⟨by omega, by omega⟩
        · rintro ((h | ⟨h1, h2⟩) | ⟨h1, h2⟩)
          · exact .inl h
          · exact .inr ⟨h1, (by show b < max p.f1 s.f1; omega)⟩
          · exact .inr ⟨(by show p.f0 ≤ b; omega), (by show b < max p.f1 s.f1; omega)⟩
      · intro t ht
        rcases List.mem_append.1 ht with ht | ht
        · exact hle t (List.mem_append_left _ ht)
        · simp at ht; rw [ht]; exact hps
    · rename_i hj
      refine ⟨PlainL_snoc.2 ⟨hp, hs, fun t ht => ?_⟩, ?_, ?_, by simp⟩
      · rcases List.mem_append.1 ht with ht | ht
        · have := q3 t ht; omega
        · simp at ht; rw [ht]; omega
      · intro b; rw [memS_append, memS_one]
      · intro t ht
        rcases List.mem_append.1 ht with ht | ht
        · exact hle t ht
        · simp at ht; rw [ht]; exact Int.le_refl _
def SortedS (l : List S30) : Prop := l.Pairwise (fun s t => s.f0 ≤ t.f0)
theorem merge_ok : ∀ (l out : List S30), PlainL out → (∀ s ∈ l, s.f0 < s.f1) → SortedS l → (∀ t ∈ out, ∀ s ∈ l, t.f0 ≤ s.f0) →
    PlainL (l.foldl mergeStep out) ∧ (∀ b, memS b (l.foldl mergeStep out) ↔ memS b out ∨ memS b l) ∧ (l.foldl mergeStep out).length ≤ out.length + l.length
  | [], out, hp, _, _, _ => ⟨hp, fun b => by simp [memS_nil], by simp⟩
  | s :: l, out, hp, hne, hs, hle => by
    obtain ⟨s1, s2⟩ := List.pairwise_cons.1 hs
    obtain ⟨h1, h2, h3, h4⟩ := mergeStep_ok hp (hne s List.mem_cons_self) (fun t ht => hle t ht s List.mem_cons_self)
    obtain ⟨k1, k2, k3⟩ := merge_ok l (mergeStep out s) h1 (fun t ht => hne t (List.mem_cons_of_mem _ ht)) s2 (fun t ht u hu => Int.le_trans (h3 t ht) (s1 u hu))
    refine ⟨k1, fun b => ?_, by rw [List.foldl_cons]; simp only [List.length_cons]; omega⟩
    rw [List.foldl_cons, k2, h2, memS_cons, or_assoc]
end Go.Proofs.Ytgncbhpmnjfhhaa.S
end
section
namespace Go.Proofs.Ytgncbhpmnjfhhaa.S
open Go.RowKit Go.Proofs.YtgncbhpmnjfhhaaW.PrintWords Go.Proofs.YtgncbhpmnjfhhaaW.PrintLast Go.Proofs.YtgncbhpmnjfhhaaW.PrintMore
set_option linter.unusedVariables false
set_option linter.unusedSimpArgs false
theorem wrap_in (x : Int) (h0 : -9223372036854775808 ≤ x) (h1 : x ≤ 9223372036854775807) : wrap64 x = x := by unfold wrap64; omega
theorem rd_nat (l : List S30) (i : Nat) : rd_T30 l (i : Int) = l.getD i z30 := by unfold rd_T30; rw [Int.toNat_natCast]
theorem getD_at (l : List S30) (i : Nat) (h : i < l.length) : l.getD i z30 = l[i] := by rw [List.getD_eq_getElem?_getD, List.getElem?_eq_getElem h]; rfl
theorem empty_f (s : S30) : span_empty.f s.f0 s.f1 = some (!neS s) := by
  unfold span_empty.f neS
  by_cases h : s.f0 < s.f1
  · simp [h]
  · simp [h]; omega
theorem del_loop : ∀ (m k : Nat) (l : List S30) (i j : Nat), l.length < 4611686018427387904 → i ≤ j → j ≤ l.length → l.length - j = m → m < k →
    api_Span_46.l0 k l (i : Int) (j : Int) = some (l.take i ++ (l.drop j).filter neS) := by
  intro m
  induction m with
  | zero =>
    intro k l i j hb hij hj hm hk
    obtain ⟨k, rfl⟩ : ∃ q, k = q + 1 := ⟨k - 1, by omega⟩
    have : j = l.length := by omega
    subst this
    simp only [api_Span_46.l0]
    rw [if_neg (by omega), if_pos (by omega), if_pos (by omega), Int.toNat_natCast]
    simp
  | succ m ih =>
    intro k l i j hb hij hj hm hk
    obtain ⟨k, rfl⟩ : ∃ q, k = q + 1 := ⟨k - 1, by omega⟩
    have hlt : j < l.length := by omega
    simp only [api_Span_46.l0]
    rw [if_pos (by omega), if_pos (by omega), rd_nat, getD_at l j hlt, empty_f, Option.bind_some]
    have hd : l.drop j = l[j] :: l.drop (j + 1) := List.drop_eq_getElem_cons hlt
    cases hn : neS l[j] with
    | false =>
      rw [if_pos (by rfl), wrap_in _ (by omega) (by omega)]
      have := ih k l i (j + 1) hb (by omega) (by omega) (by omega) (by omega)
      rw [show ((j : Int) + 1) = ((j + 1 : Nat) : Int) from rfl, this, hd, List.filter_cons, hn]
      rfl
    | true =>
      rw [if_neg (by decide), if_pos (by omega), if_pos (by omega), wrap_in _ (by omega) (by omega), wrap_in _ (by omega) (by omega), Int.toNat_natCast]
      have h := ih k (l.set i ⟨l[j].f0, l[j].f1⟩) (i + 1) (j + 1) (by simpa using hb) (by omega) (by rw [List.length_set]; omega) (by rw [List.length_set]; omega) (by omega)
      rw [show ((j : Int) + 1) = ((j + 1 : Nat) : Int) from rfl, show ((i : Int) + 1) = ((i + 1 : Nat) : Int) from rfl, h, hd, List.filter_cons, hn, if_pos rfl]
      congr 1
      have e1 : (l.set i ⟨l[j].f0, l[j].f1⟩).drop (j + 1) = l.drop (j + 1) := List.drop_set_of_lt (by omega)
      have e2 : (l.set i ⟨l[j].f0, l[j].f1⟩).take (i + 1) = l.take i ++ [l[j]] := by
        rw [List.take_succ_eq_append_getElem (by rw [List.length_set]; omega), List.take_set]
        rw [List.set_eq_of_length_le (by rw [List.length_take]; omega)]
        simp
      rw [e1, e2, List.append_assoc]
      rfl
theorem idx_loop : ∀ (m k : Nat) (l : List S30) (i : Nat), l.length < 4611686018427387904 → i ≤ l.length → l.length - i = m → m < k →
    (∀ s ∈ l.drop i, neS s = true) ∧ api_Span_66.l0 k l (l.length : Int) (i : Int) = some (-1) ∨
    ∃ t : Nat, i ≤ t ∧ t < l.length ∧ (∀ q, i ≤ q → q < t → neS (l.getD q z30) = true) ∧ neS (l.getD t z30) = false ∧ api_Span_66.l0 k l (l.length : Int) (i : Int) = some (t : Int) := by
  intro m
  induction m with
  | zero =>
    intro k l i hb hi hm hk
    obtain ⟨k, rfl⟩ : ∃ q, k = q + 1 := ⟨k - 1, by omega⟩
    left
    refine ⟨fun s hs => ?_, ?_⟩
    · rw [List.drop_eq_nil_of_le (by omega)] at hs; cases hs
    · simp only [api_Span_66.l0]
      rw [if_neg (by omega)]
  | succ m ih =>
    intro k l i hb hi hm hk
    obtain ⟨k, rfl⟩ : ∃ q, k = q + 1 := ⟨k - 1, by omega⟩
    have hlt : i < l.length := by omega
    simp only [api_Span_66.l0]
    rw [if_pos (by omega), if_pos (by omega), if_pos (by omega), rd_nat, getD_at l i hlt, empty_f, Option.bind_some]
    cases hn : neS l[i] with
    | false =>
      rw [if_pos (by rfl)]
      exact .inr ⟨i, Nat.le_refl _, hlt, fun q h1 h2 => by omega, by rw [getD_at l i hlt]; exact hn, rfl⟩
    | true =>
      rw [if_neg (by decide), wrap_in _ (by omega) (by omega)]
      rcases ih k l (i + 1) hb (by omega) (by omega) (by omega) with ⟨h1, h2⟩ | ⟨t, h1, h2, h3, h4, h5⟩
      · refine .inl ⟨fun s hs => ?_, h2⟩
        rw [List.drop_eq_getElem_cons hlt] at hs
        rcases List.mem_cons.1 hs with rfl | hs
        · exact hn
        · exact h1 s hs
      · refine .inr ⟨t, by omega, h2, fun q q1 q2 => ?_, h4, h5⟩
        by_cases e : q = i
        · rw [e, getD_at l i hlt]; exact hn
        · exact h3 q (by omega) q2
theorem del_spec (l : List S30) (a1 : Int) (hb : l.length < 4611686018427387904) : ∀ k, l.length < k → api_Span_46.f k l a1 = some (l.filter neS) := by
  intro k hk
  unfold api_Span_46.f api_Span_66.f
  rcases idx_loop l.length k l 0 hb (by omega) (by omega) hk with ⟨h1, h2⟩ | ⟨t, h1, h2, h3, h4, h5⟩
  · rw [show (0 : Int) = ((0 : Nat) : Int) from rfl, h2, Option.bind_some, if_pos rfl, List.filter_eq_self.2 (by simpa using h1)]
  · rw [show (0 : Int) = ((0 : Nat) : Int) from rfl, h5, Option.bind_some, if_neg (by omega), wrap_in _ (by omega) (by omega)]
    have := del_loop (l.length - (t + 1)) k l t (t + 1) hb (by omega) (by omega) rfl (by omega)
    rw [show ((t : Int) + 1) = ((t + 1 : Nat) : Int) from rfl, this]
    congr 1
    have e : l.filter neS = (l.take t).filter neS ++ (l.drop t).filter neS := by rw [← List.filter_append, List.take_append_drop]
    rw [e, List.drop_eq_getElem_cons h2, List.filter_cons]
    rw [getD_at l t h2] at h4
    rw [h4]
    have e2 : (l.take t).filter neS = l.take t := List.filter_eq_self.2 (fun s hs => by
      obtain ⟨q, hq, rfl⟩ := List.getElem_of_mem hs
      have hq' : q < t := by rw [List.length_take] at hq; omega
      have := h3 q (by omega) hq'
      rw [getD_at l q (by omega)] at this
      simpa using this)
    rw [e2]
    rfl
theorem mx_max (a b : Int) : mx a b = max a b := by unfold mx; omega
theorem merge_loop : ∀ (m k : Nat) (out l : List S30) (i : Nat), l.length < 4611686018427 → i ≤ l.length → out.length ≤ i → l.length - i = m → m < k →
    span_Norm.l0 k out l (l.length : Int) (i : Int) = some ((l.drop i).foldl mergeStep out) := by
  intro m
  induction m with
  | zero =>
    intro k out l i hb hi ho hm hk
    obtain ⟨k, rfl⟩ : ∃ q, k = q + 1 := ⟨k - 1, by omega⟩
    simp only [span_Norm.l0]
    rw [if_neg (by omega), List.drop_eq_nil_of_le (by omega)]
    rfl
  | succ m ih =>
    intro k out l i hb hi ho hm hk
    obtain ⟨k, rfl⟩ : ∃ q, k = q + 1 := ⟨k - 1, by omega⟩
    have hlt : i < l.length := by omega
    simp only [span_Norm.l0]
    rw [if_pos (by omega), if_pos (by omega), if_pos (by omega), rd_nat, getD_at l i hlt, wrap_in ((out.length : Int) - 1) (by omega) (by omega), wrap_in ((i : Int) + 1) (by omega) (by omega), List.drop_eq_getElem_cons hlt, List.foldl_cons]
    have hstep : ∀ o, o.length ≤ i + 1 → span_Norm.l0 k o l (l.length : Int) ((i : Int) + 1) = some ((l.drop (i + 1)).foldl mergeStep o) := fun o ho => ih k o l (i + 1) hb (by omega) ho (by omega) (by omega)
    by_cases h0 : out.length = 0
    · rw [if_neg (by omega), if_pos (by omega), hstep _ (by simp; omega)]
      unfold mergeStep
      rw [if_pos h0]
    · obtain ⟨q, hq⟩ : ∃ q, out.length = q + 1 := ⟨out.length - 1, by omega⟩
      have hqi : ((out.length : Int) - 1) = ((out.length - 1 : Nat) : Int) := by omega
      rw [if_pos (by omega), if_pos (by omega), if_pos (by omega), hqi, rd_nat, Int.toNat_natCast]
      by_cases hj : l[i].f0 ≤ (out.getD (out.length - 1) z30).f1
      · rw [if_pos hj, hstep _ (by rw [List.length_set]; omega), mx_max]
        unfold mergeStep
        rw [if_neg h0]
        unfold lastS
        rw [if_pos hj]
      · rw [if_neg hj, if_pos (by omega), hstep _ (by simp; omega)]
        unfold mergeStep
        rw [if_neg h0]
        unfold lastS
        rw [if_neg hj]
open Go.Sort in
theorem sort30_mem (l : List S30) (s : S30) : s ∈ sort30 l ↔ s ∈ l := by
  obtain ⟨⟨h1, _, h3⟩, _⟩ := sort30_sorts l
  have e : l.toArray.extract 0 l.toArray.size = l.toArray := by simp
  have e2 : (sort30 l).toArray.extract 0 l.toArray.size = (sort30 l).toArray := by
    have : (sort30 l).toArray.size = l.toArray.size := h1
    rw [← this]; simp
  rw [e, e2] at h3
  have := h3.mem_iff (a := s)
  simpa using this
open Go.Sort in
theorem sort30_sorted (l : List S30) : SortedS (sort30 l) := by
  obtain ⟨⟨h1, _, _⟩, h4⟩ := sort30_sorts l
  unfold SortedS
  rw [List.pairwise_iff_getElem]
  intro i j hi hj hij
  have hl := sort30_length l
  have h := h4 i j (Nat.zero_le _) hij (by simp; omega)
  rw [lt30, getElem!_pos (sort30 l).toArray j (by simpa using hj), getElem!_pos (sort30 l).toArray i (by simpa using hi)] at h
  simp at h
  exact h
theorem normL_plain (l : List S30) : PlainL (normL l) ∧ (∀ b, memS b (normL l) ↔ memS b l) ∧ (normL l).length ≤ l.length := by
  have hne : ∀ s ∈ sort30 (l.filter neS), s.f0 < s.f1 := fun s hs => by
    have := (List.mem_filter.1 ((sort30_mem _ s).1 hs)).2
    simpa [neS] using this
  obtain ⟨h1, h2, h3⟩ := merge_ok (sort30 (l.filter neS)) [] PlainL_nil hne (sort30_sorted _) (fun t ht => by cases ht)
  refine ⟨h1, fun b => ?_, ?_⟩
  · rw [normL, h2]
    constructor
    · rintro (h | ⟨s, hs, hb⟩)
      · exact absurd h (memS_nil _)
      · exact ⟨s, (List.mem_filter.1 ((sort30_mem _ s).1 hs)).1, hb⟩
    · rintro ⟨s, hs, hb⟩
      refine .inr ⟨s, (sort30_mem _ s).2 (List.mem_filter.2 ⟨hs, ?_⟩), hb⟩
      have := hb.1; have := hb.2
      simp [neS]; omega
  · rw [sort30_length] at h3
    have := List.length_filter_le neS l
    rw [normL]
    simp only [List.length_nil] at h3
    omega
theorem norm_spec (l : List S30) (hb : l.length < 4611686018427) : ∀ k, l.length < k → span_Norm.f k l = some (normL l) := by
  intro k hk
  unfold span_Norm.f api_Span_47.f
  rw [if_pos (by omega), Option.bind_some, del_spec l 48 (by omega) k hk, Option.bind_some]
  unfold api_Span_49.f
  have hf := List.length_filter_le neS l
  rw [if_pos (by omega), Option.bind_some]
  have := merge_loop (sort30 (l.filter neS)).length k [] (sort30 (l.filter neS)) 0 (by rw [sort30_length]; omega) (by omega) (by simp) (by omega) (by rw [sort30_length]; omega)
  rw [sort30_length] at this
  rw [show (0 : Int) = ((0 : Nat) : Int) from rfl, this]
  rfl
end Go.Proofs.Ytgncbhpmnjfhhaa.S
end
section
namespace Go.Proofs.Ytgncbhpmnjfhhaa.S
open Go.RowKit Go.Proofs.YtgncbhpmnjfhhaaW.PrintWords Go.Proofs.YtgncbhpmnjfhhaaW.PrintLast Go.Proofs.YtgncbhpmnjfhhaaW.PrintMore
set_option linter.unusedVariables false
set_option linter.unusedSimpArgs false
def bothS (s t : S30) : S30 := ⟨max s.f0 t.f0, min s.f1 t.f1⟩
def oneS (s : S30) : List S30 := if s.f0 < s.f1 then [s] else []
def meetGo : Nat → List S30 → List S30 → List S30
  | 0, _, _ => []
  | n + 1, s :: a, t :: b => oneS (bothS s t) ++ (if s.f1 < t.f1 then meetGo n a (t :: b) else meetGo n (s :: a) b)
  | n + 1, [], _ => []
  | n + 1, _ :: _, [] => []
theorem meetGo_length : ∀ (n : Nat) (a b : List S30), (meetGo n a b).length ≤ n
  | 0, _, _ => by simp [meetGo]
  | n + 1, s :: a, t :: b => by
    simp only [meetGo]
    have h : (oneS (bothS s t)).length ≤ 1 := by unfold oneS; split <;> simp
    rw [List.length_append]
    split
    · have := meetGo_length n a (t :: b); omega
    · have := meetGo_length n (s :: a) b; omega
  | n + 1, [], _ => by simp [meetGo]
  | n + 1, _ :: _, [] => by simp [meetGo]
theorem memS_oneS (x : Int) (s : S30) : memS x (oneS s) ↔ inS x s := by
  unfold oneS
  split
  · rw [memS_one]
  · constructor
    · intro h; exact absurd h (memS_nil _)
    · intro h; have := h.1; have := h.2; omega
theorem inS_both (x : Int) (s t : S30) : inS x (bothS s t) ↔ inS x s ∧ inS x t := by
  unfold inS bothS
  show max s.f0 t.f0 ≤ x ∧ x < min s.f1 t.f1 ↔ _
  omega
theorem PlainL_appendM {l m : List S30} (hl : PlainL l) (hm : PlainL m) (h : ∀ s ∈ l, ∀ t ∈ m, s.f1 < t.f0) : PlainL (l ++ m) := by
  refine ⟨fun s hs => ?_, List.pairwise_append.2 ⟨hl.2, hm.2, h⟩⟩
  rcases List.mem_append.1 hs with hs | hs
  · exact hl.1 s hs
  · exact hm.1 s hs
theorem oneS_plain (s : S30) : PlainL (oneS s) := by
  unfold oneS
  split
  · rename_i h; exact PlainL_cons.2 ⟨h, fun t ht => (by cases ht), PlainL_nil⟩
  · exact PlainL_nil
theorem meetGo_ok : ∀ (n : Nat) (a b : List S30), PlainL a → PlainL b → a.length + b.length ≤ n →
    PlainL (meetGo n a b) ∧ (∀ u ∈ meetGo n a b, (∃ s ∈ a, s.f0 ≤ u.f0) ∧ ∃ t ∈ b, t.f0 ≤ u.f0) ∧ ∀ x, memS x (meetGo n a b) ↔ memS x a ∧ memS x b
  | 0, a, b, _, _, hn => by
    obtain rfl := List.eq_nil_of_length_eq_zero (show a.length = 0 by omega)
    exact ⟨PlainL_nil, fun u hu => (by cases hu), fun x => ⟨fun h => absurd h (memS_nil _), fun h => absurd h.1 (memS_nil _)⟩⟩
  | n + 1, [], b, _, _, _ => ⟨PlainL_nil, fun u hu => (by cases hu), fun x => ⟨fun h => absurd h (memS_nil _), fun h => absurd h.1 (memS_nil _)⟩⟩
  | n + 1, s :: a, [], _, _, _ => ⟨PlainL_nil, fun u hu => (by cases hu), fun x => ⟨fun h => absurd h (memS_nil _), fun h => absurd h.2 (memS_nil _)⟩⟩
  | n + 1, s :: a, t :: b, ha, hb, hn => by
    obtain ⟨p1, p2, p3⟩ := PlainL_cons.1 ha
    obtain ⟨q1, q2, q3⟩ := PlainL_cons.1 hb
    simp only [List.length_cons] at hn
    simp only [meetGo]
    by_cases hc : s.f1 < t.f1
    · rw [if_pos hc]
      obtain ⟨i1, i2, i3⟩ := meetGo_ok n a (t :: b) p3 hb (by simp only [List.length_cons]; omega)
      refine ⟨PlainL_appendM (oneS_plain _) i1 (fun u hu v hv => ?_), fun u hu => ?_, fun x => ?_⟩
      · have hu1 : u = bothS s t := by
          unfold oneS at hu; split at hu
          · simpa using hu
          · cases hu
        obtain ⟨⟨z, hz, h1⟩, _⟩ := i2 v hv
        have := p2 z hz
        have e : u.f1 = min s.f1 t.f1 := by rw [hu1]; rfl
        omega
      · rcases List.mem_append.1 hu with hu | hu
        · have hu1 : u = bothS s t := by
            unfold oneS at hu; split at hu
            · simpa using hu
            · cases hu
          have e : u.f0 = max s.f0 t.f0 := by rw [hu1]; rfl
          exact ⟨⟨s, List.mem_cons_self, by omega⟩, ⟨t, List.mem_cons_self, by omega⟩⟩
        · obtain ⟨⟨z, hz, h1⟩, h2⟩ := i2 u hu
          exact ⟨⟨z, List.mem_cons_of_mem _ hz, h1⟩, h2⟩
      · rw [memS_append, memS_oneS, inS_both, i3, memS_cons x s a]
        constructor
        · rintro (⟨h1, h2⟩ | ⟨h1, h2⟩)
          · exact ⟨.inl h1, (memS_cons _ _ _).2 (.inl h2)⟩
          · exact ⟨.inr h1, h2⟩
        · rintro ⟨h1 | h1, h2⟩
          · rcases (memS_cons _ _ _).1 h2 with h3 | ⟨z, hz, h3, h4⟩
            · exact .inl ⟨h1, h3⟩
            · have := q2 z hz
              have := h1.2
              omega
          · exact .inr ⟨h1, h2⟩
    · rw [if_neg hc]
      obtain ⟨i1, i2, i3⟩ := meetGo_ok n (s :: a) b ha q3 (by simp only [List.length_cons]; omega)
      refine ⟨PlainL_appendM (oneS_plain _) i1 (fun u hu v hv => ?_), fun u hu => ?_, fun x => ?_⟩
      · have hu1 : u = bothS s t := by
          unfold oneS at hu; split at hu
          · simpa using hu
          · cases hu
        obtain ⟨_, ⟨z, hz, h1⟩⟩ := i2 v hv
        have := q2 z hz
        have e : u.f1 = min s.f1 t.f1 := by rw [hu1]; rfl
        omega
      · rcases List.mem_append.1 hu with hu | hu
        · have hu1 : u = bothS s t := by
            unfold oneS at hu; split at hu
            · simpa using hu
            · cases hu
          have e : u.f0 = max s.f0 t.f0 := by rw [hu1]; rfl
          exact ⟨⟨s, List.mem_cons_self, by omega⟩, ⟨t, List.mem_cons_self, by omega⟩⟩
        · obtain ⟨h2, ⟨z, hz, h1⟩⟩ := i2 u hu
          exact ⟨h2, ⟨z, List.mem_cons_of_mem _ hz, h1⟩⟩
      · rw [memS_append, memS_oneS, inS_both, i3, memS_cons x t b]
        constructor
        · rintro (⟨h1, h2⟩ | ⟨h1, h2⟩)
          · exact ⟨(memS_cons _ _ _).2 (.inl h1), .inl h2⟩
          · exact ⟨h1, .inr h2⟩
        · rintro ⟨h1, h2 | h2⟩
          · rcases (memS_cons _ _ _).1 h1 with h3 | ⟨z, hz, h3, h4⟩
            · exact .inl ⟨h3, h2⟩
            · have := p2 z hz
              have := h2.2
              omega
          · exact .inr ⟨h1, h2⟩
def meetL (a b : List S30) : List S30 := meetGo ((normL a).length + (normL b).length) (normL a) (normL b)
theorem meetL_plain (a b : List S30) : PlainL (meetL a b) ∧ (∀ x, memS x (meetL a b) ↔ memS x a ∧ memS x b) ∧ (meetL a b).length ≤ a.length + b.length := by
  obtain ⟨a1, a2, a3⟩ := normL_plain a
  obtain ⟨b1, b2, b3⟩ := normL_plain b
  obtain ⟨c1, _, c3⟩ := meetGo_ok _ (normL a) (normL b) a1 b1 (Nat.le_refl _)
  refine ⟨c1, fun x => by rw [meetL, c3, a2, b2], ?_⟩
  exact Nat.le_trans (meetGo_length _ _ _) (by omega)
theorem mn_min (a b : Int) : mn a b = min a b := by unfold mn; omega
theorem both_f (s t : S30) : span_both.f s.f0 s.f1 t.f0 t.f1 = some ((bothS s t).f0, (bothS s t).f1) := by
  unfold span_both.f bothS
  rw [mx_max, mn_min]
section
variable {a b : List S30}
theorem meet_loop (ha : a.length < 1000000) (hb : b.length < 1000000) : ∀ (m k : Nat) (out : List S30) (i j : Nat), i ≤ a.length → j ≤ b.length → (a.length - i) + (b.length - j) = m → out.length + m < 8000000000000 → 2 * m + 2 ≤ k →
    span_Meet.l0 k a b out (i : Int) (j : Int) = some (out ++ meetGo m (a.drop i) (b.drop j)) := by
  intro m
  induction m with
  | zero =>
    intro k out i j hi hj hm ho hk
    obtain ⟨k, rfl⟩ : ∃ q, k = q + 1 := ⟨k - 1, by omega⟩
    obtain ⟨k, rfl⟩ : ∃ q, k = q + 1 := ⟨k - 1, by omega⟩
    simp only [span_Meet.l0]
    rw [if_neg (by omega)]
    simp only [span_Meet.j1]
    rw [if_neg (by decide)]
    simp [meetGo]
  | succ m ih =>
    intro k out i j hi hj hm ho hk
    obtain ⟨k, rfl⟩ : ∃ q, k = q + 1 := ⟨k - 1, by omega⟩
    obtain ⟨k, rfl⟩ : ∃ q, k = q + 1 := ⟨k - 1, by omega⟩
    simp only [span_Meet.l0]
    by_cases hia : i < a.length
    · rw [if_pos (by omega)]
      by_cases hjb : j < b.length
      · simp only [span_Meet.j1]
        rw [if_pos (by simp; omega), if_pos (by omega), if_pos (by omega), if_pos (by omega), if_pos (by omega), rd_nat, rd_nat, getD_at a i hia, getD_at b j hjb, both_f, Option.bind_some]
        simp only
        rw [empty_f, Option.bind_some, List.drop_eq_getElem_cons hia, List.drop_eq_getElem_cons hjb]
        simp only [meetGo]
        rw [wrap_in ((i : Int) + 1) (by omega) (by omega), wrap_in ((j : Int) + 1) (by omega) (by omega)]
        have hA : ∀ o : List S30, o.length ≤ out.length + 1 → span_Meet.l0 k a b o ((i : Int) + 1) (j : Int) = some (o ++ meetGo m (a.drop (i + 1)) (b.drop j)) := fun o h => ih k o (i + 1) j (by omega) hj (by omega) (by omega) (by omega)
        have hB : ∀ o : List S30, o.length ≤ out.length + 1 → span_Meet.l0 k a b o (i : Int) ((j : Int) + 1) = some (o ++ meetGo m (a.drop i) (b.drop (j + 1))) := fun o h => ih k o i (j + 1) hi (by omega) (by omega) (by omega) (by omega)
        rw [List.drop_eq_getElem_cons hjb] at hA
        rw [List.drop_eq_getElem_cons hia] at hB
        unfold oneS neS
        by_cases hne : (bothS a[i] b[j]).f0 < (bothS a[i] b[j]).f1
        · rw [if_pos hne, if_neg (by simp [hne]), if_pos (by omega), Option.bind_some]
          have ee : (⟨(bothS a[i] b[j]).f0, (bothS a[i] b[j]).f1⟩ : S30) = bothS a[i] b[j] := rfl
          rw [ee]
          by_cases hc : (a[i]).f1 < (b[j]).f1
          · rw [if_pos hc, if_pos hc, hA _ (by simp), List.append_assoc]
          · rw [if_neg hc, if_neg hc, hB _ (by simp), List.append_assoc]
        · rw [if_neg hne, if_pos (by simp [hne]), List.nil_append]
          by_cases hc : (a[i]).f1 < (b[j]).f1
          · rw [if_pos hc, if_pos hc, hA _ (by omega)]
          · rw [if_neg hc, if_neg hc, hB _ (by omega)]
      · simp only [span_Meet.j1]
        rw [if_neg (by simp; omega), List.drop_eq_nil_of_le (show b.length ≤ j by omega), List.drop_eq_getElem_cons hia]
        simp [meetGo]
    · rw [if_neg (by omega)]
      simp only [span_Meet.j1]
      rw [if_neg (by decide), List.drop_eq_nil_of_le (show a.length ≤ i by omega)]
      simp [meetGo]
end
theorem meet_spec (a b : List S30) (ha : a.length < 1000000) (hb : b.length < 1000000) : ∀ k, 2 * (a.length + b.length) + 2 < k → span_Meet.f k a b = some (meetL a b) := by
  intro k hk
  unfold span_Meet.f
  obtain ⟨_, _, la⟩ := normL_plain a
  obtain ⟨_, _, lb⟩ := normL_plain b
  rw [norm_spec a (by omega) k (by omega), Option.bind_some, norm_spec b (by omega) k (by omega), Option.bind_some]
  have := meet_loop (a := normL a) (b := normL b) (by omega) (by omega) ((normL a).length + (normL b).length) k [] 0 0 (by omega) (by omega) (by omega) (by simp only [List.length_nil]; omega) (by omega)
  rw [show (0 : Int) = ((0 : Nat) : Int) from rfl, this]
  rfl
end Go.Proofs.Ytgncbhpmnjfhhaa.S
end
section
namespace Go.Proofs.Ytgncbhpmnjfhhaa.S
open Go.RowKit Go.Proofs.YtgncbhpmnjfhhaaW.PrintWords Go.Proofs.YtgncbhpmnjfhhaaW.PrintLast Go.Proofs.YtgncbhpmnjfhhaaW.PrintMore
set_option linter.unusedVariables false
set_option linter.unusedSimpArgs false
abbrev Rise (l : List Int) : Prop := l.Pairwise (· < ·)
def insGo (l0 : List Int) (n : Int) : List Int → Bool → List Int → List Int
  | [], laid, out => if laid = true then out else out ++ [n]
  | x :: r, laid, out => if x = n then l0 else if x > n then (if laid = true then insGo l0 n r laid (out ++ [x]) else insGo l0 n r true (out ++ [n] ++ [x])) else insGo l0 n r laid (out ++ [x])
def insL (l : List Int) (n : Int) : List Int := insGo l n l false []
theorem insGo_ok (l0 : List Int) (n : Int) : ∀ (rest pre : List Int) (laid : Bool) (out : List Int), l0 = pre ++ rest → Rise l0 → Rise out → (∀ x ∈ out, ∀ y ∈ rest, x < y) → out.length ≤ pre.length + (if laid then 1 else 0) →
    (laid = true → (∀ x, x ∈ out ↔ x = n ∨ x ∈ pre) ∧ ∀ y ∈ rest, n < y) → (laid = false → out = pre ∧ ∀ y ∈ pre, y < n) →
    Rise (insGo l0 n rest laid out) ∧ (∀ x, x ∈ insGo l0 n rest laid out ↔ x = n ∨ x ∈ l0) ∧ (insGo l0 n rest laid out).length ≤ l0.length + 1
  | [], pre, laid, out, he, hr, ho, hlt, hlen, h1, h2 => by
    rw [List.append_nil] at he
    subst he
    cases laid with
    | true =>
      simp only [insGo, if_true]
      exact ⟨ho, (h1 rfl).1, by simpa using hlen⟩
    | false =>
      obtain ⟨rfl, h3⟩ := h2 rfl
      simp only [insGo]
      rw [if_neg (by decide)]
      refine ⟨List.pairwise_append.2 ⟨ho, by simp, fun x hx y hy => ?_⟩, fun x => ?_, by simp⟩
      · simp at hy; rw [hy]; exact h3 x hx
      · simp [or_comm]
  | x :: r, pre, laid, out, he, hr, ho, hlt, hlen, h1, h2 => by
    have hr2 := hr
    rw [he] at hr2
    obtain ⟨r1, r2, r3⟩ := List.pairwise_append.1 hr2
    obtain ⟨r4, r5⟩ := List.pairwise_cons.1 r2
    have he2 : l0 = (pre ++ [x]) ++ r := by rw [he, List.append_assoc]; rfl
    simp only [insGo]
    by_cases hx : x = n
    · rw [if_pos hx]
      refine ⟨hr, fun y => ⟨.inr, ?_⟩, by omega⟩
      rintro (rfl | h)
      · rw [← hx, he]; simp
      · exact h
    · rw [if_neg hx]
      by_cases hg : x > n
      · rw [if_pos hg]
        cases laid with
        | true =>
          rw [if_pos rfl]
          obtain ⟨k1, k2⟩ := h1 rfl
          refine insGo_ok l0 n r (pre ++ [x]) true _ he2 hr (List.pairwise_append.2 ⟨ho, by simp, fun u hu y hy => ?_⟩) (fun u hu y hy => ?_) (by simp at hlen ⊢; omega) (fun _ => ⟨fun u => ?_, fun y hy => k2 y (List.mem_cons_of_mem _ hy)⟩) (fun h => by cases h)
          · simp at hy; rw [hy]; exact hlt u hu x List.mem_cons_self
          · rcases List.mem_append.1 hu with hu | hu
            · exact hlt u hu y (List.mem_cons_of_mem _ hy)
            · simp at hu; rw [hu]; exact r4 y hy
          · rw [List.mem_append, k1, List.mem_append, or_assoc]
        | false =>
          rw [if_neg (by decide)]
          obtain ⟨rfl, k2⟩ := h2 rfl
          refine insGo_ok l0 n r (out ++ [x]) true _ he2 hr ?_ (fun u hu y hy => ?_) (by simp) (fun _ => ⟨fun u => ?_, fun y hy => by have := r4 y hy; omega⟩) (fun h => by cases h)
          · refine List.pairwise_append.2 ⟨List.pairwise_append.2 ⟨ho, by simp, fun u hu y hy => ?_⟩, by simp, fun u hu y hy => ?_⟩
            · simp at hy; rw [hy]; exact k2 u hu
            · simp at hy; rw [hy]
              rcases List.mem_append.1 hu with hu | hu
              · exact hlt u hu x List.mem_cons_self
              · simp at hu; rw [hu]; exact hg
          · simp at hu
            rcases hu with hu | rfl | rfl
            · exact hlt u hu y (List.mem_cons_of_mem _ hy)
            · have := r4 y hy; omega
            · exact r4 y hy
          · simp
            constructor
            · rintro (h | h | h)
              · exact .inr (.inl h)
              · exact .inl h
              · exact .inr (.inr h)
            · rintro (h | h | h)
              · exact .inr (.inl h)
              · exact .inl h
              · exact .inr (.inr h)
      · rw [if_neg hg]
        have hxn : x < n := by omega
        cases laid with
        | true =>
          have := (h1 rfl).2 x List.mem_cons_self
          omega
        | false =>
          obtain ⟨rfl, k2⟩ := h2 rfl
          refine insGo_ok l0 n r (out ++ [x]) false _ he2 hr (List.pairwise_append.2 ⟨ho, by simp, fun u hu y hy => ?_⟩) (fun u hu y hy => ?_) (by simp) (fun h => by cases h) (fun _ => ⟨rfl, fun y hy => ?_⟩)
          · simp at hy; rw [hy]; exact hlt u hu x List.mem_cons_self
          · rcases List.mem_append.1 hu with hu | hu
            · exact hlt u hu y (List.mem_cons_of_mem _ hy)
            · simp at hu; rw [hu]; exact r4 y hy
          · rcases List.mem_append.1 hy with hy | hy
            · exact k2 y hy
            · simp at hy; rw [hy]; exact hxn
theorem insL_ok {l : List Int} (n : Int) (h : Rise l) : Rise (insL l n) ∧ (∀ x, x ∈ insL l n ↔ x = n ∨ x ∈ l) ∧ (insL l n).length ≤ l.length + 1 :=
  insGo_ok l n l [] false [] rfl h List.Pairwise.nil (fun x hx => by cases hx) (by simp) (fun h => by cases h) (fun _ => ⟨rfl, fun y hy => by cases hy⟩)
theorem rdI_nat (l : List Int) (i : Nat) (h : i < l.length) : rd l (i : Int) = l[i] := by unfold rd; rw [Int.toNat_natCast, List.getD_eq_getElem?_getD, List.getElem?_eq_getElem h]; rfl
theorem in_loop (l : List Int) (n : Int) (hb : l.length < 1000000000) : ∀ (m k : Nat) (out : List Int) (laid : Bool) (i : Nat), i ≤ l.length → l.length - i = m → out.length ≤ 2 * i + 1 → m < k →
    lamellaref02_in.l0 k l n out laid l (l.length : Int) (i : Int) = some (insGo l n (l.drop i) laid out) := by
  intro m
  induction m with
  | zero =>
    intro k out laid i hi hm ho hk
    obtain ⟨k, rfl⟩ : ∃ q, k = q + 1 := ⟨k - 1, by omega⟩
    simp only [lamellaref02_in.l0]
    rw [if_neg (by omega), List.drop_eq_nil_of_le (by omega)]
    simp only [insGo]
    cases laid with
    | true => rfl
    | false => rw [if_neg (by decide), if_pos (by omega), if_neg (by decide)]
  | succ m ih =>
    intro k out laid i hi hm ho hk
    obtain ⟨k, rfl⟩ : ∃ q, k = q + 1 := ⟨k - 1, by omega⟩
    have hlt : i < l.length := by omega
    simp only [lamellaref02_in.l0]
    rw [if_pos (by omega), if_pos (by omega), if_pos (by omega), rdI_nat l i hlt, wrap_in ((i : Int) + 1) (by omega) (by omega), List.drop_eq_getElem_cons hlt]
    simp only [insGo]
    have hI : ∀ (o : List Int) (ld : Bool), o.length ≤ 2 * (i + 1) + 1 → lamellaref02_in.l0 k l n o ld l (l.length : Int) ((i : Int) + 1) = some (insGo l n (l.drop (i + 1)) ld o) := fun o ld h => ih k o ld (i + 1) (by omega) (by omega) h (by omega)
    by_cases hx : l[i] = n
    · rw [if_pos hx, if_pos hx]
    · rw [if_neg hx, if_neg hx]
      by_cases hg : l[i] > n
      · rw [if_pos hg, if_pos hg]
        cases laid with
        | true => rw [if_pos rfl, if_pos rfl, if_pos (by omega), hI _ _ (by simp; omega)]
        | false => rw [if_neg (show ¬ (false = true) by decide), if_neg (show ¬ (false = true) by decide), if_pos (by omega), Option.bind_some, if_pos (by simp; omega), hI _ _ (by simp; omega)]
      · rw [if_neg hg, if_neg hg, if_pos (by omega), hI _ _ (by simp; omega)]
theorem in_spec (l : List Int) (n : Int) (hb : l.length < 1000000000) : ∀ k, l.length < k → lamellaref02_in.f k l n = some (insL l n) := fun k hk => in_loop l n hb l.length k [] false 0 (by omega) (by omega) (by simp) hk
def endStep (out : List Int) (s : S30) : List Int := if s.f0 < s.f1 then insL (insL out s.f0) s.f1 else out
theorem endStep_ok {out : List Int} (s : S30) (h : Rise out) : Rise (endStep out s) ∧ (∀ x, x ∈ endStep out s ↔ x ∈ out ∨ s.f0 < s.f1 ∧ (x = s.f0 ∨ x = s.f1)) ∧ (endStep out s).length ≤ out.length + 2 := by
  unfold endStep
  split
  · rename_i hs
    obtain ⟨a1, a2, a3⟩ := insL_ok s.f0 h
    obtain ⟨b1, b2, b3⟩ := insL_ok s.f1 a1
    refine ⟨b1, fun x => ?_, by omega⟩
    rw [b2, a2]
    constructor
    · rintro (h | h | h)
      · exact .inr ⟨hs, .inr h⟩
      · exact .inr ⟨hs, .inl h⟩
      · exact .inl h
    · rintro (h | ⟨_, h | h⟩)
      · exact .inr (.inr h)
      · exact .inr (.inl h)
      · exact .inl h
  · rename_i hs
    exact ⟨h, fun x => ⟨.inl, fun h => h.elim id (fun h => absurd h.1 hs)⟩, by omega⟩
theorem ends_ok : ∀ (l : List S30) (out : List Int), Rise out → Rise (l.foldl endStep out) ∧ (∀ x, x ∈ l.foldl endStep out ↔ x ∈ out ∨ ∃ s ∈ l, s.f0 < s.f1 ∧ (x = s.f0 ∨ x = s.f1)) ∧ (l.foldl endStep out).length ≤ out.length + 2 * l.length
  | [], out, h => ⟨h, fun x => ⟨.inl, fun h => h.elim id (fun ⟨s, hs, _⟩ => by cases hs)⟩, by simp⟩
  | s :: l, out, h => by
    obtain ⟨a1, a2, a3⟩ := endStep_ok s h
    obtain ⟨b1, b2, b3⟩ := ends_ok l _ a1
    refine ⟨b1, fun x => ?_, by rw [List.foldl_cons]; simp only [List.length_cons]; omega⟩
    rw [List.foldl_cons, b2, a2, or_assoc]
    constructor
    · rintro (h | h | ⟨t, ht, h⟩)
      · exact .inl h
      · exact .inr ⟨s, List.mem_cons_self, h⟩
      · exact .inr ⟨t, List.mem_cons_of_mem _ ht, h⟩
    · rintro (h | ⟨t, ht, h⟩)
      · exact .inl h
      · rcases List.mem_cons.1 ht with rfl | ht
        · exact .inr (.inl h)
        · exact .inr (.inr ⟨t, ht, h⟩)
def endsL (rows : List (List S30)) : List Int := rows.foldl (fun o l => l.foldl endStep o) []
section
variable {rows : List (List S30)} {r : List Int}
theorem ends_l1 (row : List S30) (hrow : row.length < 1000000) (la : Int) : ∀ (m k : Nat) (out : List Int) (i : Int) (jn K : Nat), Rise out → jn ≤ row.length → row.length - jn = m → out.length + 2 * m < 100000000 → (out.length + 2 * m) + 2 ≤ K →
    (∀ k, K ≤ k → lamellaref02_Ends.l0 k ((row.drop jn).foldl endStep out) rows la (wrap64 (i + 1)) = some r) → K + m + 1 ≤ k → lamellaref02_Ends.l1 k out rows la i row (row.length : Int) (jn : Int) = some r := by
  intro m
  induction m with
  | zero =>
    intro k out i jn K hri hjn hm ho hK h hk
    obtain ⟨k, rfl⟩ : ∃ q, k = q + 1 := ⟨k - 1, by omega⟩
    simp only [lamellaref02_Ends.l1]
    rw [if_neg (by omega)]
    rw [List.drop_eq_nil_of_le (by omega)] at h
    exact h k (by omega)
  | succ m ih =>
    intro k out i jn K hri hjn hm ho hK h hk
    obtain ⟨k, rfl⟩ : ∃ q, k = q + 1 := ⟨k - 1, by omega⟩
    have hlt : jn < row.length := by omega
    simp only [lamellaref02_Ends.l1]
    rw [if_pos (by omega), if_pos (by omega), if_pos (by omega), rd_nat, getD_at row jn hlt, wrap_in ((jn : Int) + 1) (by omega) (by omega)]
    rw [List.drop_eq_getElem_cons hlt, List.foldl_cons] at h
    obtain ⟨e1, _, e3⟩ := endStep_ok row[jn] hri
    unfold endStep at h e1 e3
    by_cases hs : (row[jn]).f0 < (row[jn]).f1
    · rw [if_pos hs] at h e1 e3
      obtain ⟨q1, _, q3⟩ := insL_ok (row[jn]).f0 hri
      rw [if_pos hs, in_spec _ _ (by omega) k (by omega), Option.bind_some, in_spec _ _ (by omega) k (by omega), Option.bind_some]
      exact ih k _ i (jn + 1) K e1 (by omega) (by omega) (by omega) (by omega) h (by omega)
    · rw [if_neg hs] at h
      rw [if_neg hs]
      exact ih k _ i (jn + 1) K hri (by omega) (by omega) (by omega) (by omega) h (by omega)
end
theorem ends_two (a b : List S30) (ha : a.length < 1000000) (hb : b.length < 1000000) : ∀ k, 5 * (a.length + b.length) + 20 < k → lamellaref02_Ends.f k [a, b] = some (endsL [a, b]) := by
  intro k hk
  unfold lamellaref02_Ends.f
  obtain ⟨k, rfl⟩ : ∃ q, k = q + 1 := ⟨k - 1, by omega⟩
  simp only [lamellaref02_Ends.l0]
  rw [if_pos (by simp), if_pos (by omega), if_pos (by simp), show rd_L2 [a, b] 0 = a from rfl]
  obtain ⟨a1, _, a3⟩ := ends_ok a [] List.Pairwise.nil
  simp only [List.length_nil, Nat.zero_add] at a3
  refine ends_l1 a ha _ a.length k [] 0 0 (2 * (a.length + b.length) + b.length + 10) List.Pairwise.nil (by omega) rfl (by simp; omega) (by simp; omega) (fun z hz => ?_) (by omega)
  obtain ⟨z, rfl⟩ : ∃ q, z = q + 1 := ⟨z - 1, by omega⟩
  rw [show wrap64 (0 + 1) = 1 from wrap_in _ (by omega) (by omega), List.drop_zero]
  simp only [lamellaref02_Ends.l0]
  rw [if_pos (by simp), if_pos (by omega), if_pos (by simp), show rd_L2 [a, b] 1 = b from rfl]
  refine ends_l1 b hb _ b.length z _ 1 0 (2 * (a.length + b.length) + 3) a1 (by omega) rfl (by omega) (by omega) (fun z hz => ?_) (by omega)
  obtain ⟨z, rfl⟩ : ∃ q, z = q + 1 := ⟨z - 1, by omega⟩
  rw [show wrap64 (1 + 1) = 2 from wrap_in _ (by omega) (by omega), List.drop_zero]
  simp only [lamellaref02_Ends.l0]
  rw [if_neg (by simp)]
  rfl
theorem endsL_ok (a b : List S30) : Rise (endsL [a, b]) ∧ (∀ x, x ∈ endsL [a, b] ↔ ∃ s ∈ a ++ b, s.f0 < s.f1 ∧ (x = s.f0 ∨ x = s.f1)) ∧ (endsL [a, b]).length ≤ 2 * (a.length + b.length) := by
  have e : endsL [a, b] = (a ++ b).foldl endStep [] := by simp [endsL, List.foldl_append]
  rw [e]
  obtain ⟨h1, h2, h3⟩ := ends_ok (a ++ b) [] List.Pairwise.nil
  refine ⟨h1, fun x => ?_, by simpa using h3⟩
  rw [h2]
  simp
def hasL (l : List S30) (x : Int) : Bool := l.any fun s => decide (s.f0 ≤ x) && decide (x < s.f1)
theorem hasL_iff (l : List S30) (x : Int) : hasL l x = true ↔ memS x l := by
  unfold hasL
  rw [List.any_eq_true]
  constructor
  · rintro ⟨s, hs, h⟩
    simp at h
    exact ⟨s, hs, h⟩
  · rintro ⟨s, hs, h⟩
    exact ⟨s, hs, by simp; exact h⟩
theorem has_loop (l : List S30) (x : Int) (hb : l.length < 1000000000) : ∀ (m k : Nat) (i : Nat), i ≤ l.length → l.length - i = m → m < k → lamellaref02_Has.l0 k x l (l.length : Int) (i : Int) = some (hasL (l.drop i) x) := by
  intro m
  induction m with
  | zero =>
    intro k i hi hm hk
    obtain ⟨k, rfl⟩ : ∃ q, k = q + 1 := ⟨k - 1, by omega⟩
    simp only [lamellaref02_Has.l0]
    rw [if_neg (by omega), List.drop_eq_nil_of_le (by omega)]
    rfl
  | succ m ih =>
    intro k i hi hm hk
    obtain ⟨k, rfl⟩ : ∃ q, k = q + 1 := ⟨k - 1, by omega⟩
    have hlt : i < l.length := by omega
    simp only [lamellaref02_Has.l0]
    rw [if_pos (by omega), if_pos (by omega), if_pos (by omega), rd_nat, getD_at l i hlt, wrap_in ((i : Int) + 1) (by omega) (by omega), List.drop_eq_getElem_cons hlt]
    have h := ih k (i + 1) (by omega) (by omega) (by omega)
    rw [show ((i + 1 : Nat) : Int) = (i : Int) + 1 from rfl] at h
    unfold hasL at h ⊢
    rw [List.any_cons]
    by_cases h1 : (l[i]).f0 ≤ x
    · rw [if_pos h1]
      by_cases h2 : x < (l[i]).f1
      · rw [if_pos h2]; simp [h1, h2]
      · rw [if_neg h2, h]; simp [h1, h2]
    · rw [if_neg h1, h]; simp [h1]
theorem has_spec (l : List S30) (x : Int) (hb : l.length < 1000000000) : ∀ k, l.length < k → lamellaref02_Has.f k l x = some (hasL l x) := fun k hk => has_loop l x hb l.length k 0 (by omega) (by omega) hk
end Go.Proofs.Ytgncbhpmnjfhhaa.S
end
