/- SpanHas: whatever the input, the law returns true, and each argument reads behind the call as it did. No condition. -/
import Derived.Test.YtgncbhpmnjfhhaaHas0
import Derived.Deep.Slices
import Derived.Lib.SmallJoins
import Derived.ChangeSame
import Derived.KernelRfl
import Derived.OpenShut
import Derived.Test.YtgncbhpmnjfhhaaRows
import Derived.WalkKit
import Derived.ProofKit
import Derived.ShutString
import Derived.ChangeOld
import Derived.Below
import Derived.SizedLaws
section
namespace Go.Proofs.Ytgncbhpmnjfhhaa.S
open Go.RowKit Go.Proofs.YtgncbhpmnjfhhaaW.PrintWords Go.Proofs.YtgncbhpmnjfhhaaW.PrintLast Go.Proofs.YtgncbhpmnjfhhaaW.PrintMore
attribute [local go_sem] max2_int min2_int max_two min_two max_three min_three max_four min_four
set_option linter.unusedVariables false
set_option linter.unusedSimpArgs false
set_option maxHeartbeats 8000000 in
set_option maxRecDepth 100000 in
theorem lamellaref02_Of.calls (k : Nat) (P0_ : Nat → Prop) (A0 : Option Addr) (c0 : Nat) (l0 : List (S30)) (P1_ : Nat → Prop) (A1 : Option Addr) (c1 : Nat) (l1 : List (S30)) (a2 : Int) (r : List (S30)) (w : World) (hs0 : Kd.V k30 30 w w.heap.size (fun k_ => P0_ k_) (.slice A0 l0.length c0) l0) (hs1 : Kd.V k30 30 w w.heap.size (fun k_ => P1_ k_) (.slice A1 l1.length c1) l1) (h : lamellaref02_Of.f k l0 l1 a2 = some r) :
    Calls Try.prog 20 #[.slice A0 l0.length c0, .slice A1 l1.length c1, .int .i64 a2] w fun e w' => ∃ v0_ : Value, e = .returned (v0_) ∧ Kd.R k30 30 w' w.heap.size (fun k_ => (w.heap.size ≤ k_)) v0_ r ∧ Below w.heap.size w w' := by
  have HO0 := Aside0.mk (show Kd.V k30 30 w w.heap.size (fun k_ => ((P0_ k_ ∨ P1_ k_) ∨ w.heap.size ≤ k_)) (.slice A0 l0.length c0) l0 from Kd.V_mono hs0 (fun k_ hk => .inl (.inl hk)))
  have HO1 := Aside0.mk (show Kd.V k30 30 w w.heap.size (fun k_ => ((P0_ k_ ∨ P1_ k_) ∨ w.heap.size ≤ k_)) (.slice A1 l1.length c1) l1 from Kd.V_mono hs1 (fun k_ hk => .inl (.inr hk)))
  have HB := Aside0.mk (Below.refl w.heap.size w)
  have H : ((lamellaref02_Ends.f k (([l0, l1] : List (List (S30))))).bind fun t198 => (lamellaref02_Of.l0 k l0 l1 a2 t198 ([] : List Bool) t198 (t198.length : Int) 0)) = some r := h
  clear h
  obtain ⟨y195, hy195⟩ : ∃ y_ : List (List (S30)), y_ = (([l0, l1] : List (List (S30)))) := ⟨_, rfl⟩
  replace H : ((lamellaref02_Ends.f k y195).bind fun t198 => (lamellaref02_Of.l0 k l0 l1 a2 t198 ([] : List Bool) t198 (t198.length : Int) 0)) = some r := by first | (rw [hy195]; with_reducible exact H) | (have H2_ := (Option.bind_some _ _).symm.trans H; rw [hy195]; with_reducible exact H2_) | (have H2_ := (Option.bind_some _ _).symm.trans H; with_reducible exact H2_) | with_reducible exact H | (rw [hy195]; exact H) | exact H
  have Ny195 := Aside0.mk hy195
  clear hy195
  replace H := Option.bind_eq_some_iff.mp H
  obtain ⟨t198, A40, H⟩ := H
  replace H : (lamellaref02_Of.l0 k l0 l1 a2 t198 ([] : List Bool) t198 (t198.length : Int) 0) = some r := H
  have A4 := Aside0.mk A40
  clear A40
  have H' := Aside0.mk H
  clear H
  go_enter Try.func20, Try.ntmps20
  go_wp2_with (first | ((with_reducible refine gate_dst (N := 15) rfl ?_); refine Kd.N_lit (Kd.slice 30 k30) _ 22 ?hg (N' := 15) ?hd (xs := ([l0, l1] : List (List (S30)))) (inner := [.slice A0 l0.length c0, .slice A1 l1.length c1]) (ok := (fun k_ => ((P0_ k_ ∨ P1_ k_) ∨ w.heap.size ≤ k_))) (okp := (fun k_ => ((P0_ k_ ∨ P1_ k_) ∨ w.heap.size ≤ k_))) ?hr ?hp (fun _ hk => hk) ((show ∀ k_, w.heap.size ≤ k_ → (fun k_ => ((P0_ k_ ∨ P1_ k_) ∨ w.heap.size ≤ k_)) k_ from fun k_ hk => (.inr (Nat.le_trans (below_size (by repeat (first | (with_reducible first | exact HB.out | apply below_alloc | apply pw_below_drewN | apply below_drew1) | exact HB.out))) hk))) _ (Nat.le_refl _)) (Below.refl _ _) (Nat.le_refl _) (by simp) ?_; (case hd => rfl); (case hg => rfl); (case hr => first | (go_simp; done) | (go_simp; rfl)); (case hp => exact (Reps.one (show Kd.FK (Kd.slice 30 k30) _ _ l0 [.slice A0 l0.length c0] from (Kd.FK_slice_mk (Kd.V_reads' (Kd.V_mono (ok' := (fun k_ => ((P0_ k_ ∨ P1_ k_) ∨ w.heap.size ≤ k_))) (HO0.out) (fun k_ hk => hk))).2.1 (Kd.V_F (Kd.V_mono (ok' := (fun k_ => ((P0_ k_ ∨ P1_ k_) ∨ w.heap.size ≤ k_))) (HO0.out) (fun k_ hk => hk))))) (Reps.one (show Kd.FK (Kd.slice 30 k30) _ _ l1 [.slice A1 l1.length c1] from (Kd.FK_slice_mk (Kd.V_reads' (Kd.V_mono (ok' := (fun k_ => ((P0_ k_ ∨ P1_ k_) ∨ w.heap.size ≤ k_))) (HO1.out) (fun k_ hk => hk))).2.1 (Kd.V_F (Kd.V_mono (ok' := (fun k_ => ((P0_ k_ ∨ P1_ k_) ∨ w.heap.size ≤ k_))) (HO1.out) (fun k_ hk => hk))))) (Reps.none _ _)))); intro v196 w5 ho6 hb hg_ hnew_; clear hg_ hnew_; (first | rw [← Ny195.out] at ho6 | (simp only [Int.reduceToNat] at ho6; rw [← Ny195.out] at ho6)); have n0_ := Aside0.mk (Kd.V_elder' (by (with_reducible repeat (first | apply Kd.V_alloc | apply Kd.V_drewN | apply Kd.V_drew)); exact HO0.out) (Kd.N_base ho6) hb); have n1_ := Aside0.mk (Kd.V_elder' (by (with_reducible repeat (first | apply Kd.V_alloc | apply Kd.V_drewN | apply Kd.V_drew)); exact HO1.out) (Kd.N_base ho6) hb); have n2_ := Aside0.mk (Kd.N_lower ho6 (below_size (by repeat (first | (with_reducible first | exact HB.out | apply below_alloc | apply pw_below_drewN | apply below_drew1) | exact HB.out)))); have n3_ := Aside0.mk (below_step (by repeat (first | (with_reducible first | exact HB.out | apply below_alloc | apply pw_below_drewN | apply below_drew1) | exact HB.out)) hb); clear HO0; clear HO1; clear HB; have HO0 := n0_; have HO1 := n1_; have HO197 := n2_; have HB := n3_; clear n0_ n1_ n2_ n3_; clear hb ho6; obtain ⟨Ao7, co7, eo7⟩ := Kd.N_slice HO197.out; subst eo7) | ((with_reducible refine gate_callee (f := 51) rfl ?_); refine goesL_ (some 16) rfl rfl Try.func51 (by kernel_rfl) rfl #[.slice Ao7 y195.length co7] rfl (by (try simp only [List.map_toArray, List.map_cons, List.map_nil]); first | done | rfl | (simp only [List.length_drop, List.length_take]; rfl)) ?_; (with_reducible refine (lamellaref02_Ends.calls k _ _ y195 t198 _ ?side1 ?side2 A4.out).mono ?_); (case side1 => repeat (first | exact (Kd.N_reads' HO197.out).2.2 | (with_reducible refine Kd.C_alloc ?_ _) | (with_reducible refine Kd.C_drewN ?_ _) | (with_reducible refine Kd.C_drew ?_))); (case side2 => exact (Kd.N_reads' HO197.out).2.1); rintro e w8 ⟨v199, rfl, ho0, hb⟩; refine ⟨_, rfl, ?_⟩; have n0_ := Aside0.mk (Kd.V_elder' (by (with_reducible repeat (first | apply Kd.V_alloc | apply Kd.V_drewN | apply Kd.V_drew)); exact HO0.out) (Kd.R_base ho0) hb); have n1_ := Aside0.mk (Kd.V_elder' (by (with_reducible repeat (first | apply Kd.V_alloc | apply Kd.V_drewN | apply Kd.V_drew)); exact HO1.out) (Kd.R_base ho0) hb); have n2_ := Aside0.mk (Kd.N_elder' (by (with_reducible repeat (first | apply Kd.N_alloc | apply Kd.N_drewN | apply Kd.N_drew)); exact HO197.out) (Kd.R_base ho0) hb); have n3_ := Aside0.mk (Kd.R_lower (Kd.R_newM (M := fun k_ => (w.heap.size ≤ k_)) ho0 (below_size (by repeat (first | (with_reducible first | exact HB.out | apply below_alloc | apply pw_below_drewN | apply below_drew1) | exact HB.out))) (fun k_ h_ => h_)) (below_size (by repeat (first | (with_reducible first | exact HB.out | apply below_alloc | apply pw_below_drewN | apply below_drew1) | exact HB.out)))); have n4_ := Aside0.mk (below_step (by repeat (first | (with_reducible first | exact HB.out | apply below_alloc | apply pw_below_drewN | apply below_drew1) | exact HB.out)) hb); clear HO0; clear HO1; clear HO197; clear HB; have HO0 := n0_; have HO1 := n1_; have HO197 := n2_; have HO200 := n3_; have HB := n4_; clear n0_ n1_ n2_ n3_ n4_; (try clear hb); (try clear hb2); (try clear hk); (try clear hi); (try clear ho0); obtain ⟨Ao9, co9, eo9⟩ := Kd.R_slice HO200.out; subst eo9))
  go_loopg [8, 19] k (fun kq v8 v19 w' => ∃ (x8_1 : List Bool) (x19_1 : Int), v19 = .int .i64 x19_1 ∧ Aside0 (lamellaref02_Of.l0 kq l0 l1 a2 t198 x8_1 t198 (t198.length : Int) x19_1 = some r) ∧ Aside0 (kq ≤ k) ∧ Aside0 (Kd.V k30 30 w' w.heap.size (fun k_ => ((P0_ k_ ∨ P1_ k_) ∨ w.heap.size ≤ k_) ∧ some k_ ≠ ((.slice Ao9 t198.length co9) : Value).ownBlock ∧ some k_ ≠ (v8 : Value).ownBlock ∧ some k_ ≠ ((.slice Ao9 t198.length co9) : Value).ownBlock) (.slice A0 l0.length c0) l0) ∧ Aside0 (Kd.V k30 30 w' w.heap.size (fun k_ => ((P0_ k_ ∨ P1_ k_) ∨ w.heap.size ≤ k_) ∧ some k_ ≠ ((.slice Ao9 t198.length co9) : Value).ownBlock ∧ some k_ ≠ (v8 : Value).ownBlock ∧ some k_ ≠ ((.slice Ao9 t198.length co9) : Value).ownBlock) (.slice A1 l1.length c1) l1) ∧ Aside0 (Kd.R (Kd.int .i64) 3 w' w.heap.size (fun k_ => (w.heap.size ≤ k_)) (.slice Ao9 t198.length co9) t198) ∧ Aside0 (Kd.R Kd.bool 4 w' w.heap.size (fun k_ => (w.heap.size ≤ k_)) v8 x8_1) ∧ Aside0 (Kd.R (Kd.int .i64) 3 w' w.heap.size (fun k_ => (w.heap.size ≤ k_)) (.slice Ao9 t198.length co9) t198) ∧ Aside0 (Below w.heap.size w w'))
  case atStart => exact ⟨(([] : List Bool)), (0), (by first | rfl | (simp; done) | (simp [*]; done)), H', ⟨Nat.le_refl _⟩, ⟨by (with_reducible repeat (first | apply Kd.V_alloc | apply Kd.V_drewN | apply Kd.V_drew)); exact Kd.V_mono HO0.out (fun _ hk => ⟨hk.1.1, ⟨hk.2, ⟨(by simp [Value.ownBlock]), hk.2⟩⟩⟩)⟩, ⟨by (with_reducible repeat (first | apply Kd.V_alloc | apply Kd.V_drewN | apply Kd.V_drew)); exact Kd.V_mono HO1.out (fun _ hk => ⟨hk.1.1, ⟨hk.2, ⟨(by simp [Value.ownBlock]), hk.2⟩⟩⟩)⟩, ⟨by (with_reducible repeat (first | apply Kd.R_alloc | apply Kd.R_drewN | apply Kd.R_drew)); exact Kd.R_mono HO200.out (fun _ hk => hk.1)⟩, ⟨by first | exact Kd.R_nil _ _ _ _ _ | exact Kd.N_nil _ _ _ _ _ | exact Kd.V_nil _ _ _ _ _ | exact Kd.Q_nil _ _ _ _ _ | exact Kd.S_nil _ _ _ _ _⟩, ⟨by (with_reducible repeat (first | apply Kd.R_alloc | apply Kd.R_drewN | apply Kd.R_drew)); exact Kd.R_mono HO200.out (fun _ hk => hk.1)⟩, ⟨by repeat (first | (with_reducible first | exact HB.out | apply below_alloc | apply pw_below_drewN | apply below_drew1) | exact HB.out)⟩⟩
  case round =>
    clear H'
    try clear c1
    try clear c2
    try clear p2
    try clear c5
    obtain ⟨x8_1, x19_1, rfl, HA, HK1, HO_0, HO_1, HO_7, HO_8, HO_17, HB⟩ := hrel
    cases gk with
    | zero => exact absurd HA.out (by simp [lamellaref02_Of.l0])
    | succ k1 =>
      have H := HA.out
      clear HA
      simp only [lamellaref02_Of.l0] at H
      by_cases c10 : x19_1 < (t198.length : Int)
      · rw [if_pos c10] at H
        have c10b0 : decide (x19_1 < (t198.length : Int)) = true := decide_eq_true c10
        clear c10
        by_cases c11 : 0 ≤ x19_1
        · rw [if_pos c11] at H
          have c11b0 : decide (0 ≤ x19_1) = true := decide_eq_true c11
          clear c11
          by_cases c12 : x19_1 < (t198.length : Int)
          · rw [if_pos c12] at H
            have c12b0 : decide (x19_1 < (t198.length : Int)) = true := decide_eq_true c12
            clear c12
            replace H := Option.bind_eq_some_iff.mp H
            obtain ⟨t202, A130, H⟩ := H
            replace H : ((lamellaref02_Has.f k1 l1 (rd t198 x19_1)).bind fun t203 => (if a2 = 0 then (if t202 = true then (if x8_1.length < 140737488355328 then (lamellaref02_Of.l0 k1 l0 l1 a2 t198 (x8_1 ++ [true]) t198 (t198.length : Int) (wrap64 (x19_1 + 1))) else (none)) else (if t203 = true then (if x8_1.length < 140737488355328 then (lamellaref02_Of.l0 k1 l0 l1 a2 t198 (x8_1 ++ [true]) t198 (t198.length : Int) (wrap64 (x19_1 + 1))) else (none)) else (if a2 = 1 then (if a2 = 2 then (if x8_1.length < 140737488355328 then (lamellaref02_Of.l0 k1 l0 l1 a2 t198 (x8_1 ++ [false]) t198 (t198.length : Int) (wrap64 (x19_1 + 1))) else (none)) else (if x8_1.length < 140737488355328 then (lamellaref02_Of.l0 k1 l0 l1 a2 t198 (x8_1 ++ [false]) t198 (t198.length : Int) (wrap64 (x19_1 + 1))) else (none))) else (if a2 = 2 then (if x8_1.length < 140737488355328 then (lamellaref02_Of.l0 k1 l0 l1 a2 t198 (x8_1 ++ [false]) t198 (t198.length : Int) (wrap64 (x19_1 + 1))) else (none)) else (if x8_1.length < 140737488355328 then (lamellaref02_Of.l0 k1 l0 l1 a2 t198 (x8_1 ++ [false]) t198 (t198.length : Int) (wrap64 (x19_1 + 1))) else (none)))))) else (if a2 = 1 then (if t202 = true then (if t203 = true then (if x8_1.length < 140737488355328 then (lamellaref02_Of.l0 k1 l0 l1 a2 t198 (x8_1 ++ [true]) t198 (t198.length : Int) (wrap64 (x19_1 + 1))) else (none)) else (if a2 = 2 then (if x8_1.length < 140737488355328 then (lamellaref02_Of.l0 k1 l0 l1 a2 t198 (x8_1 ++ [!t203]) t198 (t198.length : Int) (wrap64 (x19_1 + 1))) else (none)) else (if x8_1.length < 140737488355328 then (lamellaref02_Of.l0 k1 l0 l1 a2 t198 (x8_1 ++ [false]) t198 (t198.length : Int) (wrap64 (x19_1 + 1))) else (none)))) else (if a2 = 2 then (if x8_1.length < 140737488355328 then (lamellaref02_Of.l0 k1 l0 l1 a2 t198 (x8_1 ++ [false]) t198 (t198.length : Int) (wrap64 (x19_1 + 1))) else (none)) else (if x8_1.length < 140737488355328 then (lamellaref02_Of.l0 k1 l0 l1 a2 t198 (x8_1 ++ [false]) t198 (t198.length : Int) (wrap64 (x19_1 + 1))) else (none)))) else (if a2 = 2 then (if t202 = true then (if x8_1.length < 140737488355328 then (lamellaref02_Of.l0 k1 l0 l1 a2 t198 (x8_1 ++ [!t203]) t198 (t198.length : Int) (wrap64 (x19_1 + 1))) else (none)) else (if x8_1.length < 140737488355328 then (lamellaref02_Of.l0 k1 l0 l1 a2 t198 (x8_1 ++ [false]) t198 (t198.length : Int) (wrap64 (x19_1 + 1))) else (none))) else (if x8_1.length < 140737488355328 then (lamellaref02_Of.l0 k1 l0 l1 a2 t198 (x8_1 ++ [false]) t198 (t198.length : Int) (wrap64 (x19_1 + 1))) else (none)))))) = some r := H
            have A13 := Aside0.mk A130
            clear A130
            replace H := Option.bind_eq_some_iff.mp H
            obtain ⟨t203, A140, H⟩ := H
            replace H : (if a2 = 0 then (if t202 = true then (if x8_1.length < 140737488355328 then (lamellaref02_Of.l0 k1 l0 l1 a2 t198 (x8_1 ++ [true]) t198 (t198.length : Int) (wrap64 (x19_1 + 1))) else (none)) else (if t203 = true then (if x8_1.length < 140737488355328 then (lamellaref02_Of.l0 k1 l0 l1 a2 t198 (x8_1 ++ [true]) t198 (t198.length : Int) (wrap64 (x19_1 + 1))) else (none)) else (if a2 = 1 then (if a2 = 2 then (if x8_1.length < 140737488355328 then (lamellaref02_Of.l0 k1 l0 l1 a2 t198 (x8_1 ++ [false]) t198 (t198.length : Int) (wrap64 (x19_1 + 1))) else (none)) else (if x8_1.length < 140737488355328 then (lamellaref02_Of.l0 k1 l0 l1 a2 t198 (x8_1 ++ [false]) t198 (t198.length : Int) (wrap64 (x19_1 + 1))) else (none))) else (if a2 = 2 then (if x8_1.length < 140737488355328 then (lamellaref02_Of.l0 k1 l0 l1 a2 t198 (x8_1 ++ [false]) t198 (t198.length : Int) (wrap64 (x19_1 + 1))) else (none)) else (if x8_1.length < 140737488355328 then (lamellaref02_Of.l0 k1 l0 l1 a2 t198 (x8_1 ++ [false]) t198 (t198.length : Int) (wrap64 (x19_1 + 1))) else (none)))))) else (if a2 = 1 then (if t202 = true then (if t203 = true then (if x8_1.length < 140737488355328 then (lamellaref02_Of.l0 k1 l0 l1 a2 t198 (x8_1 ++ [true]) t198 (t198.length : Int) (wrap64 (x19_1 + 1))) else (none)) else (if a2 = 2 then (if x8_1.length < 140737488355328 then (lamellaref02_Of.l0 k1 l0 l1 a2 t198 (x8_1 ++ [!t203]) t198 (t198.length : Int) (wrap64 (x19_1 + 1))) else (none)) else (if x8_1.length < 140737488355328 then (lamellaref02_Of.l0 k1 l0 l1 a2 t198 (x8_1 ++ [false]) t198 (t198.length : Int) (wrap64 (x19_1 + 1))) else (none)))) else (if a2 = 2 then (if x8_1.length < 140737488355328 then (lamellaref02_Of.l0 k1 l0 l1 a2 t198 (x8_1 ++ [false]) t198 (t198.length : Int) (wrap64 (x19_1 + 1))) else (none)) else (if x8_1.length < 140737488355328 then (lamellaref02_Of.l0 k1 l0 l1 a2 t198 (x8_1 ++ [false]) t198 (t198.length : Int) (wrap64 (x19_1 + 1))) else (none)))) else (if a2 = 2 then (if t202 = true then (if x8_1.length < 140737488355328 then (lamellaref02_Of.l0 k1 l0 l1 a2 t198 (x8_1 ++ [!t203]) t198 (t198.length : Int) (wrap64 (x19_1 + 1))) else (none)) else (if x8_1.length < 140737488355328 then (lamellaref02_Of.l0 k1 l0 l1 a2 t198 (x8_1 ++ [false]) t198 (t198.length : Int) (wrap64 (x19_1 + 1))) else (none))) else (if x8_1.length < 140737488355328 then (lamellaref02_Of.l0 k1 l0 l1 a2 t198 (x8_1 ++ [false]) t198 (t198.length : Int) (wrap64 (x19_1 + 1))) else (none))))) = some r := H
            have A14 := Aside0.mk A140
            clear A140
            by_cases c15 : a2 = 0
            · rw [if_pos c15] at H
              have c15b0 : (a2 == 0) = true := beq_iff_eq.mpr c15
              have c15b1 : (a2 != 0) = false := bne_eq_false_iff_eq.mpr c15
              clear c15
              by_cases c16 : t202 = true
              · subst c16
                have H1 : (if x8_1.length < 140737488355328 then (lamellaref02_Of.l0 k1 l0 l1 a2 t198 (x8_1 ++ [true]) t198 (t198.length : Int) (wrap64 (x19_1 + 1))) else (none)) = some r := by rw [if_pos rfl] at H; exact H
                clear H
                have H := H1
                clear H1
                by_cases c17 : x8_1.length < 140737488355328
                · rw [if_pos c17] at H
                  have LMc17 := Aside0.mk c17
                  clear c17
                  obtain ⟨y204, hy204⟩ : ∃ y_ : List Bool, y_ = (x8_1 ++ [true]) := ⟨_, rfl⟩
                  replace H : (lamellaref02_Of.l0 k1 l0 l1 a2 t198 y204 t198 (t198.length : Int) (wrap64 (x19_1 + 1))) = some r := by first | (rw [hy204]; with_reducible exact H) | (have H2_ := (Option.bind_some _ _).symm.trans H; rw [hy204]; with_reducible exact H2_) | (have H2_ := (Option.bind_some _ _).symm.trans H; with_reducible exact H2_) | with_reducible exact H | (rw [hy204]; exact H) | exact H
                  have Ny204 := Aside0.mk hy204
                  clear hy204
                  have H' := Aside0.mk H
                  clear H
                  have p201 : 0 ≤ (x19_1 : Int) := of_decide_eq_true (by first | (with_reducible assumption) | assumption)
                  have q201 : x19_1 < (t198.length : Int) := of_decide_eq_true (by first | (with_reducible assumption) | assumption)
                  obtain ⟨ad201, e201, hx201_0⟩ := Kd.at_int (Kd.R_reads' HO_17.out).2.2 x19_1 p201 q201
                  cases e201
                  replace p201 := eq_true p201
                  replace q201 := eq_true q201
                  go_wp2_with (first | ((with_reducible refine gate_callee (f := 26) rfl ?_); refine goesL_ (some 25) rfl rfl Try.func26 (by kernel_rfl) rfl #[.slice A0 l0.length c0, .int .i64 (rd t198 x19_1)] rfl (by (try simp only [List.map_toArray, List.map_cons, List.map_nil]); first | done | rfl | (simp only [List.length_drop, List.length_take]; rfl)) ?_; (with_reducible refine (lamellaref02_Has.calls k1 _ _ l0 (rd t198 x19_1) true _ ?side1 ?side2 A13.out).mono ?_); (case side1 => repeat (first | exact (Kd.V_reads' HO_0.out).2.2 | (with_reducible refine Kd.C_alloc ?_ _) | (with_reducible refine Kd.C_drewN ?_ _) | (with_reducible refine Kd.C_drew ?_))); (case side2 => exact (Kd.V_reads' HO_0.out).2.1); rintro e w18 ⟨rfl, hb⟩; refine ⟨_, rfl, ?_⟩; have n0_ := Aside0.mk (Kd.V_below (by (with_reducible repeat (first | apply Kd.V_alloc | apply Kd.V_drewN | apply Kd.V_drew)); exact HO_0.out) hb); have n1_ := Aside0.mk (Kd.V_below (by (with_reducible repeat (first | apply Kd.V_alloc | apply Kd.V_drewN | apply Kd.V_drew)); exact HO_1.out) hb); have n2_ := Aside0.mk (Kd.R_below (by (with_reducible repeat (first | apply Kd.R_alloc | apply Kd.R_drewN | apply Kd.R_drew)); exact HO_7.out) hb); have n3_ := Aside0.mk (Kd.R_below (by (with_reducible repeat (first | apply Kd.R_alloc | apply Kd.R_drewN | apply Kd.R_drew)); exact HO_8.out) hb); have n4_ := Aside0.mk (Kd.R_below (by (with_reducible repeat (first | apply Kd.R_alloc | apply Kd.R_drewN | apply Kd.R_drew)); exact HO_17.out) hb); have n5_ := Aside0.mk (below_step (by repeat (first | (with_reducible first | exact HB.out | apply below_alloc | apply pw_below_drewN | apply below_drew1) | exact HB.out)) hb); clear HO_0; clear HO_1; clear HO_7; clear HO_8; clear HO_17; clear HB; have HO_0 := n0_; have HO_1 := n1_; have HO_7 := n2_; have HO_8 := n3_; have HO_17 := n4_; have HB := n5_; clear n0_ n1_ n2_ n3_ n4_ n5_; (try clear hb); (try clear hb2); (try clear hk); (try clear hi)) | ((with_reducible refine gate_callee (f := 26) rfl ?_); refine goesL_ (some 28) rfl rfl Try.func26 (by kernel_rfl) rfl #[.slice A1 l1.length c1, .int .i64 (rd t198 x19_1)] rfl (by (try simp only [List.map_toArray, List.map_cons, List.map_nil]); first | done | rfl | (simp only [List.length_drop, List.length_take]; rfl)) ?_; (with_reducible refine (lamellaref02_Has.calls k1 _ _ l1 (rd t198 x19_1) t203 _ ?side1 ?side2 A14.out).mono ?_); (case side1 => repeat (first | exact (Kd.V_reads' HO_1.out).2.2 | (with_reducible refine Kd.C_alloc ?_ _) | (with_reducible refine Kd.C_drewN ?_ _) | (with_reducible refine Kd.C_drew ?_))); (case side2 => exact (Kd.V_reads' HO_1.out).2.1); rintro e w19 ⟨rfl, hb⟩; refine ⟨_, rfl, ?_⟩; have n0_ := Aside0.mk (Kd.V_below (by (with_reducible repeat (first | apply Kd.V_alloc | apply Kd.V_drewN | apply Kd.V_drew)); exact HO_0.out) hb); have n1_ := Aside0.mk (Kd.V_below (by (with_reducible repeat (first | apply Kd.V_alloc | apply Kd.V_drewN | apply Kd.V_drew)); exact HO_1.out) hb); have n2_ := Aside0.mk (Kd.R_below (by (with_reducible repeat (first | apply Kd.R_alloc | apply Kd.R_drewN | apply Kd.R_drew)); exact HO_7.out) hb); have n3_ := Aside0.mk (Kd.R_below (by (with_reducible repeat (first | apply Kd.R_alloc | apply Kd.R_drewN | apply Kd.R_drew)); exact HO_8.out) hb); have n4_ := Aside0.mk (Kd.R_below (by (with_reducible repeat (first | apply Kd.R_alloc | apply Kd.R_drewN | apply Kd.R_drew)); exact HO_17.out) hb); have n5_ := Aside0.mk (below_step (by repeat (first | (with_reducible first | exact HB.out | apply below_alloc | apply pw_below_drewN | apply below_drew1) | exact HB.out)) hb); clear HO_0; clear HO_1; clear HO_7; clear HO_8; clear HO_17; clear HB; have HO_0 := n0_; have HO_1 := n1_; have HO_7 := n2_; have HO_8 := n3_; have HO_17 := n4_; have HB := n5_; clear n0_ n1_ n2_ n3_ n4_ n5_; (try clear hb); (try clear hb2); (try clear hk); (try clear hi)) | ((with_reducible refine gate_builtin (b := .append) (xs := #[.tmp 29, .tmp 59]) rfl ?_); at_builtin; refine Kd.R_append Kd.bool (w0 := w) w.heap.size rfl (.tmp 29) (.tmp 59) 43 4 (.bool false) 1 rfl Try.underlying43 info4 rfl (by decide) (by omega) u8 x8_1 true [.bool true] (fun k_ => (w.heap.size ≤ k_)) (fun _ => False) rfl rfl ?aP (fun _ hk => hk.elim) ?aF ?aO ?aB ?aS ?aL ?_; (case aP => exact rfl); (case aB => exact (by repeat (first | (with_reducible first | exact HB.out | apply below_alloc | apply pw_below_drewN | apply below_drew1) | exact HB.out))); (case aF => exact (fun k_ hk => (Nat.le_trans (below_size (by repeat (first | (with_reducible first | exact HB.out | apply below_alloc | apply pw_below_drewN | apply below_drew1) | exact HB.out))) hk))); (case aO => exact (by (with_reducible repeat (first | apply Kd.R_alloc | apply Kd.R_drewN | apply Kd.R_drew)); exact HO_8.out)); (case aS => exact (below_size (by repeat (first | (with_reducible first | exact HB.out | apply below_alloc | apply pw_below_drewN | apply below_drew1) | exact HB.out)))); (case aL => have := LMc17.out; omega); intro v205 w20 ho hb hg hat; rw [← Ny204.out] at ho; have n0_ := Aside0.mk (Kd.V_afterv (ok := (fun k_ => ((P0_ k_ ∨ P1_ k_) ∨ w.heap.size ≤ k_) ∧ some k_ ≠ (.slice (some ad201) t198.length co9 : Value).ownBlock ∧ some k_ ≠ (.slice (some ad201) t198.length co9 : Value).ownBlock)) (by (with_reducible repeat (first | apply Kd.V_alloc | apply Kd.V_drewN | apply Kd.V_drew)); exact Kd.V_mono HO_0.out (fun _ hk => ⟨⟨hk.1, ⟨hk.2.1, hk.2.2.2⟩⟩, hk.2.2.1⟩)) hg hat); have n1_ := Aside0.mk (Kd.V_afterv (ok := (fun k_ => ((P0_ k_ ∨ P1_ k_) ∨ w.heap.size ≤ k_) ∧ some k_ ≠ (.slice (some ad201) t198.length co9 : Value).ownBlock ∧ some k_ ≠ (.slice (some ad201) t198.length co9 : Value).ownBlock)) (by (with_reducible repeat (first | apply Kd.V_alloc | apply Kd.V_drewN | apply Kd.V_drew)); exact Kd.V_mono HO_1.out (fun _ hk => ⟨⟨hk.1, ⟨hk.2.1, hk.2.2.2⟩⟩, hk.2.2.1⟩)) hg hat); have n2_ := Aside0.mk (Kd.R_over' (by (with_reducible repeat (first | apply Kd.R_alloc | apply Kd.R_drewN | apply Kd.R_drew)); exact HO_7.out) (Kd.R_typed (by (with_reducible repeat (first | apply Kd.R_alloc | apply Kd.R_drewN | apply Kd.R_drew)); exact HO_8.out)) (by decide) hg); have n3_ := Aside0.mk (Kd.R_over' (by (with_reducible repeat (first | apply Kd.R_alloc | apply Kd.R_drewN | apply Kd.R_drew)); exact HO_17.out) (Kd.R_typed (by (with_reducible repeat (first | apply Kd.R_alloc | apply Kd.R_drewN | apply Kd.R_drew)); exact HO_8.out)) (by decide) hg); have n4_ := Aside0.mk (hb); have n5_ := Aside0.mk (ho); clear HO_0; clear HO_1; clear HO_7; clear HO_17; clear HB; clear HO_8; have HO_0 := n0_; have HO_1 := n1_; have HO_7 := n2_; have HO_17 := n3_; have HB := n4_; have HO206 := n5_; clear n0_ n1_ n2_ n3_ n4_ n5_; clear ho hb hg hat))
                  go_roundg k1
                  case measure => have := HK1.out; omega
                  case rel => exact ⟨(y204), (wrap64 (x19_1 + 1)), (by first | rfl | (simp; done) | (simp [*]; done)), H', ⟨by have := HK1.out; omega⟩, ⟨by (with_reducible repeat (first | apply Kd.V_alloc | apply Kd.V_drewN | apply Kd.V_drew)); exact Kd.V_mono HO_0.out (fun _ hk => ⟨hk.1.1, ⟨hk.1.2.1, ⟨hk.2, hk.1.2.2⟩⟩⟩)⟩, ⟨by (with_reducible repeat (first | apply Kd.V_alloc | apply Kd.V_drewN | apply Kd.V_drew)); exact Kd.V_mono HO_1.out (fun _ hk => ⟨hk.1.1, ⟨hk.1.2.1, ⟨hk.2, hk.1.2.2⟩⟩⟩)⟩, ⟨by (with_reducible repeat (first | apply Kd.R_alloc | apply Kd.R_drewN | apply Kd.R_drew)); exact HO_7.out⟩, ⟨by (with_reducible repeat (first | apply Kd.R_alloc | apply Kd.R_drewN | apply Kd.R_drew)); exact HO206.out⟩, ⟨by (with_reducible repeat (first | apply Kd.R_alloc | apply Kd.R_drewN | apply Kd.R_drew)); exact HO_17.out⟩, ⟨by repeat (first | (with_reducible first | exact HB.out | apply below_alloc | apply pw_below_drewN | apply below_drew1) | exact HB.out)⟩⟩
                · rw [if_neg c17] at H
                  exact absurd H (by simp)
              · replace c16 := Bool.eq_false_iff.mpr c16
                subst c16
                have H1 : (if t203 = true then (if x8_1.length < 140737488355328 then (lamellaref02_Of.l0 k1 l0 l1 a2 t198 (x8_1 ++ [true]) t198 (t198.length : Int) (wrap64 (x19_1 + 1))) else (none)) else (if a2 = 1 then (if a2 = 2 then (if x8_1.length < 140737488355328 then (lamellaref02_Of.l0 k1 l0 l1 a2 t198 (x8_1 ++ [false]) t198 (t198.length : Int) (wrap64 (x19_1 + 1))) else (none)) else (if x8_1.length < 140737488355328 then (lamellaref02_Of.l0 k1 l0 l1 a2 t198 (x8_1 ++ [false]) t198 (t198.length : Int) (wrap64 (x19_1 + 1))) else (none))) else (if a2 = 2 then (if x8_1.length < 140737488355328 then (lamellaref02_Of.l0 k1 l0 l1 a2 t198 (x8_1 ++ [false]) t198 (t198.length : Int) (wrap64 (x19_1 + 1))) else (none)) else (if x8_1.length < 140737488355328 then (lamellaref02_Of.l0 k1 l0 l1 a2 t198 (x8_1 ++ [false]) t198 (t198.length : Int) (wrap64 (x19_1 + 1))) else (none))))) = some r := by rw [if_neg (show ¬ (false = true) by decide)] at H; exact H
                clear H
                have H := H1
                clear H1
                by_cases c21 : t203 = true
                · subst c21
                  have H1 : (if x8_1.length < 140737488355328 then (lamellaref02_Of.l0 k1 l0 l1 a2 t198 (x8_1 ++ [true]) t198 (t198.length : Int) (wrap64 (x19_1 + 1))) else (none)) = some r := by rw [if_pos rfl] at H; exact H
                  clear H
                  have H := H1
                  clear H1
                  by_cases c22 : x8_1.length < 140737488355328
                  · rw [if_pos c22] at H
                    have LMc22 := Aside0.mk c22
                    clear c22
                    obtain ⟨y207, hy207⟩ : ∃ y_ : List Bool, y_ = (x8_1 ++ [true]) := ⟨_, rfl⟩
                    replace H : (lamellaref02_Of.l0 k1 l0 l1 a2 t198 y207 t198 (t198.length : Int) (wrap64 (x19_1 + 1))) = some r := by first | (rw [hy207]; with_reducible exact H) | (have H2_ := (Option.bind_some _ _).symm.trans H; rw [hy207]; with_reducible exact H2_) | (have H2_ := (Option.bind_some _ _).symm.trans H; with_reducible exact H2_) | with_reducible exact H | (rw [hy207]; exact H) | exact H
                    have Ny207 := Aside0.mk hy207
                    clear hy207
                    have H' := Aside0.mk H
                    clear H
                    have p201 : 0 ≤ (x19_1 : Int) := of_decide_eq_true (by first | (with_reducible assumption) | assumption)
                    have q201 : x19_1 < (t198.length : Int) := of_decide_eq_true (by first | (with_reducible assumption) | assumption)
                    obtain ⟨ad201, e201, hx201_0⟩ := Kd.at_int (Kd.R_reads' HO_17.out).2.2 x19_1 p201 q201
                    cases e201
                    replace p201 := eq_true p201
                    replace q201 := eq_true q201
                    go_wp2_with (first | ((with_reducible refine gate_callee (f := 26) rfl ?_); refine goesL_ (some 25) rfl rfl Try.func26 (by kernel_rfl) rfl #[.slice A0 l0.length c0, .int .i64 (rd t198 x19_1)] rfl (by (try simp only [List.map_toArray, List.map_cons, List.map_nil]); first | done | rfl | (simp only [List.length_drop, List.length_take]; rfl)) ?_; (with_reducible refine (lamellaref02_Has.calls k1 _ _ l0 (rd t198 x19_1) false _ ?side1 ?side2 A13.out).mono ?_); (case side1 => repeat (first | exact (Kd.V_reads' HO_0.out).2.2 | (with_reducible refine Kd.C_alloc ?_ _) | (with_reducible refine Kd.C_drewN ?_ _) | (with_reducible refine Kd.C_drew ?_))); (case side2 => exact (Kd.V_reads' HO_0.out).2.1); rintro e w23 ⟨rfl, hb⟩; refine ⟨_, rfl, ?_⟩; have n0_ := Aside0.mk (Kd.V_below (by (with_reducible repeat (first | apply Kd.V_alloc | apply Kd.V_drewN | apply Kd.V_drew)); exact HO_0.out) hb); have n1_ := Aside0.mk (Kd.V_below (by (with_reducible repeat (first | apply Kd.V_alloc | apply Kd.V_drewN | apply Kd.V_drew)); exact HO_1.out) hb); have n2_ := Aside0.mk (Kd.R_below (by (with_reducible repeat (first | apply Kd.R_alloc | apply Kd.R_drewN | apply Kd.R_drew)); exact HO_7.out) hb); have n3_ := Aside0.mk (Kd.R_below (by (with_reducible repeat (first | apply Kd.R_alloc | apply Kd.R_drewN | apply Kd.R_drew)); exact HO_8.out) hb); have n4_ := Aside0.mk (Kd.R_below (by (with_reducible repeat (first | apply Kd.R_alloc | apply Kd.R_drewN | apply Kd.R_drew)); exact HO_17.out) hb); have n5_ := Aside0.mk (below_step (by repeat (first | (with_reducible first | exact HB.out | apply below_alloc | apply pw_below_drewN | apply below_drew1) | exact HB.out)) hb); clear HO_0; clear HO_1; clear HO_7; clear HO_8; clear HO_17; clear HB; have HO_0 := n0_; have HO_1 := n1_; have HO_7 := n2_; have HO_8 := n3_; have HO_17 := n4_; have HB := n5_; clear n0_ n1_ n2_ n3_ n4_ n5_; (try clear hb); (try clear hb2); (try clear hk); (try clear hi)) | ((with_reducible refine gate_callee (f := 26) rfl ?_); refine goesL_ (some 28) rfl rfl Try.func26 (by kernel_rfl) rfl #[.slice A1 l1.length c1, .int .i64 (rd t198 x19_1)] rfl (by (try simp only [List.map_toArray, List.map_cons, List.map_nil]); first | done | rfl | (simp only [List.length_drop, List.length_take]; rfl)) ?_; (with_reducible refine (lamellaref02_Has.calls k1 _ _ l1 (rd t198 x19_1) true _ ?side1 ?side2 A14.out).mono ?_); (case side1 => repeat (first | exact (Kd.V_reads' HO_1.out).2.2 | (with_reducible refine Kd.C_alloc ?_ _) | (with_reducible refine Kd.C_drewN ?_ _) | (with_reducible refine Kd.C_drew ?_))); (case side2 => exact (Kd.V_reads' HO_1.out).2.1); rintro e w24 ⟨rfl, hb⟩; refine ⟨_, rfl, ?_⟩; have n0_ := Aside0.mk (Kd.V_below (by (with_reducible repeat (first | apply Kd.V_alloc | apply Kd.V_drewN | apply Kd.V_drew)); exact HO_0.out) hb); have n1_ := Aside0.mk (Kd.V_below (by (with_reducible repeat (first | apply Kd.V_alloc | apply Kd.V_drewN | apply Kd.V_drew)); exact HO_1.out) hb); have n2_ := Aside0.mk (Kd.R_below (by (with_reducible repeat (first | apply Kd.R_alloc | apply Kd.R_drewN | apply Kd.R_drew)); exact HO_7.out) hb); have n3_ := Aside0.mk (Kd.R_below (by (with_reducible repeat (first | apply Kd.R_alloc | apply Kd.R_drewN | apply Kd.R_drew)); exact HO_8.out) hb); have n4_ := Aside0.mk (Kd.R_below (by (with_reducible repeat (first | apply Kd.R_alloc | apply Kd.R_drewN | apply Kd.R_drew)); exact HO_17.out) hb); have n5_ := Aside0.mk (below_step (by repeat (first | (with_reducible first | exact HB.out | apply below_alloc | apply pw_below_drewN | apply below_drew1) | exact HB.out)) hb); clear HO_0; clear HO_1; clear HO_7; clear HO_8; clear HO_17; clear HB; have HO_0 := n0_; have HO_1 := n1_; have HO_7 := n2_; have HO_8 := n3_; have HO_17 := n4_; have HB := n5_; clear n0_ n1_ n2_ n3_ n4_ n5_; (try clear hb); (try clear hb2); (try clear hk); (try clear hi)) | ((with_reducible refine gate_builtin (b := .append) (xs := #[.tmp 29, .tmp 59]) rfl ?_); at_builtin; refine Kd.R_append Kd.bool (w0 := w) w.heap.size rfl (.tmp 29) (.tmp 59) 43 4 (.bool false) 1 rfl Try.underlying43 info4 rfl (by decide) (by omega) u8 x8_1 true [.bool true] (fun k_ => (w.heap.size ≤ k_)) (fun _ => False) rfl rfl ?aP (fun _ hk => hk.elim) ?aF ?aO ?aB ?aS ?aL ?_; (case aP => exact rfl); (case aB => exact (by repeat (first | (with_reducible first | exact HB.out | apply below_alloc | apply pw_below_drewN | apply below_drew1) | exact HB.out))); (case aF => exact (fun k_ hk => (Nat.le_trans (below_size (by repeat (first | (with_reducible first | exact HB.out | apply below_alloc | apply pw_below_drewN | apply below_drew1) | exact HB.out))) hk))); (case aO => exact (by (with_reducible repeat (first | apply Kd.R_alloc | apply Kd.R_drewN | apply Kd.R_drew)); exact HO_8.out)); (case aS => exact (below_size (by repeat (first | (with_reducible first | exact HB.out | apply below_alloc | apply pw_below_drewN | apply below_drew1) | exact HB.out)))); (case aL => have := LMc22.out; omega); intro v208 w25 ho hb hg hat; rw [← Ny207.out] at ho; have n0_ := Aside0.mk (Kd.V_afterv (ok := (fun k_ => ((P0_ k_ ∨ P1_ k_) ∨ w.heap.size ≤ k_) ∧ some k_ ≠ (.slice (some ad201) t198.length co9 : Value).ownBlock ∧ some k_ ≠ (.slice (some ad201) t198.length co9 : Value).ownBlock)) (by (with_reducible repeat (first | apply Kd.V_alloc | apply Kd.V_drewN | apply Kd.V_drew)); exact Kd.V_mono HO_0.out (fun _ hk => ⟨⟨hk.1, ⟨hk.2.1, hk.2.2.2⟩⟩, hk.2.2.1⟩)) hg hat); have n1_ := Aside0.mk (Kd.V_afterv (ok := (fun k_ => ((P0_ k_ ∨ P1_ k_) ∨ w.heap.size ≤ k_) ∧ some k_ ≠ (.slice (some ad201) t198.length co9 : Value).ownBlock ∧ some k_ ≠ (.slice (some ad201) t198.length co9 : Value).ownBlock)) (by (with_reducible repeat (first | apply Kd.V_alloc | apply Kd.V_drewN | apply Kd.V_drew)); exact Kd.V_mono HO_1.out (fun _ hk => ⟨⟨hk.1, ⟨hk.2.1, hk.2.2.2⟩⟩, hk.2.2.1⟩)) hg hat); have n2_ := Aside0.mk (Kd.R_over' (by (with_reducible repeat (first | apply Kd.R_alloc | apply Kd.R_drewN | apply Kd.R_drew)); exact HO_7.out) (Kd.R_typed (by (with_reducible repeat (first | apply Kd.R_alloc | apply Kd.R_drewN | apply Kd.R_drew)); exact HO_8.out)) (by decide) hg); have n3_ := Aside0.mk (Kd.R_over' (by (with_reducible repeat (first | apply Kd.R_alloc | apply Kd.R_drewN | apply Kd.R_drew)); exact HO_17.out) (Kd.R_typed (by (with_reducible repeat (first | apply Kd.R_alloc | apply Kd.R_drewN | apply Kd.R_drew)); exact HO_8.out)) (by decide) hg); have n4_ := Aside0.mk (hb); have n5_ := Aside0.mk (ho); clear HO_0; clear HO_1; clear HO_7; clear HO_17; clear HB; clear HO_8; have HO_0 := n0_; have HO_1 := n1_; have HO_7 := n2_; have HO_17 := n3_; have HB := n4_; have HO209 := n5_; clear n0_ n1_ n2_ n3_ n4_ n5_; clear ho hb hg hat))
                    go_roundg k1
                    case measure => have := HK1.out; omega
                    case rel => exact ⟨(y207), (wrap64 (x19_1 + 1)), (by first | rfl | (simp; done) | (simp [*]; done)), H', ⟨by have := HK1.out; omega⟩, ⟨by (with_reducible repeat (first | apply Kd.V_alloc | apply Kd.V_drewN | apply Kd.V_drew)); exact Kd.V_mono HO_0.out (fun _ hk => ⟨hk.1.1, ⟨hk.1.2.1, ⟨hk.2, hk.1.2.2⟩⟩⟩)⟩, ⟨by (with_reducible repeat (first | apply Kd.V_alloc | apply Kd.V_drewN | apply Kd.V_drew)); exact Kd.V_mono HO_1.out (fun _ hk => ⟨hk.1.1, ⟨hk.1.2.1, ⟨hk.2, hk.1.2.2⟩⟩⟩)⟩, ⟨by (with_reducible repeat (first | apply Kd.R_alloc | apply Kd.R_drewN | apply Kd.R_drew)); exact HO_7.out⟩, ⟨by (with_reducible repeat (first | apply Kd.R_alloc | apply Kd.R_drewN | apply Kd.R_drew)); exact HO209.out⟩, ⟨by (with_reducible repeat (first | apply Kd.R_alloc | apply Kd.R_drewN | apply Kd.R_drew)); exact HO_17.out⟩, ⟨by repeat (first | (with_reducible first | exact HB.out | apply below_alloc | apply pw_below_drewN | apply below_drew1) | exact HB.out)⟩⟩
                  · rw [if_neg c22] at H
                    exact absurd H (by simp)
                · replace c21 := Bool.eq_false_iff.mpr c21
                  subst c21
                  have H1 : (if a2 = 1 then (if a2 = 2 then (if x8_1.length < 140737488355328 then (lamellaref02_Of.l0 k1 l0 l1 a2 t198 (x8_1 ++ [false]) t198 (t198.length : Int) (wrap64 (x19_1 + 1))) else (none)) else (if x8_1.length < 140737488355328 then (lamellaref02_Of.l0 k1 l0 l1 a2 t198 (x8_1 ++ [false]) t198 (t198.length : Int) (wrap64 (x19_1 + 1))) else (none))) else (if a2 = 2 then (if x8_1.length < 140737488355328 then (lamellaref02_Of.l0 k1 l0 l1 a2 t198 (x8_1 ++ [false]) t198 (t198.length : Int) (wrap64 (x19_1 + 1))) else (none)) else (if x8_1.length < 140737488355328 then (lamellaref02_Of.l0 k1 l0 l1 a2 t198 (x8_1 ++ [false]) t198 (t198.length : Int) (wrap64 (x19_1 + 1))) else (none)))) = some r := by rw [if_neg (show ¬ (false = true) by decide)] at H; exact H
                  clear H
                  have H := H1
                  clear H1
                  by_cases c26 : a2 = 1
                  · rw [if_pos c26] at H
                    have c26b0 : (a2 == 1) = true := beq_iff_eq.mpr c26
                    have c26b1 : (a2 != 1) = false := bne_eq_false_iff_eq.mpr c26
                    clear c26
                    by_cases c27 : a2 = 2
                    · rw [if_pos c27] at H
                      have c27b0 : (a2 == 2) = true := beq_iff_eq.mpr c27
                      have c27b1 : (a2 != 2) = false := bne_eq_false_iff_eq.mpr c27
                      clear c27
                      by_cases c28 : x8_1.length < 140737488355328
                      · rw [if_pos c28] at H
                        have LMc28 := Aside0.mk c28
                        clear c28
                        obtain ⟨y210, hy210⟩ : ∃ y_ : List Bool, y_ = (x8_1 ++ [false]) := ⟨_, rfl⟩
                        replace H : (lamellaref02_Of.l0 k1 l0 l1 a2 t198 y210 t198 (t198.length : Int) (wrap64 (x19_1 + 1))) = some r := by first | (rw [hy210]; with_reducible exact H) | (have H2_ := (Option.bind_some _ _).symm.trans H; rw [hy210]; with_reducible exact H2_) | (have H2_ := (Option.bind_some _ _).symm.trans H; with_reducible exact H2_) | with_reducible exact H | (rw [hy210]; exact H) | exact H
                        have Ny210 := Aside0.mk hy210
                        clear hy210
                        have H' := Aside0.mk H
                        clear H
                        have p201 : 0 ≤ (x19_1 : Int) := of_decide_eq_true (by first | (with_reducible assumption) | assumption)
                        have q201 : x19_1 < (t198.length : Int) := of_decide_eq_true (by first | (with_reducible assumption) | assumption)
                        obtain ⟨ad201, e201, hx201_0⟩ := Kd.at_int (Kd.R_reads' HO_17.out).2.2 x19_1 p201 q201
                        cases e201
                        replace p201 := eq_true p201
                        replace q201 := eq_true q201
                        go_wp2_with (first | ((with_reducible refine gate_callee (f := 26) rfl ?_); refine goesL_ (some 25) rfl rfl Try.func26 (by kernel_rfl) rfl #[.slice A0 l0.length c0, .int .i64 (rd t198 x19_1)] rfl (by (try simp only [List.map_toArray, List.map_cons, List.map_nil]); first | done | rfl | (simp only [List.length_drop, List.length_take]; rfl)) ?_; (with_reducible refine (lamellaref02_Has.calls k1 _ _ l0 (rd t198 x19_1) false _ ?side1 ?side2 A13.out).mono ?_); (case side1 => repeat (first | exact (Kd.V_reads' HO_0.out).2.2 | (with_reducible refine Kd.C_alloc ?_ _) | (with_reducible refine Kd.C_drewN ?_ _) | (with_reducible refine Kd.C_drew ?_))); (case side2 => exact (Kd.V_reads' HO_0.out).2.1); rintro e w29 ⟨rfl, hb⟩; refine ⟨_, rfl, ?_⟩; have n0_ := Aside0.mk (Kd.V_below (by (with_reducible repeat (first | apply Kd.V_alloc | apply Kd.V_drewN | apply Kd.V_drew)); exact HO_0.out) hb); have n1_ := Aside0.mk (Kd.V_below (by (with_reducible repeat (first | apply Kd.V_alloc | apply Kd.V_drewN | apply Kd.V_drew)); exact HO_1.out) hb); have n2_ := Aside0.mk (Kd.R_below (by (with_reducible repeat (first | apply Kd.R_alloc | apply Kd.R_drewN | apply Kd.R_drew)); exact HO_7.out) hb); have n3_ := Aside0.mk (Kd.R_below (by (with_reducible repeat (first | apply Kd.R_alloc | apply Kd.R_drewN | apply Kd.R_drew)); exact HO_8.out) hb); have n4_ := Aside0.mk (Kd.R_below (by (with_reducible repeat (first | apply Kd.R_alloc | apply Kd.R_drewN | apply Kd.R_drew)); exact HO_17.out) hb); have n5_ := Aside0.mk (below_step (by repeat (first | (with_reducible first | exact HB.out | apply below_alloc | apply pw_below_drewN | apply below_drew1) | exact HB.out)) hb); clear HO_0; clear HO_1; clear HO_7; clear HO_8; clear HO_17; clear HB; have HO_0 := n0_; have HO_1 := n1_; have HO_7 := n2_; have HO_8 := n3_; have HO_17 := n4_; have HB := n5_; clear n0_ n1_ n2_ n3_ n4_ n5_; (try clear hb); (try clear hb2); (try clear hk); (try clear hi)) | ((with_reducible refine gate_callee (f := 26) rfl ?_); refine goesL_ (some 28) rfl rfl Try.func26 (by kernel_rfl) rfl #[.slice A1 l1.length c1, .int .i64 (rd t198 x19_1)] rfl (by (try simp only [List.map_toArray, List.map_cons, List.map_nil]); first | done | rfl | (simp only [List.length_drop, List.length_take]; rfl)) ?_; (with_reducible refine (lamellaref02_Has.calls k1 _ _ l1 (rd t198 x19_1) false _ ?side1 ?side2 A14.out).mono ?_); (case side1 => repeat (first | exact (Kd.V_reads' HO_1.out).2.2 | (with_reducible refine Kd.C_alloc ?_ _) | (with_reducible refine Kd.C_drewN ?_ _) | (with_reducible refine Kd.C_drew ?_))); (case side2 => exact (Kd.V_reads' HO_1.out).2.1); rintro e w30 ⟨rfl, hb⟩; refine ⟨_, rfl, ?_⟩; have n0_ := Aside0.mk (Kd.V_below (by (with_reducible repeat (first | apply Kd.V_alloc | apply Kd.V_drewN | apply Kd.V_drew)); exact HO_0.out) hb); have n1_ := Aside0.mk (Kd.V_below (by (with_reducible repeat (first | apply Kd.V_alloc | apply Kd.V_drewN | apply Kd.V_drew)); exact HO_1.out) hb); have n2_ := Aside0.mk (Kd.R_below (by (with_reducible repeat (first | apply Kd.R_alloc | apply Kd.R_drewN | apply Kd.R_drew)); exact HO_7.out) hb); have n3_ := Aside0.mk (Kd.R_below (by (with_reducible repeat (first | apply Kd.R_alloc | apply Kd.R_drewN | apply Kd.R_drew)); exact HO_8.out) hb); have n4_ := Aside0.mk (Kd.R_below (by (with_reducible repeat (first | apply Kd.R_alloc | apply Kd.R_drewN | apply Kd.R_drew)); exact HO_17.out) hb); have n5_ := Aside0.mk (below_step (by repeat (first | (with_reducible first | exact HB.out | apply below_alloc | apply pw_below_drewN | apply below_drew1) | exact HB.out)) hb); clear HO_0; clear HO_1; clear HO_7; clear HO_8; clear HO_17; clear HB; have HO_0 := n0_; have HO_1 := n1_; have HO_7 := n2_; have HO_8 := n3_; have HO_17 := n4_; have HB := n5_; clear n0_ n1_ n2_ n3_ n4_ n5_; (try clear hb); (try clear hb2); (try clear hk); (try clear hi)) | ((with_reducible refine gate_builtin (b := .append) (xs := #[.tmp 29, .tmp 59]) rfl ?_); at_builtin; refine Kd.R_append Kd.bool (w0 := w) w.heap.size rfl (.tmp 29) (.tmp 59) 43 4 (.bool false) 1 rfl Try.underlying43 info4 rfl (by decide) (by omega) u8 x8_1 false [.bool false] (fun k_ => (w.heap.size ≤ k_)) (fun _ => False) rfl rfl ?aP (fun _ hk => hk.elim) ?aF ?aO ?aB ?aS ?aL ?_; (case aP => exact rfl); (case aB => exact (by repeat (first | (with_reducible first | exact HB.out | apply below_alloc | apply pw_below_drewN | apply below_drew1) | exact HB.out))); (case aF => exact (fun k_ hk => (Nat.le_trans (below_size (by repeat (first | (with_reducible first | exact HB.out | apply below_alloc | apply pw_below_drewN | apply below_drew1) | exact HB.out))) hk))); (case aO => exact (by (with_reducible repeat (first | apply Kd.R_alloc | apply Kd.R_drewN | apply Kd.R_drew)); exact HO_8.out)); (case aS => exact (below_size (by repeat (first | (with_reducible first | exact HB.out | apply below_alloc | apply pw_below_drewN | apply below_drew1) | exact HB.out)))); (case aL => have := LMc28.out; omega); intro v211 w31 ho hb hg hat; rw [← Ny210.out] at ho; have n0_ := Aside0.mk (Kd.V_afterv (ok := (fun k_ => ((P0_ k_ ∨ P1_ k_) ∨ w.heap.size ≤ k_) ∧ some k_ ≠ (.slice (some ad201) t198.length co9 : Value).ownBlock ∧ some k_ ≠ (.slice (some ad201) t198.length co9 : Value).ownBlock)) (by (with_reducible repeat (first | apply Kd.V_alloc | apply Kd.V_drewN | apply Kd.V_drew)); exact Kd.V_mono HO_0.out (fun _ hk => ⟨⟨hk.1, ⟨hk.2.1, hk.2.2.2⟩⟩, hk.2.2.1⟩)) hg hat); have n1_ := Aside0.mk (Kd.V_afterv (ok := (fun k_ => ((P0_ k_ ∨ P1_ k_) ∨ w.heap.size ≤ k_) ∧ some k_ ≠ (.slice (some ad201) t198.length co9 : Value).ownBlock ∧ some k_ ≠ (.slice (some ad201) t198.length co9 : Value).ownBlock)) (by (with_reducible repeat (first | apply Kd.V_alloc | apply Kd.V_drewN | apply Kd.V_drew)); exact Kd.V_mono HO_1.out (fun _ hk => ⟨⟨hk.1, ⟨hk.2.1, hk.2.2.2⟩⟩, hk.2.2.1⟩)) hg hat); have n2_ := Aside0.mk (Kd.R_over' (by (with_reducible repeat (first | apply Kd.R_alloc | apply Kd.R_drewN | apply Kd.R_drew)); exact HO_7.out) (Kd.R_typed (by (with_reducible repeat (first | apply Kd.R_alloc | apply Kd.R_drewN | apply Kd.R_drew)); exact HO_8.out)) (by decide) hg); have n3_ := Aside0.mk (Kd.R_over' (by (with_reducible repeat (first | apply Kd.R_alloc | apply Kd.R_drewN | apply Kd.R_drew)); exact HO_17.out) (Kd.R_typed (by (with_reducible repeat (first | apply Kd.R_alloc | apply Kd.R_drewN | apply Kd.R_drew)); exact HO_8.out)) (by decide) hg); have n4_ := Aside0.mk (hb); have n5_ := Aside0.mk (ho); clear HO_0; clear HO_1; clear HO_7; clear HO_17; clear HB; clear HO_8; have HO_0 := n0_; have HO_1 := n1_; have HO_7 := n2_; have HO_17 := n3_; have HB := n4_; have HO212 := n5_; clear n0_ n1_ n2_ n3_ n4_ n5_; clear ho hb hg hat))
                        go_roundg k1
                        case measure => have := HK1.out; omega
                        case rel => exact ⟨(y210), (wrap64 (x19_1 + 1)), (by first | rfl | (simp; done) | (simp [*]; done)), H', ⟨by have := HK1.out; omega⟩, ⟨by (with_reducible repeat (first | apply Kd.V_alloc | apply Kd.V_drewN | apply Kd.V_drew)); exact Kd.V_mono HO_0.out (fun _ hk => ⟨hk.1.1, ⟨hk.1.2.1, ⟨hk.2, hk.1.2.2⟩⟩⟩)⟩, ⟨by (with_reducible repeat (first | apply Kd.V_alloc | apply Kd.V_drewN | apply Kd.V_drew)); exact Kd.V_mono HO_1.out (fun _ hk => ⟨hk.1.1, ⟨hk.1.2.1, ⟨hk.2, hk.1.2.2⟩⟩⟩)⟩, ⟨by (with_reducible repeat (first | apply Kd.R_alloc | apply Kd.R_drewN | apply Kd.R_drew)); exact HO_7.out⟩, ⟨by (with_reducible repeat (first | apply Kd.R_alloc | apply Kd.R_drewN | apply Kd.R_drew)); exact HO212.out⟩, ⟨by (with_reducible repeat (first | apply Kd.R_alloc | apply Kd.R_drewN | apply Kd.R_drew)); exact HO_17.out⟩, ⟨by repeat (first | (with_reducible first | exact HB.out | apply below_alloc | apply pw_below_drewN | apply below_drew1) | exact HB.out)⟩⟩
                      · rw [if_neg c28] at H
                        exact absurd H (by simp)
                    · rw [if_neg c27] at H
                      have c27b0 : (a2 == 2) = false := beq_eq_false_iff_ne.mpr c27
                      have c27b1 : (a2 != 2) = true := bne_iff_ne.mpr c27
                      by_cases c32 : x8_1.length < 140737488355328
                      · rw [if_pos c32] at H
                        have LMc32 := Aside0.mk c32
                        clear c32
                        obtain ⟨y213, hy213⟩ : ∃ y_ : List Bool, y_ = (x8_1 ++ [false]) := ⟨_, rfl⟩
                        replace H : (lamellaref02_Of.l0 k1 l0 l1 a2 t198 y213 t198 (t198.length : Int) (wrap64 (x19_1 + 1))) = some r := by first | (rw [hy213]; with_reducible exact H) | (have H2_ := (Option.bind_some _ _).symm.trans H; rw [hy213]; with_reducible exact H2_) | (have H2_ := (Option.bind_some _ _).symm.trans H; with_reducible exact H2_) | with_reducible exact H | (rw [hy213]; exact H) | exact H
                        have Ny213 := Aside0.mk hy213
                        clear hy213
                        have H' := Aside0.mk H
                        clear H
                        have p201 : 0 ≤ (x19_1 : Int) := of_decide_eq_true (by first | (with_reducible assumption) | assumption)
                        have q201 : x19_1 < (t198.length : Int) := of_decide_eq_true (by first | (with_reducible assumption) | assumption)
                        obtain ⟨ad201, e201, hx201_0⟩ := Kd.at_int (Kd.R_reads' HO_17.out).2.2 x19_1 p201 q201
                        cases e201
                        replace p201 := eq_true p201
                        replace q201 := eq_true q201
                        go_wp2_with (first | ((with_reducible refine gate_callee (f := 26) rfl ?_); refine goesL_ (some 25) rfl rfl Try.func26 (by kernel_rfl) rfl #[.slice A0 l0.length c0, .int .i64 (rd t198 x19_1)] rfl (by (try simp only [List.map_toArray, List.map_cons, List.map_nil]); first | done | rfl | (simp only [List.length_drop, List.length_take]; rfl)) ?_; (with_reducible refine (lamellaref02_Has.calls k1 _ _ l0 (rd t198 x19_1) false _ ?side1 ?side2 A13.out).mono ?_); (case side1 => repeat (first | exact (Kd.V_reads' HO_0.out).2.2 | (with_reducible refine Kd.C_alloc ?_ _) | (with_reducible refine Kd.C_drewN ?_ _) | (with_reducible refine Kd.C_drew ?_))); (case side2 => exact (Kd.V_reads' HO_0.out).2.1); rintro e w33 ⟨rfl, hb⟩; refine ⟨_, rfl, ?_⟩; have n0_ := Aside0.mk (Kd.V_below (by (with_reducible repeat (first | apply Kd.V_alloc | apply Kd.V_drewN | apply Kd.V_drew)); exact HO_0.out) hb); have n1_ := Aside0.mk (Kd.V_below (by (with_reducible repeat (first | apply Kd.V_alloc | apply Kd.V_drewN | apply Kd.V_drew)); exact HO_1.out) hb); have n2_ := Aside0.mk (Kd.R_below (by (with_reducible repeat (first | apply Kd.R_alloc | apply Kd.R_drewN | apply Kd.R_drew)); exact HO_7.out) hb); have n3_ := Aside0.mk (Kd.R_below (by (with_reducible repeat (first | apply Kd.R_alloc | apply Kd.R_drewN | apply Kd.R_drew)); exact HO_8.out) hb); have n4_ := Aside0.mk (Kd.R_below (by (with_reducible repeat (first | apply Kd.R_alloc | apply Kd.R_drewN | apply Kd.R_drew)); exact HO_17.out) hb); have n5_ := Aside0.mk (below_step (by repeat (first | (with_reducible first | exact HB.out | apply below_alloc | apply pw_below_drewN | apply below_drew1) | exact HB.out)) hb); clear HO_0; clear HO_1; clear HO_7; clear HO_8; clear HO_17; clear HB; have HO_0 := n0_; have HO_1 := n1_; have HO_7 := n2_; have HO_8 := n3_; have HO_17 := n4_; have HB := n5_; clear n0_ n1_ n2_ n3_ n4_ n5_; (try clear hb); (try clear hb2); (try clear hk); (try clear hi)) | ((with_reducible refine gate_callee (f := 26) rfl ?_); refine goesL_ (some 28) rfl rfl Try.func26 (by kernel_rfl) rfl #[.slice A1 l1.length c1, .int .i64 (rd t198 x19_1)] rfl (by (try simp only [List.map_toArray, List.map_cons, List.map_nil]); first | done | rfl | (simp only [List.length_drop, List.length_take]; rfl)) ?_; (with_reducible refine (lamellaref02_Has.calls k1 _ _ l1 (rd t198 x19_1) false _ ?side1 ?side2 A14.out).mono ?_); (case side1 => repeat (first | exact (Kd.V_reads' HO_1.out).2.2 | (with_reducible refine Kd.C_alloc ?_ _) | (with_reducible refine Kd.C_drewN ?_ _) | (with_reducible refine Kd.C_drew ?_))); (case side2 => exact (Kd.V_reads' HO_1.out).2.1); rintro e w34 ⟨rfl, hb⟩; refine ⟨_, rfl, ?_⟩; have n0_ := Aside0.mk (Kd.V_below (by (with_reducible repeat (first | apply Kd.V_alloc | apply Kd.V_drewN | apply Kd.V_drew)); exact HO_0.out) hb); have n1_ := Aside0.mk (Kd.V_below (by (with_reducible repeat (first | apply Kd.V_alloc | apply Kd.V_drewN | apply Kd.V_drew)); exact HO_1.out) hb); have n2_ := Aside0.mk (Kd.R_below (by (with_reducible repeat (first | apply Kd.R_alloc | apply Kd.R_drewN | apply Kd.R_drew)); exact HO_7.out) hb); have n3_ := Aside0.mk (Kd.R_below (by (with_reducible repeat (first | apply Kd.R_alloc | apply Kd.R_drewN | apply Kd.R_drew)); exact HO_8.out) hb); have n4_ := Aside0.mk (Kd.R_below (by (with_reducible repeat (first | apply Kd.R_alloc | apply Kd.R_drewN | apply Kd.R_drew)); exact HO_17.out) hb); have n5_ := Aside0.mk (below_step (by repeat (first | (with_reducible first | exact HB.out | apply below_alloc | apply pw_below_drewN | apply below_drew1) | exact HB.out)) hb); clear HO_0; clear HO_1; clear HO_7; clear HO_8; clear HO_17; clear HB; have HO_0 := n0_; have HO_1 := n1_; have HO_7 := n2_; have HO_8 := n3_; have HO_17 := n4_; have HB := n5_; clear n0_ n1_ n2_ n3_ n4_ n5_; (try clear hb); (try clear hb2); (try clear hk); (try clear hi)) | ((with_reducible refine gate_builtin (b := .append) (xs := #[.tmp 29, .tmp 59]) rfl ?_); at_builtin; refine Kd.R_append Kd.bool (w0 := w) w.heap.size rfl (.tmp 29) (.tmp 59) 43 4 (.bool false) 1 rfl Try.underlying43 info4 rfl (by decide) (by omega) u8 x8_1 false [.bool false] (fun k_ => (w.heap.size ≤ k_)) (fun _ => False) rfl rfl ?aP (fun _ hk => hk.elim) ?aF ?aO ?aB ?aS ?aL ?_; (case aP => exact rfl); (case aB => exact (by repeat (first | (with_reducible first | exact HB.out | apply below_alloc | apply pw_below_drewN | apply below_drew1) | exact HB.out))); (case aF => exact (fun k_ hk => (Nat.le_trans (below_size (by repeat (first | (with_reducible first | exact HB.out | apply below_alloc | apply pw_below_drewN | apply below_drew1) | exact HB.out))) hk))); (case aO => exact (by (with_reducible repeat (first | apply Kd.R_alloc | apply Kd.R_drewN | apply Kd.R_drew)); exact HO_8.out)); (case aS => exact (below_size (by repeat (first | (with_reducible first | exact HB.out | apply below_alloc | apply pw_below_drewN | apply below_drew1) | exact HB.out)))); (case aL => have := LMc32.out; omega); intro v214 w35 ho hb hg hat; rw [← Ny213.out] at ho; have n0_ := Aside0.mk (Kd.V_afterv (ok := (fun k_ => ((P0_ k_ ∨ P1_ k_) ∨ w.heap.size ≤ k_) ∧ some k_ ≠ (.slice (some ad201) t198.length co9 : Value).ownBlock ∧ some k_ ≠ (.slice (some ad201) t198.length co9 : Value).ownBlock)) (by (with_reducible repeat (first | apply Kd.V_alloc | apply Kd.V_drewN | apply Kd.V_drew)); exact Kd.V_mono HO_0.out (fun _ hk => ⟨⟨hk.1, ⟨hk.2.1, hk.2.2.2⟩⟩, hk.2.2.1⟩)) hg hat); have n1_ := Aside0.mk (Kd.V_afterv (ok := (fun k_ => ((P0_ k_ ∨ P1_ k_) ∨ w.heap.size ≤ k_) ∧ some k_ ≠ (.slice (some ad201) t198.length co9 : Value).ownBlock ∧ some k_ ≠ (.slice (some ad201) t198.length co9 : Value).ownBlock)) (by (with_reducible repeat (first | apply Kd.V_alloc | apply Kd.V_drewN | apply Kd.V_drew)); exact Kd.V_mono HO_1.out (fun _ hk => ⟨⟨hk.1, ⟨hk.2.1, hk.2.2.2⟩⟩, hk.2.2.1⟩)) hg hat); have n2_ := Aside0.mk (Kd.R_over' (by (with_reducible repeat (first | apply Kd.R_alloc | apply Kd.R_drewN | apply Kd.R_drew)); exact HO_7.out) (Kd.R_typed (by (with_reducible repeat (first | apply Kd.R_alloc | apply Kd.R_drewN | apply Kd.R_drew)); exact HO_8.out)) (by decide) hg); have n3_ := Aside0.mk (Kd.R_over' (by (with_reducible repeat (first | apply Kd.R_alloc | apply Kd.R_drewN | apply Kd.R_drew)); exact HO_17.out) (Kd.R_typed (by (with_reducible repeat (first | apply Kd.R_alloc | apply Kd.R_drewN | apply Kd.R_drew)); exact HO_8.out)) (by decide) hg); have n4_ := Aside0.mk (hb); have n5_ := Aside0.mk (ho); clear HO_0; clear HO_1; clear HO_7; clear HO_17; clear HB; clear HO_8; have HO_0 := n0_; have HO_1 := n1_; have HO_7 := n2_; have HO_17 := n3_; have HB := n4_; have HO215 := n5_; clear n0_ n1_ n2_ n3_ n4_ n5_; clear ho hb hg hat))
                        go_roundg k1
                        case measure => have := HK1.out; omega
                        case rel => exact ⟨(y213), (wrap64 (x19_1 + 1)), (by first | rfl | (simp; done) | (simp [*]; done)), H', ⟨by have := HK1.out; omega⟩, ⟨by (with_reducible repeat (first | apply Kd.V_alloc | apply Kd.V_drewN | apply Kd.V_drew)); exact Kd.V_mono HO_0.out (fun _ hk => ⟨hk.1.1, ⟨hk.1.2.1, ⟨hk.2, hk.1.2.2⟩⟩⟩)⟩, ⟨by (with_reducible repeat (first | apply Kd.V_alloc | apply Kd.V_drewN | apply Kd.V_drew)); exact Kd.V_mono HO_1.out (fun _ hk => ⟨hk.1.1, ⟨hk.1.2.1, ⟨hk.2, hk.1.2.2⟩⟩⟩)⟩, ⟨by (with_reducible repeat (first | apply Kd.R_alloc | apply Kd.R_drewN | apply Kd.R_drew)); exact HO_7.out⟩, ⟨by (with_reducible repeat (first | apply Kd.R_alloc | apply Kd.R_drewN | apply Kd.R_drew)); exact HO215.out⟩, ⟨by (with_reducible repeat (first | apply Kd.R_alloc | apply Kd.R_drewN | apply Kd.R_drew)); exact HO_17.out⟩, ⟨by repeat (first | (with_reducible first | exact HB.out | apply below_alloc | apply pw_below_drewN | apply below_drew1) | exact HB.out)⟩⟩
                      · rw [if_neg c32] at H
                        exact absurd H (by simp)
                  · rw [if_neg c26] at H
                    have c26b0 : (a2 == 1) = false := beq_eq_false_iff_ne.mpr c26
                    have c26b1 : (a2 != 1) = true := bne_iff_ne.mpr c26
                    by_cases c36 : a2 = 2
                    · rw [if_pos c36] at H
                      have c36b0 : (a2 == 2) = true := beq_iff_eq.mpr c36
                      have c36b1 : (a2 != 2) = false := bne_eq_false_iff_eq.mpr c36
                      clear c36
                      by_cases c37 : x8_1.length < 140737488355328
                      · rw [if_pos c37] at H
                        have LMc37 := Aside0.mk c37
                        clear c37
                        obtain ⟨y216, hy216⟩ : ∃ y_ : List Bool, y_ = (x8_1 ++ [false]) := ⟨_, rfl⟩
                        replace H : (lamellaref02_Of.l0 k1 l0 l1 a2 t198 y216 t198 (t198.length : Int) (wrap64 (x19_1 + 1))) = some r := by first | (rw [hy216]; with_reducible exact H) | (have H2_ := (Option.bind_some _ _).symm.trans H; rw [hy216]; with_reducible exact H2_) | (have H2_ := (Option.bind_some _ _).symm.trans H; with_reducible exact H2_) | with_reducible exact H | (rw [hy216]; exact H) | exact H
                        have Ny216 := Aside0.mk hy216
                        clear hy216
                        have H' := Aside0.mk H
                        clear H
                        have p201 : 0 ≤ (x19_1 : Int) := of_decide_eq_true (by first | (with_reducible assumption) | assumption)
                        have q201 : x19_1 < (t198.length : Int) := of_decide_eq_true (by first | (with_reducible assumption) | assumption)
                        obtain ⟨ad201, e201, hx201_0⟩ := Kd.at_int (Kd.R_reads' HO_17.out).2.2 x19_1 p201 q201
                        cases e201
                        replace p201 := eq_true p201
                        replace q201 := eq_true q201
                        go_wp2_with (first | ((with_reducible refine gate_callee (f := 26) rfl ?_); refine goesL_ (some 25) rfl rfl Try.func26 (by kernel_rfl) rfl #[.slice A0 l0.length c0, .int .i64 (rd t198 x19_1)] rfl (by (try simp only [List.map_toArray, List.map_cons, List.map_nil]); first | done | rfl | (simp only [List.length_drop, List.length_take]; rfl)) ?_; (with_reducible refine (lamellaref02_Has.calls k1 _ _ l0 (rd t198 x19_1) false _ ?side1 ?side2 A13.out).mono ?_); (case side1 => repeat (first | exact (Kd.V_reads' HO_0.out).2.2 | (with_reducible refine Kd.C_alloc ?_ _) | (with_reducible refine Kd.C_drewN ?_ _) | (with_reducible refine Kd.C_drew ?_))); (case side2 => exact (Kd.V_reads' HO_0.out).2.1); rintro e w38 ⟨rfl, hb⟩; refine ⟨_, rfl, ?_⟩; have n0_ := Aside0.mk (Kd.V_below (by (with_reducible repeat (first | apply Kd.V_alloc | apply Kd.V_drewN | apply Kd.V_drew)); exact HO_0.out) hb); have n1_ := Aside0.mk (Kd.V_below (by (with_reducible repeat (first | apply Kd.V_alloc | apply Kd.V_drewN | apply Kd.V_drew)); exact HO_1.out) hb); have n2_ := Aside0.mk (Kd.R_below (by (with_reducible repeat (first | apply Kd.R_alloc | apply Kd.R_drewN | apply Kd.R_drew)); exact HO_7.out) hb); have n3_ := Aside0.mk (Kd.R_below (by (with_reducible repeat (first | apply Kd.R_alloc | apply Kd.R_drewN | apply Kd.R_drew)); exact HO_8.out) hb); have n4_ := Aside0.mk (Kd.R_below (by (with_reducible repeat (first | apply Kd.R_alloc | apply Kd.R_drewN | apply Kd.R_drew)); exact HO_17.out) hb); have n5_ := Aside0.mk (below_step (by repeat (first | (with_reducible first | exact HB.out | apply below_alloc | apply pw_below_drewN | apply below_drew1) | exact HB.out)) hb); clear HO_0; clear HO_1; clear HO_7; clear HO_8; clear HO_17; clear HB; have HO_0 := n0_; have HO_1 := n1_; have HO_7 := n2_; have HO_8 := n3_; have HO_17 := n4_; have HB := n5_; clear n0_ n1_ n2_ n3_ n4_ n5_; (try clear hb); (try clear hb2); (try clear hk); (try clear hi)) | ((with_reducible refine gate_callee (f := 26) rfl ?_); refine goesL_ (some 28) rfl rfl Try.func26 (by kernel_rfl) rfl #[.slice A1 l1.length c1, .int .i64 (rd t198 x19_1)] rfl (by (try simp only [List.map_toArray, List.map_cons, List.map_nil]); first | done | rfl | (simp only [List.length_drop, List.length_take]; rfl)) ?_; (with_reducible refine (lamellaref02_Has.calls k1 _ _ l1 (rd t198 x19_1) false _ ?side1 ?side2 A14.out).mono ?_); (case side1 => repeat (first | exact (Kd.V_reads' HO_1.out).2.2 | (with_reducible refine Kd.C_alloc ?_ _) | (with_reducible refine Kd.C_drewN ?_ _) | (with_reducible refine Kd.C_drew ?_))); (case side2 => exact (Kd.V_reads' HO_1.out).2.1); rintro e w39 ⟨rfl, hb⟩; refine ⟨_, rfl, ?_⟩; have n0_ := Aside0.mk (Kd.V_below (by (with_reducible repeat (first | apply Kd.V_alloc | apply Kd.V_drewN | apply Kd.V_drew)); exact HO_0.out) hb); have n1_ := Aside0.mk (Kd.V_below (by (with_reducible repeat (first | apply Kd.V_alloc | apply Kd.V_drewN | apply Kd.V_drew)); exact HO_1.out) hb); have n2_ := Aside0.mk (Kd.R_below (by (with_reducible repeat (first | apply Kd.R_alloc | apply Kd.R_drewN | apply Kd.R_drew)); exact HO_7.out) hb); have n3_ := Aside0.mk (Kd.R_below (by (with_reducible repeat (first | apply Kd.R_alloc | apply Kd.R_drewN | apply Kd.R_drew)); exact HO_8.out) hb); have n4_ := Aside0.mk (Kd.R_below (by (with_reducible repeat (first | apply Kd.R_alloc | apply Kd.R_drewN | apply Kd.R_drew)); exact HO_17.out) hb); have n5_ := Aside0.mk (below_step (by repeat (first | (with_reducible first | exact HB.out | apply below_alloc | apply pw_below_drewN | apply below_drew1) | exact HB.out)) hb); clear HO_0; clear HO_1; clear HO_7; clear HO_8; clear HO_17; clear HB; have HO_0 := n0_; have HO_1 := n1_; have HO_7 := n2_; have HO_8 := n3_; have HO_17 := n4_; have HB := n5_; clear n0_ n1_ n2_ n3_ n4_ n5_; (try clear hb); (try clear hb2); (try clear hk); (try clear hi)) | ((with_reducible refine gate_builtin (b := .append) (xs := #[.tmp 29, .tmp 59]) rfl ?_); at_builtin; refine Kd.R_append Kd.bool (w0 := w) w.heap.size rfl (.tmp 29) (.tmp 59) 43 4 (.bool false) 1 rfl Try.underlying43 info4 rfl (by decide) (by omega) u8 x8_1 false [.bool false] (fun k_ => (w.heap.size ≤ k_)) (fun _ => False) rfl rfl ?aP (fun _ hk => hk.elim) ?aF ?aO ?aB ?aS ?aL ?_; (case aP => exact rfl); (case aB => exact (by repeat (first | (with_reducible first | exact HB.out | apply below_alloc | apply pw_below_drewN | apply below_drew1) | exact HB.out))); (case aF => exact (fun k_ hk => (Nat.le_trans (below_size (by repeat (first | (with_reducible first | exact HB.out | apply below_alloc | apply pw_below_drewN | apply below_drew1) | exact HB.out))) hk))); (case aO => exact (by (with_reducible repeat (first | apply Kd.R_alloc | apply Kd.R_drewN | apply Kd.R_drew)); exact HO_8.out)); (case aS => exact (below_size (by repeat (first | (with_reducible first | exact HB.out | apply below_alloc | apply pw_below_drewN | apply below_drew1) | exact HB.out)))); (case aL => have := LMc37.out; omega); intro v217 w40 ho hb hg hat; rw [← Ny216.out] at ho; have n0_ := Aside0.mk (Kd.V_afterv (ok := (fun k_ => ((P0_ k_ ∨ P1_ k_) ∨ w.heap.size ≤ k_) ∧ some k_ ≠ (.slice (some ad201) t198.length co9 : Value).ownBlock ∧ some k_ ≠ (.slice (some ad201) t198.length co9 : Value).ownBlock)) (by (with_reducible repeat (first | apply Kd.V_alloc | apply Kd.V_drewN | apply Kd.V_drew)); exact Kd.V_mono HO_0.out (fun _ hk => ⟨⟨hk.1, ⟨hk.2.1, hk.2.2.2⟩⟩, hk.2.2.1⟩)) hg hat); have n1_ := Aside0.mk (Kd.V_afterv (ok := (fun k_ => ((P0_ k_ ∨ P1_ k_) ∨ w.heap.size ≤ k_) ∧ some k_ ≠ (.slice (some ad201) t198.length co9 : Value).ownBlock ∧ some k_ ≠ (.slice (some ad201) t198.length co9 : Value).ownBlock)) (by (with_reducible repeat (first | apply Kd.V_alloc | apply Kd.V_drewN | apply Kd.V_drew)); exact Kd.V_mono HO_1.out (fun _ hk => ⟨⟨hk.1, ⟨hk.2.1, hk.2.2.2⟩⟩, hk.2.2.1⟩)) hg hat); have n2_ := Aside0.mk (Kd.R_over' (by (with_reducible repeat (first | apply Kd.R_alloc | apply Kd.R_drewN | apply Kd.R_drew)); exact HO_7.out) (Kd.R_typed (by (with_reducible repeat (first | apply Kd.R_alloc | apply Kd.R_drewN | apply Kd.R_drew)); exact HO_8.out)) (by decide) hg); have n3_ := Aside0.mk (Kd.R_over' (by (with_reducible repeat (first | apply Kd.R_alloc | apply Kd.R_drewN | apply Kd.R_drew)); exact HO_17.out) (Kd.R_typed (by (with_reducible repeat (first | apply Kd.R_alloc | apply Kd.R_drewN | apply Kd.R_drew)); exact HO_8.out)) (by decide) hg); have n4_ := Aside0.mk (hb); have n5_ := Aside0.mk (ho); clear HO_0; clear HO_1; clear HO_7; clear HO_17; clear HB; clear HO_8; have HO_0 := n0_; have HO_1 := n1_; have HO_7 := n2_; have HO_17 := n3_; have HB := n4_; have HO218 := n5_; clear n0_ n1_ n2_ n3_ n4_ n5_; clear ho hb hg hat))
                        go_roundg k1
                        case measure => have := HK1.out; omega
                        case rel => exact ⟨(y216), (wrap64 (x19_1 + 1)), (by first | rfl | (simp; done) | (simp [*]; done)), H', ⟨by have := HK1.out; omega⟩, ⟨by (with_reducible repeat (first | apply Kd.V_alloc | apply Kd.V_drewN | apply Kd.V_drew)); exact Kd.V_mono HO_0.out (fun _ hk => ⟨hk.1.1, ⟨hk.1.2.1, ⟨hk.2, hk.1.2.2⟩⟩⟩)⟩, ⟨by (with_reducible repeat (first | apply Kd.V_alloc | apply Kd.V_drewN | apply Kd.V_drew)); exact Kd.V_mono HO_1.out (fun _ hk => ⟨hk.1.1, ⟨hk.1.2.1, ⟨hk.2, hk.1.2.2⟩⟩⟩)⟩, ⟨by (with_reducible repeat (first | apply Kd.R_alloc | apply Kd.R_drewN | apply Kd.R_drew)); exact HO_7.out⟩, ⟨by (with_reducible repeat (first | apply Kd.R_alloc | apply Kd.R_drewN | apply Kd.R_drew)); exact HO218.out⟩, ⟨by (with_reducible repeat (first | apply Kd.R_alloc | apply Kd.R_drewN | apply Kd.R_drew)); exact HO_17.out⟩, ⟨by repeat (first | (with_reducible first | exact HB.out | apply below_alloc | apply pw_below_drewN | apply below_drew1) | exact HB.out)⟩⟩
                      · rw [if_neg c37] at H
                        exact absurd H (by simp)
                    · rw [if_neg c36] at H
                      have c36b0 : (a2 == 2) = false := beq_eq_false_iff_ne.mpr c36
                      have c36b1 : (a2 != 2) = true := bne_iff_ne.mpr c36
                      by_cases c41 : x8_1.length < 140737488355328
                      · rw [if_pos c41] at H
                        have LMc41 := Aside0.mk c41
                        clear c41
                        obtain ⟨y219, hy219⟩ : ∃ y_ : List Bool, y_ = (x8_1 ++ [false]) := ⟨_, rfl⟩
                        replace H : (lamellaref02_Of.l0 k1 l0 l1 a2 t198 y219 t198 (t198.length : Int) (wrap64 (x19_1 + 1))) = some r := by first | (rw [hy219]; with_reducible exact H) | (have H2_ := (Option.bind_some _ _).symm.trans H; rw [hy219]; with_reducible exact H2_) | (have H2_ := (Option.bind_some _ _).symm.trans H; with_reducible exact H2_) | with_reducible exact H | (rw [hy219]; exact H) | exact H
                        have Ny219 := Aside0.mk hy219
                        clear hy219
                        have H' := Aside0.mk H
                        clear H
                        have p201 : 0 ≤ (x19_1 : Int) := of_decide_eq_true (by first | (with_reducible assumption) | assumption)
                        have q201 : x19_1 < (t198.length : Int) := of_decide_eq_true (by first | (with_reducible assumption) | assumption)
                        obtain ⟨ad201, e201, hx201_0⟩ := Kd.at_int (Kd.R_reads' HO_17.out).2.2 x19_1 p201 q201
                        cases e201
                        replace p201 := eq_true p201
                        replace q201 := eq_true q201
                        go_wp2_with (first | ((with_reducible refine gate_callee (f := 26) rfl ?_); refine goesL_ (some 25) rfl rfl Try.func26 (by kernel_rfl) rfl #[.slice A0 l0.length c0, .int .i64 (rd t198 x19_1)] rfl (by (try simp only [List.map_toArray, List.map_cons, List.map_nil]); first | done | rfl | (simp only [List.length_drop, List.length_take]; rfl)) ?_; (with_reducible refine (lamellaref02_Has.calls k1 _ _ l0 (rd t198 x19_1) false _ ?side1 ?side2 A13.out).mono ?_); (case side1 => repeat (first | exact (Kd.V_reads' HO_0.out).2.2 | (with_reducible refine Kd.C_alloc ?_ _) | (with_reducible refine Kd.C_drewN ?_ _) | (with_reducible refine Kd.C_drew ?_))); (case side2 => exact (Kd.V_reads' HO_0.out).2.1); rintro e w42 ⟨rfl, hb⟩; refine ⟨_, rfl, ?_⟩; have n0_ := Aside0.mk (Kd.V_below (by (with_reducible repeat (first | apply Kd.V_alloc | apply Kd.V_drewN | apply Kd.V_drew)); exact HO_0.out) hb); have n1_ := Aside0.mk (Kd.V_below (by (with_reducible repeat (first | apply Kd.V_alloc | apply Kd.V_drewN | apply Kd.V_drew)); exact HO_1.out) hb); have n2_ := Aside0.mk (Kd.R_below (by (with_reducible repeat (first | apply Kd.R_alloc | apply Kd.R_drewN | apply Kd.R_drew)); exact HO_7.out) hb); have n3_ := Aside0.mk (Kd.R_below (by (with_reducible repeat (first | apply Kd.R_alloc | apply Kd.R_drewN | apply Kd.R_drew)); exact HO_8.out) hb); have n4_ := Aside0.mk (Kd.R_below (by (with_reducible repeat (first | apply Kd.R_alloc | apply Kd.R_drewN | apply Kd.R_drew)); exact HO_17.out) hb); have n5_ := Aside0.mk (below_step (by repeat (first | (with_reducible first | exact HB.out | apply below_alloc | apply pw_below_drewN | apply below_drew1) | exact HB.out)) hb); clear HO_0; clear HO_1; clear HO_7; clear HO_8; clear HO_17; clear HB; have HO_0 := n0_; have HO_1 := n1_; have HO_7 := n2_; have HO_8 := n3_; have HO_17 := n4_; have HB := n5_; clear n0_ n1_ n2_ n3_ n4_ n5_; (try clear hb); (try clear hb2); (try clear hk); (try clear hi)) | ((with_reducible refine gate_callee (f := 26) rfl ?_); refine goesL_ (some 28) rfl rfl Try.func26 (by kernel_rfl) rfl #[.slice A1 l1.length c1, .int .i64 (rd t198 x19_1)] rfl (by (try simp only [List.map_toArray, List.map_cons, List.map_nil]); first | done | rfl | (simp only [List.length_drop, List.length_take]; rfl)) ?_; (with_reducible refine (lamellaref02_Has.calls k1 _ _ l1 (rd t198 x19_1) false _ ?side1 ?side2 A14.out).mono ?_); (case side1 => repeat (first | exact (Kd.V_reads' HO_1.out).2.2 | (with_reducible refine Kd.C_alloc ?_ _) | (with_reducible refine Kd.C_drewN ?_ _) | (with_reducible refine Kd.C_drew ?_))); (case side2 => exact (Kd.V_reads' HO_1.out).2.1); rintro e w43 ⟨rfl, hb⟩; refine ⟨_, rfl, ?_⟩; have n0_ := Aside0.mk (Kd.V_below (by (with_reducible repeat (first | apply Kd.V_alloc | apply Kd.V_drewN | apply Kd.V_drew)); exact HO_0.out) hb); have n1_ := Aside0.mk (Kd.V_below (by (with_reducible repeat (first | apply Kd.V_alloc | apply Kd.V_drewN | apply Kd.V_drew)); exact HO_1.out) hb); have n2_ := Aside0.mk (Kd.R_below (by (with_reducible repeat (first | apply Kd.R_alloc | apply Kd.R_drewN | apply Kd.R_drew)); exact HO_7.out) hb); have n3_ := Aside0.mk (Kd.R_below (by (with_reducible repeat (first | apply Kd.R_alloc | apply Kd.R_drewN | apply Kd.R_drew)); exact HO_8.out) hb); have n4_ := Aside0.mk (Kd.R_below (by (with_reducible repeat (first | apply Kd.R_alloc | apply Kd.R_drewN | apply Kd.R_drew)); exact HO_17.out) hb); have n5_ := Aside0.mk (below_step (by repeat (first | (with_reducible first | exact HB.out | apply below_alloc | apply pw_below_drewN | apply below_drew1) | exact HB.out)) hb); clear HO_0; clear HO_1; clear HO_7; clear HO_8; clear HO_17; clear HB; have HO_0 := n0_; have HO_1 := n1_; have HO_7 := n2_; have HO_8 := n3_; have HO_17 := n4_; have HB := n5_; clear n0_ n1_ n2_ n3_ n4_ n5_; (try clear hb); (try clear hb2); (try clear hk); (try clear hi)) | ((with_reducible refine gate_builtin (b := .append) (xs := #[.tmp 29, .tmp 59]) rfl ?_); at_builtin; refine Kd.R_append Kd.bool (w0 := w) w.heap.size rfl (.tmp 29) (.tmp 59) 43 4 (.bool false) 1 rfl Try.underlying43 info4 rfl (by decide) (by omega) u8 x8_1 false [.bool false] (fun k_ => (w.heap.size ≤ k_)) (fun _ => False) rfl rfl ?aP (fun _ hk => hk.elim) ?aF ?aO ?aB ?aS ?aL ?_; (case aP => exact rfl); (case aB => exact (by repeat (first | (with_reducible first | exact HB.out | apply below_alloc | apply pw_below_drewN | apply below_drew1) | exact HB.out))); (case aF => exact (fun k_ hk => (Nat.le_trans (below_size (by repeat (first | (with_reducible first | exact HB.out | apply below_alloc | apply pw_below_drewN | apply below_drew1) | exact HB.out))) hk))); (case aO => exact (by (with_reducible repeat (first | apply Kd.R_alloc | apply Kd.R_drewN | apply Kd.R_drew)); exact HO_8.out)); (case aS => exact (below_size (by repeat (first | (with_reducible first | exact HB.out | apply below_alloc | apply pw_below_drewN | apply below_drew1) | exact HB.out)))); (case aL => have := LMc41.out; omega); intro v220 w44 ho hb hg hat; rw [← Ny219.out] at ho; have n0_ := Aside0.mk (Kd.V_afterv (ok := (fun k_ => ((P0_ k_ ∨ P1_ k_) ∨ w.heap.size ≤ k_) ∧ some k_ ≠ (.slice (some ad201) t198.length co9 : Value).ownBlock ∧ some k_ ≠ (.slice (some ad201) t198.length co9 : Value).ownBlock)) (by (with_reducible repeat (first | apply Kd.V_alloc | apply Kd.V_drewN | apply Kd.V_drew)); exact Kd.V_mono HO_0.out (fun _ hk => ⟨⟨hk.1, ⟨hk.2.1, hk.2.2.2⟩⟩, hk.2.2.1⟩)) hg hat); have n1_ := Aside0.mk (Kd.V_afterv (ok := (fun k_ => ((P0_ k_ ∨ P1_ k_) ∨ w.heap.size ≤ k_) ∧ some k_ ≠ (.slice (some ad201) t198.length co9 : Value).ownBlock ∧ some k_ ≠ (.slice (some ad201) t198.length co9 : Value).ownBlock)) (by (with_reducible repeat (first | apply Kd.V_alloc | apply Kd.V_drewN | apply Kd.V_drew)); exact Kd.V_mono HO_1.out (fun _ hk => ⟨⟨hk.1, ⟨hk.2.1, hk.2.2.2⟩⟩, hk.2.2.1⟩)) hg hat); have n2_ := Aside0.mk (Kd.R_over' (by (with_reducible repeat (first | apply Kd.R_alloc | apply Kd.R_drewN | apply Kd.R_drew)); exact HO_7.out) (Kd.R_typed (by (with_reducible repeat (first | apply Kd.R_alloc | apply Kd.R_drewN | apply Kd.R_drew)); exact HO_8.out)) (by decide) hg); have n3_ := Aside0.mk (Kd.R_over' (by (with_reducible repeat (first | apply Kd.R_alloc | apply Kd.R_drewN | apply Kd.R_drew)); exact HO_17.out) (Kd.R_typed (by (with_reducible repeat (first | apply Kd.R_alloc | apply Kd.R_drewN | apply Kd.R_drew)); exact HO_8.out)) (by decide) hg); have n4_ := Aside0.mk (hb); have n5_ := Aside0.mk (ho); clear HO_0; clear HO_1; clear HO_7; clear HO_17; clear HB; clear HO_8; have HO_0 := n0_; have HO_1 := n1_; have HO_7 := n2_; have HO_17 := n3_; have HB := n4_; have HO221 := n5_; clear n0_ n1_ n2_ n3_ n4_ n5_; clear ho hb hg hat))
                        go_roundg k1
                        case measure => have := HK1.out; omega
                        case rel => exact ⟨(y219), (wrap64 (x19_1 + 1)), (by first | rfl | (simp; done) | (simp [*]; done)), H', ⟨by have := HK1.out; omega⟩, ⟨by (with_reducible repeat (first | apply Kd.V_alloc | apply Kd.V_drewN | apply Kd.V_drew)); exact Kd.V_mono HO_0.out (fun _ hk => ⟨hk.1.1, ⟨hk.1.2.1, ⟨hk.2, hk.1.2.2⟩⟩⟩)⟩, ⟨by (with_reducible repeat (first | apply Kd.V_alloc | apply Kd.V_drewN | apply Kd.V_drew)); exact Kd.V_mono HO_1.out (fun _ hk => ⟨hk.1.1, ⟨hk.1.2.1, ⟨hk.2, hk.1.2.2⟩⟩⟩)⟩, ⟨by (with_reducible repeat (first | apply Kd.R_alloc | apply Kd.R_drewN | apply Kd.R_drew)); exact HO_7.out⟩, ⟨by (with_reducible repeat (first | apply Kd.R_alloc | apply Kd.R_drewN | apply Kd.R_drew)); exact HO221.out⟩, ⟨by (with_reducible repeat (first | apply Kd.R_alloc | apply Kd.R_drewN | apply Kd.R_drew)); exact HO_17.out⟩, ⟨by repeat (first | (with_reducible first | exact HB.out | apply below_alloc | apply pw_below_drewN | apply below_drew1) | exact HB.out)⟩⟩
                      · rw [if_neg c41] at H
                        exact absurd H (by simp)
            · rw [if_neg c15] at H
              have c15b0 : (a2 == 0) = false := beq_eq_false_iff_ne.mpr c15
              have c15b1 : (a2 != 0) = true := bne_iff_ne.mpr c15
              by_cases c45 : a2 = 1
              · rw [if_pos c45] at H
                have c45b0 : (a2 == 1) = true := beq_iff_eq.mpr c45
                have c45b1 : (a2 != 1) = false := bne_eq_false_iff_eq.mpr c45
                clear c45
                by_cases c46 : t202 = true
                · subst c46
                  have H1 : (if t203 = true then (if x8_1.length < 140737488355328 then (lamellaref02_Of.l0 k1 l0 l1 a2 t198 (x8_1 ++ [true]) t198 (t198.length : Int) (wrap64 (x19_1 + 1))) else (none)) else (if a2 = 2 then (if x8_1.length < 140737488355328 then (lamellaref02_Of.l0 k1 l0 l1 a2 t198 (x8_1 ++ [!t203]) t198 (t198.length : Int) (wrap64 (x19_1 + 1))) else (none)) else (if x8_1.length < 140737488355328 then (lamellaref02_Of.l0 k1 l0 l1 a2 t198 (x8_1 ++ [false]) t198 (t198.length : Int) (wrap64 (x19_1 + 1))) else (none)))) = some r := by rw [if_pos rfl] at H; exact H
                  clear H
                  have H := H1
                  clear H1
                  by_cases c47 : t203 = true
                  · subst c47
                    have H1 : (if x8_1.length < 140737488355328 then (lamellaref02_Of.l0 k1 l0 l1 a2 t198 (x8_1 ++ [true]) t198 (t198.length : Int) (wrap64 (x19_1 + 1))) else (none)) = some r := by rw [if_pos rfl] at H; exact H
                    clear H
                    have H := H1
                    clear H1
                    by_cases c48 : x8_1.length < 140737488355328
                    · rw [if_pos c48] at H
                      have LMc48 := Aside0.mk c48
                      clear c48
                      obtain ⟨y222, hy222⟩ : ∃ y_ : List Bool, y_ = (x8_1 ++ [true]) := ⟨_, rfl⟩
                      replace H : (lamellaref02_Of.l0 k1 l0 l1 a2 t198 y222 t198 (t198.length : Int) (wrap64 (x19_1 + 1))) = some r := by first | (rw [hy222]; with_reducible exact H) | (have H2_ := (Option.bind_some _ _).symm.trans H; rw [hy222]; with_reducible exact H2_) | (have H2_ := (Option.bind_some _ _).symm.trans H; with_reducible exact H2_) | with_reducible exact H | (rw [hy222]; exact H) | exact H
                      have Ny222 := Aside0.mk hy222
                      clear hy222
                      have H' := Aside0.mk H
                      clear H
                      have p201 : 0 ≤ (x19_1 : Int) := of_decide_eq_true (by first | (with_reducible assumption) | assumption)
                      have q201 : x19_1 < (t198.length : Int) := of_decide_eq_true (by first | (with_reducible assumption) | assumption)
                      obtain ⟨ad201, e201, hx201_0⟩ := Kd.at_int (Kd.R_reads' HO_17.out).2.2 x19_1 p201 q201
                      cases e201
                      replace p201 := eq_true p201
                      replace q201 := eq_true q201
                      go_wp2_with (first | ((with_reducible refine gate_callee (f := 26) rfl ?_); refine goesL_ (some 25) rfl rfl Try.func26 (by kernel_rfl) rfl #[.slice A0 l0.length c0, .int .i64 (rd t198 x19_1)] rfl (by (try simp only [List.map_toArray, List.map_cons, List.map_nil]); first | done | rfl | (simp only [List.length_drop, List.length_take]; rfl)) ?_; (with_reducible refine (lamellaref02_Has.calls k1 _ _ l0 (rd t198 x19_1) true _ ?side1 ?side2 A13.out).mono ?_); (case side1 => repeat (first | exact (Kd.V_reads' HO_0.out).2.2 | (with_reducible refine Kd.C_alloc ?_ _) | (with_reducible refine Kd.C_drewN ?_ _) | (with_reducible refine Kd.C_drew ?_))); (case side2 => exact (Kd.V_reads' HO_0.out).2.1); rintro e w49 ⟨rfl, hb⟩; refine ⟨_, rfl, ?_⟩; have n0_ := Aside0.mk (Kd.V_below (by (with_reducible repeat (first | apply Kd.V_alloc | apply Kd.V_drewN | apply Kd.V_drew)); exact HO_0.out) hb); have n1_ := Aside0.mk (Kd.V_below (by (with_reducible repeat (first | apply Kd.V_alloc | apply Kd.V_drewN | apply Kd.V_drew)); exact HO_1.out) hb); have n2_ := Aside0.mk (Kd.R_below (by (with_reducible repeat (first | apply Kd.R_alloc | apply Kd.R_drewN | apply Kd.R_drew)); exact HO_7.out) hb); have n3_ := Aside0.mk (Kd.R_below (by (with_reducible repeat (first | apply Kd.R_alloc | apply Kd.R_drewN | apply Kd.R_drew)); exact HO_8.out) hb); have n4_ := Aside0.mk (Kd.R_below (by (with_reducible repeat (first | apply Kd.R_alloc | apply Kd.R_drewN | apply Kd.R_drew)); exact HO_17.out) hb); have n5_ := Aside0.mk (below_step (by repeat (first | (with_reducible first | exact HB.out | apply below_alloc | apply pw_below_drewN | apply below_drew1) | exact HB.out)) hb); clear HO_0; clear HO_1; clear HO_7; clear HO_8; clear HO_17; clear HB; have HO_0 := n0_; have HO_1 := n1_; have HO_7 := n2_; have HO_8 := n3_; have HO_17 := n4_; have HB := n5_; clear n0_ n1_ n2_ n3_ n4_ n5_; (try clear hb); (try clear hb2); (try clear hk); (try clear hi)) | ((with_reducible refine gate_callee (f := 26) rfl ?_); refine goesL_ (some 28) rfl rfl Try.func26 (by kernel_rfl) rfl #[.slice A1 l1.length c1, .int .i64 (rd t198 x19_1)] rfl (by (try simp only [List.map_toArray, List.map_cons, List.map_nil]); first | done | rfl | (simp only [List.length_drop, List.length_take]; rfl)) ?_; (with_reducible refine (lamellaref02_Has.calls k1 _ _ l1 (rd t198 x19_1) true _ ?side1 ?side2 A14.out).mono ?_); (case side1 => repeat (first | exact (Kd.V_reads' HO_1.out).2.2 | (with_reducible refine Kd.C_alloc ?_ _) | (with_reducible refine Kd.C_drewN ?_ _) | (with_reducible refine Kd.C_drew ?_))); (case side2 => exact (Kd.V_reads' HO_1.out).2.1); rintro e w50 ⟨rfl, hb⟩; refine ⟨_, rfl, ?_⟩; have n0_ := Aside0.mk (Kd.V_below (by (with_reducible repeat (first | apply Kd.V_alloc | apply Kd.V_drewN | apply Kd.V_drew)); exact HO_0.out) hb); have n1_ := Aside0.mk (Kd.V_below (by (with_reducible repeat (first | apply Kd.V_alloc | apply Kd.V_drewN | apply Kd.V_drew)); exact HO_1.out) hb); have n2_ := Aside0.mk (Kd.R_below (by (with_reducible repeat (first | apply Kd.R_alloc | apply Kd.R_drewN | apply Kd.R_drew)); exact HO_7.out) hb); have n3_ := Aside0.mk (Kd.R_below (by (with_reducible repeat (first | apply Kd.R_alloc | apply Kd.R_drewN | apply Kd.R_drew)); exact HO_8.out) hb); have n4_ := Aside0.mk (Kd.R_below (by (with_reducible repeat (first | apply Kd.R_alloc | apply Kd.R_drewN | apply Kd.R_drew)); exact HO_17.out) hb); have n5_ := Aside0.mk (below_step (by repeat (first | (with_reducible first | exact HB.out | apply below_alloc | apply pw_below_drewN | apply below_drew1) | exact HB.out)) hb); clear HO_0; clear HO_1; clear HO_7; clear HO_8; clear HO_17; clear HB; have HO_0 := n0_; have HO_1 := n1_; have HO_7 := n2_; have HO_8 := n3_; have HO_17 := n4_; have HB := n5_; clear n0_ n1_ n2_ n3_ n4_ n5_; (try clear hb); (try clear hb2); (try clear hk); (try clear hi)) | ((with_reducible refine gate_builtin (b := .append) (xs := #[.tmp 29, .tmp 59]) rfl ?_); at_builtin; refine Kd.R_append Kd.bool (w0 := w) w.heap.size rfl (.tmp 29) (.tmp 59) 43 4 (.bool false) 1 rfl Try.underlying43 info4 rfl (by decide) (by omega) u8 x8_1 true [.bool true] (fun k_ => (w.heap.size ≤ k_)) (fun _ => False) rfl rfl ?aP (fun _ hk => hk.elim) ?aF ?aO ?aB ?aS ?aL ?_; (case aP => exact rfl); (case aB => exact (by repeat (first | (with_reducible first | exact HB.out | apply below_alloc | apply pw_below_drewN | apply below_drew1) | exact HB.out))); (case aF => exact (fun k_ hk => (Nat.le_trans (below_size (by repeat (first | (with_reducible first | exact HB.out | apply below_alloc | apply pw_below_drewN | apply below_drew1) | exact HB.out))) hk))); (case aO => exact (by (with_reducible repeat (first | apply Kd.R_alloc | apply Kd.R_drewN | apply Kd.R_drew)); exact HO_8.out)); (case aS => exact (below_size (by repeat (first | (with_reducible first | exact HB.out | apply below_alloc | apply pw_below_drewN | apply below_drew1) | exact HB.out)))); (case aL => have := LMc48.out; omega); intro v223 w51 ho hb hg hat; rw [← Ny222.out] at ho; have n0_ := Aside0.mk (Kd.V_afterv (ok := (fun k_ => ((P0_ k_ ∨ P1_ k_) ∨ w.heap.size ≤ k_) ∧ some k_ ≠ (.slice (some ad201) t198.length co9 : Value).ownBlock ∧ some k_ ≠ (.slice (some ad201) t198.length co9 : Value).ownBlock)) (by (with_reducible repeat (first | apply Kd.V_alloc | apply Kd.V_drewN | apply Kd.V_drew)); exact Kd.V_mono HO_0.out (fun _ hk => ⟨⟨hk.1, ⟨hk.2.1, hk.2.2.2⟩⟩, hk.2.2.1⟩)) hg hat); have n1_ := Aside0.mk (Kd.V_afterv (ok := (fun k_ => ((P0_ k_ ∨ P1_ k_) ∨ w.heap.size ≤ k_) ∧ some k_ ≠ (.slice (some ad201) t198.length co9 : Value).ownBlock ∧ some k_ ≠ (.slice (some ad201) t198.length co9 : Value).ownBlock)) (by (with_reducible repeat (first | apply Kd.V_alloc | apply Kd.V_drewN | apply Kd.V_drew)); exact Kd.V_mono HO_1.out (fun _ hk => ⟨⟨hk.1, ⟨hk.2.1, hk.2.2.2⟩⟩, hk.2.2.1⟩)) hg hat); have n2_ := Aside0.mk (Kd.R_over' (by (with_reducible repeat (first | apply Kd.R_alloc | apply Kd.R_drewN | apply Kd.R_drew)); exact HO_7.out) (Kd.R_typed (by (with_reducible repeat (first | apply Kd.R_alloc | apply Kd.R_drewN | apply Kd.R_drew)); exact HO_8.out)) (by decide) hg); have n3_ := Aside0.mk (Kd.R_over' (by (with_reducible repeat (first | apply Kd.R_alloc | apply Kd.R_drewN | apply Kd.R_drew)); exact HO_17.out) (Kd.R_typed (by (with_reducible repeat (first | apply Kd.R_alloc | apply Kd.R_drewN | apply Kd.R_drew)); exact HO_8.out)) (by decide) hg); have n4_ := Aside0.mk (hb); have n5_ := Aside0.mk (ho); clear HO_0; clear HO_1; clear HO_7; clear HO_17; clear HB; clear HO_8; have HO_0 := n0_; have HO_1 := n1_; have HO_7 := n2_; have HO_17 := n3_; have HB := n4_; have HO224 := n5_; clear n0_ n1_ n2_ n3_ n4_ n5_; clear ho hb hg hat))
                      go_roundg k1
                      case measure => have := HK1.out; omega
                      case rel => exact ⟨(y222), (wrap64 (x19_1 + 1)), (by first | rfl | (simp; done) | (simp [*]; done)), H', ⟨by have := HK1.out; omega⟩, ⟨by (with_reducible repeat (first | apply Kd.V_alloc | apply Kd.V_drewN | apply Kd.V_drew)); exact Kd.V_mono HO_0.out (fun _ hk => ⟨hk.1.1, ⟨hk.1.2.1, ⟨hk.2, hk.1.2.2⟩⟩⟩)⟩, ⟨by (with_reducible repeat (first | apply Kd.V_alloc | apply Kd.V_drewN | apply Kd.V_drew)); exact Kd.V_mono HO_1.out (fun _ hk => ⟨hk.1.1, ⟨hk.1.2.1, ⟨hk.2, hk.1.2.2⟩⟩⟩)⟩, ⟨by (with_reducible repeat (first | apply Kd.R_alloc | apply Kd.R_drewN | apply Kd.R_drew)); exact HO_7.out⟩, ⟨by (with_reducible repeat (first | apply Kd.R_alloc | apply Kd.R_drewN | apply Kd.R_drew)); exact HO224.out⟩, ⟨by (with_reducible repeat (first | apply Kd.R_alloc | apply Kd.R_drewN | apply Kd.R_drew)); exact HO_17.out⟩, ⟨by repeat (first | (with_reducible first | exact HB.out | apply below_alloc | apply pw_below_drewN | apply below_drew1) | exact HB.out)⟩⟩
                    · rw [if_neg c48] at H
                      exact absurd H (by simp)
                  · replace c47 := Bool.eq_false_iff.mpr c47
                    subst c47
                    have H1 : (if a2 = 2 then (if x8_1.length < 140737488355328 then (lamellaref02_Of.l0 k1 l0 l1 a2 t198 (x8_1 ++ [!false]) t198 (t198.length : Int) (wrap64 (x19_1 + 1))) else (none)) else (if x8_1.length < 140737488355328 then (lamellaref02_Of.l0 k1 l0 l1 a2 t198 (x8_1 ++ [false]) t198 (t198.length : Int) (wrap64 (x19_1 + 1))) else (none))) = some r := by rw [if_neg (show ¬ (false = true) by decide)] at H; exact H
                    clear H
                    have H := H1
                    clear H1
                    by_cases c52 : a2 = 2
                    · rw [if_pos c52] at H
                      have c52b0 : (a2 == 2) = true := beq_iff_eq.mpr c52
                      have c52b1 : (a2 != 2) = false := bne_eq_false_iff_eq.mpr c52
                      clear c52
                      by_cases c53 : x8_1.length < 140737488355328
                      · rw [if_pos c53] at H
                        have LMc53 := Aside0.mk c53
                        clear c53
                        obtain ⟨y225, hy225⟩ : ∃ y_ : List Bool, y_ = (x8_1 ++ [!false]) := ⟨_, rfl⟩
                        replace H : (lamellaref02_Of.l0 k1 l0 l1 a2 t198 y225 t198 (t198.length : Int) (wrap64 (x19_1 + 1))) = some r := by first | (rw [hy225]; with_reducible exact H) | (have H2_ := (Option.bind_some _ _).symm.trans H; rw [hy225]; with_reducible exact H2_) | (have H2_ := (Option.bind_some _ _).symm.trans H; with_reducible exact H2_) | with_reducible exact H | (rw [hy225]; exact H) | exact H
                        have Ny225 := Aside0.mk hy225
                        clear hy225
                        have H' := Aside0.mk H
                        clear H
                        have p201 : 0 ≤ (x19_1 : Int) := of_decide_eq_true (by first | (with_reducible assumption) | assumption)
                        have q201 : x19_1 < (t198.length : Int) := of_decide_eq_true (by first | (with_reducible assumption) | assumption)
                        obtain ⟨ad201, e201, hx201_0⟩ := Kd.at_int (Kd.R_reads' HO_17.out).2.2 x19_1 p201 q201
                        cases e201
                        replace p201 := eq_true p201
                        replace q201 := eq_true q201
                        go_wp2_with (first | ((with_reducible refine gate_callee (f := 26) rfl ?_); refine goesL_ (some 25) rfl rfl Try.func26 (by kernel_rfl) rfl #[.slice A0 l0.length c0, .int .i64 (rd t198 x19_1)] rfl (by (try simp only [List.map_toArray, List.map_cons, List.map_nil]); first | done | rfl | (simp only [List.length_drop, List.length_take]; rfl)) ?_; (with_reducible refine (lamellaref02_Has.calls k1 _ _ l0 (rd t198 x19_1) true _ ?side1 ?side2 A13.out).mono ?_); (case side1 => repeat (first | exact (Kd.V_reads' HO_0.out).2.2 | (with_reducible refine Kd.C_alloc ?_ _) | (with_reducible refine Kd.C_drewN ?_ _) | (with_reducible refine Kd.C_drew ?_))); (case side2 => exact (Kd.V_reads' HO_0.out).2.1); rintro e w54 ⟨rfl, hb⟩; refine ⟨_, rfl, ?_⟩; have n0_ := Aside0.mk (Kd.V_below (by (with_reducible repeat (first | apply Kd.V_alloc | apply Kd.V_drewN | apply Kd.V_drew)); exact HO_0.out) hb); have n1_ := Aside0.mk (Kd.V_below (by (with_reducible repeat (first | apply Kd.V_alloc | apply Kd.V_drewN | apply Kd.V_drew)); exact HO_1.out) hb); have n2_ := Aside0.mk (Kd.R_below (by (with_reducible repeat (first | apply Kd.R_alloc | apply Kd.R_drewN | apply Kd.R_drew)); exact HO_7.out) hb); have n3_ := Aside0.mk (Kd.R_below (by (with_reducible repeat (first | apply Kd.R_alloc | apply Kd.R_drewN | apply Kd.R_drew)); exact HO_8.out) hb); have n4_ := Aside0.mk (Kd.R_below (by (with_reducible repeat (first | apply Kd.R_alloc | apply Kd.R_drewN | apply Kd.R_drew)); exact HO_17.out) hb); have n5_ := Aside0.mk (below_step (by repeat (first | (with_reducible first | exact HB.out | apply below_alloc | apply pw_below_drewN | apply below_drew1) | exact HB.out)) hb); clear HO_0; clear HO_1; clear HO_7; clear HO_8; clear HO_17; clear HB; have HO_0 := n0_; have HO_1 := n1_; have HO_7 := n2_; have HO_8 := n3_; have HO_17 := n4_; have HB := n5_; clear n0_ n1_ n2_ n3_ n4_ n5_; (try clear hb); (try clear hb2); (try clear hk); (try clear hi)) | ((with_reducible refine gate_callee (f := 26) rfl ?_); refine goesL_ (some 28) rfl rfl Try.func26 (by kernel_rfl) rfl #[.slice A1 l1.length c1, .int .i64 (rd t198 x19_1)] rfl (by (try simp only [List.map_toArray, List.map_cons, List.map_nil]); first | done | rfl | (simp only [List.length_drop, List.length_take]; rfl)) ?_; (with_reducible refine (lamellaref02_Has.calls k1 _ _ l1 (rd t198 x19_1) false _ ?side1 ?side2 A14.out).mono ?_); (case side1 => repeat (first | exact (Kd.V_reads' HO_1.out).2.2 | (with_reducible refine Kd.C_alloc ?_ _) | (with_reducible refine Kd.C_drewN ?_ _) | (with_reducible refine Kd.C_drew ?_))); (case side2 => exact (Kd.V_reads' HO_1.out).2.1); rintro e w55 ⟨rfl, hb⟩; refine ⟨_, rfl, ?_⟩; have n0_ := Aside0.mk (Kd.V_below (by (with_reducible repeat (first | apply Kd.V_alloc | apply Kd.V_drewN | apply Kd.V_drew)); exact HO_0.out) hb); have n1_ := Aside0.mk (Kd.V_below (by (with_reducible repeat (first | apply Kd.V_alloc | apply Kd.V_drewN | apply Kd.V_drew)); exact HO_1.out) hb); have n2_ := Aside0.mk (Kd.R_below (by (with_reducible repeat (first | apply Kd.R_alloc | apply Kd.R_drewN | apply Kd.R_drew)); exact HO_7.out) hb); have n3_ := Aside0.mk (Kd.R_below (by (with_reducible repeat (first | apply Kd.R_alloc | apply Kd.R_drewN | apply Kd.R_drew)); exact HO_8.out) hb); have n4_ := Aside0.mk (Kd.R_below (by (with_reducible repeat (first | apply Kd.R_alloc | apply Kd.R_drewN | apply Kd.R_drew)); exact HO_17.out) hb); have n5_ := Aside0.mk (below_step (by repeat (first | (with_reducible first | exact HB.out | apply below_alloc | apply pw_below_drewN | apply below_drew1) | exact HB.out)) hb); clear HO_0; clear HO_1; clear HO_7; clear HO_8; clear HO_17; clear HB; have HO_0 := n0_; have HO_1 := n1_; have HO_7 := n2_; have HO_8 := n3_; have HO_17 := n4_; have HB := n5_; clear n0_ n1_ n2_ n3_ n4_ n5_; (try clear hb); (try clear hb2); (try clear hk); (try clear hi)) | ((with_reducible refine gate_builtin (b := .append) (xs := #[.tmp 29, .tmp 59]) rfl ?_); at_builtin; refine Kd.R_append Kd.bool (w0 := w) w.heap.size rfl (.tmp 29) (.tmp 59) 43 4 (.bool false) 1 rfl Try.underlying43 info4 rfl (by decide) (by omega) u8 x8_1 (!false) [.bool (!false)] (fun k_ => (w.heap.size ≤ k_)) (fun _ => False) rfl rfl ?aP (fun _ hk => hk.elim) ?aF ?aO ?aB ?aS ?aL ?_; (case aP => exact rfl); (case aB => exact (by repeat (first | (with_reducible first | exact HB.out | apply below_alloc | apply pw_below_drewN | apply below_drew1) | exact HB.out))); (case aF => exact (fun k_ hk => (Nat.le_trans (below_size (by repeat (first | (with_reducible first | exact HB.out | apply below_alloc | apply pw_below_drewN | apply below_drew1) | exact HB.out))) hk))); (case aO => exact (by (with_reducible repeat (first | apply Kd.R_alloc | apply Kd.R_drewN | apply Kd.R_drew)); exact HO_8.out)); (case aS => exact (below_size (by repeat (first | (with_reducible first | exact HB.out | apply below_alloc | apply pw_below_drewN | apply below_drew1) | exact HB.out)))); (case aL => have := LMc53.out; omega); intro v226 w56 ho hb hg hat; rw [← Ny225.out] at ho; have n0_ := Aside0.mk (Kd.V_afterv (ok := (fun k_ => ((P0_ k_ ∨ P1_ k_) ∨ w.heap.size ≤ k_) ∧ some k_ ≠ (.slice (some ad201) t198.length co9 : Value).ownBlock ∧ some k_ ≠ (.slice (some ad201) t198.length co9 : Value).ownBlock)) (by (with_reducible repeat (first | apply Kd.V_alloc | apply Kd.V_drewN | apply Kd.V_drew)); exact Kd.V_mono HO_0.out (fun _ hk => ⟨⟨hk.1, ⟨hk.2.1, hk.2.2.2⟩⟩, hk.2.2.1⟩)) hg hat); have n1_ := Aside0.mk (Kd.V_afterv (ok := (fun k_ => ((P0_ k_ ∨ P1_ k_) ∨ w.heap.size ≤ k_) ∧ some k_ ≠ (.slice (some ad201) t198.length co9 : Value).ownBlock ∧ some k_ ≠ (.slice (some ad201) t198.length co9 : Value).ownBlock)) (by (with_reducible repeat (first | apply Kd.V_alloc | apply Kd.V_drewN | apply Kd.V_drew)); exact Kd.V_mono HO_1.out (fun _ hk => ⟨⟨hk.1, ⟨hk.2.1, hk.2.2.2⟩⟩, hk.2.2.1⟩)) hg hat); have n2_ := Aside0.mk (Kd.R_over' (by (with_reducible repeat (first | apply Kd.R_alloc | apply Kd.R_drewN | apply Kd.R_drew)); exact HO_7.out) (Kd.R_typed (by (with_reducible repeat (first | apply Kd.R_alloc | apply Kd.R_drewN | apply Kd.R_drew)); exact HO_8.out)) (by decide) hg); have n3_ := Aside0.mk (Kd.R_over' (by (with_reducible repeat (first | apply Kd.R_alloc | apply Kd.R_drewN | apply Kd.R_drew)); exact HO_17.out) (Kd.R_typed (by (with_reducible repeat (first | apply Kd.R_alloc | apply Kd.R_drewN | apply Kd.R_drew)); exact HO_8.out)) (by decide) hg); have n4_ := Aside0.mk (hb); have n5_ := Aside0.mk (ho); clear HO_0; clear HO_1; clear HO_7; clear HO_17; clear HB; clear HO_8; have HO_0 := n0_; have HO_1 := n1_; have HO_7 := n2_; have HO_17 := n3_; have HB := n4_; have HO227 := n5_; clear n0_ n1_ n2_ n3_ n4_ n5_; clear ho hb hg hat))
                        go_roundg k1
                        case measure => have := HK1.out; omega
                        case rel => exact ⟨(y225), (wrap64 (x19_1 + 1)), (by first | rfl | (simp; done) | (simp [*]; done)), H', ⟨by have := HK1.out; omega⟩, ⟨by (with_reducible repeat (first | apply Kd.V_alloc | apply Kd.V_drewN | apply Kd.V_drew)); exact Kd.V_mono HO_0.out (fun _ hk => ⟨hk.1.1, ⟨hk.1.2.1, ⟨hk.2, hk.1.2.2⟩⟩⟩)⟩, ⟨by (with_reducible repeat (first | apply Kd.V_alloc | apply Kd.V_drewN | apply Kd.V_drew)); exact Kd.V_mono HO_1.out (fun _ hk => ⟨hk.1.1, ⟨hk.1.2.1, ⟨hk.2, hk.1.2.2⟩⟩⟩)⟩, ⟨by (with_reducible repeat (first | apply Kd.R_alloc | apply Kd.R_drewN | apply Kd.R_drew)); exact HO_7.out⟩, ⟨by (with_reducible repeat (first | apply Kd.R_alloc | apply Kd.R_drewN | apply Kd.R_drew)); exact HO227.out⟩, ⟨by (with_reducible repeat (first | apply Kd.R_alloc | apply Kd.R_drewN | apply Kd.R_drew)); exact HO_17.out⟩, ⟨by repeat (first | (with_reducible first | exact HB.out | apply below_alloc | apply pw_below_drewN | apply below_drew1) | exact HB.out)⟩⟩
                      · rw [if_neg c53] at H
                        exact absurd H (by simp)
                    · rw [if_neg c52] at H
                      have c52b0 : (a2 == 2) = false := beq_eq_false_iff_ne.mpr c52
                      have c52b1 : (a2 != 2) = true := bne_iff_ne.mpr c52
                      by_cases c57 : x8_1.length < 140737488355328
                      · rw [if_pos c57] at H
                        have LMc57 := Aside0.mk c57
                        clear c57
                        obtain ⟨y228, hy228⟩ : ∃ y_ : List Bool, y_ = (x8_1 ++ [false]) := ⟨_, rfl⟩
                        replace H : (lamellaref02_Of.l0 k1 l0 l1 a2 t198 y228 t198 (t198.length : Int) (wrap64 (x19_1 + 1))) = some r := by first | (rw [hy228]; with_reducible exact H) | (have H2_ := (Option.bind_some _ _).symm.trans H; rw [hy228]; with_reducible exact H2_) | (have H2_ := (Option.bind_some _ _).symm.trans H; with_reducible exact H2_) | with_reducible exact H | (rw [hy228]; exact H) | exact H
                        have Ny228 := Aside0.mk hy228
                        clear hy228
                        have H' := Aside0.mk H
                        clear H
                        have p201 : 0 ≤ (x19_1 : Int) := of_decide_eq_true (by first | (with_reducible assumption) | assumption)
                        have q201 : x19_1 < (t198.length : Int) := of_decide_eq_true (by first | (with_reducible assumption) | assumption)
                        obtain ⟨ad201, e201, hx201_0⟩ := Kd.at_int (Kd.R_reads' HO_17.out).2.2 x19_1 p201 q201
                        cases e201
                        replace p201 := eq_true p201
                        replace q201 := eq_true q201
                        go_wp2_with (first | ((with_reducible refine gate_callee (f := 26) rfl ?_); refine goesL_ (some 25) rfl rfl Try.func26 (by kernel_rfl) rfl #[.slice A0 l0.length c0, .int .i64 (rd t198 x19_1)] rfl (by (try simp only [List.map_toArray, List.map_cons, List.map_nil]); first | done | rfl | (simp only [List.length_drop, List.length_take]; rfl)) ?_; (with_reducible refine (lamellaref02_Has.calls k1 _ _ l0 (rd t198 x19_1) true _ ?side1 ?side2 A13.out).mono ?_); (case side1 => repeat (first | exact (Kd.V_reads' HO_0.out).2.2 | (with_reducible refine Kd.C_alloc ?_ _) | (with_reducible refine Kd.C_drewN ?_ _) | (with_reducible refine Kd.C_drew ?_))); (case side2 => exact (Kd.V_reads' HO_0.out).2.1); rintro e w58 ⟨rfl, hb⟩; refine ⟨_, rfl, ?_⟩; have n0_ := Aside0.mk (Kd.V_below (by (with_reducible repeat (first | apply Kd.V_alloc | apply Kd.V_drewN | apply Kd.V_drew)); exact HO_0.out) hb); have n1_ := Aside0.mk (Kd.V_below (by (with_reducible repeat (first | apply Kd.V_alloc | apply Kd.V_drewN | apply Kd.V_drew)); exact HO_1.out) hb); have n2_ := Aside0.mk (Kd.R_below (by (with_reducible repeat (first | apply Kd.R_alloc | apply Kd.R_drewN | apply Kd.R_drew)); exact HO_7.out) hb); have n3_ := Aside0.mk (Kd.R_below (by (with_reducible repeat (first | apply Kd.R_alloc | apply Kd.R_drewN | apply Kd.R_drew)); exact HO_8.out) hb); have n4_ := Aside0.mk (Kd.R_below (by (with_reducible repeat (first | apply Kd.R_alloc | apply Kd.R_drewN | apply Kd.R_drew)); exact HO_17.out) hb); have n5_ := Aside0.mk (below_step (by repeat (first | (with_reducible first | exact HB.out | apply below_alloc | apply pw_below_drewN | apply below_drew1) | exact HB.out)) hb); clear HO_0; clear HO_1; clear HO_7; clear HO_8; clear HO_17; clear HB; have HO_0 := n0_; have HO_1 := n1_; have HO_7 := n2_; have HO_8 := n3_; have HO_17 := n4_; have HB := n5_; clear n0_ n1_ n2_ n3_ n4_ n5_; (try clear hb); (try clear hb2); (try clear hk); (try clear hi)) | ((with_reducible refine gate_callee (f := 26) rfl ?_); refine goesL_ (some 28) rfl rfl Try.func26 (by kernel_rfl) rfl #[.slice A1 l1.length c1, .int .i64 (rd t198 x19_1)] rfl (by (try simp only [List.map_toArray, List.map_cons, List.map_nil]); first | done | rfl | (simp only [List.length_drop, List.length_take]; rfl)) ?_; (with_reducible refine (lamellaref02_Has.calls k1 _ _ l1 (rd t198 x19_1) false _ ?side1 ?side2 A14.out).mono ?_); (case side1 => repeat (first | exact (Kd.V_reads' HO_1.out).2.2 | (with_reducible refine Kd.C_alloc ?_ _) | (with_reducible refine Kd.C_drewN ?_ _) | (with_reducible refine Kd.C_drew ?_))); (case side2 => exact (Kd.V_reads' HO_1.out).2.1); rintro e w59 ⟨rfl, hb⟩; refine ⟨_, rfl, ?_⟩; have n0_ := Aside0.mk (Kd.V_below (by (with_reducible repeat (first | apply Kd.V_alloc | apply Kd.V_drewN | apply Kd.V_drew)); exact HO_0.out) hb); have n1_ := Aside0.mk (Kd.V_below (by (with_reducible repeat (first | apply Kd.V_alloc | apply Kd.V_drewN | apply Kd.V_drew)); exact HO_1.out) hb); have n2_ := Aside0.mk (Kd.R_below (by (with_reducible repeat (first | apply Kd.R_alloc | apply Kd.R_drewN | apply Kd.R_drew)); exact HO_7.out) hb); have n3_ := Aside0.mk (Kd.R_below (by (with_reducible repeat (first | apply Kd.R_alloc | apply Kd.R_drewN | apply Kd.R_drew)); exact HO_8.out) hb); have n4_ := Aside0.mk (Kd.R_below (by (with_reducible repeat (first | apply Kd.R_alloc | apply Kd.R_drewN | apply Kd.R_drew)); exact HO_17.out) hb); have n5_ := Aside0.mk (below_step (by repeat (first | (with_reducible first | exact HB.out | apply below_alloc | apply pw_below_drewN | apply below_drew1) | exact HB.out)) hb); clear HO_0; clear HO_1; clear HO_7; clear HO_8; clear HO_17; clear HB; have HO_0 := n0_; have HO_1 := n1_; have HO_7 := n2_; have HO_8 := n3_; have HO_17 := n4_; have HB := n5_; clear n0_ n1_ n2_ n3_ n4_ n5_; (try clear hb); (try clear hb2); (try clear hk); (try clear hi)) | ((with_reducible refine gate_builtin (b := .append) (xs := #[.tmp 29, .tmp 59]) rfl ?_); at_builtin; refine Kd.R_append Kd.bool (w0 := w) w.heap.size rfl (.tmp 29) (.tmp 59) 43 4 (.bool false) 1 rfl Try.underlying43 info4 rfl (by decide) (by omega) u8 x8_1 false [.bool false] (fun k_ => (w.heap.size ≤ k_)) (fun _ => False) rfl rfl ?aP (fun _ hk => hk.elim) ?aF ?aO ?aB ?aS ?aL ?_; (case aP => exact rfl); (case aB => exact (by repeat (first | (with_reducible first | exact HB.out | apply below_alloc | apply pw_below_drewN | apply below_drew1) | exact HB.out))); (case aF => exact (fun k_ hk => (Nat.le_trans (below_size (by repeat (first | (with_reducible first | exact HB.out | apply below_alloc | apply pw_below_drewN | apply below_drew1) | exact HB.out))) hk))); (case aO => exact (by (with_reducible repeat (first | apply Kd.R_alloc | apply Kd.R_drewN | apply Kd.R_drew)); exact HO_8.out)); (case aS => exact (below_size (by repeat (first | (with_reducible first | exact HB.out | apply below_alloc | apply pw_below_drewN | apply below_drew1) | exact HB.out)))); (case aL => have := LMc57.out; omega); intro v229 w60 ho hb hg hat; rw [← Ny228.out] at ho; have n0_ := Aside0.mk (Kd.V_afterv (ok := (fun k_ => ((P0_ k_ ∨ P1_ k_) ∨ w.heap.size ≤ k_) ∧ some k_ ≠ (.slice (some ad201) t198.length co9 : Value).ownBlock ∧ some k_ ≠ (.slice (some ad201) t198.length co9 : Value).ownBlock)) (by (with_reducible repeat (first | apply Kd.V_alloc | apply Kd.V_drewN | apply Kd.V_drew)); exact Kd.V_mono HO_0.out (fun _ hk => ⟨⟨hk.1, ⟨hk.2.1, hk.2.2.2⟩⟩, hk.2.2.1⟩)) hg hat); have n1_ := Aside0.mk (Kd.V_afterv (ok := (fun k_ => ((P0_ k_ ∨ P1_ k_) ∨ w.heap.size ≤ k_) ∧ some k_ ≠ (.slice (some ad201) t198.length co9 : Value).ownBlock ∧ some k_ ≠ (.slice (some ad201) t198.length co9 : Value).ownBlock)) (by (with_reducible repeat (first | apply Kd.V_alloc | apply Kd.V_drewN | apply Kd.V_drew)); exact Kd.V_mono HO_1.out (fun _ hk => ⟨⟨hk.1, ⟨hk.2.1, hk.2.2.2⟩⟩, hk.2.2.1⟩)) hg hat); have n2_ := Aside0.mk (Kd.R_over' (by (with_reducible repeat (first | apply Kd.R_alloc | apply Kd.R_drewN | apply Kd.R_drew)); exact HO_7.out) (Kd.R_typed (by (with_reducible repeat (first | apply Kd.R_alloc | apply Kd.R_drewN | apply Kd.R_drew)); exact HO_8.out)) (by decide) hg); have n3_ := Aside0.mk (Kd.R_over' (by (with_reducible repeat (first | apply Kd.R_alloc | apply Kd.R_drewN | apply Kd.R_drew)); exact HO_17.out) (Kd.R_typed (by (with_reducible repeat (first | apply Kd.R_alloc | apply Kd.R_drewN | apply Kd.R_drew)); exact HO_8.out)) (by decide) hg); have n4_ := Aside0.mk (hb); have n5_ := Aside0.mk (ho); clear HO_0; clear HO_1; clear HO_7; clear HO_17; clear HB; clear HO_8; have HO_0 := n0_; have HO_1 := n1_; have HO_7 := n2_; have HO_17 := n3_; have HB := n4_; have HO230 := n5_; clear n0_ n1_ n2_ n3_ n4_ n5_; clear ho hb hg hat))
                        go_roundg k1
                        case measure => have := HK1.out; omega
                        case rel => exact ⟨(y228), (wrap64 (x19_1 + 1)), (by first | rfl | (simp; done) | (simp [*]; done)), H', ⟨by have := HK1.out; omega⟩, ⟨by (with_reducible repeat (first | apply Kd.V_alloc | apply Kd.V_drewN | apply Kd.V_drew)); exact Kd.V_mono HO_0.out (fun _ hk => ⟨hk.1.1, ⟨hk.1.2.1, ⟨hk.2, hk.1.2.2⟩⟩⟩)⟩, ⟨by (with_reducible repeat (first | apply Kd.V_alloc | apply Kd.V_drewN | apply Kd.V_drew)); exact Kd.V_mono HO_1.out (fun _ hk => ⟨hk.1.1, ⟨hk.1.2.1, ⟨hk.2, hk.1.2.2⟩⟩⟩)⟩, ⟨by (with_reducible repeat (first | apply Kd.R_alloc | apply Kd.R_drewN | apply Kd.R_drew)); exact HO_7.out⟩, ⟨by (with_reducible repeat (first | apply Kd.R_alloc | apply Kd.R_drewN | apply Kd.R_drew)); exact HO230.out⟩, ⟨by (with_reducible repeat (first | apply Kd.R_alloc | apply Kd.R_drewN | apply Kd.R_drew)); exact HO_17.out⟩, ⟨by repeat (first | (with_reducible first | exact HB.out | apply below_alloc | apply pw_below_drewN | apply below_drew1) | exact HB.out)⟩⟩
                      · rw [if_neg c57] at H
                        exact absurd H (by simp)
                · replace c46 := Bool.eq_false_iff.mpr c46
                  subst c46
                  have H1 : (if a2 = 2 then (if x8_1.length < 140737488355328 then (lamellaref02_Of.l0 k1 l0 l1 a2 t198 (x8_1 ++ [false]) t198 (t198.length : Int) (wrap64 (x19_1 + 1))) else (none)) else (if x8_1.length < 140737488355328 then (lamellaref02_Of.l0 k1 l0 l1 a2 t198 (x8_1 ++ [false]) t198 (t198.length : Int) (wrap64 (x19_1 + 1))) else (none))) = some r := by rw [if_neg (show ¬ (false = true) by decide)] at H; exact H
                  clear H
                  have H := H1
                  clear H1
                  by_cases c61 : a2 = 2
                  · rw [if_pos c61] at H
                    have c61b0 : (a2 == 2) = true := beq_iff_eq.mpr c61
                    have c61b1 : (a2 != 2) = false := bne_eq_false_iff_eq.mpr c61
                    clear c61
                    by_cases c62 : x8_1.length < 140737488355328
                    · rw [if_pos c62] at H
                      have LMc62 := Aside0.mk c62
                      clear c62
                      obtain ⟨y231, hy231⟩ : ∃ y_ : List Bool, y_ = (x8_1 ++ [false]) := ⟨_, rfl⟩
                      replace H : (lamellaref02_Of.l0 k1 l0 l1 a2 t198 y231 t198 (t198.length : Int) (wrap64 (x19_1 + 1))) = some r := by first | (rw [hy231]; with_reducible exact H) | (have H2_ := (Option.bind_some _ _).symm.trans H; rw [hy231]; with_reducible exact H2_) | (have H2_ := (Option.bind_some _ _).symm.trans H; with_reducible exact H2_) | with_reducible exact H | (rw [hy231]; exact H) | exact H
                      have Ny231 := Aside0.mk hy231
                      clear hy231
                      have H' := Aside0.mk H
                      clear H
                      have p201 : 0 ≤ (x19_1 : Int) := of_decide_eq_true (by first | (with_reducible assumption) | assumption)
                      have q201 : x19_1 < (t198.length : Int) := of_decide_eq_true (by first | (with_reducible assumption) | assumption)
                      obtain ⟨ad201, e201, hx201_0⟩ := Kd.at_int (Kd.R_reads' HO_17.out).2.2 x19_1 p201 q201
                      cases e201
                      replace p201 := eq_true p201
                      replace q201 := eq_true q201
                      go_wp2_with (first | ((with_reducible refine gate_callee (f := 26) rfl ?_); refine goesL_ (some 25) rfl rfl Try.func26 (by kernel_rfl) rfl #[.slice A0 l0.length c0, .int .i64 (rd t198 x19_1)] rfl (by (try simp only [List.map_toArray, List.map_cons, List.map_nil]); first | done | rfl | (simp only [List.length_drop, List.length_take]; rfl)) ?_; (with_reducible refine (lamellaref02_Has.calls k1 _ _ l0 (rd t198 x19_1) false _ ?side1 ?side2 A13.out).mono ?_); (case side1 => repeat (first | exact (Kd.V_reads' HO_0.out).2.2 | (with_reducible refine Kd.C_alloc ?_ _) | (with_reducible refine Kd.C_drewN ?_ _) | (with_reducible refine Kd.C_drew ?_))); (case side2 => exact (Kd.V_reads' HO_0.out).2.1); rintro e w63 ⟨rfl, hb⟩; refine ⟨_, rfl, ?_⟩; have n0_ := Aside0.mk (Kd.V_below (by (with_reducible repeat (first | apply Kd.V_alloc | apply Kd.V_drewN | apply Kd.V_drew)); exact HO_0.out) hb); have n1_ := Aside0.mk (Kd.V_below (by (with_reducible repeat (first | apply Kd.V_alloc | apply Kd.V_drewN | apply Kd.V_drew)); exact HO_1.out) hb); have n2_ := Aside0.mk (Kd.R_below (by (with_reducible repeat (first | apply Kd.R_alloc | apply Kd.R_drewN | apply Kd.R_drew)); exact HO_7.out) hb); have n3_ := Aside0.mk (Kd.R_below (by (with_reducible repeat (first | apply Kd.R_alloc | apply Kd.R_drewN | apply Kd.R_drew)); exact HO_8.out) hb); have n4_ := Aside0.mk (Kd.R_below (by (with_reducible repeat (first | apply Kd.R_alloc | apply Kd.R_drewN | apply Kd.R_drew)); exact HO_17.out) hb); have n5_ := Aside0.mk (below_step (by repeat (first | (with_reducible first | exact HB.out | apply below_alloc | apply pw_below_drewN | apply below_drew1) | exact HB.out)) hb); clear HO_0; clear HO_1; clear HO_7; clear HO_8; clear HO_17; clear HB; have HO_0 := n0_; have HO_1 := n1_; have HO_7 := n2_; have HO_8 := n3_; have HO_17 := n4_; have HB := n5_; clear n0_ n1_ n2_ n3_ n4_ n5_; (try clear hb); (try clear hb2); (try clear hk); (try clear hi)) | ((with_reducible refine gate_callee (f := 26) rfl ?_); refine goesL_ (some 28) rfl rfl Try.func26 (by kernel_rfl) rfl #[.slice A1 l1.length c1, .int .i64 (rd t198 x19_1)] rfl (by (try simp only [List.map_toArray, List.map_cons, List.map_nil]); first | done | rfl | (simp only [List.length_drop, List.length_take]; rfl)) ?_; (with_reducible refine (lamellaref02_Has.calls k1 _ _ l1 (rd t198 x19_1) t203 _ ?side1 ?side2 A14.out).mono ?_); (case side1 => repeat (first | exact (Kd.V_reads' HO_1.out).2.2 | (with_reducible refine Kd.C_alloc ?_ _) | (with_reducible refine Kd.C_drewN ?_ _) | (with_reducible refine Kd.C_drew ?_))); (case side2 => exact (Kd.V_reads' HO_1.out).2.1); rintro e w64 ⟨rfl, hb⟩; refine ⟨_, rfl, ?_⟩; have n0_ := Aside0.mk (Kd.V_below (by (with_reducible repeat (first | apply Kd.V_alloc | apply Kd.V_drewN | apply Kd.V_drew)); exact HO_0.out) hb); have n1_ := Aside0.mk (Kd.V_below (by (with_reducible repeat (first | apply Kd.V_alloc | apply Kd.V_drewN | apply Kd.V_drew)); exact HO_1.out) hb); have n2_ := Aside0.mk (Kd.R_below (by (with_reducible repeat (first | apply Kd.R_alloc | apply Kd.R_drewN | apply Kd.R_drew)); exact HO_7.out) hb); have n3_ := Aside0.mk (Kd.R_below (by (with_reducible repeat (first | apply Kd.R_alloc | apply Kd.R_drewN | apply Kd.R_drew)); exact HO_8.out) hb); have n4_ := Aside0.mk (Kd.R_below (by (with_reducible repeat (first | apply Kd.R_alloc | apply Kd.R_drewN | apply Kd.R_drew)); exact HO_17.out) hb); have n5_ := Aside0.mk (below_step (by repeat (first | (with_reducible first | exact HB.out | apply below_alloc | apply pw_below_drewN | apply below_drew1) | exact HB.out)) hb); clear HO_0; clear HO_1; clear HO_7; clear HO_8; clear HO_17; clear HB; have HO_0 := n0_; have HO_1 := n1_; have HO_7 := n2_; have HO_8 := n3_; have HO_17 := n4_; have HB := n5_; clear n0_ n1_ n2_ n3_ n4_ n5_; (try clear hb); (try clear hb2); (try clear hk); (try clear hi)) | ((with_reducible refine gate_builtin (b := .append) (xs := #[.tmp 29, .tmp 59]) rfl ?_); at_builtin; refine Kd.R_append Kd.bool (w0 := w) w.heap.size rfl (.tmp 29) (.tmp 59) 43 4 (.bool false) 1 rfl Try.underlying43 info4 rfl (by decide) (by omega) u8 x8_1 false [.bool false] (fun k_ => (w.heap.size ≤ k_)) (fun _ => False) rfl rfl ?aP (fun _ hk => hk.elim) ?aF ?aO ?aB ?aS ?aL ?_; (case aP => exact rfl); (case aB => exact (by repeat (first | (with_reducible first | exact HB.out | apply below_alloc | apply pw_below_drewN | apply below_drew1) | exact HB.out))); (case aF => exact (fun k_ hk => (Nat.le_trans (below_size (by repeat (first | (with_reducible first | exact HB.out | apply below_alloc | apply pw_below_drewN | apply below_drew1) | exact HB.out))) hk))); (case aO => exact (by (with_reducible repeat (first | apply Kd.R_alloc | apply Kd.R_drewN | apply Kd.R_drew)); exact HO_8.out)); (case aS => exact (below_size (by repeat (first | (with_reducible first | exact HB.out | apply below_alloc | apply pw_below_drewN | apply below_drew1) | exact HB.out)))); (case aL => have := LMc62.out; omega); intro v232 w65 ho hb hg hat; rw [← Ny231.out] at ho; have n0_ := Aside0.mk (Kd.V_afterv (ok := (fun k_ => ((P0_ k_ ∨ P1_ k_) ∨ w.heap.size ≤ k_) ∧ some k_ ≠ (.slice (some ad201) t198.length co9 : Value).ownBlock ∧ some k_ ≠ (.slice (some ad201) t198.length co9 : Value).ownBlock)) (by (with_reducible repeat (first | apply Kd.V_alloc | apply Kd.V_drewN | apply Kd.V_drew)); exact Kd.V_mono HO_0.out (fun _ hk => ⟨⟨hk.1, ⟨hk.2.1, hk.2.2.2⟩⟩, hk.2.2.1⟩)) hg hat); have n1_ := Aside0.mk (Kd.V_afterv (ok := (fun k_ => ((P0_ k_ ∨ P1_ k_) ∨ w.heap.size ≤ k_) ∧ some k_ ≠ (.slice (some ad201) t198.length co9 : Value).ownBlock ∧ some k_ ≠ (.slice (some ad201) t198.length co9 : Value).ownBlock)) (by (with_reducible repeat (first | apply Kd.V_alloc | apply Kd.V_drewN | apply Kd.V_drew)); exact Kd.V_mono HO_1.out (fun _ hk => ⟨⟨hk.1, ⟨hk.2.1, hk.2.2.2⟩⟩, hk.2.2.1⟩)) hg hat); have n2_ := Aside0.mk (Kd.R_over' (by (with_reducible repeat (first | apply Kd.R_alloc | apply Kd.R_drewN | apply Kd.R_drew)); exact HO_7.out) (Kd.R_typed (by (with_reducible repeat (first | apply Kd.R_alloc | apply Kd.R_drewN | apply Kd.R_drew)); exact HO_8.out)) (by decide) hg); have n3_ := Aside0.mk (Kd.R_over' (by (with_reducible repeat (first | apply Kd.R_alloc | apply Kd.R_drewN | apply Kd.R_drew)); exact HO_17.out) (Kd.R_typed (by (with_reducible repeat (first | apply Kd.R_alloc | apply Kd.R_drewN | apply Kd.R_drew)); exact HO_8.out)) (by decide) hg); have n4_ := Aside0.mk (hb); have n5_ := Aside0.mk (ho); clear HO_0; clear HO_1; clear HO_7; clear HO_17; clear HB; clear HO_8; have HO_0 := n0_; have HO_1 := n1_; have HO_7 := n2_; have HO_17 := n3_; have HB := n4_; have HO233 := n5_; clear n0_ n1_ n2_ n3_ n4_ n5_; clear ho hb hg hat))
                      go_roundg k1
                      case measure => have := HK1.out; omega
                      case rel => exact ⟨(y231), (wrap64 (x19_1 + 1)), (by first | rfl | (simp; done) | (simp [*]; done)), H', ⟨by have := HK1.out; omega⟩, ⟨by (with_reducible repeat (first | apply Kd.V_alloc | apply Kd.V_drewN | apply Kd.V_drew)); exact Kd.V_mono HO_0.out (fun _ hk => ⟨hk.1.1, ⟨hk.1.2.1, ⟨hk.2, hk.1.2.2⟩⟩⟩)⟩, ⟨by (with_reducible repeat (first | apply Kd.V_alloc | apply Kd.V_drewN | apply Kd.V_drew)); exact Kd.V_mono HO_1.out (fun _ hk => ⟨hk.1.1, ⟨hk.1.2.1, ⟨hk.2, hk.1.2.2⟩⟩⟩)⟩, ⟨by (with_reducible repeat (first | apply Kd.R_alloc | apply Kd.R_drewN | apply Kd.R_drew)); exact HO_7.out⟩, ⟨by (with_reducible repeat (first | apply Kd.R_alloc | apply Kd.R_drewN | apply Kd.R_drew)); exact HO233.out⟩, ⟨by (with_reducible repeat (first | apply Kd.R_alloc | apply Kd.R_drewN | apply Kd.R_drew)); exact HO_17.out⟩, ⟨by repeat (first | (with_reducible first | exact HB.out | apply below_alloc | apply pw_below_drewN | apply below_drew1) | exact HB.out)⟩⟩
                    · rw [if_neg c62] at H
                      exact absurd H (by simp)
                  · rw [if_neg c61] at H
                    have c61b0 : (a2 == 2) = false := beq_eq_false_iff_ne.mpr c61
                    have c61b1 : (a2 != 2) = true := bne_iff_ne.mpr c61
                    by_cases c66 : x8_1.length < 140737488355328
                    · rw [if_pos c66] at H
                      have LMc66 := Aside0.mk c66
                      clear c66
                      obtain ⟨y234, hy234⟩ : ∃ y_ : List Bool, y_ = (x8_1 ++ [false]) := ⟨_, rfl⟩
                      replace H : (lamellaref02_Of.l0 k1 l0 l1 a2 t198 y234 t198 (t198.length : Int) (wrap64 (x19_1 + 1))) = some r := by first | (rw [hy234]; with_reducible exact H) | (have H2_ := (Option.bind_some _ _).symm.trans H; rw [hy234]; with_reducible exact H2_) | (have H2_ := (Option.bind_some _ _).symm.trans H; with_reducible exact H2_) | with_reducible exact H | (rw [hy234]; exact H) | exact H
                      have Ny234 := Aside0.mk hy234
                      clear hy234
                      have H' := Aside0.mk H
                      clear H
                      have p201 : 0 ≤ (x19_1 : Int) := of_decide_eq_true (by first | (with_reducible assumption) | assumption)
                      have q201 : x19_1 < (t198.length : Int) := of_decide_eq_true (by first | (with_reducible assumption) | assumption)
                      obtain ⟨ad201, e201, hx201_0⟩ := Kd.at_int (Kd.R_reads' HO_17.out).2.2 x19_1 p201 q201
                      cases e201
                      replace p201 := eq_true p201
                      replace q201 := eq_true q201
                      go_wp2_with (first | ((with_reducible refine gate_callee (f := 26) rfl ?_); refine goesL_ (some 25) rfl rfl Try.func26 (by kernel_rfl) rfl #[.slice A0 l0.length c0, .int .i64 (rd t198 x19_1)] rfl (by (try simp only [List.map_toArray, List.map_cons, List.map_nil]); first | done | rfl | (simp only [List.length_drop, List.length_take]; rfl)) ?_; (with_reducible refine (lamellaref02_Has.calls k1 _ _ l0 (rd t198 x19_1) false _ ?side1 ?side2 A13.out).mono ?_); (case side1 => repeat (first | exact (Kd.V_reads' HO_0.out).2.2 | (with_reducible refine Kd.C_alloc ?_ _) | (with_reducible refine Kd.C_drewN ?_ _) | (with_reducible refine Kd.C_drew ?_))); (case side2 => exact (Kd.V_reads' HO_0.out).2.1); rintro e w67 ⟨rfl, hb⟩; refine ⟨_, rfl, ?_⟩; have n0_ := Aside0.mk (Kd.V_below (by (with_reducible repeat (first | apply Kd.V_alloc | apply Kd.V_drewN | apply Kd.V_drew)); exact HO_0.out) hb); have n1_ := Aside0.mk (Kd.V_below (by (with_reducible repeat (first | apply Kd.V_alloc | apply Kd.V_drewN | apply Kd.V_drew)); exact HO_1.out) hb); have n2_ := Aside0.mk (Kd.R_below (by (with_reducible repeat (first | apply Kd.R_alloc | apply Kd.R_drewN | apply Kd.R_drew)); exact HO_7.out) hb); have n3_ := Aside0.mk (Kd.R_below (by (with_reducible repeat (first | apply Kd.R_alloc | apply Kd.R_drewN | apply Kd.R_drew)); exact HO_8.out) hb); have n4_ := Aside0.mk (Kd.R_below (by (with_reducible repeat (first | apply Kd.R_alloc | apply Kd.R_drewN | apply Kd.R_drew)); exact HO_17.out) hb); have n5_ := Aside0.mk (below_step (by repeat (first | (with_reducible first | exact HB.out | apply below_alloc | apply pw_below_drewN | apply below_drew1) | exact HB.out)) hb); clear HO_0; clear HO_1; clear HO_7; clear HO_8; clear HO_17; clear HB; have HO_0 := n0_; have HO_1 := n1_; have HO_7 := n2_; have HO_8 := n3_; have HO_17 := n4_; have HB := n5_; clear n0_ n1_ n2_ n3_ n4_ n5_; (try clear hb); (try clear hb2); (try clear hk); (try clear hi)) | ((with_reducible refine gate_callee (f := 26) rfl ?_); refine goesL_ (some 28) rfl rfl Try.func26 (by kernel_rfl) rfl #[.slice A1 l1.length c1, .int .i64 (rd t198 x19_1)] rfl (by (try simp only [List.map_toArray, List.map_cons, List.map_nil]); first | done | rfl | (simp only [List.length_drop, List.length_take]; rfl)) ?_; (with_reducible refine (lamellaref02_Has.calls k1 _ _ l1 (rd t198 x19_1) t203 _ ?side1 ?side2 A14.out).mono ?_); (case side1 => repeat (first | exact (Kd.V_reads' HO_1.out).2.2 | (with_reducible refine Kd.C_alloc ?_ _) | (with_reducible refine Kd.C_drewN ?_ _) | (with_reducible refine Kd.C_drew ?_))); (case side2 => exact (Kd.V_reads' HO_1.out).2.1); rintro e w68 ⟨rfl, hb⟩; refine ⟨_, rfl, ?_⟩; have n0_ := Aside0.mk (Kd.V_below (by (with_reducible repeat (first | apply Kd.V_alloc | apply Kd.V_drewN | apply Kd.V_drew)); exact HO_0.out) hb); have n1_ := Aside0.mk (Kd.V_below (by (with_reducible repeat (first | apply Kd.V_alloc | apply Kd.V_drewN | apply Kd.V_drew)); exact HO_1.out) hb); have n2_ := Aside0.mk (Kd.R_below (by (with_reducible repeat (first | apply Kd.R_alloc | apply Kd.R_drewN | apply Kd.R_drew)); exact HO_7.out) hb); have n3_ := Aside0.mk (Kd.R_below (by (with_reducible repeat (first | apply Kd.R_alloc | apply Kd.R_drewN | apply Kd.R_drew)); exact HO_8.out) hb); have n4_ := Aside0.mk (Kd.R_below (by (with_reducible repeat (first | apply Kd.R_alloc | apply Kd.R_drewN | apply Kd.R_drew)); exact HO_17.out) hb); have n5_ := Aside0.mk (below_step (by repeat (first | (with_reducible first | exact HB.out | apply below_alloc | apply pw_below_drewN | apply below_drew1) | exact HB.out)) hb); clear HO_0; clear HO_1; clear HO_7; clear HO_8; clear HO_17; clear HB; have HO_0 := n0_; have HO_1 := n1_; have HO_7 := n2_; have HO_8 := n3_; have HO_17 := n4_; have HB := n5_; clear n0_ n1_ n2_ n3_ n4_ n5_; (try clear hb); (try clear hb2); (try clear hk); (try clear hi)) | ((with_reducible refine gate_builtin (b := .append) (xs := #[.tmp 29, .tmp 59]) rfl ?_); at_builtin; refine Kd.R_append Kd.bool (w0 := w) w.heap.size rfl (.tmp 29) (.tmp 59) 43 4 (.bool false) 1 rfl Try.underlying43 info4 rfl (by decide) (by omega) u8 x8_1 false [.bool false] (fun k_ => (w.heap.size ≤ k_)) (fun _ => False) rfl rfl ?aP (fun _ hk => hk.elim) ?aF ?aO ?aB ?aS ?aL ?_; (case aP => exact rfl); (case aB => exact (by repeat (first | (with_reducible first | exact HB.out | apply below_alloc | apply pw_below_drewN | apply below_drew1) | exact HB.out))); (case aF => exact (fun k_ hk => (Nat.le_trans (below_size (by repeat (first | (with_reducible first | exact HB.out | apply below_alloc | apply pw_below_drewN | apply below_drew1) | exact HB.out))) hk))); (case aO => exact (by (with_reducible repeat (first | apply Kd.R_alloc | apply Kd.R_drewN | apply Kd.R_drew)); exact HO_8.out)); (case aS => exact (below_size (by repeat (first | (with_reducible first | exact HB.out | apply below_alloc | apply pw_below_drewN | apply below_drew1) | exact HB.out)))); (case aL => have := LMc66.out; omega); intro v235 w69 ho hb hg hat; rw [← Ny234.out] at ho; have n0_ := Aside0.mk (Kd.V_afterv (ok := (fun k_ => ((P0_ k_ ∨ P1_ k_) ∨ w.heap.size ≤ k_) ∧ some k_ ≠ (.slice (some ad201) t198.length co9 : Value).ownBlock ∧ some k_ ≠ (.slice (some ad201) t198.length co9 : Value).ownBlock)) (by (with_reducible repeat (first | apply Kd.V_alloc | apply Kd.V_drewN | apply Kd.V_drew)); exact Kd.V_mono HO_0.out (fun _ hk => ⟨⟨hk.1, ⟨hk.2.1, hk.2.2.2⟩⟩, hk.2.2.1⟩)) hg hat); have n1_ := Aside0.mk (Kd.V_afterv (ok := (fun k_ => ((P0_ k_ ∨ P1_ k_) ∨ w.heap.size ≤ k_) ∧ some k_ ≠ (.slice (some ad201) t198.length co9 : Value).ownBlock ∧ some k_ ≠ (.slice (some ad201) t198.length co9 : Value).ownBlock)) (by (with_reducible repeat (first | apply Kd.V_alloc | apply Kd.V_drewN | apply Kd.V_drew)); exact Kd.V_mono HO_1.out (fun _ hk => ⟨⟨hk.1, ⟨hk.2.1, hk.2.2.2⟩⟩, hk.2.2.1⟩)) hg hat); have n2_ := Aside0.mk (Kd.R_over' (by (with_reducible repeat (first | apply Kd.R_alloc | apply Kd.R_drewN | apply Kd.R_drew)); exact HO_7.out) (Kd.R_typed (by (with_reducible repeat (first | apply Kd.R_alloc | apply Kd.R_drewN | apply Kd.R_drew)); exact HO_8.out)) (by decide) hg); have n3_ := Aside0.mk (Kd.R_over' (by (with_reducible repeat (first | apply Kd.R_alloc | apply Kd.R_drewN | apply Kd.R_drew)); exact HO_17.out) (Kd.R_typed (by (with_reducible repeat (first | apply Kd.R_alloc | apply Kd.R_drewN | apply Kd.R_drew)); exact HO_8.out)) (by decide) hg); have n4_ := Aside0.mk (hb); have n5_ := Aside0.mk (ho); clear HO_0; clear HO_1; clear HO_7; clear HO_17; clear HB; clear HO_8; have HO_0 := n0_; have HO_1 := n1_; have HO_7 := n2_; have HO_17 := n3_; have HB := n4_; have HO236 := n5_; clear n0_ n1_ n2_ n3_ n4_ n5_; clear ho hb hg hat))
                      go_roundg k1
                      case measure => have := HK1.out; omega
                      case rel => exact ⟨(y234), (wrap64 (x19_1 + 1)), (by first | rfl | (simp; done) | (simp [*]; done)), H', ⟨by have := HK1.out; omega⟩, ⟨by (with_reducible repeat (first | apply Kd.V_alloc | apply Kd.V_drewN | apply Kd.V_drew)); exact Kd.V_mono HO_0.out (fun _ hk => ⟨hk.1.1, ⟨hk.1.2.1, ⟨hk.2, hk.1.2.2⟩⟩⟩)⟩, ⟨by (with_reducible repeat (first | apply Kd.V_alloc | apply Kd.V_drewN | apply Kd.V_drew)); exact Kd.V_mono HO_1.out (fun _ hk => ⟨hk.1.1, ⟨hk.1.2.1, ⟨hk.2, hk.1.2.2⟩⟩⟩)⟩, ⟨by (with_reducible repeat (first | apply Kd.R_alloc | apply Kd.R_drewN | apply Kd.R_drew)); exact HO_7.out⟩, ⟨by (with_reducible repeat (first | apply Kd.R_alloc | apply Kd.R_drewN | apply Kd.R_drew)); exact HO236.out⟩, ⟨by (with_reducible repeat (first | apply Kd.R_alloc | apply Kd.R_drewN | apply Kd.R_drew)); exact HO_17.out⟩, ⟨by repeat (first | (with_reducible first | exact HB.out | apply below_alloc | apply pw_below_drewN | apply below_drew1) | exact HB.out)⟩⟩
                    · rw [if_neg c66] at H
                      exact absurd H (by simp)
              · rw [if_neg c45] at H
                have c45b0 : (a2 == 1) = false := beq_eq_false_iff_ne.mpr c45
                have c45b1 : (a2 != 1) = true := bne_iff_ne.mpr c45
                by_cases c70 : a2 = 2
                · rw [if_pos c70] at H
                  have c70b0 : (a2 == 2) = true := beq_iff_eq.mpr c70
                  have c70b1 : (a2 != 2) = false := bne_eq_false_iff_eq.mpr c70
                  clear c70
                  by_cases c71 : t202 = true
                  · subst c71
                    have H1 : (if x8_1.length < 140737488355328 then (lamellaref02_Of.l0 k1 l0 l1 a2 t198 (x8_1 ++ [!t203]) t198 (t198.length : Int) (wrap64 (x19_1 + 1))) else (none)) = some r := by rw [if_pos rfl] at H; exact H
                    clear H
                    have H := H1
                    clear H1
                    by_cases c72 : x8_1.length < 140737488355328
                    · rw [if_pos c72] at H
                      have LMc72 := Aside0.mk c72
                      clear c72
                      obtain ⟨y237, hy237⟩ : ∃ y_ : List Bool, y_ = (x8_1 ++ [!t203]) := ⟨_, rfl⟩
                      replace H : (lamellaref02_Of.l0 k1 l0 l1 a2 t198 y237 t198 (t198.length : Int) (wrap64 (x19_1 + 1))) = some r := by first | (rw [hy237]; with_reducible exact H) | (have H2_ := (Option.bind_some _ _).symm.trans H; rw [hy237]; with_reducible exact H2_) | (have H2_ := (Option.bind_some _ _).symm.trans H; with_reducible exact H2_) | with_reducible exact H | (rw [hy237]; exact H) | exact H
                      have Ny237 := Aside0.mk hy237
                      clear hy237
                      have H' := Aside0.mk H
                      clear H
                      have p201 : 0 ≤ (x19_1 : Int) := of_decide_eq_true (by first | (with_reducible assumption) | assumption)
                      have q201 : x19_1 < (t198.length : Int) := of_decide_eq_true (by first | (with_reducible assumption) | assumption)
                      obtain ⟨ad201, e201, hx201_0⟩ := Kd.at_int (Kd.R_reads' HO_17.out).2.2 x19_1 p201 q201
                      cases e201
                      replace p201 := eq_true p201
                      replace q201 := eq_true q201
                      go_wp2_with (first | ((with_reducible refine gate_callee (f := 26) rfl ?_); refine goesL_ (some 25) rfl rfl Try.func26 (by kernel_rfl) rfl #[.slice A0 l0.length c0, .int .i64 (rd t198 x19_1)] rfl (by (try simp only [List.map_toArray, List.map_cons, List.map_nil]); first | done | rfl | (simp only [List.length_drop, List.length_take]; rfl)) ?_; (with_reducible refine (lamellaref02_Has.calls k1 _ _ l0 (rd t198 x19_1) true _ ?side1 ?side2 A13.out).mono ?_); (case side1 => repeat (first | exact (Kd.V_reads' HO_0.out).2.2 | (with_reducible refine Kd.C_alloc ?_ _) | (with_reducible refine Kd.C_drewN ?_ _) | (with_reducible refine Kd.C_drew ?_))); (case side2 => exact (Kd.V_reads' HO_0.out).2.1); rintro e w73 ⟨rfl, hb⟩; refine ⟨_, rfl, ?_⟩; have n0_ := Aside0.mk (Kd.V_below (by (with_reducible repeat (first | apply Kd.V_alloc | apply Kd.V_drewN | apply Kd.V_drew)); exact HO_0.out) hb); have n1_ := Aside0.mk (Kd.V_below (by (with_reducible repeat (first | apply Kd.V_alloc | apply Kd.V_drewN | apply Kd.V_drew)); exact HO_1.out) hb); have n2_ := Aside0.mk (Kd.R_below (by (with_reducible repeat (first | apply Kd.R_alloc | apply Kd.R_drewN | apply Kd.R_drew)); exact HO_7.out) hb); have n3_ := Aside0.mk (Kd.R_below (by (with_reducible repeat (first | apply Kd.R_alloc | apply Kd.R_drewN | apply Kd.R_drew)); exact HO_8.out) hb); have n4_ := Aside0.mk (Kd.R_below (by (with_reducible repeat (first | apply Kd.R_alloc | apply Kd.R_drewN | apply Kd.R_drew)); exact HO_17.out) hb); have n5_ := Aside0.mk (below_step (by repeat (first | (with_reducible first | exact HB.out | apply below_alloc | apply pw_below_drewN | apply below_drew1) | exact HB.out)) hb); clear HO_0; clear HO_1; clear HO_7; clear HO_8; clear HO_17; clear HB; have HO_0 := n0_; have HO_1 := n1_; have HO_7 := n2_; have HO_8 := n3_; have HO_17 := n4_; have HB := n5_; clear n0_ n1_ n2_ n3_ n4_ n5_; (try clear hb); (try clear hb2); (try clear hk); (try clear hi)) | ((with_reducible refine gate_callee (f := 26) rfl ?_); refine goesL_ (some 28) rfl rfl Try.func26 (by kernel_rfl) rfl #[.slice A1 l1.length c1, .int .i64 (rd t198 x19_1)] rfl (by (try simp only [List.map_toArray, List.map_cons, List.map_nil]); first | done | rfl | (simp only [List.length_drop, List.length_take]; rfl)) ?_; (with_reducible refine (lamellaref02_Has.calls k1 _ _ l1 (rd t198 x19_1) t203 _ ?side1 ?side2 A14.out).mono ?_); (case side1 => repeat (first | exact (Kd.V_reads' HO_1.out).2.2 | (with_reducible refine Kd.C_alloc ?_ _) | (with_reducible refine Kd.C_drewN ?_ _) | (with_reducible refine Kd.C_drew ?_))); (case side2 => exact (Kd.V_reads' HO_1.out).2.1); rintro e w74 ⟨rfl, hb⟩; refine ⟨_, rfl, ?_⟩; have n0_ := Aside0.mk (Kd.V_below (by (with_reducible repeat (first | apply Kd.V_alloc | apply Kd.V_drewN | apply Kd.V_drew)); exact HO_0.out) hb); have n1_ := Aside0.mk (Kd.V_below (by (with_reducible repeat (first | apply Kd.V_alloc | apply Kd.V_drewN | apply Kd.V_drew)); exact HO_1.out) hb); have n2_ := Aside0.mk (Kd.R_below (by (with_reducible repeat (first | apply Kd.R_alloc | apply Kd.R_drewN | apply Kd.R_drew)); exact HO_7.out) hb); have n3_ := Aside0.mk (Kd.R_below (by (with_reducible repeat (first | apply Kd.R_alloc | apply Kd.R_drewN | apply Kd.R_drew)); exact HO_8.out) hb); have n4_ := Aside0.mk (Kd.R_below (by (with_reducible repeat (first | apply Kd.R_alloc | apply Kd.R_drewN | apply Kd.R_drew)); exact HO_17.out) hb); have n5_ := Aside0.mk (below_step (by repeat (first | (with_reducible first | exact HB.out | apply below_alloc | apply pw_below_drewN | apply below_drew1) | exact HB.out)) hb); clear HO_0; clear HO_1; clear HO_7; clear HO_8; clear HO_17; clear HB; have HO_0 := n0_; have HO_1 := n1_; have HO_7 := n2_; have HO_8 := n3_; have HO_17 := n4_; have HB := n5_; clear n0_ n1_ n2_ n3_ n4_ n5_; (try clear hb); (try clear hb2); (try clear hk); (try clear hi)) | ((with_reducible refine gate_builtin (b := .append) (xs := #[.tmp 29, .tmp 59]) rfl ?_); at_builtin; refine Kd.R_append Kd.bool (w0 := w) w.heap.size rfl (.tmp 29) (.tmp 59) 43 4 (.bool false) 1 rfl Try.underlying43 info4 rfl (by decide) (by omega) u8 x8_1 (!t203) [.bool (!t203)] (fun k_ => (w.heap.size ≤ k_)) (fun _ => False) rfl rfl ?aP (fun _ hk => hk.elim) ?aF ?aO ?aB ?aS ?aL ?_; (case aP => exact rfl); (case aB => exact (by repeat (first | (with_reducible first | exact HB.out | apply below_alloc | apply pw_below_drewN | apply below_drew1) | exact HB.out))); (case aF => exact (fun k_ hk => (Nat.le_trans (below_size (by repeat (first | (with_reducible first | exact HB.out | apply below_alloc | apply pw_below_drewN | apply below_drew1) | exact HB.out))) hk))); (case aO => exact (by (with_reducible repeat (first | apply Kd.R_alloc | apply Kd.R_drewN | apply Kd.R_drew)); exact HO_8.out)); (case aS => exact (below_size (by repeat (first | (with_reducible first | exact HB.out | apply below_alloc | apply pw_below_drewN | apply below_drew1) | exact HB.out)))); (case aL => have := LMc72.out; omega); intro v238 w75 ho hb hg hat; rw [← Ny237.out] at ho; have n0_ := Aside0.mk (Kd.V_afterv (ok := (fun k_ => ((P0_ k_ ∨ P1_ k_) ∨ w.heap.size ≤ k_) ∧ some k_ ≠ (.slice (some ad201) t198.length co9 : Value).ownBlock ∧ some k_ ≠ (.slice (some ad201) t198.length co9 : Value).ownBlock)) (by (with_reducible repeat (first | apply Kd.V_alloc | apply Kd.V_drewN | apply Kd.V_drew)); exact Kd.V_mono HO_0.out (fun _ hk => ⟨⟨hk.1, ⟨hk.2.1, hk.2.2.2⟩⟩, hk.2.2.1⟩)) hg hat); have n1_ := Aside0.mk (Kd.V_afterv (ok := (fun k_ => ((P0_ k_ ∨ P1_ k_) ∨ w.heap.size ≤ k_) ∧ some k_ ≠ (.slice (some ad201) t198.length co9 : Value).ownBlock ∧ some k_ ≠ (.slice (some ad201) t198.length co9 : Value).ownBlock)) (by (with_reducible repeat (first | apply Kd.V_alloc | apply Kd.V_drewN | apply Kd.V_drew)); exact Kd.V_mono HO_1.out (fun _ hk => ⟨⟨hk.1, ⟨hk.2.1, hk.2.2.2⟩⟩, hk.2.2.1⟩)) hg hat); have n2_ := Aside0.mk (Kd.R_over' (by (with_reducible repeat (first | apply Kd.R_alloc | apply Kd.R_drewN | apply Kd.R_drew)); exact HO_7.out) (Kd.R_typed (by (with_reducible repeat (first | apply Kd.R_alloc | apply Kd.R_drewN | apply Kd.R_drew)); exact HO_8.out)) (by decide) hg); have n3_ := Aside0.mk (Kd.R_over' (by (with_reducible repeat (first | apply Kd.R_alloc | apply Kd.R_drewN | apply Kd.R_drew)); exact HO_17.out) (Kd.R_typed (by (with_reducible repeat (first | apply Kd.R_alloc | apply Kd.R_drewN | apply Kd.R_drew)); exact HO_8.out)) (by decide) hg); have n4_ := Aside0.mk (hb); have n5_ := Aside0.mk (ho); clear HO_0; clear HO_1; clear HO_7; clear HO_17; clear HB; clear HO_8; have HO_0 := n0_; have HO_1 := n1_; have HO_7 := n2_; have HO_17 := n3_; have HB := n4_; have HO239 := n5_; clear n0_ n1_ n2_ n3_ n4_ n5_; clear ho hb hg hat))
                      go_roundg k1
                      case measure => have := HK1.out; omega
                      case rel => exact ⟨(y237), (wrap64 (x19_1 + 1)), (by first | rfl | (simp; done) | (simp [*]; done)), H', ⟨by have := HK1.out; omega⟩, ⟨by (with_reducible repeat (first | apply Kd.V_alloc | apply Kd.V_drewN | apply Kd.V_drew)); exact Kd.V_mono HO_0.out (fun _ hk => ⟨hk.1.1, ⟨hk.1.2.1, ⟨hk.2, hk.1.2.2⟩⟩⟩)⟩, ⟨by (with_reducible repeat (first | apply Kd.V_alloc | apply Kd.V_drewN | apply Kd.V_drew)); exact Kd.V_mono HO_1.out (fun _ hk => ⟨hk.1.1, ⟨hk.1.2.1, ⟨hk.2, hk.1.2.2⟩⟩⟩)⟩, ⟨by (with_reducible repeat (first | apply Kd.R_alloc | apply Kd.R_drewN | apply Kd.R_drew)); exact HO_7.out⟩, ⟨by (with_reducible repeat (first | apply Kd.R_alloc | apply Kd.R_drewN | apply Kd.R_drew)); exact HO239.out⟩, ⟨by (with_reducible repeat (first | apply Kd.R_alloc | apply Kd.R_drewN | apply Kd.R_drew)); exact HO_17.out⟩, ⟨by repeat (first | (with_reducible first | exact HB.out | apply below_alloc | apply pw_below_drewN | apply below_drew1) | exact HB.out)⟩⟩
                    · rw [if_neg c72] at H
                      exact absurd H (by simp)
                  · replace c71 := Bool.eq_false_iff.mpr c71
                    subst c71
                    have H1 : (if x8_1.length < 140737488355328 then (lamellaref02_Of.l0 k1 l0 l1 a2 t198 (x8_1 ++ [false]) t198 (t198.length : Int) (wrap64 (x19_1 + 1))) else (none)) = some r := by rw [if_neg (show ¬ (false = true) by decide)] at H; exact H
                    clear H
                    have H := H1
                    clear H1
                    by_cases c76 : x8_1.length < 140737488355328
                    · rw [if_pos c76] at H
                      have LMc76 := Aside0.mk c76
                      clear c76
                      obtain ⟨y240, hy240⟩ : ∃ y_ : List Bool, y_ = (x8_1 ++ [false]) := ⟨_, rfl⟩
                      replace H : (lamellaref02_Of.l0 k1 l0 l1 a2 t198 y240 t198 (t198.length : Int) (wrap64 (x19_1 + 1))) = some r := by first | (rw [hy240]; with_reducible exact H) | (have H2_ := (Option.bind_some _ _).symm.trans H; rw [hy240]; with_reducible exact H2_) | (have H2_ := (Option.bind_some _ _).symm.trans H; with_reducible exact H2_) | with_reducible exact H | (rw [hy240]; exact H) | exact H
                      have Ny240 := Aside0.mk hy240
                      clear hy240
                      have H' := Aside0.mk H
                      clear H
                      have p201 : 0 ≤ (x19_1 : Int) := of_decide_eq_true (by first | (with_reducible assumption) | assumption)
                      have q201 : x19_1 < (t198.length : Int) := of_decide_eq_true (by first | (with_reducible assumption) | assumption)
                      obtain ⟨ad201, e201, hx201_0⟩ := Kd.at_int (Kd.R_reads' HO_17.out).2.2 x19_1 p201 q201
                      cases e201
                      replace p201 := eq_true p201
                      replace q201 := eq_true q201
                      go_wp2_with (first | ((with_reducible refine gate_callee (f := 26) rfl ?_); refine goesL_ (some 25) rfl rfl Try.func26 (by kernel_rfl) rfl #[.slice A0 l0.length c0, .int .i64 (rd t198 x19_1)] rfl (by (try simp only [List.map_toArray, List.map_cons, List.map_nil]); first | done | rfl | (simp only [List.length_drop, List.length_take]; rfl)) ?_; (with_reducible refine (lamellaref02_Has.calls k1 _ _ l0 (rd t198 x19_1) false _ ?side1 ?side2 A13.out).mono ?_); (case side1 => repeat (first | exact (Kd.V_reads' HO_0.out).2.2 | (with_reducible refine Kd.C_alloc ?_ _) | (with_reducible refine Kd.C_drewN ?_ _) | (with_reducible refine Kd.C_drew ?_))); (case side2 => exact (Kd.V_reads' HO_0.out).2.1); rintro e w77 ⟨rfl, hb⟩; refine ⟨_, rfl, ?_⟩; have n0_ := Aside0.mk (Kd.V_below (by (with_reducible repeat (first | apply Kd.V_alloc | apply Kd.V_drewN | apply Kd.V_drew)); exact HO_0.out) hb); have n1_ := Aside0.mk (Kd.V_below (by (with_reducible repeat (first | apply Kd.V_alloc | apply Kd.V_drewN | apply Kd.V_drew)); exact HO_1.out) hb); have n2_ := Aside0.mk (Kd.R_below (by (with_reducible repeat (first | apply Kd.R_alloc | apply Kd.R_drewN | apply Kd.R_drew)); exact HO_7.out) hb); have n3_ := Aside0.mk (Kd.R_below (by (with_reducible repeat (first | apply Kd.R_alloc | apply Kd.R_drewN | apply Kd.R_drew)); exact HO_8.out) hb); have n4_ := Aside0.mk (Kd.R_below (by (with_reducible repeat (first | apply Kd.R_alloc | apply Kd.R_drewN | apply Kd.R_drew)); exact HO_17.out) hb); have n5_ := Aside0.mk (below_step (by repeat (first | (with_reducible first | exact HB.out | apply below_alloc | apply pw_below_drewN | apply below_drew1) | exact HB.out)) hb); clear HO_0; clear HO_1; clear HO_7; clear HO_8; clear HO_17; clear HB; have HO_0 := n0_; have HO_1 := n1_; have HO_7 := n2_; have HO_8 := n3_; have HO_17 := n4_; have HB := n5_; clear n0_ n1_ n2_ n3_ n4_ n5_; (try clear hb); (try clear hb2); (try clear hk); (try clear hi)) | ((with_reducible refine gate_callee (f := 26) rfl ?_); refine goesL_ (some 28) rfl rfl Try.func26 (by kernel_rfl) rfl #[.slice A1 l1.length c1, .int .i64 (rd t198 x19_1)] rfl (by (try simp only [List.map_toArray, List.map_cons, List.map_nil]); first | done | rfl | (simp only [List.length_drop, List.length_take]; rfl)) ?_; (with_reducible refine (lamellaref02_Has.calls k1 _ _ l1 (rd t198 x19_1) t203 _ ?side1 ?side2 A14.out).mono ?_); (case side1 => repeat (first | exact (Kd.V_reads' HO_1.out).2.2 | (with_reducible refine Kd.C_alloc ?_ _) | (with_reducible refine Kd.C_drewN ?_ _) | (with_reducible refine Kd.C_drew ?_))); (case side2 => exact (Kd.V_reads' HO_1.out).2.1); rintro e w78 ⟨rfl, hb⟩; refine ⟨_, rfl, ?_⟩; have n0_ := Aside0.mk (Kd.V_below (by (with_reducible repeat (first | apply Kd.V_alloc | apply Kd.V_drewN | apply Kd.V_drew)); exact HO_0.out) hb); have n1_ := Aside0.mk (Kd.V_below (by (with_reducible repeat (first | apply Kd.V_alloc | apply Kd.V_drewN | apply Kd.V_drew)); exact HO_1.out) hb); have n2_ := Aside0.mk (Kd.R_below (by (with_reducible repeat (first | apply Kd.R_alloc | apply Kd.R_drewN | apply Kd.R_drew)); exact HO_7.out) hb); have n3_ := Aside0.mk (Kd.R_below (by (with_reducible repeat (first | apply Kd.R_alloc | apply Kd.R_drewN | apply Kd.R_drew)); exact HO_8.out) hb); have n4_ := Aside0.mk (Kd.R_below (by (with_reducible repeat (first | apply Kd.R_alloc | apply Kd.R_drewN | apply Kd.R_drew)); exact HO_17.out) hb); have n5_ := Aside0.mk (below_step (by repeat (first | (with_reducible first | exact HB.out | apply below_alloc | apply pw_below_drewN | apply below_drew1) | exact HB.out)) hb); clear HO_0; clear HO_1; clear HO_7; clear HO_8; clear HO_17; clear HB; have HO_0 := n0_; have HO_1 := n1_; have HO_7 := n2_; have HO_8 := n3_; have HO_17 := n4_; have HB := n5_; clear n0_ n1_ n2_ n3_ n4_ n5_; (try clear hb); (try clear hb2); (try clear hk); (try clear hi)) | ((with_reducible refine gate_builtin (b := .append) (xs := #[.tmp 29, .tmp 59]) rfl ?_); at_builtin; refine Kd.R_append Kd.bool (w0 := w) w.heap.size rfl (.tmp 29) (.tmp 59) 43 4 (.bool false) 1 rfl Try.underlying43 info4 rfl (by decide) (by omega) u8 x8_1 false [.bool false] (fun k_ => (w.heap.size ≤ k_)) (fun _ => False) rfl rfl ?aP (fun _ hk => hk.elim) ?aF ?aO ?aB ?aS ?aL ?_; (case aP => exact rfl); (case aB => exact (by repeat (first | (with_reducible first | exact HB.out | apply below_alloc | apply pw_below_drewN | apply below_drew1) | exact HB.out))); (case aF => exact (fun k_ hk => (Nat.le_trans (below_size (by repeat (first | (with_reducible first | exact HB.out | apply below_alloc | apply pw_below_drewN | apply below_drew1) | exact HB.out))) hk))); (case aO => exact (by (with_reducible repeat (first | apply Kd.R_alloc | apply Kd.R_drewN | apply Kd.R_drew)); exact HO_8.out)); (case aS => exact (below_size (by repeat (first | (with_reducible first | exact HB.out | apply below_alloc | apply pw_below_drewN | apply below_drew1) | exact HB.out)))); (case aL => have := LMc76.out; omega); intro v241 w79 ho hb hg hat; rw [← Ny240.out] at ho; have n0_ := Aside0.mk (Kd.V_afterv (ok := (fun k_ => ((P0_ k_ ∨ P1_ k_) ∨ w.heap.size ≤ k_) ∧ some k_ ≠ (.slice (some ad201) t198.length co9 : Value).ownBlock ∧ some k_ ≠ (.slice (some ad201) t198.length co9 : Value).ownBlock)) (by (with_reducible repeat (first | apply Kd.V_alloc | apply Kd.V_drewN | apply Kd.V_drew)); exact Kd.V_mono HO_0.out (fun _ hk => ⟨⟨hk.1, ⟨hk.2.1, hk.2.2.2⟩⟩, hk.2.2.1⟩)) hg hat); have n1_ := Aside0.mk (Kd.V_afterv (ok := (fun k_ => ((P0_ k_ ∨ P1_ k_) ∨ w.heap.size ≤ k_) ∧ some k_ ≠ (.slice (some ad201) t198.length co9 : Value).ownBlock ∧ some k_ ≠ (.slice (some ad201) t198.length co9 : Value).ownBlock)) (by (with_reducible repeat (first | apply Kd.V_alloc | apply Kd.V_drewN | apply Kd.V_drew)); exact Kd.V_mono HO_1.out (fun _ hk => ⟨⟨hk.1, ⟨hk.2.1, hk.2.2.2⟩⟩, hk.2.2.1⟩)) hg hat); have n2_ := Aside0.mk (Kd.R_over' (by (with_reducible repeat (first | apply Kd.R_alloc | apply Kd.R_drewN | apply Kd.R_drew)); exact HO_7.out) (Kd.R_typed (by (with_reducible repeat (first | apply Kd.R_alloc | apply Kd.R_drewN | apply Kd.R_drew)); exact HO_8.out)) (by decide) hg); have n3_ := Aside0.mk (Kd.R_over' (by (with_reducible repeat (first | apply Kd.R_alloc | apply Kd.R_drewN | apply Kd.R_drew)); exact HO_17.out) (Kd.R_typed (by (with_reducible repeat (first | apply Kd.R_alloc | apply Kd.R_drewN | apply Kd.R_drew)); exact HO_8.out)) (by decide) hg); have n4_ := Aside0.mk (hb); have n5_ := Aside0.mk (ho); clear HO_0; clear HO_1; clear HO_7; clear HO_17; clear HB; clear HO_8; have HO_0 := n0_; have HO_1 := n1_; have HO_7 := n2_; have HO_17 := n3_; have HB := n4_; have HO242 := n5_; clear n0_ n1_ n2_ n3_ n4_ n5_; clear ho hb hg hat))
                      go_roundg k1
                      case measure => have := HK1.out; omega
                      case rel => exact ⟨(y240), (wrap64 (x19_1 + 1)), (by first | rfl | (simp; done) | (simp [*]; done)), H', ⟨by have := HK1.out; omega⟩, ⟨by (with_reducible repeat (first | apply Kd.V_alloc | apply Kd.V_drewN | apply Kd.V_drew)); exact Kd.V_mono HO_0.out (fun _ hk => ⟨hk.1.1, ⟨hk.1.2.1, ⟨hk.2, hk.1.2.2⟩⟩⟩)⟩, ⟨by (with_reducible repeat (first | apply Kd.V_alloc | apply Kd.V_drewN | apply Kd.V_drew)); exact Kd.V_mono HO_1.out (fun _ hk => ⟨hk.1.1, ⟨hk.1.2.1, ⟨hk.2, hk.1.2.2⟩⟩⟩)⟩, ⟨by (with_reducible repeat (first | apply Kd.R_alloc | apply Kd.R_drewN | apply Kd.R_drew)); exact HO_7.out⟩, ⟨by (with_reducible repeat (first | apply Kd.R_alloc | apply Kd.R_drewN | apply Kd.R_drew)); exact HO242.out⟩, ⟨by (with_reducible repeat (first | apply Kd.R_alloc | apply Kd.R_drewN | apply Kd.R_drew)); exact HO_17.out⟩, ⟨by repeat (first | (with_reducible first | exact HB.out | apply below_alloc | apply pw_below_drewN | apply below_drew1) | exact HB.out)⟩⟩
                    · rw [if_neg c76] at H
                      exact absurd H (by simp)
                · rw [if_neg c70] at H
                  have c70b0 : (a2 == 2) = false := beq_eq_false_iff_ne.mpr c70
                  have c70b1 : (a2 != 2) = true := bne_iff_ne.mpr c70
                  by_cases c80 : x8_1.length < 140737488355328
                  · rw [if_pos c80] at H
                    have LMc80 := Aside0.mk c80
                    clear c80
                    obtain ⟨y243, hy243⟩ : ∃ y_ : List Bool, y_ = (x8_1 ++ [false]) := ⟨_, rfl⟩
                    replace H : (lamellaref02_Of.l0 k1 l0 l1 a2 t198 y243 t198 (t198.length : Int) (wrap64 (x19_1 + 1))) = some r := by first | (rw [hy243]; with_reducible exact H) | (have H2_ := (Option.bind_some _ _).symm.trans H; rw [hy243]; with_reducible exact H2_) | (have H2_ := (Option.bind_some _ _).symm.trans H; with_reducible exact H2_) | with_reducible exact H | (rw [hy243]; exact H) | exact H
                    have Ny243 := Aside0.mk hy243
                    clear hy243
                    have H' := Aside0.mk H
                    clear H
                    have p201 : 0 ≤ (x19_1 : Int) := of_decide_eq_true (by first | (with_reducible assumption) | assumption)
                    have q201 : x19_1 < (t198.length : Int) := of_decide_eq_true (by first | (with_reducible assumption) | assumption)
                    obtain ⟨ad201, e201, hx201_0⟩ := Kd.at_int (Kd.R_reads' HO_17.out).2.2 x19_1 p201 q201
                    cases e201
                    replace p201 := eq_true p201
                    replace q201 := eq_true q201
                    go_wp2_with (first | ((with_reducible refine gate_callee (f := 26) rfl ?_); refine goesL_ (some 25) rfl rfl Try.func26 (by kernel_rfl) rfl #[.slice A0 l0.length c0, .int .i64 (rd t198 x19_1)] rfl (by (try simp only [List.map_toArray, List.map_cons, List.map_nil]); first | done | rfl | (simp only [List.length_drop, List.length_take]; rfl)) ?_; (with_reducible refine (lamellaref02_Has.calls k1 _ _ l0 (rd t198 x19_1) t202 _ ?side1 ?side2 A13.out).mono ?_); (case side1 => repeat (first | exact (Kd.V_reads' HO_0.out).2.2 | (with_reducible refine Kd.C_alloc ?_ _) | (with_reducible refine Kd.C_drewN ?_ _) | (with_reducible refine Kd.C_drew ?_))); (case side2 => exact (Kd.V_reads' HO_0.out).2.1); rintro e w81 ⟨rfl, hb⟩; refine ⟨_, rfl, ?_⟩; have n0_ := Aside0.mk (Kd.V_below (by (with_reducible repeat (first | apply Kd.V_alloc | apply Kd.V_drewN | apply Kd.V_drew)); exact HO_0.out) hb); have n1_ := Aside0.mk (Kd.V_below (by (with_reducible repeat (first | apply Kd.V_alloc | apply Kd.V_drewN | apply Kd.V_drew)); exact HO_1.out) hb); have n2_ := Aside0.mk (Kd.R_below (by (with_reducible repeat (first | apply Kd.R_alloc | apply Kd.R_drewN | apply Kd.R_drew)); exact HO_7.out) hb); have n3_ := Aside0.mk (Kd.R_below (by (with_reducible repeat (first | apply Kd.R_alloc | apply Kd.R_drewN | apply Kd.R_drew)); exact HO_8.out) hb); have n4_ := Aside0.mk (Kd.R_below (by (with_reducible repeat (first | apply Kd.R_alloc | apply Kd.R_drewN | apply Kd.R_drew)); exact HO_17.out) hb); have n5_ := Aside0.mk (below_step (by repeat (first | (with_reducible first | exact HB.out | apply below_alloc | apply pw_below_drewN | apply below_drew1) | exact HB.out)) hb); clear HO_0; clear HO_1; clear HO_7; clear HO_8; clear HO_17; clear HB; have HO_0 := n0_; have HO_1 := n1_; have HO_7 := n2_; have HO_8 := n3_; have HO_17 := n4_; have HB := n5_; clear n0_ n1_ n2_ n3_ n4_ n5_; (try clear hb); (try clear hb2); (try clear hk); (try clear hi)) | ((with_reducible refine gate_callee (f := 26) rfl ?_); refine goesL_ (some 28) rfl rfl Try.func26 (by kernel_rfl) rfl #[.slice A1 l1.length c1, .int .i64 (rd t198 x19_1)] rfl (by (try simp only [List.map_toArray, List.map_cons, List.map_nil]); first | done | rfl | (simp only [List.length_drop, List.length_take]; rfl)) ?_; (with_reducible refine (lamellaref02_Has.calls k1 _ _ l1 (rd t198 x19_1) t203 _ ?side1 ?side2 A14.out).mono ?_); (case side1 => repeat (first | exact (Kd.V_reads' HO_1.out).2.2 | (with_reducible refine Kd.C_alloc ?_ _) | (with_reducible refine Kd.C_drewN ?_ _) | (with_reducible refine Kd.C_drew ?_))); (case side2 => exact (Kd.V_reads' HO_1.out).2.1); rintro e w82 ⟨rfl, hb⟩; refine ⟨_, rfl, ?_⟩; have n0_ := Aside0.mk (Kd.V_below (by (with_reducible repeat (first | apply Kd.V_alloc | apply Kd.V_drewN | apply Kd.V_drew)); exact HO_0.out) hb); have n1_ := Aside0.mk (Kd.V_below (by (with_reducible repeat (first | apply Kd.V_alloc | apply Kd.V_drewN | apply Kd.V_drew)); exact HO_1.out) hb); have n2_ := Aside0.mk (Kd.R_below (by (with_reducible repeat (first | apply Kd.R_alloc | apply Kd.R_drewN | apply Kd.R_drew)); exact HO_7.out) hb); have n3_ := Aside0.mk (Kd.R_below (by (with_reducible repeat (first | apply Kd.R_alloc | apply Kd.R_drewN | apply Kd.R_drew)); exact HO_8.out) hb); have n4_ := Aside0.mk (Kd.R_below (by (with_reducible repeat (first | apply Kd.R_alloc | apply Kd.R_drewN | apply Kd.R_drew)); exact HO_17.out) hb); have n5_ := Aside0.mk (below_step (by repeat (first | (with_reducible first | exact HB.out | apply below_alloc | apply pw_below_drewN | apply below_drew1) | exact HB.out)) hb); clear HO_0; clear HO_1; clear HO_7; clear HO_8; clear HO_17; clear HB; have HO_0 := n0_; have HO_1 := n1_; have HO_7 := n2_; have HO_8 := n3_; have HO_17 := n4_; have HB := n5_; clear n0_ n1_ n2_ n3_ n4_ n5_; (try clear hb); (try clear hb2); (try clear hk); (try clear hi)) | ((with_reducible refine gate_builtin (b := .append) (xs := #[.tmp 29, .tmp 59]) rfl ?_); at_builtin; refine Kd.R_append Kd.bool (w0 := w) w.heap.size rfl (.tmp 29) (.tmp 59) 43 4 (.bool false) 1 rfl Try.underlying43 info4 rfl (by decide) (by omega) u8 x8_1 false [.bool false] (fun k_ => (w.heap.size ≤ k_)) (fun _ => False) rfl rfl ?aP (fun _ hk => hk.elim) ?aF ?aO ?aB ?aS ?aL ?_; (case aP => exact rfl); (case aB => exact (by repeat (first | (with_reducible first | exact HB.out | apply below_alloc | apply pw_below_drewN | apply below_drew1) | exact HB.out))); (case aF => exact (fun k_ hk => (Nat.le_trans (below_size (by repeat (first | (with_reducible first | exact HB.out | apply below_alloc | apply pw_below_drewN | apply below_drew1) | exact HB.out))) hk))); (case aO => exact (by (with_reducible repeat (first | apply Kd.R_alloc | apply Kd.R_drewN | apply Kd.R_drew)); exact HO_8.out)); (case aS => exact (below_size (by repeat (first | (with_reducible first | exact HB.out | apply below_alloc | apply pw_below_drewN | apply below_drew1) | exact HB.out)))); (case aL => have := LMc80.out; omega); intro v244 w83 ho hb hg hat; rw [← Ny243.out] at ho; have n0_ := Aside0.mk (Kd.V_afterv (ok := (fun k_ => ((P0_ k_ ∨ P1_ k_) ∨ w.heap.size ≤ k_) ∧ some k_ ≠ (.slice (some ad201) t198.length co9 : Value).ownBlock ∧ some k_ ≠ (.slice (some ad201) t198.length co9 : Value).ownBlock)) (by (with_reducible repeat (first | apply Kd.V_alloc | apply Kd.V_drewN | apply Kd.V_drew)); exact Kd.V_mono HO_0.out (fun _ hk => ⟨⟨hk.1, ⟨hk.2.1, hk.2.2.2⟩⟩, hk.2.2.1⟩)) hg hat); have n1_ := Aside0.mk (Kd.V_afterv (ok := (fun k_ => ((P0_ k_ ∨ P1_ k_) ∨ w.heap.size ≤ k_) ∧ some k_ ≠ (.slice (some ad201) t198.length co9 : Value).ownBlock ∧ some k_ ≠ (.slice (some ad201) t198.length co9 : Value).ownBlock)) (by (with_reducible repeat (first | apply Kd.V_alloc | apply Kd.V_drewN | apply Kd.V_drew)); exact Kd.V_mono HO_1.out (fun _ hk => ⟨⟨hk.1, ⟨hk.2.1, hk.2.2.2⟩⟩, hk.2.2.1⟩)) hg hat); have n2_ := Aside0.mk (Kd.R_over' (by (with_reducible repeat (first | apply Kd.R_alloc | apply Kd.R_drewN | apply Kd.R_drew)); exact HO_7.out) (Kd.R_typed (by (with_reducible repeat (first | apply Kd.R_alloc | apply Kd.R_drewN | apply Kd.R_drew)); exact HO_8.out)) (by decide) hg); have n3_ := Aside0.mk (Kd.R_over' (by (with_reducible repeat (first | apply Kd.R_alloc | apply Kd.R_drewN | apply Kd.R_drew)); exact HO_17.out) (Kd.R_typed (by (with_reducible repeat (first | apply Kd.R_alloc | apply Kd.R_drewN | apply Kd.R_drew)); exact HO_8.out)) (by decide) hg); have n4_ := Aside0.mk (hb); have n5_ := Aside0.mk (ho); clear HO_0; clear HO_1; clear HO_7; clear HO_17; clear HB; clear HO_8; have HO_0 := n0_; have HO_1 := n1_; have HO_7 := n2_; have HO_17 := n3_; have HB := n4_; have HO245 := n5_; clear n0_ n1_ n2_ n3_ n4_ n5_; clear ho hb hg hat))
                    go_roundg k1
                    case measure => have := HK1.out; omega
                    case rel => exact ⟨(y243), (wrap64 (x19_1 + 1)), (by first | rfl | (simp; done) | (simp [*]; done)), H', ⟨by have := HK1.out; omega⟩, ⟨by (with_reducible repeat (first | apply Kd.V_alloc | apply Kd.V_drewN | apply Kd.V_drew)); exact Kd.V_mono HO_0.out (fun _ hk => ⟨hk.1.1, ⟨hk.1.2.1, ⟨hk.2, hk.1.2.2⟩⟩⟩)⟩, ⟨by (with_reducible repeat (first | apply Kd.V_alloc | apply Kd.V_drewN | apply Kd.V_drew)); exact Kd.V_mono HO_1.out (fun _ hk => ⟨hk.1.1, ⟨hk.1.2.1, ⟨hk.2, hk.1.2.2⟩⟩⟩)⟩, ⟨by (with_reducible repeat (first | apply Kd.R_alloc | apply Kd.R_drewN | apply Kd.R_drew)); exact HO_7.out⟩, ⟨by (with_reducible repeat (first | apply Kd.R_alloc | apply Kd.R_drewN | apply Kd.R_drew)); exact HO245.out⟩, ⟨by (with_reducible repeat (first | apply Kd.R_alloc | apply Kd.R_drewN | apply Kd.R_drew)); exact HO_17.out⟩, ⟨by repeat (first | (with_reducible first | exact HB.out | apply below_alloc | apply pw_below_drewN | apply below_drew1) | exact HB.out)⟩⟩
                  · rw [if_neg c80] at H
                    exact absurd H (by simp)
          · rw [if_neg c12] at H
            exact absurd H (by simp)
        · rw [if_neg c11] at H
          exact absurd H (by simp)
      · rw [if_neg c10] at H
        have c10b0 : decide (x19_1 < (t198.length : Int)) = false := decide_eq_false c10
        clear c10
        replace H := Option.bind_eq_some_iff.mp H
        obtain ⟨t246, A840, H⟩ := H
        replace H : (some t246) = some r := H
        have A84 := Aside0.mk A840
        clear A840
        obtain rfl := Option.some.inj H
        obtain ⟨Ao85, co85, eo85⟩ := Kd.R_slice HO_8.out
        subst eo85
        go_wp2_with (first | ((with_reducible refine gate_callee (f := 52) rfl ?_); refine goesL_ (some 64) rfl rfl Try.func52 (by kernel_rfl) rfl #[.slice Ao9 t198.length co9, .slice Ao85 x8_1.length co85] rfl (by (try simp only [List.map_toArray, List.map_cons, List.map_nil]); first | done | rfl | (simp only [List.length_drop, List.length_take]; rfl)) ?_; (with_reducible refine (lamellaref02_Build.calls k1 _ _ t198 _ _ x8_1 t246 _ ?side1 ?side2 ?side3 ?side4 A84.out).mono ?_); (case side1 => repeat (first | exact (Kd.R_reads' HO_7.out).2.2 | (with_reducible refine Kd.C_alloc ?_ _) | (with_reducible refine Kd.C_drewN ?_ _) | (with_reducible refine Kd.C_drew ?_))); (case side2 => exact (Kd.R_reads' HO_7.out).2.1); (case side3 => repeat (first | exact (Kd.R_reads' HO_8.out).2.2 | (with_reducible refine Kd.C_alloc ?_ _) | (with_reducible refine Kd.C_drewN ?_ _) | (with_reducible refine Kd.C_drew ?_))); (case side4 => exact (Kd.R_reads' HO_8.out).2.1); rintro e w86 ⟨v247, rfl, ho0, hb⟩; refine ⟨_, rfl, ?_⟩; have n0_ := Aside0.mk (Kd.V_elder' (by (with_reducible repeat (first | apply Kd.V_alloc | apply Kd.V_drewN | apply Kd.V_drew)); exact HO_0.out) (Kd.R_base ho0) hb); have n1_ := Aside0.mk (Kd.V_elder' (by (with_reducible repeat (first | apply Kd.V_alloc | apply Kd.V_drewN | apply Kd.V_drew)); exact HO_1.out) (Kd.R_base ho0) hb); have n2_ := Aside0.mk (Kd.R_below (by (with_reducible repeat (first | apply Kd.R_alloc | apply Kd.R_drewN | apply Kd.R_drew)); exact HO_7.out) hb); have n3_ := Aside0.mk (Kd.R_below (by (with_reducible repeat (first | apply Kd.R_alloc | apply Kd.R_drewN | apply Kd.R_drew)); exact HO_8.out) hb); have n4_ := Aside0.mk (Kd.R_below (by (with_reducible repeat (first | apply Kd.R_alloc | apply Kd.R_drewN | apply Kd.R_drew)); exact HO_17.out) hb); have n5_ := Aside0.mk (Kd.R_lower (Kd.R_newM (M := fun k_ => (w.heap.size ≤ k_)) ho0 (below_size (by repeat (first | (with_reducible first | exact HB.out | apply below_alloc | apply pw_below_drewN | apply below_drew1) | exact HB.out))) (fun k_ h_ => h_)) (below_size (by repeat (first | (with_reducible first | exact HB.out | apply below_alloc | apply pw_below_drewN | apply below_drew1) | exact HB.out)))); have n6_ := Aside0.mk (below_step (by repeat (first | (with_reducible first | exact HB.out | apply below_alloc | apply pw_below_drewN | apply below_drew1) | exact HB.out)) hb); clear HO_0; clear HO_1; clear HO_7; clear HO_8; clear HO_17; clear HB; have HO_0 := n0_; have HO_1 := n1_; have HO_7 := n2_; have HO_8 := n3_; have HO_17 := n4_; have HO248 := n5_; have HB := n6_; clear n0_ n1_ n2_ n3_ n4_ n5_ n6_; (try clear hb); (try clear hb2); (try clear hk); (try clear hi); (try clear ho0)))
        go_ret
        exact ⟨_, by first | rfl | (simp [errW_none, errW_some] <;> rfl) | (simp [*, errW_none, errW_some] <;> rfl), by (with_reducible repeat (first | apply Kd.R_alloc | apply Kd.R_drewN | apply Kd.R_drew)); exact Kd.R_mono HO248.out (fun _ hk => hk.1), by repeat (first | (with_reducible first | exact HB.out | apply below_alloc | apply pw_below_drewN | apply below_drew1) | exact HB.out)⟩
end Go.Proofs.Ytgncbhpmnjfhhaa.S
end
section
namespace Go.Proofs.Ytgncbhpmnjfhhaa.S
open Go.RowKit Go.Proofs.YtgncbhpmnjfhhaaW.PrintWords Go.Proofs.YtgncbhpmnjfhhaaW.PrintLast Go.Proofs.YtgncbhpmnjfhhaaW.PrintMore
set_option linter.unusedVariables false
set_option linter.unusedSimpArgs false
abbrev Rise (l : List Int) : Prop := l.Pairwise (· < ·)
def insGo (l0 : List Int) (n : Int) : List Int → Bool → List Int → List Int
  | [], laid, out => if laid = true then out else out ++ [n]
  | x :: r, laid, out => if x = n then l0 else if x > n then (if laid = true then insGo l0 n r laid (out ++ [x]) else insGo l0 n r true (out ++ [n] ++ [x])) else insGo l0 n r laid (out ++ [x])
def insL (l : List Int) (n : Int) : List Int := insGo l n l false []
theorem insGo_ok (l0 : List Int) (n : Int) : ∀ (rest pre : List Int) (laid : Bool) (out : List Int), l0 = pre ++ rest → Rise l0 → Rise out → (∀ x ∈ out, ∀ y ∈ rest, x < y) → out.length ≤ pre.length + (if laid then 1 else 0) →
    (laid = true → (∀ x, x ∈ out ↔ x = n ∨ x ∈ pre) ∧ ∀ y ∈ rest, n < y) → (laid = false → out = pre ∧ ∀ y ∈ pre, y < n) →
    Rise (insGo l0 n rest laid out) ∧ (∀ x, x ∈ insGo l0 n rest laid out ↔ x = n ∨ x ∈ l0) ∧ (insGo l0 n rest laid out).length ≤ l0.length + 1
  | [], pre, laid, out, he, hr, ho, hlt, hlen, h1, h2 => by
    rw [List.append_nil] at he
    subst he
    cases laid with
    | true =>
      simp only [insGo, if_true]
      exact ⟨ho, (h1 rfl).1, by simpa using hlen⟩
    | false =>
      obtain ⟨rfl, h3⟩ := h2 rfl
      simp only [insGo]
      rw [if_neg (by decide)]
      refine ⟨List.pairwise_append.2 ⟨ho, by simp, fun x hx y hy => ?_⟩, fun x => ?_, by simp⟩
      · simp at hy; rw [hy]; exact h3 x hx
      · simp [or_comm]
  | x :: r, pre, laid, out, he, hr, ho, hlt, hlen, h1, h2 => by
    have hr2 := hr
    rw [he] at hr2
    obtain ⟨r1, r2, r3⟩ := List.pairwise_append.1 hr2
    obtain ⟨r4, r5⟩ := List.pairwise_cons.1 r2
    have he2 : l0 = (pre ++ [x]) ++ r := by rw [he, List.append_assoc]; rfl
    simp only [insGo]
    by_cases hx : x = n
    · rw [if_pos hx]
      refine ⟨hr, fun y => ⟨.inr, ?_⟩, by omega⟩
      rintro (rfl | h)
      · rw [← hx, he]; simp
      · exact h
    · rw [if_neg hx]
      by_cases hg : x > n
      · rw [if_pos hg]
        cases laid with
        | true =>
          rw [if_pos rfl]
          obtain ⟨k1, k2⟩ := h1 rfl
          refine insGo_ok l0 n r (pre ++ [x]) true _ he2 hr (List.pairwise_append.2 ⟨ho, by simp, fun u hu y hy => ?_⟩) (fun u hu y hy => ?_) (by simp at hlen ⊢; omega) (fun _ => ⟨fun u => ?_, fun y hy => k2 y (List.mem_cons_of_mem _ hy)⟩) (fun h => by cases h)
          · simp at hy; rw [hy]; exact hlt u hu x List.mem_cons_self
          · rcases List.mem_append.1 hu with hu | hu
            · exact hlt u hu y (List.mem_cons_of_mem _ hy)
            · simp at hu; rw [hu]; exact r4 y hy
          · rw [List.mem_append, k1, List.mem_append, or_assoc]
        | false =>
          rw [if_neg (by decide)]
          obtain ⟨rfl, k2⟩ := h2 rfl
          refine insGo_ok l0 n r (out ++ [x]) true _ he2 hr ?_ (fun u hu y hy => ?_) (by simp) (fun _ => ⟨fun u => ?_, fun y hy => by have := r4 y hy; omega⟩) (fun h => by cases h)
          · refine List.pairwise_append.2 ⟨List.pairwise_append.2 ⟨ho, by simp, fun u hu y hy => ?_⟩, by simp, fun u hu y hy => ?_⟩
            · simp at hy; rw [hy]; exact k2 u hu
            · simp at hy; rw [hy]
              rcases List.mem_append.1 hu with hu | hu
              · exact hlt u hu x List.mem_cons_self
              · simp at hu; rw [hu]; exact hg
          · simp at hu
            rcases hu with hu | rfl | rfl
            · exact hlt u hu y (List.mem_cons_of_mem _ hy)
            · have := r4 y hy; omega
            · exact r4 y hy
          · simp
            constructor
            · rintro (h | h | h)
              · exact .inr (.inl h)
              · exact .inl h
              · exact .inr (.inr h)
            · rintro (h | h | h)
              · exact .inr (.inl h)
              · exact .inl h
              · exact .inr (.inr h)
      · rw [if_neg hg]
        have hxn : x < n := by omega
        cases laid with
        | true =>
          have := (h1 rfl).2 x List.mem_cons_self
          omega
        | false =>
          obtain ⟨rfl, k2⟩ := h2 rfl
          refine insGo_ok l0 n r (out ++ [x]) false _ he2 hr (List.pairwise_append.2 ⟨ho, by simp, fun u hu y hy => ?_⟩) (fun u hu y hy => ?_) (by simp) (fun h => by cases h) (fun _ => ⟨rfl, fun y hy => ?_⟩)
          · simp at hy; rw [hy]; exact hlt u hu x List.mem_cons_self
          · rcases List.mem_append.1 hu with hu | hu
            · exact hlt u hu y (List.mem_cons_of_mem _ hy)
            · simp at hu; rw [hu]; exact r4 y hy
          · rcases List.mem_append.1 hy with hy | hy
            · exact k2 y hy
            · simp at hy; rw [hy]; exact hxn
theorem insL_ok {l : List Int} (n : Int) (h : Rise l) : Rise (insL l n) ∧ (∀ x, x ∈ insL l n ↔ x = n ∨ x ∈ l) ∧ (insL l n).length ≤ l.length + 1 :=
  insGo_ok l n l [] false [] rfl h List.Pairwise.nil (fun x hx => by cases hx) (by simp) (fun h => by cases h) (fun _ => ⟨rfl, fun y hy => by cases hy⟩)
theorem rdI_nat (l : List Int) (i : Nat) (h : i < l.length) : rd l (i : Int) = l[i] := by unfold rd; rw [Int.toNat_natCast, List.getD_eq_getElem?_getD, List.getElem?_eq_getElem h]; rfl
theorem in_loop (l : List Int) (n : Int) (hb : l.length < 1000000000) : ∀ (m k : Nat) (out : List Int) (laid : Bool) (i : Nat), i ≤ l.length → l.length - i = m → out.length ≤ 2 * i + 1 → m < k →
    lamellaref02_in.l0 k l n out laid l (l.length : Int) (i : Int) = some (insGo l n (l.drop i) laid out) := by
  intro m
  induction m with
  | zero =>
    intro k out laid i hi hm ho hk
    obtain ⟨k, rfl⟩ : ∃ q, k = q + 1 := ⟨k - 1, by omega⟩
    simp only [lamellaref02_in.l0]
    rw [if_neg (by omega), List.drop_eq_nil_of_le (by omega)]
    simp only [insGo]
    cases laid with
    | true => rfl
    | false => rw [if_neg (by decide), if_pos (by omega), if_neg (by decide)]
  | succ m ih =>
    intro k out laid i hi hm ho hk
    obtain ⟨k, rfl⟩ : ∃ q, k = q + 1 := ⟨k - 1, by omega⟩
    have hlt : i < l.length := by omega
    simp only [lamellaref02_in.l0]
    rw [if_pos (by omega), if_pos (by omega), if_pos (by omega), rdI_nat l i hlt, wrap_in ((i : Int) + 1) (by omega) (by omega), List.drop_eq_getElem_cons hlt]
    simp only [insGo]
    have hI : ∀ (o : List Int) (ld : Bool), o.length ≤ 2 * (i + 1) + 1 → lamellaref02_in.l0 k l n o ld l (l.length : Int) ((i : Int) + 1) = some (insGo l n (l.drop (i + 1)) ld o) := fun o ld h => ih k o ld (i + 1) (by omega) (by omega) h (by omega)
    by_cases hx : l[i] = n
    · rw [if_pos hx, if_pos hx]
    · rw [if_neg hx, if_neg hx]
      by_cases hg : l[i] > n
      · rw [if_pos hg, if_pos hg]
        cases laid with
        | true => rw [if_pos rfl, if_pos rfl, if_pos (by omega), hI _ _ (by simp; omega)]
        | false => rw [if_neg (show ¬ (false = true) by decide), if_neg (show ¬ (false = true) by decide), if_pos (by omega), Option.bind_some, if_pos (by simp; omega), hI _ _ (by simp; omega)]
      · rw [if_neg hg, if_neg hg, if_pos (by omega), hI _ _ (by simp; omega)]
theorem in_spec (l : List Int) (n : Int) (hb : l.length < 1000000000) : ∀ k, l.length < k → lamellaref02_in.f k l n = some (insL l n) := fun k hk => in_loop l n hb l.length k [] false 0 (by omega) (by omega) (by simp) hk
def endStep (out : List Int) (s : S30) : List Int := if s.f0 < s.f1 then insL (insL out s.f0) s.f1 else out
theorem endStep_ok {out : List Int} (s : S30) (h : Rise out) : Rise (endStep out s) ∧ (∀ x, x ∈ endStep out s ↔ x ∈ out ∨ s.f0 < s.f1 ∧ (x = s.f0 ∨ x = s.f1)) ∧ (endStep out s).length ≤ out.length + 2 := by
  unfold endStep
  split
  · rename_i hs
    obtain ⟨a1, a2, a3⟩ := insL_ok s.f0 h
    obtain ⟨b1, b2, b3⟩ := insL_ok s.f1 a1
    refine ⟨b1, fun x => ?_, by omega⟩
    rw [b2, a2]
    constructor
    · rintro (h | h | h)
      · exact .inr ⟨hs, .inr h⟩
      · exact .inr ⟨hs, .inl h⟩
      · exact .inl h
    · rintro (h | ⟨_, h | h⟩)
      · exact .inr (.inr h)
      · exact .inr (.inl h)
      · exact .inl h
  · rename_i hs
    exact ⟨h, fun x => ⟨.inl, fun h => h.elim id (fun h => absurd h.1 hs)⟩, by omega⟩
theorem ends_ok : ∀ (l : List S30) (out : List Int), Rise out → Rise (l.foldl endStep out) ∧ (∀ x, x ∈ l.foldl endStep out ↔ x ∈ out ∨ ∃ s ∈ l, s.f0 < s.f1 ∧ (x = s.f0 ∨ x = s.f1)) ∧ (l.foldl endStep out).length ≤ out.length + 2 * l.length
  | [], out, h => ⟨h, fun x => ⟨.inl, fun h => h.elim id (fun ⟨s, hs, _⟩ => by cases hs)⟩, by simp⟩
  | s :: l, out, h => by
    obtain ⟨a1, a2, a3⟩ := endStep_ok s h
    obtain ⟨b1, b2, b3⟩ := ends_ok l _ a1
    refine ⟨b1, fun x => ?_, by rw [List.foldl_cons]; simp only [List.length_cons]; omega⟩
    rw [List.foldl_cons, b2, a2, or_assoc]
    constructor
    · rintro (h | h | ⟨t, ht, h⟩)
      · exact .inl h
      · exact .inr ⟨s, List.mem_cons_self, h⟩
      · exact .inr ⟨t, List.mem_cons_of_mem _ ht, h⟩
    · rintro (h | ⟨t, ht, h⟩)
      · exact .inl h
      · rcases List.mem_cons.1 ht with rfl | ht
        · exact .inr (.inl h)
        · exact .inr (.inr ⟨t, ht, h⟩)
def endsL (rows : List (List S30)) : List Int := rows.foldl (fun o l => l.foldl endStep o) []
section
variable {rows : List (List S30)} {r : List Int}
theorem ends_l1 (row : List S30) (hrow : row.length < 1000000) (la : Int) : ∀ (m k : Nat) (out : List Int) (i : Int) (jn K : Nat), Rise out → jn ≤ row.length → row.length - jn = m → out.length + 2 * m < 100000000 → (out.length + 2 * m) + 2 ≤ K →
    (∀ k, K ≤ k → lamellaref02_Ends.l0 k ((row.drop jn).foldl endStep out) rows la (wrap64 (i + 1)) = some r) → K + m + 1 ≤ k → lamellaref02_Ends.l1 k out rows la i row (row.length : Int) (jn : Int) = some r := by
  intro m
  induction m with
  | zero =>
    intro k out i jn K hri hjn hm ho hK h hk
    obtain ⟨k, rfl⟩ : ∃ q, k = q + 1 := ⟨k - 1, by omega⟩
    simp only [lamellaref02_Ends.l1]
    rw [if_neg (by omega)]
    rw [List.drop_eq_nil_of_le (by omega)] at h
    exact h k (by omega)
  | succ m ih =>
    intro k out i jn K hri hjn hm ho hK h hk
    obtain ⟨k, rfl⟩ : ∃ q, k = q + 1 := ⟨k - 1, by omega⟩
    have hlt : jn < row.length := by omega
    simp only [lamellaref02_Ends.l1]
    rw [if_pos (by omega), if_pos (by omega), if_pos (by omega), rd_nat, getD_at row jn hlt, wrap_in ((jn : Int) + 1) (by omega) (by omega)]
    rw [List.drop_eq_getElem_cons hlt, List.foldl_cons] at h
    obtain ⟨e1, _, e3⟩ := endStep_ok row[jn] hri
    unfold endStep at h e1 e3
    by_cases hs : (row[jn]).f0 < (row[jn]).f1
    · rw [if_pos hs] at h e1 e3
      obtain ⟨q1, _, q3⟩ := insL_ok (row[jn]).f0 hri
      rw [if_pos hs, in_spec _ _ (by omega) k (by omega), Option.bind_some, in_spec _ _ (by omega) k (by omega), Option.bind_some]
      exact ih k _ i (jn + 1) K e1 (by omega) (by omega) (by omega) (by omega) h (by omega)
    · rw [if_neg hs] at h
      rw [if_neg hs]
      exact ih k _ i (jn + 1) K hri (by omega) (by omega) (by omega) (by omega) h (by omega)
end
theorem ends_two (a b : List S30) (ha : a.length < 1000000) (hb : b.length < 1000000) : ∀ k, 5 * (a.length + b.length) + 20 < k → lamellaref02_Ends.f k [a, b] = some (endsL [a, b]) := by
  intro k hk
  unfold lamellaref02_Ends.f
  obtain ⟨k, rfl⟩ : ∃ q, k = q + 1 := ⟨k - 1, by omega⟩
  simp only [lamellaref02_Ends.l0]
  rw [if_pos (by simp), if_pos (by omega), if_pos (by simp), show rd_L2 [a, b] 0 = a from rfl]
  obtain ⟨a1, _, a3⟩ := ends_ok a [] List.Pairwise.nil
  simp only [List.length_nil, Nat.zero_add] at a3
  refine ends_l1 a ha _ a.length k [] 0 0 (2 * (a.length + b.length) + b.length + 10) List.Pairwise.nil (by omega) rfl (by simp; omega) (by simp; omega) (fun z hz => ?_) (by omega)
  obtain ⟨z, rfl⟩ : ∃ q, z = q + 1 := ⟨z - 1, by omega⟩
  rw [show wrap64 (0 + 1) = 1 from wrap_in _ (by omega) (by omega), List.drop_zero]
  simp only [lamellaref02_Ends.l0]
  rw [if_pos (by simp), if_pos (by omega), if_pos (by simp), show rd_L2 [a, b] 1 = b from rfl]
  refine ends_l1 b hb _ b.length z _ 1 0 (2 * (a.length + b.length) + 3) a1 (by omega) rfl (by omega) (by omega) (fun z hz => ?_) (by omega)
  obtain ⟨z, rfl⟩ : ∃ q, z = q + 1 := ⟨z - 1, by omega⟩
  rw [show wrap64 (1 + 1) = 2 from wrap_in _ (by omega) (by omega), List.drop_zero]
  simp only [lamellaref02_Ends.l0]
  rw [if_neg (by simp)]
  rfl
theorem endsL_ok (a b : List S30) : Rise (endsL [a, b]) ∧ (∀ x, x ∈ endsL [a, b] ↔ ∃ s ∈ a ++ b, s.f0 < s.f1 ∧ (x = s.f0 ∨ x = s.f1)) ∧ (endsL [a, b]).length ≤ 2 * (a.length + b.length) := by
  have e : endsL [a, b] = (a ++ b).foldl endStep [] := by simp [endsL, List.foldl_append]
  rw [e]
  obtain ⟨h1, h2, h3⟩ := ends_ok (a ++ b) [] List.Pairwise.nil
  refine ⟨h1, fun x => ?_, by simpa using h3⟩
  rw [h2]
  simp
def hasL (l : List S30) (x : Int) : Bool := l.any fun s => decide (s.f0 ≤ x) && decide (x < s.f1)
theorem hasL_iff (l : List S30) (x : Int) : hasL l x = true ↔ memS x l := by
  unfold hasL
  rw [List.any_eq_true]
  constructor
  · rintro ⟨s, hs, h⟩
    simp at h
    exact ⟨s, hs, h⟩
  · rintro ⟨s, hs, h⟩
    exact ⟨s, hs, by simp; exact h⟩
theorem has_loop (l : List S30) (x : Int) (hb : l.length < 1000000000) : ∀ (m k : Nat) (i : Nat), i ≤ l.length → l.length - i = m → m < k → lamellaref02_Has.l0 k x l (l.length : Int) (i : Int) = some (hasL (l.drop i) x) := by
  intro m
  induction m with
  | zero =>
    intro k i hi hm hk
    obtain ⟨k, rfl⟩ : ∃ q, k = q + 1 := ⟨k - 1, by omega⟩
    simp only [lamellaref02_Has.l0]
    rw [if_neg (by omega), List.drop_eq_nil_of_le (by omega)]
    rfl
  | succ m ih =>
    intro k i hi hm hk
    obtain ⟨k, rfl⟩ : ∃ q, k = q + 1 := ⟨k - 1, by omega⟩
    have hlt : i < l.length := by omega
    simp only [lamellaref02_Has.l0]
    rw [if_pos (by omega), if_pos (by omega), if_pos (by omega), rd_nat, getD_at l i hlt, wrap_in ((i : Int) + 1) (by omega) (by omega), List.drop_eq_getElem_cons hlt]
    have h := ih k (i + 1) (by omega) (by omega) (by omega)
    rw [show ((i + 1 : Nat) : Int) = (i : Int) + 1 from rfl] at h
    unfold hasL at h ⊢
    rw [List.any_cons]
    by_cases h1 : (l[i]).f0 ≤ x
    · rw [if_pos h1]
      by_cases h2 : x < (l[i]).f1
      · rw [if_pos h2]; simp [h1, h2]
      · rw [if_neg h2, h]; simp [h1, h2]
    · rw [if_neg h1, h]; simp [h1]
theorem has_spec (l : List S30) (x : Int) (hb : l.length < 1000000000) : ∀ k, l.length < k → lamellaref02_Has.f k l x = some (hasL l x) := fun k hk => has_loop l x hb l.length k 0 (by omega) (by omega) hk
end Go.Proofs.Ytgncbhpmnjfhhaa.S
end
section
namespace Go.Proofs.Ytgncbhpmnjfhhaa.S
open Go.RowKit Go.Proofs.YtgncbhpmnjfhhaaW.PrintWords Go.Proofs.YtgncbhpmnjfhhaaW.PrintLast Go.Proofs.YtgncbhpmnjfhhaaW.PrintMore
set_option linter.unusedVariables false
set_option linter.unusedSimpArgs false
def bothS (s t : S30) : S30 := ⟨max s.f0 t.f0, min s.f1 t.f1⟩
theorem mn_min (a b : Int) : mn a b = min a b := by unfold mn; omega
theorem both_f (s t : S30) : span_both.f s.f0 s.f1 t.f0 t.f1 = some ((bothS s t).f0, (bothS s t).f1) := by
  unfold span_both.f bothS
  rw [mx_max, mn_min]
end Go.Proofs.Ytgncbhpmnjfhhaa.S
end
section
namespace Go.Proofs.Ytgncbhpmnjfhhaa.S
open Go.RowKit Go.Proofs.YtgncbhpmnjfhhaaW.PrintWords Go.Proofs.YtgncbhpmnjfhhaaW.PrintLast Go.Proofs.YtgncbhpmnjfhhaaW.PrintMore
set_option linter.unusedVariables false
set_option linter.unusedSimpArgs false
def inB (s : S30) (x : Int) : Bool := decide (s.f0 ≤ x) && decide (x < s.f1)
set_option maxHeartbeats 4000000 in
set_option maxRecDepth 100000 in
theorem pred54 (s : S30) (x : Int) (B : Nat) (w : World) (hB : w.cell? ⟨B, 0, none⟩ = some (.int .i64 x)) :
    Calls Try.prog 54 #[.agg #[.int .i64 s.f0, .int .i64 s.f1], .pointer (some ⟨B, 0, none⟩)] w (GivesBool w (inB s x)) := by
  have hu30 := Try.underlying30
  have hlt := World.block_lt_of_cell? w _ hB
  have hB2 : (w.alloc (.cells #[.int .i64 s.f0, .int .i64 s.f1] 30)).cell? ⟨B, 0, none⟩ = some (.int .i64 x) := ((below_alloc (Below.refl w.heap.size w) _).cell hlt).trans hB
  have HLT := Aside0.mk hlt
  by_cases h1 : s.f0 ≤ x
  · have d1 : decide (s.f0 ≤ x) = true := decide_eq_true h1
    clear hlt h1
    go_enter Try.func54, Try.ntmps54
    go_wp2
    go_ret
    exact ⟨by rw [inB, d1, Bool.true_and]; rfl, below_alloc (Below.refl _ _) _⟩
  · have d1 : decide (s.f0 ≤ x) = false := decide_eq_false h1
    clear hlt h1
    go_enter Try.func54, Try.ntmps54
    go_wp2
    go_ret
    exact ⟨by rw [inB, d1, Bool.false_and]; rfl, below_alloc (Below.refl _ _) _⟩
theorem hasL_take (l : List S30) (x : Int) (k : Nat) (h : k < l.length) : hasL (l.take (k + 1)) x = (hasL (l.take k) x || inB l[k] x) := by
  rw [List.take_succ_eq_append_getElem h]
  unfold hasL
  rw [List.any_append]
  simp [inB]
theorem hasL_hit (l : List S30) (x : Int) (k : Nat) (h : k < l.length) (hi : inB l[k] x = true) : hasL l x = true := by
  unfold hasL
  exact List.any_eq_true.2 ⟨l[k], List.getElem_mem h, hi⟩
set_option maxHeartbeats 4000000 in
set_option maxRecDepth 100000 in
theorem index66 (A : Option Addr) (c : Nat) (l : List S30) (x : Int) (B : Nat) (w : World) (h : RowAt w A c l) (hB : w.cell? ⟨B, 0, none⟩ = some (.int .i64 x)) (hl : l.length < 1000000000000) :
    Calls Try.prog 66 #[.slice A l.length c, .func (.func 54) #[] #[.pointer (some ⟨B, 0, none⟩)]] w fun e w' => ∃ r : Int, e = .returned (.int .i64 r) ∧ decide (r ≥ 0) = hasL l x ∧ Below w.heap.size w w' := by
  have hu30 := Try.underlying30
  have H := Aside0.mk h
  have HBc := Aside0.mk hB
  have HL := Aside0.mk hl
  have HLT := Aside0.mk (World.block_lt_of_cell? w _ hB)
  clear h hB hl
  go_enter Try.func66, Try.ntmps66
  go_wp2
  go_loopw [8] (fun i wr => ∃ k : Nat, i = .int .i64 (k : Int) ∧ Aside0 (k ≤ l.length) ∧ Aside0 (hasL (l.take k) x = false) ∧ Aside0 (Below w.heap.size w wr)) (fun i _ => l.length - (intOf i).toNat)
  case atStart => exact ⟨0, rfl, ⟨Nat.zero_le _⟩, ⟨rfl⟩, ⟨Below.refl _ _⟩⟩
  case round =>
    obtain ⟨k, rfl, HK, HN, HB⟩ := hrel
    obtain ⟨z, hz⟩ : ∃ z : Int, z = (k : Int) := ⟨_, rfl⟩
    rw [← hz]
    have HZ := Aside0.mk hz
    have hk := HK.out
    by_cases hlt : k < l.length
    · have p0 : 0 ≤ z := by omega
      have q0 : z < (l.length : Int) := by omega
      obtain ⟨ad, e4, hx0, hx1⟩ := at_T30 (H.out.below HB.out).row z p0 q0
      have c1 : decide (z < (l.length : Int)) = true := decide_eq_true q0
      have hS : rd_T30 l z = l[k] := by rw [hz, rd_nat, getD_at l k hlt]
      obtain ⟨s, hs⟩ : ∃ s, s = l[k] := ⟨_, rfl⟩
      have hT := hasL_take l x k hlt
      have hH := hasL_hit l x k hlt
      rw [← hs] at hS hT hH
      rw [hS] at hx0 hx1
      rw [HN.out, Bool.false_or] at hT
      have HT := Aside0.mk hT
      have HH := Aside0.mk hH
      have hw : IntKind.i64.wrap (z + 1) = z + 1 := by have := HL.out; rw [IntKind.wrap_i64]; omega
      have hB2 := Aside0.mk ((HB.out.cell HLT.out).trans HBc.out)
      subst e4
      clear hT hH hs hS hz hk hlt
      by_cases hi : inB s x = true
      · have HI := Aside0.mk hi
        clear hi
        go_wp2_with (go_at_call 54; refine (pred54 s x B _ hB2.out).mono ?_; rw [HI.out]; rintro e w2 ⟨rfl, hb⟩; have HB3 := Aside0.mk (below_step HB.out hb); clear hb)
        go_ret
        exact ⟨_, rfl, by rw [HH.out HI.out]; exact decide_eq_true p0, HB3.out⟩
      · have HI := Aside0.mk (Bool.eq_false_iff.2 hi)
        clear hi
        go_wp2_with (go_at_call 54; refine (pred54 s x B _ hB2.out).mono ?_; rw [HI.out]; rintro e w2 ⟨rfl, hb⟩; have HB3 := Aside0.mk (below_step HB.out hb); clear hb)
        go_roundw
        case rel => exact ⟨k + 1, by have := HZ.out; simp [hw]; omega, ⟨by have := HZ.out; have := of_decide_eq_true c1; omega⟩, ⟨by rw [HT.out, HI.out]⟩, HB3⟩
        case measure => have := HZ.out; have := of_decide_eq_true c1; simp [intOf, hw]; omega
    · have c1 : decide (z < (l.length : Int)) = false := decide_eq_false (by omega)
      have HE := Aside0.mk (show k = l.length by omega)
      clear hlt hz hk
      go_wp2
      go_ret
      exact ⟨_, rfl, by have := HN.out; rw [HE.out, List.take_length] at this; rw [this]; rfl, HB.out⟩
set_option maxHeartbeats 4000000 in
set_option maxRecDepth 100000 in
theorem contains53 (A : Option Addr) (c : Nat) (l : List S30) (x : Int) (B : Nat) (w : World) (h : RowAt w A c l) (hB : w.cell? ⟨B, 0, none⟩ = some (.int .i64 x)) (hl : l.length < 1000000000000) :
    Calls Try.prog 53 #[.slice A l.length c, .func (.func 54) #[] #[.pointer (some ⟨B, 0, none⟩)]] w (GivesBool w (hasL l x)) := by
  have H := Aside0.mk h
  have HBc := Aside0.mk hB
  have HL := Aside0.mk hl
  clear h hB hl
  go_enter Try.func53, Try.ntmps53
  go_wp2_with (go_at_call 66; refine (index66 A c l x B _ H.out HBc.out HL.out).mono ?_; rintro e w2 ⟨r, rfl, hr, hb⟩; have HR := Aside0.mk hr; have HB := Aside0.mk hb; clear hr hb)
  go_ret
  exact ⟨by rw [← HR.out]; rfl, HB.out⟩
set_option maxHeartbeats 4000000 in
set_option maxRecDepth 100000 in
theorem hasC (A : Option Addr) (c : Nat) (l : List S30) (x : Int) (w : World) (h : RowAt w A c l) (hl : l.length < 1000000000000) :
    Calls Try.prog 25 #[.slice A l.length c, .int .i64 x] w (GivesBool w (hasL l x)) := by
  have HA := Aside0.mk (h.below (below_alloc (Below.refl w.heap.size w) (.cells #[.int .i64 x] 3)))
  have HBc := Aside0.mk ((blk_cell (blk_new w (.cells #[.int .i64 x] 3)) 0).trans rfl)
  have HL := Aside0.mk hl
  have HB0 := Aside0.mk (below_alloc (Below.refl w.heap.size w) (.cells #[.int .i64 x] 3))
  clear h hl
  go_enter Try.func25, Try.ntmps25
  go_wp2_with (go_at_call 53; refine (contains53 A c l x w.heap.size _ HA.out HBc.out HL.out).mono ?_; rintro e w2 ⟨rfl, hb⟩; have HB := Aside0.mk (below_step HB0.out hb); clear hb)
  go_ret
  exact ⟨rfl, HB.out⟩
def touchB (s t : S30) : Bool := neS s && neS t && neS (bothS s t)
def TwoB (g : Nat) (s t : S30) (W : World) : Prop := W.heap[g]? = some (Obj.cells #[.int .i64 s.f0, .int .i64 s.f1] 30 (0, 0)) ∧ W.heap[g + 1]? = some (Obj.cells #[.int .i64 t.f0, .int .i64 t.f1] 30 (0, 0))
theorem TwoB.below {g : Nat} {s t : S30} {W W' : World} (h : TwoB g s t W) (hb : Below W.heap.size W W') : TwoB g s t W' := ⟨blk_below h.1 hb, blk_below h.2 hb⟩
theorem TwoB.alloc {g : Nat} {s t : S30} {W : World} (h : TwoB g s t W) (o : Obj) : TwoB g s t (W.alloc o) := h.below (below_alloc (Below.refl _ _) o)
theorem TwoB.start (s t : S30) (w : World) : TwoB w.heap.size s t ((w.alloc (.cells #[.int .i64 s.f0, .int .i64 s.f1] 30)).alloc (.cells #[.int .i64 t.f0, .int .i64 t.f1] 30)) := by
  refine ⟨blk_below (blk_new w _) (below_alloc (Below.refl _ _) _), ?_⟩
  have := blk_new (w.alloc (.cells #[.int .i64 s.f0, .int .i64 s.f1] 30)) (.cells #[.int .i64 t.f0, .int .i64 t.f1] 30)
  rwa [World.size_alloc] at this
theorem TwoB.cells {g : Nat} {s t : S30} {W : World} (h : TwoB g s t W) : W.cell? ⟨g, 0, none⟩ = some (.int .i64 s.f0) ∧ W.cell? ⟨g, 1, none⟩ = some (.int .i64 s.f1) ∧ W.cell? ⟨g + 1, 0, none⟩ = some (.int .i64 t.f0) ∧ W.cell? ⟨g + 1, 1, none⟩ = some (.int .i64 t.f1) :=
  ⟨(blk_cell h.1 0).trans rfl, (blk_cell h.1 1).trans rfl, (blk_cell h.2 0).trans rfl, (blk_cell h.2 1).trans rfl⟩
theorem emptyC (s : S30) {b : Bool} (h : (!neS s) = b) (w : World) : Calls Try.prog 48 #[.agg #[.int .i64 s.f0, .int .i64 s.f1]] w (GivesBool w b) := by
  subst h
  exact (span_empty.calls s.f0 s.f1 (!neS s) w (empty_f s)).mono fun _ _ h => h
theorem bothC (s t : S30) {u : S30} (h : bothS s t = u) (w : World) : Calls Try.prog 55 #[.agg #[.int .i64 s.f0, .int .i64 s.f1], .agg #[.int .i64 t.f0, .int .i64 t.f1]] w fun e w' => e = .returned (.agg #[.int .i64 u.f0, .int .i64 u.f1]) ∧ Below w.heap.size w w' := by
  subst h
  exact span_both.calls _ _ _ _ _ _ w (both_f s t)
set_option maxHeartbeats 4000000 in
set_option maxRecDepth 100000 in
theorem touchC1 (s t u : S30) (hu : u = bothS s t) (h1 : (!neS s) = true) (w : World) : Calls Try.prog 27 #[.agg #[.int .i64 s.f0, .int .i64 s.f1], .agg #[.int .i64 t.f0, .int .i64 t.f1]] w (GivesBool w false) := by
  have hu30 := Try.underlying30
  subst hu
  have E1 := Aside0.mk h1
  have HB := Aside0.mk (Below.refl w.heap.size w)
  have HT := Aside0.mk (TwoB.start s t w)
  clear h1
  have tok0 : True := trivial
  generalize hu : bothS s t = u at *
  have HU := Aside0.mk hu
  clear hu
  go_enter Try.func27, Try.ntmps27
  go_wp2_with (first
    | (have _t := tok0; go_at_call 48; refine (emptyC s E1.out _).mono ?_; rintro e w1 ⟨rfl, hb⟩; have n_ := Aside0.mk (TwoB.below (by repeat (first | (with_reducible first | exact HT.out | apply TwoB.alloc) | exact HT.out)) hb); clear HT; have HT := n_; clear n_; (try clear q0 q1 q2 q3); obtain ⟨q0, q1, q2, q3⟩ := HT.out.cells; have n_ := Aside0.mk (below_step (by repeat (first | (with_reducible first | exact HB.out | apply below_alloc) | exact HB.out)) hb); clear HB; have HB := n_; clear n_ hb; clear _t tok0; have tok1 : True := trivial))
  go_ret
  exact ⟨rfl, by repeat (first | (with_reducible first | exact HB.out | apply below_alloc) | exact HB.out)⟩
set_option maxHeartbeats 4000000 in
set_option maxRecDepth 100000 in
theorem touchC2 (s t u : S30) (hu : u = bothS s t) (h1 : (!neS s) = false) (h2 : (!neS t) = true) (w : World) : Calls Try.prog 27 #[.agg #[.int .i64 s.f0, .int .i64 s.f1], .agg #[.int .i64 t.f0, .int .i64 t.f1]] w (GivesBool w false) := by
  have hu30 := Try.underlying30
  subst hu
  have E1 := Aside0.mk h1
  have E2 := Aside0.mk h2
  have HB := Aside0.mk (Below.refl w.heap.size w)
  have HT := Aside0.mk (TwoB.start s t w)
  clear h1 h2
  have tok0 : True := trivial
  generalize hu : bothS s t = u at *
  have HU := Aside0.mk hu
  clear hu
  go_enter Try.func27, Try.ntmps27
  go_wp2_with (first
    | (have _t := tok0; go_at_call 48; refine (emptyC s E1.out _).mono ?_; rintro e w1 ⟨rfl, hb⟩; have n_ := Aside0.mk (TwoB.below (by repeat (first | (with_reducible first | exact HT.out | apply TwoB.alloc) | exact HT.out)) hb); clear HT; have HT := n_; clear n_; (try clear q0 q1 q2 q3); obtain ⟨q0, q1, q2, q3⟩ := HT.out.cells; have n_ := Aside0.mk (below_step (by repeat (first | (with_reducible first | exact HB.out | apply below_alloc) | exact HB.out)) hb); clear HB; have HB := n_; clear n_ hb; clear _t tok0; have tok1 : True := trivial)
    | (have _t := tok1; go_at_call 48; refine (emptyC t E2.out _).mono ?_; rintro e w2 ⟨rfl, hb⟩; have n_ := Aside0.mk (TwoB.below (by repeat (first | (with_reducible first | exact HT.out | apply TwoB.alloc) | exact HT.out)) hb); clear HT; have HT := n_; clear n_; (try clear q0 q1 q2 q3); obtain ⟨q0, q1, q2, q3⟩ := HT.out.cells; have n_ := Aside0.mk (below_step (by repeat (first | (with_reducible first | exact HB.out | apply below_alloc) | exact HB.out)) hb); clear HB; have HB := n_; clear n_ hb; clear _t tok1; have tok2 : True := trivial))
  go_ret
  exact ⟨rfl, by repeat (first | (with_reducible first | exact HB.out | apply below_alloc) | exact HB.out)⟩
set_option maxHeartbeats 4000000 in
set_option maxRecDepth 100000 in
theorem touchC3 (s t u : S30) (hu : u = bothS s t) (h1 : (!neS s) = false) (h2 : (!neS t) = false) (h3 : (!neS (bothS s t)) = true) (w : World) : Calls Try.prog 27 #[.agg #[.int .i64 s.f0, .int .i64 s.f1], .agg #[.int .i64 t.f0, .int .i64 t.f1]] w (GivesBool w false) := by
  have hu30 := Try.underlying30
  subst hu
  have E1 := Aside0.mk h1
  have E2 := Aside0.mk h2
  have E3 := Aside0.mk h3
  have HB := Aside0.mk (Below.refl w.heap.size w)
  have HT := Aside0.mk (TwoB.start s t w)
  clear h1 h2 h3
  have tok0 : True := trivial
  generalize hu : bothS s t = u at *
  have HU := Aside0.mk hu
  clear hu
  go_enter Try.func27, Try.ntmps27
  go_wp2_with (first
    | (have _t := tok0; go_at_call 48; refine (emptyC s E1.out _).mono ?_; rintro e w1 ⟨rfl, hb⟩; have n_ := Aside0.mk (TwoB.below (by repeat (first | (with_reducible first | exact HT.out | apply TwoB.alloc) | exact HT.out)) hb); clear HT; have HT := n_; clear n_; (try clear q0 q1 q2 q3); obtain ⟨q0, q1, q2, q3⟩ := HT.out.cells; have n_ := Aside0.mk (below_step (by repeat (first | (with_reducible first | exact HB.out | apply below_alloc) | exact HB.out)) hb); clear HB; have HB := n_; clear n_ hb; clear _t tok0; have tok1 : True := trivial)
    | (have _t := tok1; go_at_call 48; refine (emptyC t E2.out _).mono ?_; rintro e w2 ⟨rfl, hb⟩; have n_ := Aside0.mk (TwoB.below (by repeat (first | (with_reducible first | exact HT.out | apply TwoB.alloc) | exact HT.out)) hb); clear HT; have HT := n_; clear n_; (try clear q0 q1 q2 q3); obtain ⟨q0, q1, q2, q3⟩ := HT.out.cells; have n_ := Aside0.mk (below_step (by repeat (first | (with_reducible first | exact HB.out | apply below_alloc) | exact HB.out)) hb); clear HB; have HB := n_; clear n_ hb; clear _t tok1; have tok2 : True := trivial)
    | (have _t := tok2; go_at_call 55; refine (bothC s t HU.out _).mono ?_; rintro e w3 ⟨rfl, hb⟩; have n_ := Aside0.mk (TwoB.below (by repeat (first | (with_reducible first | exact HT.out | apply TwoB.alloc) | exact HT.out)) hb); clear HT; have HT := n_; clear n_; (try clear q0 q1 q2 q3); obtain ⟨q0, q1, q2, q3⟩ := HT.out.cells; have n_ := Aside0.mk (below_step (by repeat (first | (with_reducible first | exact HB.out | apply below_alloc) | exact HB.out)) hb); clear HB; have HB := n_; clear n_ hb; clear _t tok2; have tok3 : True := trivial)
    | (have _t := tok3; go_at_call 48; refine (emptyC u E3.out _).mono ?_; rintro e w4 ⟨rfl, hb⟩; have n_ := Aside0.mk (TwoB.below (by repeat (first | (with_reducible first | exact HT.out | apply TwoB.alloc) | exact HT.out)) hb); clear HT; have HT := n_; clear n_; (try clear q0 q1 q2 q3); obtain ⟨q0, q1, q2, q3⟩ := HT.out.cells; have n_ := Aside0.mk (below_step (by repeat (first | (with_reducible first | exact HB.out | apply below_alloc) | exact HB.out)) hb); clear HB; have HB := n_; clear n_ hb; clear _t tok3; have tok4 : True := trivial))
  go_ret
  exact ⟨rfl, by repeat (first | (with_reducible first | exact HB.out | apply below_alloc) | exact HB.out)⟩
set_option maxHeartbeats 4000000 in
set_option maxRecDepth 100000 in
theorem touchC4 (s t u : S30) (hu : u = bothS s t) (h1 : (!neS s) = false) (h2 : (!neS t) = false) (h3 : (!neS (bothS s t)) = false) (w : World) : Calls Try.prog 27 #[.agg #[.int .i64 s.f0, .int .i64 s.f1], .agg #[.int .i64 t.f0, .int .i64 t.f1]] w (GivesBool w true) := by
  have hu30 := Try.underlying30
  subst hu
  have E1 := Aside0.mk h1
  have E2 := Aside0.mk h2
  have E3 := Aside0.mk h3
  have HB := Aside0.mk (Below.refl w.heap.size w)
  have HT := Aside0.mk (TwoB.start s t w)
  clear h1 h2 h3
  have tok0 : True := trivial
  generalize hu : bothS s t = u at *
  have HU := Aside0.mk hu
  clear hu
  go_enter Try.func27, Try.ntmps27
  go_wp2_with (first
    | (have _t := tok0; go_at_call 48; refine (emptyC s E1.out _).mono ?_; rintro e w1 ⟨rfl, hb⟩; have n_ := Aside0.mk (TwoB.below (by repeat (first | (with_reducible first | exact HT.out | apply TwoB.alloc) | exact HT.out)) hb); clear HT; have HT := n_; clear n_; (try clear q0 q1 q2 q3); obtain ⟨q0, q1, q2, q3⟩ := HT.out.cells; have n_ := Aside0.mk (below_step (by repeat (first | (with_reducible first | exact HB.out | apply below_alloc) | exact HB.out)) hb); clear HB; have HB := n_; clear n_ hb; clear _t tok0; have tok1 : True := trivial)
    | (have _t := tok1; go_at_call 48; refine (emptyC t E2.out _).mono ?_; rintro e w2 ⟨rfl, hb⟩; have n_ := Aside0.mk (TwoB.below (by repeat (first | (with_reducible first | exact HT.out | apply TwoB.alloc) | exact HT.out)) hb); clear HT; have HT := n_; clear n_; (try clear q0 q1 q2 q3); obtain ⟨q0, q1, q2, q3⟩ := HT.out.cells; have n_ := Aside0.mk (below_step (by repeat (first | (with_reducible first | exact HB.out | apply below_alloc) | exact HB.out)) hb); clear HB; have HB := n_; clear n_ hb; clear _t tok1; have tok2 : True := trivial)
    | (have _t := tok2; go_at_call 55; refine (bothC s t HU.out _).mono ?_; rintro e w3 ⟨rfl, hb⟩; have n_ := Aside0.mk (TwoB.below (by repeat (first | (with_reducible first | exact HT.out | apply TwoB.alloc) | exact HT.out)) hb); clear HT; have HT := n_; clear n_; (try clear q0 q1 q2 q3); obtain ⟨q0, q1, q2, q3⟩ := HT.out.cells; have n_ := Aside0.mk (below_step (by repeat (first | (with_reducible first | exact HB.out | apply below_alloc) | exact HB.out)) hb); clear HB; have HB := n_; clear n_ hb; clear _t tok2; have tok3 : True := trivial)
    | (have _t := tok3; go_at_call 48; refine (emptyC u E3.out _).mono ?_; rintro e w4 ⟨rfl, hb⟩; have n_ := Aside0.mk (TwoB.below (by repeat (first | (with_reducible first | exact HT.out | apply TwoB.alloc) | exact HT.out)) hb); clear HT; have HT := n_; clear n_; (try clear q0 q1 q2 q3); obtain ⟨q0, q1, q2, q3⟩ := HT.out.cells; have n_ := Aside0.mk (below_step (by repeat (first | (with_reducible first | exact HB.out | apply below_alloc) | exact HB.out)) hb); clear HB; have HB := n_; clear n_ hb; clear _t tok3; have tok4 : True := trivial))
  go_ret
  exact ⟨rfl, by repeat (first | (with_reducible first | exact HB.out | apply below_alloc) | exact HB.out)⟩
theorem touchC (s t : S30) {b : Bool} (hb : touchB s t = b) (w : World) : Calls Try.prog 27 #[.agg #[.int .i64 s.f0, .int .i64 s.f1], .agg #[.int .i64 t.f0, .int .i64 t.f1]] w (GivesBool w b) := by
  subst hb
  unfold touchB
  cases h1 : neS s with
  | false => exact touchC1 s t _ rfl (by rw [h1]; rfl) w
  | true =>
    cases h2 : neS t with
    | false => exact touchC2 s t _ rfl (by rw [h1]; rfl) (by rw [h2]; rfl) w
    | true =>
      cases h3 : neS (bothS s t) with
      | false => exact touchC3 s t _ rfl (by rw [h1]; rfl) (by rw [h2]; rfl) (by rw [h3]; rfl) w
      | true => exact touchC4 s t _ rfl (by rw [h1]; rfl) (by rw [h2]; rfl) (by rw [h3]; rfl) w
end Go.Proofs.Ytgncbhpmnjfhhaa.S
end
section
namespace Go.Proofs.Ytgncbhpmnjfhhaa.S
open Go.RowKit Go.Proofs.YtgncbhpmnjfhhaaW.PrintWords Go.Proofs.YtgncbhpmnjfhhaaW.PrintLast Go.Proofs.YtgncbhpmnjfhhaaW.PrintMore
set_option linter.unusedVariables false
set_option linter.unusedSimpArgs false
theorem ofC (k : Nat) {w : World} {A B : Option Addr} {c d : Nat} {l m r : List S30} (kind : Int) (h : RowAt w A c l) (h' : RowAt w B d m) (hf : lamellaref02_Of.f k l m kind = some r) : Calls Try.prog 20 #[.slice A l.length c, .slice B m.length d, .int .i64 kind] w (GivesRow w r) :=
  (lamellaref02_Of.calls k (fun k_ => k_ < w.heap.size) A c l (fun k_ => k_ < w.heap.size) B d m kind r w (Kd.V_mk h.cap (Kd.F_below (Kd.C_F k30_heap h.row) (Below.refl _ _))) (Kd.V_mk h'.cap (Kd.F_below (Kd.C_F k30_heap h'.row) (Below.refl _ _))) hf).mono fun e w' ⟨v, he, hr, hb⟩ =>
    gives_of ⟨v, he, Kd.R_mono hr (fun _ _ => trivial), hb⟩
theorem refHasC (k : Nat) {w : World} {A : Option Addr} {c : Nat} {l : List S30} {x : Int} {b : Bool} (h : RowAt w A c l) (hf : lamellaref02_Has.f k l x = some b) : Calls Try.prog 26 #[.slice A l.length c, .int .i64 x] w (GivesBool w b) :=
  (lamellaref02_Has.calls k A c l x b w h.row h.cap hf).mono fun _ _ h => h
theorem hasC' {w : World} {A : Option Addr} {c : Nat} {l : List S30} {x : Int} {b : Bool} (h : RowAt w A c l) (hl : l.length < 1000000000000) (hf : hasL l x = b) : Calls Try.prog 25 #[.slice A l.length c, .int .i64 x] w (GivesBool w b) := by
  subst hf; exact hasC A c l x w h hl
def ArrB (g : Nat) (s t : S30) (W : World) : Prop := W.heap[g]? = some (Obj.cells #[.int .i64 s.f0, .int .i64 s.f1, .int .i64 t.f0, .int .i64 t.f1] 33 (0, 0))
theorem ArrB.below {g : Nat} {s t : S30} {W W' : World} (h : ArrB g s t W) (hb : Below W.heap.size W W') : ArrB g s t W' := blk_below h hb
theorem ArrB.cells {g : Nat} {s t : S30} {W : World} (h : ArrB g s t W) : W.cell? ⟨g, 0, none⟩ = some (.int .i64 s.f0) ∧ W.cell? ⟨g, 1, none⟩ = some (.int .i64 s.f1) ∧ W.cell? ⟨g, 2, none⟩ = some (.int .i64 t.f0) ∧ W.cell? ⟨g, 3, none⟩ = some (.int .i64 t.f1) :=
  ⟨(blk_cell h 0).trans rfl, (blk_cell h 1).trans rfl, (blk_cell h 2).trans rfl, (blk_cell h 3).trans rfl⟩
theorem max30 : (1 : Nat) ≤ 9223372036854775807 := by decide
theorem ArrB.rows {g : Nat} {s t : S30} {W : World} (h : ArrB g s t W) : RowAt W (some ⟨g, 0, none⟩) 2 [s] ∧ RowAt W (some ⟨g, 2, none⟩) 1 [t] := by
  have hc := fun i => blk_cell h i
  refine ⟨⟨C30.2 ⟨rfl, max30, fun _ => ⟨_, rfl, fun j u hu => ?_⟩⟩, Nat.le_succ 1⟩, ⟨C30.2 ⟨rfl, max30, fun _ => ⟨_, rfl, fun j u hu => ?_⟩⟩, Nat.le_refl 1⟩⟩
  · match j with
    | 0 => exact (hc 0).trans hu
    | 1 => exact (hc 1).trans hu
    | j + 2 => simp [cells30, enc30] at hu
  · match j with
    | 0 => exact (hc 2).trans hu
    | 1 => exact (hc 3).trans hu
    | j + 2 => simp [cells30, enc30] at hu
theorem RowAt.drewN {w : World} {A : Option Addr} {c : Nat} {l : List S30} (h : RowAt w A c l) (n : Nat) : RowAt (w.drewN n) A c l := h.below (pw_below_drewN (Below.refl _ _) n)
theorem RowAt.drew {w : World} {A : Option Addr} {c : Nat} {l : List S30} (h : RowAt w A c l) : RowAt w.drew A c l := h.below (below_drew (Below.refl _ _))
set_option maxHeartbeats 16000000 in
set_option maxRecDepth 100000 in
theorem hasLaw (k : Nat) (A0 : Option Addr) (c0 : Nat) (l0 a : List S30) (x : Int) (s t : S30) (r : List S30) (w : World) (h0 : RowAt w A0 c0 l0) (hE1 : lamellalaw02_cut.f l0 = some a) (hal : a.length < 1000000000000) (hO : lamellaref02_Of.f k [s] [t] 1 = some r)
    (hb : Bool) (h2 : hasL a x = hb) (h3 : lamellaref02_Has.f k a x = some hb) (tb : Bool) (h4 : touchB s t = tb) (h5 : touchB t s = tb) (n : Nat) (hn : r.length = n) (h6 : decide (0 < n) = tb) :
    Calls Try.prog 6 #[.slice A0 l0.length c0, .int .i64 x, .agg #[.int .i64 s.f0, .int .i64 s.f1, .int .i64 t.f0, .int .i64 t.f1]] w (GivesBool w true) := by
  have hu33 := Try.underlying33
  have hu30 := Try.underlying30
  have E1 := Aside0.mk hE1
  have EO := Aside0.mk hO
  have E2 := Aside0.mk h2
  have E3 := Aside0.mk h3
  have E4 := Aside0.mk h4
  have E5 := Aside0.mk h5
  have EN := Aside0.mk hn
  have EL := Aside0.mk hal
  have Hx0 := Aside0.mk (h0.below (below_alloc (Below.refl w.heap.size w) (.cells #[.int .i64 s.f0, .int .i64 s.f1, .int .i64 t.f0, .int .i64 t.f1] 33)))
  have HT := Aside0.mk (show ArrB w.heap.size s t (w.alloc (.cells #[.int .i64 s.f0, .int .i64 s.f1, .int .i64 t.f0, .int .i64 t.f1] 33)) from blk_new w _)
  have HB := Aside0.mk (below_alloc (Below.refl w.heap.size w) (.cells #[.int .i64 s.f0, .int .i64 s.f1, .int .i64 t.f0, .int .i64 t.f1] 33))
  clear h0 hE1 hO h2 h3 h4 h5 hal hn
  have tok0 : True := trivial
  cases hb <;> cases tb
  all_goals
    go_enter Try.func6, Try.ntmps6
    go_wp2_with (first
      | (have _t := tok0; go_at_call 17; refine (cutC Hx0.out E1.out).mono ?_; rintro e_ w1 ⟨Aa, ca, rfl, hR_, hb_⟩; have Ha := Aside0.mk hR_; have n_ := Aside0.mk (ArrB.below HT.out hb_); clear HT; have HT := n_; clear n_; (try clear q0 q1 q2 q3); obtain ⟨q0, q1, q2, q3⟩ := HT.out.cells; have n_ := Aside0.mk (below_step HB.out hb_); clear HB; have HB := n_; clear n_ hb_; clear hR_; clear _t tok0; have tok1 : True := trivial))
    go_region_with ((go_at_call 20; refine (ofC k 1 (by first | exact HT.out.rows.1 | exact HT.out.rows.1.drewN _ | exact HT.out.rows.1.drew) (by first | exact HT.out.rows.2 | exact HT.out.rows.2.drewN _ | exact HT.out.rows.2.drew) EO.out).mono ?_; rintro e_ w2 ⟨Ar, cr, rfl, hR_, hb_⟩; rw [EN.out]))
    all_goals
      have hb_ : Below w1.heap.size w1 w2 := below_step (below_drew (Below.refl _ _)) hb_
      have n_ := Aside0.mk (RowAt.below Ha.out hb_)
      clear Ha
      have Ha := n_
      clear n_
      have n_ := Aside0.mk (ArrB.below HT.out hb_)
      clear HT
      have HT := n_
      clear n_
      (try clear q0 q1 q2 q3)
      obtain ⟨q0, q1, q2, q3⟩ := HT.out.cells
      have n_ := Aside0.mk (below_step HB.out hb_)
      clear HB
      have HB := n_
      clear n_ hb_
      clear hR_
      go_wp2_with (first
        | (have _t := tok1; go_at_call 25; refine (hasC' Ha.out EL.out E2.out).mono ?_; rintro e_ w1_ ⟨rfl, hb_⟩; have n_ := Aside0.mk (RowAt.below Ha.out hb_); clear Ha; have Ha := n_; clear n_; have n_ := Aside0.mk (ArrB.below HT.out hb_); clear HT; have HT := n_; clear n_; (try clear q0 q1 q2 q3); obtain ⟨q0, q1, q2, q3⟩ := HT.out.cells; have n_ := Aside0.mk (below_step HB.out hb_); clear HB; have HB := n_; clear n_ hb_; clear _t tok1; have tok2 : True := trivial)
        | (have _t := tok2; go_at_call 26; refine (refHasC k Ha.out E3.out).mono ?_; rintro e_ w2_ ⟨rfl, hb_⟩; have n_ := Aside0.mk (RowAt.below Ha.out hb_); clear Ha; have Ha := n_; clear n_; have n_ := Aside0.mk (ArrB.below HT.out hb_); clear HT; have HT := n_; clear n_; (try clear q0 q1 q2 q3); obtain ⟨q0, q1, q2, q3⟩ := HT.out.cells; have n_ := Aside0.mk (below_step HB.out hb_); clear HB; have HB := n_; clear n_ hb_; clear _t tok2; have tok3 : True := trivial)
        | (have _t := tok3; go_at_call 27; refine (touchC s t E4.out _).mono ?_; rintro e_ w3_ ⟨rfl, hb_⟩; have n_ := Aside0.mk (RowAt.below Ha.out hb_); clear Ha; have Ha := n_; clear n_; have n_ := Aside0.mk (ArrB.below HT.out hb_); clear HT; have HT := n_; clear n_; (try clear q0 q1 q2 q3); obtain ⟨q0, q1, q2, q3⟩ := HT.out.cells; have n_ := Aside0.mk (below_step HB.out hb_); clear HB; have HB := n_; clear n_ hb_; clear _t tok3; have tok4 : True := trivial)
        | (have _t := tok4; go_at_call 27; refine (touchC t s E5.out _).mono ?_; rintro e_ w4_ ⟨rfl, hb_⟩; have n_ := Aside0.mk (RowAt.below Ha.out hb_); clear Ha; have Ha := n_; clear n_; have n_ := Aside0.mk (ArrB.below HT.out hb_); clear HT; have HT := n_; clear n_; (try clear q0 q1 q2 q3); obtain ⟨q0, q1, q2, q3⟩ := HT.out.cells; have n_ := Aside0.mk (below_step HB.out hb_); clear HB; have HB := n_; clear n_ hb_; clear _t tok4; have tok5 : True := trivial)
        | (have _t := tok5; go_at_call 22; refine (livesC _).mono ?_; rintro e_ w5_ ⟨rfl, hb_⟩; have n_ := Aside0.mk (RowAt.below Ha.out hb_); clear Ha; have Ha := n_; clear n_; have n_ := Aside0.mk (ArrB.below HT.out hb_); clear HT; have HT := n_; clear n_; (try clear q0 q1 q2 q3); obtain ⟨q0, q1, q2, q3⟩ := HT.out.cells; have n_ := Aside0.mk (below_step HB.out hb_); clear HB; have HB := n_; clear n_ hb_; clear _t tok5; have tok6 : True := trivial))
      go_ret
      exact ⟨rfl, HB.out⟩
end Go.Proofs.Ytgncbhpmnjfhhaa.S
end
section
namespace Go.Proofs.Ytgncbhpmnjfhhaa.S
open Go.RowKit Go.Proofs.YtgncbhpmnjfhhaaW.PrintWords Go.Proofs.YtgncbhpmnjfhhaaW.PrintLast Go.Proofs.YtgncbhpmnjfhhaaW.PrintMore
set_option linter.unusedVariables false
set_option linter.unusedSimpArgs false
def bstep (out : List S30) (e e' : Int) : List S30 :=
  if out.length = 0 then out ++ [⟨e, e'⟩] else if (lastS out).f1 = e then out.set (out.length - 1) ⟨(lastS out).f0, e'⟩ else out ++ [⟨e, e'⟩]
def buildGo : List Int → List Bool → List S30 → List S30
  | e :: e' :: es, kb :: ks, out => buildGo (e' :: es) ks (if kb = true then bstep out e e' else out)
  | _, _, out => out
theorem bstep_length (out : List S30) (e e' : Int) : (bstep out e e').length ≤ out.length + 1 := by
  unfold bstep; split
  · simp
  · split <;> simp
theorem bstep_ok {out : List S30} {e e' : Int} (hp : PlainL out) (he : e < e') (hle : ∀ t ∈ out, t.f1 ≤ e) :
    PlainL (bstep out e e') ∧ (∀ x, memS x (bstep out e e') ↔ memS x out ∨ (e ≤ x ∧ x < e')) ∧ ∀ t ∈ bstep out e e', t.f1 ≤ e' := by
  have hadd : (∀ t ∈ out, t.f1 < e) → PlainL (out ++ [⟨e, e'⟩]) ∧ (∀ x, memS x (out ++ [⟨e, e'⟩]) ↔ memS x out ∨ (e ≤ x ∧ x < e')) ∧ ∀ t ∈ out ++ [⟨e, e'⟩], t.f1 ≤ e' := by
    intro h
    refine ⟨PlainL_snoc.2 ⟨hp, he, h⟩, fun x => by rw [memS_append, memS_one]; rfl, fun t ht => ?_⟩
    rcases List.mem_append.1 ht with ht | ht
    · have := h t ht; omega
    · simp at ht; rw [ht]; exact Int.le_refl _
  unfold bstep
  split
  · rename_i h0
    obtain rfl := List.eq_nil_of_length_eq_zero h0
    exact hadd (fun t ht => by cases ht)
  · rename_i h0
    obtain ⟨o, p, rfl⟩ := snoc_of out h0
    rw [lastS_snoc]
    obtain ⟨q1, q2, q3⟩ := PlainL_snoc.1 hp
    have hpe : p.f1 ≤ e := hle p (by simp)
    split
    · rename_i hj
      rw [set_last]
      refine ⟨PlainL_snoc.2 ⟨q1, (by show p.f0 < e'; omega), q3⟩, fun x => ?_, fun t ht => ?_⟩
      · rw [memS_append, memS_one, memS_append, memS_one]
        unfold inS
        show _ ∨ (p.f0 ≤ x ∧ x < e') ↔ _
        constructor
        · rintro (h | ⟨h1, h2⟩)
          · exact .inl (.inl h)
          · by_cases hx : x < p.f1
            · exact .inl (.inr ⟨h1, hx⟩)
            · exact .inr ⟨by omega, h2⟩
        · rintro ((h | ⟨h1, h2⟩) | ⟨h1, h2⟩)
          · exact .inl h
          · exact .inr ⟨h1, by omega⟩
          · exact .inr ⟨by omega, h2⟩
      · rcases List.mem_append.1 ht with ht | ht
        · have := hle t (List.mem_append_left _ ht); omega
        · simp at ht; rw [ht]; exact Int.le_refl _
    · rename_i hj
      refine hadd (fun t ht => ?_)
      rcases List.mem_append.1 ht with ht | ht
      · have := q3 t ht; omega
      · simp at ht; rw [ht]; omega
def segMem (kp : Int → Bool) (x : Int) : List Int → Prop
  | e :: e' :: es => (kp e = true ∧ e ≤ x ∧ x < e') ∨ segMem kp x (e' :: es)
  | _ => False
theorem build_ok (kp : Int → Bool) : ∀ (E : List Int) (out : List S30), Rise E → PlainL out → (∀ e ∈ E.head?, ∀ t ∈ out, t.f1 ≤ e) →
    PlainL (buildGo E (E.map kp) out) ∧ ∀ x, memS x (buildGo E (E.map kp) out) ↔ memS x out ∨ segMem kp x E
  | [], out, _, hp, _ => ⟨hp, fun x => by simp [buildGo, segMem]⟩
  | [e], out, _, hp, _ => ⟨hp, fun x => by simp [buildGo, segMem]⟩
  | e :: e' :: es, out, hr, hp, hle => by
    obtain ⟨r1, r2⟩ := List.pairwise_cons.1 hr
    have hee : e < e' := r1 e' List.mem_cons_self
    have hle' : ∀ t ∈ out, t.f1 ≤ e := hle e rfl
    simp only [List.map_cons, buildGo]
    cases hk : kp e with
    | true =>
      rw [if_pos rfl]
      obtain ⟨b1, b2, b3⟩ := bstep_ok hp hee hle'
      obtain ⟨i1, i2⟩ := build_ok kp (e' :: es) (bstep out e e') r2 b1 (fun y hy => by simp at hy; rw [← hy]; exact b3)
      refine ⟨i1, fun x => ?_⟩
      have := i2 x
      rw [List.map_cons] at this
      rw [this, b2]
      simp only [segMem, hk, true_and, or_assoc]
    | false =>
      rw [if_neg (by decide)]
      obtain ⟨i1, i2⟩ := build_ok kp (e' :: es) out r2 hp (fun y hy t ht => by simp at hy; rw [← hy]; have := hle' t ht; omega)
      refine ⟨i1, fun x => ?_⟩
      have := i2 x
      rw [List.map_cons] at this
      rw [this]
      simp [segMem, hk]
theorem buildGo_length : ∀ (E : List Int) (ks : List Bool) (out : List S30), (buildGo E ks out).length ≤ out.length + E.length
  | [], _, out => by simp [buildGo]
  | [e], _, out => by simp [buildGo]
  | e :: e' :: es, [], out => by simp [buildGo]
  | e :: e' :: es, kb :: ks, out => by
    simp only [buildGo]
    have h := buildGo_length (e' :: es) ks (if kb = true then bstep out e e' else out)
    have h2 := bstep_length out e e'
    have h3 : (if kb = true then bstep out e e' else out).length ≤ out.length + 1 := by
      split
      · exact h2
      · omega
    simp only [List.length_cons] at h ⊢
    omega
theorem seg_iff (P : Int → Prop) (kp : Int → Bool) (x : Int) : ∀ (e : Int) (es : List Int), Rise (e :: es) →
    (∀ p a b q, e :: es = p ++ a :: b :: q → a ≤ x → x < b → (P x ↔ kp a = true)) → (segMem kp x (e :: es) ↔ P x ∧ e ≤ x ∧ ∃ y ∈ e :: es, x < y)
  | e, [], _, _ => by
    constructor
    · intro h; exact h.elim
    · rintro ⟨_, h1, y, hy, h2⟩
      simp at hy
      omega
  | e, e' :: es, hr, h => by
    obtain ⟨r1, r2⟩ := List.pairwise_cons.1 hr
    have ih := seg_iff P kp x e' es r2 (fun p a b q he => h (e :: p) a b q (by rw [he]; rfl))
    have hee := r1 e' List.mem_cons_self
    have h0 := h [] e e' es rfl
    simp only [segMem]
    rw [ih]
    constructor
    · rintro (⟨h1, h2, h3⟩ | ⟨h1, h2, y, hy, h3⟩)
      · exact ⟨(h0 h2 h3).2 h1, h2, e', by simp, h3⟩
      · exact ⟨h1, by omega, y, List.mem_cons_of_mem _ hy, h3⟩
    · rintro ⟨h1, h2, y, hy, h3⟩
      by_cases hx : x < e'
      · exact .inl ⟨(h0 h2 hx).1 h1, h2, hx⟩
      · refine .inr ⟨h1, by omega, y, ?_, h3⟩
        rcases List.mem_cons.1 hy with rfl | hy
        · omega
        · exact hy
theorem build_loop (E : List Int) (ks : List Bool) (hb : E.length < 1000000000) (hks : ks.length = E.length) : ∀ (m k : Nat) (out : List S30) (i : Nat), i ≤ E.length → E.length - i = m → out.length ≤ i → m < k →
    lamellaref02_Build.l0 k E ks out (i : Int) = some (buildGo (E.drop i) (ks.drop i) out) := by
  intro m
  induction m with
  | zero =>
    intro k out i hi hm ho hk
    obtain ⟨k, rfl⟩ : ∃ q, k = q + 1 := ⟨k - 1, by omega⟩
    simp only [lamellaref02_Build.l0]
    rw [wrap_in ((i : Int) + 1) (by omega) (by omega), if_neg (by omega), List.drop_eq_nil_of_le (show E.length ≤ i by omega)]
    simp [buildGo]
  | succ m ih =>
    intro k out i hi hm ho hk
    obtain ⟨k, rfl⟩ : ∃ q, k = q + 1 := ⟨k - 1, by omega⟩
    have hlt : i < E.length := by omega
    simp only [lamellaref02_Build.l0]
    rw [wrap_in ((i : Int) + 1) (by omega) (by omega)]
    by_cases h1 : i + 1 < E.length
    · rw [if_pos (by omega), if_pos (by omega), if_pos (by omega)]
      have hk1 : rdOf false ks (i : Int) = ks[i] := by unfold rdOf; rw [Int.toNat_natCast, List.getD_eq_getElem?_getD, List.getElem?_eq_getElem (by omega)]; rfl
      rw [hk1, List.drop_eq_getElem_cons hlt, List.drop_eq_getElem_cons h1, List.drop_eq_getElem_cons (show i < ks.length by omega)]
      simp only [buildGo]
      have hI : ∀ o : List S30, o.length ≤ i + 1 → lamellaref02_Build.l0 k E ks o ((i : Int) + 1) = some (buildGo (E.drop (i + 1)) (ks.drop (i + 1)) o) := fun o h => ih k o (i + 1) (by omega) (by omega) h (by omega)
      rw [List.drop_eq_getElem_cons h1] at hI
      have e1 : rd E (i : Int) = E[i] := rdI_nat E i hlt
      have e2 : rd E ((i : Int) + 1) = E[i + 1] := rdI_nat E (i + 1) h1
      cases hkb : ks[i] with
      | false =>
        rw [if_neg (by decide), if_neg (show ¬ (false = true) by decide)]
        exact hI out (by omega)
      | true =>
        rw [if_pos rfl, if_pos rfl, wrap_in ((out.length : Int) - 1) (by omega) (by omega)]
        unfold bstep
        by_cases h0 : out.length = 0
        · rw [if_pos h0, if_neg (by omega), if_pos (by omega), if_pos (by omega), if_pos (by omega), e1, e2]
          exact hI _ (by simp; omega)
        · have hqi : ((out.length : Int) - 1) = ((out.length - 1 : Nat) : Int) := by omega
          rw [if_neg h0, if_pos (by omega), if_pos (by omega), if_pos (by omega), if_pos (by omega), hqi, rd_nat, Int.toNat_natCast, e1, e2]
          unfold lastS
          by_cases hj : (out.getD (out.length - 1) z30).f1 = E[i]
          · rw [if_pos hj, if_pos hj, if_pos (by omega)]
            exact hI _ (by rw [List.length_set]; omega)
          · rw [if_neg hj, if_neg hj, if_pos (by omega), if_pos (by omega)]
            exact hI _ (by simp; omega)
    · rw [if_neg (by omega)]
      rw [List.drop_eq_getElem_cons hlt, List.drop_eq_nil_of_le (show E.length ≤ i + 1 by omega)]
      simp [buildGo]
theorem build_spec (E : List Int) (ks : List Bool) (hb : E.length < 1000000000) (hks : ks.length = E.length) : ∀ k, E.length < k → lamellaref02_Build.f k E ks = some (buildGo E ks []) := fun k hk => build_loop E ks hb hks E.length k [] 0 (by omega) (by omega) (by simp) hk
def kindB (kind : Int) (p q : Bool) : Bool := (decide (kind = 0) && (p || q)) || (decide (kind = 1) && (p && q)) || (decide (kind = 2) && (p && !q))
def ofL (a b : List S30) (kind : Int) : List S30 := buildGo (endsL [a, b]) ((endsL [a, b]).map fun x => kindB kind (hasL a x) (hasL b x)) []
theorem of_loop (a b : List S30) (kind : Int) (E : List Int) (ha : a.length < 1000000) (hb' : b.length < 1000000) (hb : E.length < 100000000) : ∀ (m k : Nat) (ks : List Bool) (i : Nat), i ≤ E.length → E.length - i = m → ks.length = i → m + a.length + b.length + E.length + 3 < k →
    lamellaref02_Of.l0 k a b kind E ks E (E.length : Int) (i : Int) = some (buildGo E (ks ++ (E.drop i).map fun x => kindB kind (hasL a x) (hasL b x)) []) := by
  intro m
  induction m with
  | zero =>
    intro k ks i hi hm hl hk
    obtain ⟨k, rfl⟩ : ∃ q, k = q + 1 := ⟨k - 1, by omega⟩
    simp only [lamellaref02_Of.l0]
    rw [if_neg (by omega), build_spec E ks (by omega) (by omega) k (by omega), Option.bind_some, List.drop_eq_nil_of_le (by omega)]
    simp
  | succ m ih =>
    intro k ks i hi hm hl hk
    obtain ⟨k, rfl⟩ : ∃ q, k = q + 1 := ⟨k - 1, by omega⟩
    have hlt : i < E.length := by omega
    simp only [lamellaref02_Of.l0]
    rw [if_pos (by omega), if_pos (by omega), if_pos (by omega), rdI_nat E i hlt, has_spec a _ (by omega) k (by omega), Option.bind_some, has_spec b _ (by omega) k (by omega), Option.bind_some, wrap_in ((i : Int) + 1) (by omega) (by omega), List.drop_eq_getElem_cons hlt, List.map_cons]
    have hI : ∀ kb : Bool, lamellaref02_Of.l0 k a b kind E (ks ++ [kb]) E (E.length : Int) ((i : Int) + 1) = some (buildGo E (ks ++ kb :: (E.drop (i + 1)).map fun x => kindB kind (hasL a x) (hasL b x)) []) := fun kb => by
      have := ih k (ks ++ [kb]) (i + 1) (by omega) (by omega) (by simp; omega) (by omega)
      rw [List.append_assoc] at this
      exact this
    have hlim : ks.length < 140737488355328 := by omega
    unfold kindB at hI ⊢
    simp only [if_pos hlim, hI]
    generalize hasL a E[i] = p
    generalize hasL b E[i] = q
    by_cases k0 : kind = 0
    · subst k0
      cases p <;> cases q <;> simp
    · by_cases k1 : kind = 1
      · subst k1
        cases p <;> cases q <;> simp
      · by_cases k2 : kind = 2
        · subst k2
          cases p <;> cases q <;> simp
        · cases p <;> cases q <;> simp [k0, k1, k2]
theorem of_spec (a b : List S30) (kind : Int) (ha : a.length < 1000000) (hb : b.length < 1000000) : ∀ k, 7 * (a.length + b.length) + 30 < k → lamellaref02_Of.f k a b kind = some (ofL a b kind) := by
  intro k hk
  unfold lamellaref02_Of.f
  obtain ⟨_, _, e3⟩ := endsL_ok a b
  rw [ends_two a b ha hb k (by omega), Option.bind_some]
  exact of_loop a b kind _ ha hb (by omega) (endsL [a, b]).length k [] 0 (by omega) (by omega) rfl (by omega)
def kindP (kind : Int) (p q : Prop) : Prop := (kind = 0 ∧ (p ∨ q)) ∨ (kind = 1 ∧ p ∧ q) ∨ (kind = 2 ∧ p ∧ ¬ q)
theorem kindB_iff (kind : Int) (a b : List S30) (x : Int) : kindB kind (hasL a x) (hasL b x) = true ↔ kindP kind (memS x a) (memS x b) := by
  rw [← hasL_iff, ← hasL_iff]
  unfold kindB kindP
  cases hasL a x <;> cases hasL b x <;> simp [and_comm]
theorem ofL_plain (a b : List S30) (kind : Int) : PlainL (ofL a b kind) ∧ (∀ x, memS x (ofL a b kind) ↔ kindP kind (memS x a) (memS x b)) ∧ (ofL a b kind).length ≤ 2 * (a.length + b.length) := by
  obtain ⟨e1, e2, e3⟩ := endsL_ok a b
  obtain ⟨b1, b2⟩ := build_ok (fun x => kindB kind (hasL a x) (hasL b x)) (endsL [a, b]) [] e1 PlainL_nil (fun y _ t ht => by cases ht)
  refine ⟨b1, fun x => ?_, ?_⟩
  · show memS x (buildGo _ _ _) ↔ _
    rw [b2]
    have hend : ∀ l, (∀ s ∈ l, s ∈ a ++ b) → memS x l → ∃ s ∈ a ++ b, s.f0 < s.f1 ∧ s.f0 ≤ x ∧ x < s.f1 := by
      rintro l hl ⟨s, hs, h1, h2⟩
      exact ⟨s, hl s hs, by omega, h1, h2⟩
    have hany : kindP kind (memS x a) (memS x b) → ∃ s ∈ a ++ b, s.f0 < s.f1 ∧ s.f0 ≤ x ∧ x < s.f1 := by
      rintro (⟨_, h | h⟩ | ⟨_, h, _⟩ | ⟨_, h, _⟩)
      · exact hend a (fun s hs => List.mem_append_left _ hs) h
      · exact hend b (fun s hs => List.mem_append_right _ hs) h
      · exact hend a (fun s hs => List.mem_append_left _ hs) h
      · exact hend a (fun s hs => List.mem_append_left _ hs) h
    have hin : ∀ s ∈ a ++ b, s.f0 < s.f1 → s.f0 ∈ endsL [a, b] ∧ s.f1 ∈ endsL [a, b] := fun s hs hne => ⟨(e2 _).2 ⟨s, hs, hne, .inl rfl⟩, (e2 _).2 ⟨s, hs, hne, .inr rfl⟩⟩
    cases hE : endsL [a, b] with
    | nil =>
      constructor
      · rintro (h | h)
        · exact absurd h (memS_nil _)
        · exact h.elim
      · intro h
        obtain ⟨s, hs, h1, _⟩ := hany h
        have := (hin s hs h1).1
        rw [hE] at this
        cases this
    | cons e es =>
      have hseg := seg_iff (fun y => kindP kind (memS y a) (memS y b)) (fun y => kindB kind (hasL a y) (hasL b y)) x e es (hE ▸ e1) (fun p u v q he hu hv => ?_)
      · rw [hseg]
        constructor
        · rintro (h | h)
          · exact absurd h (memS_nil _)
          · exact h.1
        · intro h
          obtain ⟨s, hs, h1, h2, h3⟩ := hany h
          obtain ⟨g1, g2⟩ := hin s hs h1
          rw [hE] at g1 g2
          refine .inr ⟨h, ?_, s.f1, g2, h3⟩
          have hr := hE ▸ e1
          rcases List.mem_cons.1 g1 with g | g
          · omega
          · have := (List.pairwise_cons.1 hr).1 _ g; omega
      ·
        have hr : Rise (p ++ u :: v :: q) := by rw [← he, ← hE]; exact e1
        obtain ⟨_, r2, r3⟩ := List.pairwise_append.1 hr
        have hgap : ∀ y ∈ endsL [a, b], y ≤ u ∨ v ≤ y := by
          intro y hy
          rw [hE, he] at hy
          rcases List.mem_append.1 hy with hy | hy
          · have := r3 y hy u List.mem_cons_self; omega
          · rcases List.mem_cons.1 hy with rfl | hy
            · exact .inl (Int.le_refl _)
            · rcases List.mem_cons.1 hy with rfl | hy
              · exact .inr (Int.le_refl _)
              · have := (List.pairwise_cons.1 (List.pairwise_cons.1 r2).2).1 y hy; omega
        have hsame : ∀ l, (∀ s ∈ l, s ∈ a ++ b) → (memS x l ↔ memS u l) := by
          intro l hl
          constructor
          · rintro ⟨s, hs, h1, h2⟩
            obtain ⟨g1, g2⟩ := hin s (hl s hs) (by omega)
            have c1 := hgap _ g1
            have c2 := hgap _ g2
            exact ⟨s, hs, by omega, by omega⟩
          · rintro ⟨s, hs, h1, h2⟩
            obtain ⟨g1, g2⟩ := hin s (hl s hs) (by omega)
            have c1 := hgap _ g1
            have c2 := hgap _ g2
            exact ⟨s, hs, by omega, by omega⟩
        rw [kindB_iff]
        show kindP kind (memS x a) (memS x b) ↔ _
        rw [hsame a (fun s hs => List.mem_append_left _ hs), hsame b (fun s hs => List.mem_append_right _ hs)]
  · have := buildGo_length (endsL [a, b]) ((endsL [a, b]).map fun x => kindB kind (hasL a x) (hasL b x)) []
    simp only [List.length_nil] at this
    exact Nat.le_trans this (by omega)
end Go.Proofs.Ytgncbhpmnjfhhaa.S
end
section
namespace Go.Proofs.Ytgncbhpmnjfhhaa.S
open Go.RowKit Go.ChangeShapes Go.WideShapes Go.Deep Go.Joins Go.Proofs.YtgncbhpmnjfhhaaW.PrintWords
set_option linter.unusedVariables false
theorem cut60' (l : List S30) : lamellalaw02_cut.f l = some (l.take 60) := by
  unfold lamellalaw02_cut.f
  split
  · rw [if_pos (by omega)]
  · rw [List.take_of_length_le (by omega)]
theorem touchB_iff (s t : S30) : touchB s t = true ↔ ∃ x, inS x s ∧ inS x t := by
  unfold touchB neS bothS inS
  simp only [Bool.and_eq_true, decide_eq_true_eq]
  constructor
  · rintro ⟨⟨h1, h2⟩, h3⟩
    exact ⟨max s.f0 t.f0, ⟨by omega, by omega⟩, by omega, by omega⟩
  · rintro ⟨x, ⟨h1, h2⟩, h3, h4⟩
    refine ⟨⟨by omega, by omega⟩, by omega⟩
theorem touch_comm (s t : S30) : touchB t s = touchB s t := by
  rw [Bool.eq_iff_iff, touchB_iff, touchB_iff]
  exact ⟨fun ⟨x, h1, h2⟩ => ⟨x, h2, h1⟩, fun ⟨x, h1, h2⟩ => ⟨x, h2, h1⟩⟩
theorem plain_some {l : List S30} (h : PlainL l) : 0 < l.length ↔ ∃ x, memS x l := by
  constructor
  · intro hl
    match l, hl, h with
    | s :: l, _, h => exact ⟨s.f0, s, List.mem_cons_self, Int.le_refl _, (PlainL_cons.1 h).1⟩
  · rintro ⟨x, s, hs, _⟩
    exact List.length_pos_of_mem hs
theorem touch_of (s t : S30) : decide (0 < (ofL [s] [t] 1).length) = touchB s t := by
  obtain ⟨n1, n2, n3⟩ := ofL_plain [s] [t] 1
  rw [Bool.eq_iff_iff, touchB_iff, decide_eq_true_eq, plain_some n1]
  constructor
  · rintro ⟨x, hx⟩
    have := (n2 x).1 hx
    simp only [kindP, memS_one] at this
    rcases this with ⟨h, _⟩ | h | ⟨h, _⟩
    · exact absurd h (by decide)
    · exact ⟨x, h.2⟩
    · exact absurd h (by decide)
  · rintro ⟨x, h1, h2⟩
    exact ⟨x, (n2 x).2 (.inr (.inl ⟨rfl, (memS_one x s).2 h1, (memS_one x t).2 h2⟩))⟩
theorem hasAll (A0 : Option Addr) (c0 : Nat) (l0 : List S30) (x : Int) (s t : S30) (w : World) (hr0 : Kd.C k30 w A0 l0.length l0) (hc0 : l0.length ≤ c0) :
    Calls Try.prog 6 #[.slice A0 l0.length c0, .int .i64 x, .agg #[.int .i64 s.f0, .int .i64 s.f1, .int .i64 t.f0, .int .i64 t.f1]] w fun e w' => e = .returned (.bool true) ∧ Below w.heap.size w w' := by
  have hl : (l0.take 60).length ≤ 60 := by rw [List.length_take]; omega
  exact hasLaw 1000 A0 c0 l0 (l0.take 60) x s t (ofL [s] [t] 1) w ⟨hr0, hc0⟩ (cut60' l0) (by omega) (of_spec [s] [t] 1 (by simp) (by simp) _ (by simp)) (hasL (l0.take 60) x) rfl (has_spec _ x (by omega) _ (by omega))
    (touchB s t) rfl (touch_comm s t) _ rfl (touch_of s t)
section
variable {H : Type} {enc : TypeId × Value → H} {W : World} {base : Nat} {spare : Nat → Bool} {held : Bool}
set_option maxRecDepth 100000 in
theorem okWide_two {r : Reach} {b0 : Nat} {v : Value} (hv : Value.okWide Try.prog W r b0 33 v) : ∃ cs, v = .agg cs ∧ cs.size = Try.prog.cellsOf 33 := by
  have h : ∃ cs, v = .agg cs ∧ cs.size = Try.prog.cellsOf 33 ∧ Row.okWide Try.prog W r b0 33 cs := by
    simpa only [Value.okWide, Try.underlying33] using hv
  obtain ⟨cs, h1, h2, _⟩ := h
  exact ⟨cs, h1, h2⟩
theorem cells4 : Try.prog.cellsOf 33 = 4 := by kernel_rfl
set_option maxRecDepth 100000 in
theorem open_two {r : Reach} {b0 : Nat} {v : Value} {d : DataW H} {p : List MemPlace} (hv : Value.okWide Try.prog W r b0 33 v) (h : DataW.Trod enc Try.prog W base spare held 33 v d p) :
    ∃ s t : S30, v = .agg #[.int .i64 s.f0, .int .i64 s.f1, .int .i64 t.f0, .int .i64 t.f1] ∧ okS s ∧ okS t := by
  obtain ⟨cs, rfl, hsz⟩ := okWide_two hv
  obtain ⟨c0, c1, c2, c3, rfl⟩ := array4 (hsz.trans cells4)
  obtain ⟨fuel, hf⟩ := h
  obtain ⟨xs, m, _, _, _, hxl, hi⟩ := DataW.trod_array Try.underlying33 hf
  have h0 := hi 0 (by decide)
  have h1 := hi 1 (by decide)
  rw [cells2, List.getElem?_eq_getElem (by rw [hxl]; decide)] at h0 h1
  obtain ⟨s, e0, o0⟩ := open_span_cells h0
  obtain ⟨t, e1, o1⟩ := open_span_cells h1
  simp [Value.cells, enc30] at e0 e1
  obtain ⟨rfl, rfl⟩ := e0
  obtain ⟨rfl, rfl⟩ := e1
  exact ⟨s, t, rfl, o0, o1⟩
end
end Go.Proofs.Ytgncbhpmnjfhhaa.S
end
section
namespace Go.Proofs.Ytgncbhpmnjfhhaa.spanHas
open Go.ChangeShapes Go.WideShapes Go.ChangeAt Go.RowKit Go.Proofs.Ytgncbhpmnjfhhaa.S
set_option linter.unusedVariables false
theorem own : ownKnob Try.prog.godebug = none := by kernel_rfl
theorem laidOut : laidOutB Try.prog = true := by kernel_rfl
set_option maxRecDepth 100000 in
theorem lifted (os : Os) (started : os.Started) (H : Type) (enc : TypeId × Value → H) :
    ReturnsInHanded {} Try.checked os 6 .any (Rows.spanHasSpec.pre6 enc Try.prog Try.f6 Rows.spanHasRow.domain false) (Rows.spanHasSpec.post enc Try.prog Try.f6 false true false false) := by
  refine returnsInHanded_of_change_sized (C := Try.checked) own started (by kernel_rfl) Try.func6
    (ChangeSpec.witness6 (enc := enc) (C := Try.checked) false ⟨#[], #[.slice none 0 0, .int .i64 0, .agg #[.int .i64 0, .int .i64 0, .int .i64 0, .int .i64 0]], []⟩ 8 (by kernel_rfl) (by kernel_rfl) (by kernel_rfl) (by kernel_rfl)) ?_
  intro W base args ds gs before hval0 hW hcnd hsz0 _
  have hval : ∀ (j : Nat) t v, Try.f6.params[j]? = some t → args[j]? = some v → Value.okWide Try.prog W .any base t v := hval0
  have hW' := hW
  obtain ⟨p, q, hA0, hV, rfl, hfz, hnd⟩ := hW
  have hA : DataW.TrodAll enc Try.prog W 0 (fun _ => true) true Try.f6.params.toList args.toList ds p := hA0
  rw [Try.params6] at hA hval
  obtain ⟨v0, vs0, d0, ds0, p0, q0, hargs, rfl, rfl, h0, r0⟩ := trodAll_cons hA
  obtain ⟨v1, vs1, d1, ds1, p1, q1, rfl, rfl, rfl, h1, r1⟩ := trodAll_cons r0
  obtain ⟨v2, vs2, d2, ds2, p2, q2, rfl, rfl, rfl, h2, r2⟩ := trodAll_cons r1
  obtain ⟨rfl, rfl, rfl⟩ := trodAll_nil r2
  obtain rfl : args = #[v0, v1, v2] := by cases args; simp_all
  obtain ⟨rfl, rfl⟩ := trodVars_none hV
  obtain ⟨a0, len0, cap0, rfl⟩ := okWide_slice Try.underlying22 (hval 0 22 v0 rfl rfl)
  have k0 := h0
  have lt0 : ∀ x ∈ p0, x.block < W.heap.size := by obtain ⟨m, hm⟩ := k0; exact DataW.trod_lt m _ _ _ hm
  obtain ⟨z0, e0, c0, l0, o0⟩ := open_spans h0
  subst e0
  obtain ⟨a1, rfl, rfl, rfl, w1⟩ := open_int Try.underlying3 (hval 1 3 v1 rfl rfl) h1
  have k2 := h2
  have lt2 : ∀ x ∈ p2, x.block < W.heap.size := by obtain ⟨m, hm⟩ := k2; exact DataW.trod_lt m _ _ _ hm
  obtain ⟨s2, t2, rfl, o2, oo2⟩ := open_two (hval 2 33 v2 rfl rfl) h2
  refine (hasAll a0 cap0 z0 a1 s2 t2 W c0 l0 ).mono fun e W' ⟨he, bel⟩ => ?_
  subst he
  exact ⟨_, rfl, _, _, _, [], _, [], hW', trodAll_mk1 (shut_bool Try.underlying4 _), (trodAll_cons_mk (Below.trod laidOut (by kernel_rfl) (of_decide_eq_true (by kernel_rfl)) k0 bel lt0) (trodAll_cons_mk (shut_int Try.underlying3 w1) (trodAll_cons_mk (Below.trod laidOut (by kernel_rfl) (of_decide_eq_true (by kernel_rfl)) k2 bel lt2) trodAll_mk0))), rfl, bel.frame _, fun h => by cases h⟩
theorem over : Rows.spanHasRow.holds Try.pinned (OpenSpec.ofChange Rows.spanHasSpec) :=
  OpenClaim.holds_of_wide 6 Try.f6 rfl rfl rfl rfl rfl rfl rfl ⟨rfl, rfl, rfl, rfl, rfl⟩ rfl rfl rfl rfl rfl (by kernel_rfl) Try.func6 (by kernel_rfl)
    (of_decide_eq_true (by kernel_rfl)) (by unfold Func.isWrapper; first | (rw [if_pos (by decide +kernel)]; kernel_rfl) | (rw [if_neg (by decide +kernel)]; exact ⟨rfl, rfl⟩))
    (fun os started H enc _ => lifted os started H enc)
theorem proved : Rows.SpanHasSaid := over
end Go.Proofs.Ytgncbhpmnjfhhaa.spanHas
namespace Go.Proofs.Ytgncbhpmnjfhhaa
theorem spanHas_holds : Rows.SpanHasSaid := spanHas.proved
#print axioms spanHas_holds
end Go.Proofs.Ytgncbhpmnjfhhaa
end
