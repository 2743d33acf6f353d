/- Core, part 2 of 4: a part of the proof of several rows: what its walks and laws lean on. No condition. -/
import Derived.Test.YtgncbhpmnjfhhaaCore0
import Derived.Test.YtgncbhpmnjfhhaaProg
import Derived.Below
import Derived.Deep.Draws
import Derived.Deep.AppendLies
import Derived.Maps.AppendAt
import Derived.OwnWalk
import Derived.Laws.BytesArg
import Derived.Laws.MakeOwn
import Derived.Laws.OwnMore
import Derived.Deep.OwnRows
import Derived.Tactics
import Derived.Lib.ConvBytes
import Derived.Laws.Slices
import Derived.WalkKit
import Derived.KernelRfl
import Derived.RowKit3
import Derived.Deep.LoopGhost
import Derived.Deep.QuietTactic
import Derived.BigQuiet
import Derived.WideLaws
import Derived.Deep.DeepCutAuto
import Derived.Deep.CutBlock
import Derived.Deep.RegionHeld3
import Derived.Laws.Rows
import Derived.Lib.AppendStr
import Derived.ArgAppend
import Derived.Laws.IdiomCopy
import Derived.OrdersHeld
import Derived.Laws.BitsLemmas
import Derived.RowKit
import Derived.Deep.Slices
import Derived.Lib.SmallJoins
import Derived.ChangeSame
import Derived.Deep.RegionLaw
import Derived.Sort.WalkB12
import Derived.Lib.AppendZerosOnto
import Derived.Lib.AppendZeros
import Derived.Lib.Overlaps
import Derived.Shelf.Spec.SlicesInsert
import Derived.BigRegion
import Derived.WalkSpells
import Derived.Shelf.SlGeneric
import Derived.Shelf.SlSortCmp.WholeK
import Derived.Shelf.SlSortCmp.NoneTotal
section
namespace Go.Proofs.Ytgncbhpmnjfhhaa.S
open Go.RowKit Go.Proofs.YtgncbhpmnjfhhaaW.PrintWords Go.Proofs.YtgncbhpmnjfhhaaW.PrintLast Go.Proofs.YtgncbhpmnjfhhaaW.PrintMore
attribute [local go_sem] max2_int min2_int max_two min_two max_three min_three max_four min_four
set_option linter.unusedVariables false
set_option linter.unusedSimpArgs false
def errW : Option Int → Value
  | none => .nilIface
  | some c => .iface 0 (.int .i64 c)
theorem errW_none : errW none = .nilIface := rfl
theorem errW_some (c : Int) : errW (some c) = .iface 0 (.int .i64 c) := rfl
theorem info3 : (Try.prog.info? 3).map (fun i => (i.zero, i.size, i.bytes)) = some (some (.int .i64 0), 1, 8) := by kernel_rfl
theorem info30 : (Try.prog.info? 30).map (fun i => (i.zero, i.size, i.bytes)) = some (some (.agg #[(.int .i64 0), (.int .i64 0)]), 2, 16) := by kernel_rfl
structure S30 where
  f0 : Int
  f1 : Int
def z30 : S30 := ⟨(0 : Int), (0 : Int)⟩
def k30 : Kd S30 := Kd.iso (Kd.pair (Kd.int .i64) (Kd.int .i64)) (fun x : S30 => (x.f0, x.f1))
theorem k30_open {w : World} {x : S30} {cs : List Value} (h : k30.K w x cs) : cs = [.int .i64 x.f0, .int .i64 x.f1] := by
  obtain ⟨_, _, rfl, rfl, rfl⟩ := h
  exact rfl
theorem k30_openM {w : World} {base : Nat} {ok : Nat → Prop} {x : S30} {cs : List Value} (h : k30.M w base ok x cs) : cs = [.int .i64 x.f0, .int .i64 x.f1] := by
  obtain ⟨_, _, rfl, rfl, rfl⟩ := h
  exact rfl
theorem k30_mk (w : World) (x : S30)  : k30.K w x [.int .i64 x.f0, .int .i64 x.f1] := ⟨[.int .i64 x.f0], [.int .i64 x.f1], rfl, rfl, rfl⟩
theorem k30_mkM (w : World) (base : Nat) (ok : Nat → Prop) (x : S30)  : k30.M w base ok x [.int .i64 x.f0, .int .i64 x.f1] := ⟨[.int .i64 x.f0], [.int .i64 x.f1], rfl, rfl, rfl⟩
def rd_T30 (xs : List S30) (i : Int) : S30 := xs.getD i.toNat z30
theorem at_T30 {w : World} {A : Option Addr} {n : Nat} {xs : List S30} (h : Kd.C k30 w A n xs) (i : Int) (h0 : 0 ≤ i) (h1 : i < n) : ∃ ad , A = some ad ∧ w.cell? (ad.add (i.toNat * 2)) = some (.int .i64 (rd_T30 xs i).f0) ∧ w.cell? ⟨(ad.add (i.toNat * 2)).block, (ad.add (i.toNat * 2)).off + 1, none⟩ = some (.int .i64 (rd_T30 xs i).f1) := by
  obtain ⟨ad, c, e, _, hK, hc0⟩ := Kd.C_get h z30 i h0 h1
  have hc : ∀ j u, c[j]? = some u → w.cell? (ad.add (i.toNat * 2 + j)) = some u := hc0
  obtain rfl := k30_open hK
  exact ⟨ad, e, hc 0 _ rfl, by rw [← add_field _ _ 1 (by omega)]; exact hc 1 _ rfl⟩
def rd_L2 (xs : List (List S30)) (i : Int) : (List S30) := xs.getD i.toNat ([] : List S30)
end Go.Proofs.Ytgncbhpmnjfhhaa.S
end
section
namespace Go.Proofs.Ytgncbhpmnjfhhaa.S
open Go.RowKit Go.Proofs.YtgncbhpmnjfhhaaW.PrintWords Go.Proofs.YtgncbhpmnjfhhaaW.PrintLast Go.Proofs.YtgncbhpmnjfhhaaW.PrintMore
attribute [local go_sem] max2_int min2_int max_two min_two max_three min_three max_four min_four
set_option linter.unusedVariables false
set_option linter.unusedSimpArgs false
def lamellalaw02_own.f (l0 : List (S30)) : Option ((List (S30))) := (some (([] : List (S30)) : List (S30))).bind fun y101 => (if y101.length + l0.length < 8796093022208 then (some (y101 ++ l0)) else (none))
set_option maxHeartbeats 8000000 in
set_option maxRecDepth 100000 in
theorem lamellalaw02_own.calls (A0 : Option Addr) (c0 : Nat) (l0 : List (S30)) (r : List (S30)) (w : World) (hr0 : Kd.C k30 w A0 l0.length l0) (hc0 : l0.length ≤ c0) (h : lamellalaw02_own.f l0 = some r) :
    Calls Try.prog 16 #[.slice A0 l0.length c0] w fun e w' => ∃ v0_ : Value, e = .returned (v0_) ∧ Kd.R k30 30 w' w.heap.size (fun _ => True) v0_ r ∧ Below w.heap.size w w' := by
  have HR0 := Aside0.mk hr0
  have HC0 := Aside0.mk hc0
  clear hr0 hc0
  have HB := Aside0.mk (Below.refl w.heap.size w)
  have H : ((some (([] : List (S30)) : List (S30))).bind fun y101 => (if y101.length + l0.length < 8796093022208 then (some (y101 ++ l0)) else (none))) = some r := h
  clear h
  obtain ⟨y101, hy101⟩ : ∃ y_ : List (S30), y_ = (([] : List (S30))) := ⟨_, rfl⟩
  replace H : (if y101.length + l0.length < 8796093022208 then (some (y101 ++ l0)) else (none)) = some r := by first | (rw [hy101]; with_reducible exact H) | (have H2_ := (Option.bind_some _ _).symm.trans H; rw [hy101]; with_reducible exact H2_) | (have H2_ := (Option.bind_some _ _).symm.trans H; with_reducible exact H2_) | with_reducible exact H | (rw [hy101]; exact H) | exact H
  have Ny101 := Aside0.mk hy101
  clear hy101
  by_cases c2 : y101.length + l0.length < 8796093022208
  · rw [if_pos c2] at H
    have LMc2 := Aside0.mk c2
    clear c2
    obtain ⟨y104, hy104⟩ : ∃ y_ : List (S30), y_ = (y101 ++ l0) := ⟨_, rfl⟩
    replace H : (some y104) = some r := by first | (rw [hy104]; with_reducible exact H) | (have H2_ := (Option.bind_some _ _).symm.trans H; rw [hy104]; with_reducible exact H2_) | (have H2_ := (Option.bind_some _ _).symm.trans H; with_reducible exact H2_) | with_reducible exact H | (rw [hy104]; exact H) | exact H
    have Ny104 := Aside0.mk hy104
    clear hy104
    obtain rfl := Option.some.inj H
    go_enter Try.func16, Try.ntmps16
    go_wp2_with (first | ((with_reducible refine gate_dst (N := 3) rfl ?_); refine Kd.R_lit k30 _ 30 ?hg (N := 3) ?hd (xs := ([] : List (S30))) (inner := []) (ok := fun _ => True) (okp := fun _ => True) ?hr ?hp (fun _ hk => hk) trivial (Below.refl _ _) (Nat.le_refl _) (by simp) ?_; (case hd => rfl); (case hg => rfl); (case hr => first | (go_simp; done) | (go_simp; rfl)); (case hp => exact (Reps.none _ _)); intro v102 w3 ho4 hb hg_ hnew_; clear hg_ hnew_; (first | rw [← Ny101.out] at ho4 | (simp only [Int.reduceToNat] at ho4; rw [← Ny101.out] at ho4)); have n0_ := Aside0.mk (Kd.R_lower ho4 (below_size (by repeat (first | (with_reducible first | exact HB.out | apply below_alloc | apply pw_below_drewN | apply below_drew1) | exact HB.out)))); have n1_ := Aside0.mk (below_step (by repeat (first | (with_reducible first | exact HB.out | apply below_alloc | apply pw_below_drewN | apply below_drew1) | exact HB.out)) hb); clear HB; have HO103 := n0_; have HB := n1_; clear n0_ n1_; clear hb ho4) | ((with_reducible refine gate_builtin (b := .append) (xs := #[.tmp 3, .tmp 4]) rfl ?_); at_builtin; refine Kd.R_append_rows k30 (w0 := w) w.heap.size rfl (.tmp 3) (.tmp 4) 22 30 (.agg #[(.int .i64 0), (.int .i64 0)]) 16 rfl Try.underlying22 info30 rfl (by decide) (by omega) v102 y101 l0 _ _ _ (fun _ => True) (fun _ => False) rfl rfl ?aO ?aR (fun _ _ h => h) (fun _ h => h.elim) ?aF ?aB ?aS ?aL ?_; (case aR => repeat (first | exact (Kd.C_below HR0.out HB.out) | (with_reducible refine Kd.C_alloc ?_ _) | (with_reducible refine Kd.C_drewN ?_ _) | (with_reducible refine Kd.C_drew ?_))); (case aB => exact (by repeat (first | (with_reducible first | exact HB.out | apply below_alloc | apply pw_below_drewN | apply below_drew1) | exact HB.out))); (case aF => exact (fun _ _ => trivial)); (case aO => exact (by (with_reducible repeat (first | apply Kd.R_alloc | apply Kd.R_drewN | apply Kd.R_drew)); exact HO103.out)); (case aS => exact (below_size (by repeat (first | (with_reducible first | exact HB.out | apply below_alloc | apply pw_below_drewN | apply below_drew1) | exact HB.out)))); (case aL => have := LMc2.out; omega); intro v105 w5 ho hb hg hat; rw [← Ny104.out] at ho; have n0_ := Aside0.mk (hb); have n1_ := Aside0.mk (ho); clear HB; clear HO103; have HB := n0_; have HO106 := n1_; clear n0_ n1_; clear ho hb hg hat))
    go_ret
    exact ⟨_, by first | rfl | (simp [errW_none, errW_some] <;> rfl) | (simp [*, errW_none, errW_some] <;> rfl), by (with_reducible repeat (first | apply Kd.R_alloc | apply Kd.R_drewN | apply Kd.R_drew)); exact HO106.out, by repeat (first | (with_reducible first | exact HB.out | apply below_alloc | apply pw_below_drewN | apply below_drew1) | exact HB.out)⟩
  · rw [if_neg c2] at H
    exact absurd H (by simp)
def lamellalaw02_cut.f (l0 : List (S30)) : Option ((List (S30))) := if (l0.length : Int) > 60 then (if 60 ≤ (l0.length : Int) then (some (l0.take 60)) else (none)) else (some l0)
set_option maxHeartbeats 8000000 in
set_option maxRecDepth 100000 in
theorem lamellalaw02_cut.calls (P0_ : Nat → Prop) (A0 : Option Addr) (c0 : Nat) (l0 : List (S30)) (r : List (S30)) (w : World) (hs0 : Kd.V k30 30 w w.heap.size (fun k_ => P0_ k_) (.slice A0 l0.length c0) l0) (h : lamellalaw02_cut.f l0 = some r) :
    Calls Try.prog 17 #[.slice A0 l0.length c0] w fun e w' => ∃ v0_ : Value, e = .returned (v0_) ∧ Kd.V k30 30 w' w.heap.size (fun k_ => (P0_ k_ ∨ w.heap.size ≤ k_)) v0_ r ∧ Below w.heap.size w w' := by
  have HO0 := Aside0.mk (show Kd.V k30 30 w w.heap.size (fun k_ => (P0_ k_ ∨ w.heap.size ≤ k_)) (.slice A0 l0.length c0) l0 from Kd.V_mono hs0 (fun k_ hk => .inl hk))
  have HB := Aside0.mk (Below.refl w.heap.size w)
  have H : (if (l0.length : Int) > 60 then (if 60 ≤ (l0.length : Int) then (some (l0.take 60)) else (none)) else (some l0)) = some r := h
  clear h
  by_cases c2 : (l0.length : Int) > 60
  · rw [if_pos c2] at H
    have c2b0 : decide (60 < (l0.length : Int)) = true := decide_eq_true c2
    have c2b1 : decide (60 < l0.length) = true := decide_eq_true (by omega)
    clear c2
    by_cases c3 : 60 ≤ (l0.length : Int)
    · rw [if_pos c3] at H
      have c3b0 := eq_true c3
      have c3b1 : decide (60 ≤ (l0.length : Int)) = true := decide_eq_true c3
      clear c3
      obtain ⟨y107, hy107⟩ : ∃ y_ : List (S30), y_ = (l0.take 60) := ⟨_, rfl⟩
      replace H : (some y107) = some r := by first | (rw [hy107]; with_reducible exact H) | (have H2_ := (Option.bind_some _ _).symm.trans H; rw [hy107]; with_reducible exact H2_) | (have H2_ := (Option.bind_some _ _).symm.trans H; with_reducible exact H2_) | with_reducible exact H | (rw [hy107]; exact H) | exact H
      have Ny107 := Aside0.mk hy107
      clear hy107
      obtain rfl := Option.some.inj H
      have q4 : (60 : Int) ≤ ((l0.length : Int) : Int) := of_decide_eq_true (by first | (with_reducible assumption) | assumption)
      obtain ⟨i04, hi04, _, hsz4, _⟩ := info_parts info30
      have hroom4 : l0.length ≤ c0 := (Kd.V_reads' HO0.out).2.1
      have hC4 : Kd.F k30 _ _ A0 l0.length l0 := (Kd.V_at (base := w.heap.size) HO0.out).2.2
      have hcut4 := cut_to (P := Try.prog) 22 30 .i64 Try.underlying22 hi04 A0 l0.length c0 60 (by omega) q4 hroom4
      have hr4 := Kd.F_take (m := 60) hC4 (by omega)
      have hy4 : y107.length = (60 : Int).toNat := (by rw [Ny107.out, List.length_take]; omega)
      rw [← Ny107.out] at hr4
      rw [← hy4] at hcut4
      have HO111 := Aside0.mk (show Kd.V k30 30 _ w.heap.size _ (.slice A0 y107.length c0) y107 from Kd.V_mk (by omega) hr4)
      have HC111 := Aside0.mk (show y107.length ≤ c0 from by omega)
      clear hr4 hC4 hroom4 hi04 hsz4
      have KY4 := Aside0.mk hy4
      clear hy4
      replace q4 := eq_true q4
      go_enter Try.func17, Try.ntmps17
      go_wp2
      go_ret
      exact ⟨_, by first | rfl | (simp [errW_none, errW_some] <;> rfl) | (simp [*, errW_none, errW_some] <;> rfl), by (with_reducible repeat (first | apply Kd.V_alloc | apply Kd.V_drewN | apply Kd.V_drew)); exact HO111.out, by repeat (first | (with_reducible first | exact HB.out | apply below_alloc | apply pw_below_drewN | apply below_drew1) | exact HB.out)⟩
    · rw [if_neg c3] at H
      exact absurd H (by simp)
  · rw [if_neg c2] at H
    have c2b0 : decide (60 < (l0.length : Int)) = false := decide_eq_false c2
    have c2b1 : decide (60 < l0.length) = false := decide_eq_false (by omega)
    clear c2
    obtain rfl := Option.some.inj H
    go_enter Try.func17, Try.ntmps17
    go_wp2
    go_ret
    exact ⟨_, by first | rfl | (simp [errW_none, errW_some] <;> rfl) | (simp [*, errW_none, errW_some] <;> rfl), by (with_reducible repeat (first | apply Kd.V_alloc | apply Kd.V_drewN | apply Kd.V_drew)); exact HO0.out, by repeat (first | (with_reducible first | exact HB.out | apply below_alloc | apply pw_below_drewN | apply below_drew1) | exact HB.out)⟩
def span_empty.f (a0_0 : Int) (a0_1 : Int) : Option (Bool) := some (decide (a0_0 ≥ a0_1))
set_option maxHeartbeats 8000000 in
set_option maxRecDepth 100000 in
theorem span_empty.calls (a0_0 : Int) (a0_1 : Int) (r : Bool) (w : World) (h : span_empty.f a0_0 a0_1 = some r) :
    Calls Try.prog 48 #[.agg #[.int .i64 a0_0, .int .i64 a0_1]] w fun e w' => e = .returned (.bool r) ∧ Below w.heap.size w w' := by
  have hu30 := Try.underlying30
  have HB := Aside0.mk (Below.refl w.heap.size w)
  have H : (some (decide (a0_0 ≥ a0_1))) = some r := h
  clear h
  obtain rfl := Option.some.inj H
  go_enter Try.func48, Try.ntmps48
  go_wp2_with (first | ((with_reducible refine gate_dst (N := 1) rfl ?_); refine box_event ?hg (N := 1) ?hd (cs := #[.int .i64 a0_0, .int .i64 a0_1]) (t := 30) ?hr ?_; (case hd => rfl); (case hg => rfl); (case hr => first | (go_simp; done) | (go_simp; rfl)); intro gb112 hg w2 hbox hb; have n0_ := Aside0.mk (below_step (by repeat (first | (with_reducible first | exact HB.out | apply below_alloc | apply pw_below_drewN | apply below_drew1) | exact HB.out)) hb); have n1_ := Aside0.mk (hbox); have n2_ := Aside0.mk ((by rw [hg]; exact (below_size (by repeat (first | (with_reducible first | exact HB.out | apply below_alloc | apply pw_below_drewN | apply below_drew1) | exact HB.out))) : w.heap.size ≤ gb112)); have n3_ := Aside0.mk ((by rw [hg]; exact (below_size (by repeat (first | (with_reducible first | exact HB.out | apply below_alloc | apply pw_below_drewN | apply below_drew1) | exact HB.out))) : w.heap.size ≤ gb112)); clear HB; have HB := n0_; have BK112 := n1_; have GW112 := n2_; have GE112 := n3_; clear n0_ n1_ n2_ n3_; clear hb hbox hg; have hcz3_0 : w2.cell? ⟨gb112, 0, none⟩ = some (.int .i64 a0_0) := (blk_cell BK112.out 0).trans rfl; have hcz3_1 : w2.cell? ⟨gb112, 1, none⟩ = some (.int .i64 a0_1) := (blk_cell BK112.out 1).trans rfl; have hfz3_0 := blk_frozen BK112.out 0; have hfz3_1 := blk_frozen BK112.out 1))
  go_ret
  exact ⟨by first | rfl | (simp [errW_none, errW_some] <;> rfl) | (simp [*, errW_none, errW_some] <;> rfl), by repeat (first | (with_reducible first | exact HB.out | apply below_alloc | apply pw_below_drewN | apply below_drew1 | refine below_set ?_ GE112.out) | exact HB.out)⟩
def span_both.f (a0_0 : Int) (a0_1 : Int) (a1_0 : Int) (a1_1 : Int) : Option (Int × Int) := some (mx a0_0 a1_0, mn a0_1 a1_1)
set_option maxHeartbeats 8000000 in
set_option maxRecDepth 100000 in
theorem span_both.calls (a0_0 : Int) (a0_1 : Int) (a1_0 : Int) (a1_1 : Int) (r1 : Int) (r2 : Int) (w : World) (h : span_both.f a0_0 a0_1 a1_0 a1_1 = some (r1, r2)) :
    Calls Try.prog 55 #[.agg #[.int .i64 a0_0, .int .i64 a0_1], .agg #[.int .i64 a1_0, .int .i64 a1_1]] w fun e w' => e = .returned (.agg #[.int .i64 r1, .int .i64 r2]) ∧ Below w.heap.size w w' := by
  have hu30 := Try.underlying30
  have HB := Aside0.mk (Below.refl w.heap.size w)
  have H : (some (mx a0_0 a1_0, mn a0_1 a1_1)) = some (r1, r2) := h
  clear h
  obtain ⟨ji3, hji3⟩ : ∃ j_ : Int, (mx a0_0 a1_0) = j_ := ⟨_, rfl⟩
  replace H : (some (ji3, mn a0_1 a1_1)) = some (r1, r2) := by first | (rw [hji3] at H; exact H) | (simp only [hji3] at H ⊢; exact H)
  have hji3_ : (if a0_0 < a1_0 then a1_0 else a0_0) = ji3 := hji3
  obtain ⟨ji4, hji4⟩ : ∃ j_ : Int, (mn a0_1 a1_1) = j_ := ⟨_, rfl⟩
  replace H : (some (ji3, ji4)) = some (r1, r2) := by first | (rw [hji4] at H; exact H) | (simp only [hji4] at H ⊢; exact H)
  have hji4_ : (if a1_1 < a0_1 then a1_1 else a0_1) = ji4 := hji4
  simp only [Option.some.injEq, Prod.mk.injEq] at H
  obtain ⟨rfl, rfl⟩ := H
  go_enter Try.func55, Try.ntmps55
  go_wp2_with (first | ((with_reducible refine gate_dst (N := 2) rfl ?_); refine box_event ?hg (N := 2) ?hd (cs := #[.int .i64 a0_0, .int .i64 a0_1]) (t := 30) ?hr ?_; (case hd => rfl); (case hg => rfl); (case hr => first | (go_simp; done) | (go_simp; rfl)); intro gb371 hg w5 hbox hb; have n0_ := Aside0.mk (below_step (by repeat (first | (with_reducible first | exact HB.out | apply below_alloc | apply pw_below_drewN | apply below_drew1) | exact HB.out)) hb); have n1_ := Aside0.mk (hbox); have n2_ := Aside0.mk ((by rw [hg]; exact (below_size (by repeat (first | (with_reducible first | exact HB.out | apply below_alloc | apply pw_below_drewN | apply below_drew1) | exact HB.out))) : w.heap.size ≤ gb371)); have n3_ := Aside0.mk ((by rw [hg]; exact (below_size (by repeat (first | (with_reducible first | exact HB.out | apply below_alloc | apply pw_below_drewN | apply below_drew1) | exact HB.out))) : w.heap.size ≤ gb371)); clear HB; have HB := n0_; have BK371 := n1_; have GW371 := n2_; have GE371 := n3_; clear n0_ n1_ n2_ n3_; clear hb hbox hg) | ((with_reducible refine gate_dst (N := 3) rfl ?_); refine box_event ?hg (N := 3) ?hd (cs := #[.int .i64 a1_0, .int .i64 a1_1]) (t := 30) ?hr ?_; (case hd => rfl); (case hg => rfl); (case hr => first | (go_simp; done) | (go_simp; rfl)); intro gb372 hg w6 hbox hb; have n0_ := Aside0.mk (blk_below (g := gb371) (o := .cells #[.int .i64 a0_0, .int .i64 a0_1] 30 (0, 0)) (by (with_reducible repeat (first | refine blk_drewN ?_ _ | refine blk_drew ?_ | refine blk_alloc ?_ _)); exact BK371.out) hb); have n1_ := Aside0.mk (below_step (by repeat (first | (with_reducible first | exact HB.out | apply below_alloc | apply pw_below_drewN | apply below_drew1 | refine below_set ?_ GE371.out) | exact HB.out)) hb); have n2_ := Aside0.mk (hbox); have n3_ := Aside0.mk ((by rw [hg]; exact (below_size (by repeat (first | (with_reducible first | exact HB.out | apply below_alloc | apply pw_below_drewN | apply below_drew1 | refine below_set ?_ GE371.out) | exact HB.out))) : w.heap.size ≤ gb372)); have n4_ := Aside0.mk ((by rw [hg]; exact (below_size (by repeat (first | (with_reducible first | exact HB.out | apply below_alloc | apply pw_below_drewN | apply below_drew1 | refine below_set ?_ GE371.out) | exact HB.out))) : w.heap.size ≤ gb372)); have n5_ := Aside0.mk ((by rw [hg]; exact Nat.ne_of_lt (blk_lt (g := gb371) (o := .cells #[.int .i64 a0_0, .int .i64 a0_1] 30 (0, 0)) (by (with_reducible repeat (first | refine blk_drewN ?_ _ | refine blk_drew ?_ | refine blk_alloc ?_ _)); exact BK371.out)) : gb371 ≠ gb372)); have n6_ := Aside0.mk ((by rw [hg]; exact Nat.ne_of_gt (blk_lt (g := gb371) (o := .cells #[.int .i64 a0_0, .int .i64 a0_1] 30 (0, 0)) (by (with_reducible repeat (first | refine blk_drewN ?_ _ | refine blk_drew ?_ | refine blk_alloc ?_ _)); exact BK371.out)) : gb372 ≠ gb371)); clear BK371; clear HB; have BK371 := n0_; have HB := n1_; have BK372 := n2_; have GW372 := n3_; have GE372 := n4_; have NB371_372 := n5_; have NB372_371 := n6_; clear n0_ n1_ n2_ n3_ n4_ n5_ n6_; clear hb hbox hg) | ((with_reducible refine gate_dst (N := 4) rfl ?_); refine box_event ?hg (N := 4) ?hd (cs := #[.int .i64 0, .int .i64 0]) (t := 30) ?hr ?_; (case hd => rfl); (case hg => rfl); (case hr => first | (go_simp; done) | (go_simp; rfl)); intro gb373 hg w7 hbox hb; have n0_ := Aside0.mk (blk_below (g := gb371) (o := .cells #[.int .i64 a0_0, .int .i64 a0_1] 30 (0, 0)) (by (with_reducible repeat (first | refine blk_drewN ?_ _ | refine blk_drew ?_ | refine blk_alloc ?_ _)); exact BK371.out) hb); have n1_ := Aside0.mk (blk_below (g := gb372) (o := .cells #[.int .i64 a1_0, .int .i64 a1_1] 30 (0, 0)) (by (with_reducible repeat (first | refine blk_drewN ?_ _ | refine blk_drew ?_ | refine blk_alloc ?_ _)); exact BK372.out) hb); have n2_ := Aside0.mk (below_step (by repeat (first | (with_reducible first | exact HB.out | apply below_alloc | apply pw_below_drewN | apply below_drew1 | refine below_set ?_ GE371.out | refine below_set ?_ GE372.out) | exact HB.out)) hb); have n3_ := Aside0.mk (hbox); have n4_ := Aside0.mk ((by rw [hg]; exact (below_size (by repeat (first | (with_reducible first | exact HB.out | apply below_alloc | apply pw_below_drewN | apply below_drew1 | refine below_set ?_ GE371.out | refine below_set ?_ GE372.out) | exact HB.out))) : w.heap.size ≤ gb373)); have n5_ := Aside0.mk ((by rw [hg]; exact (below_size (by repeat (first | (with_reducible first | exact HB.out | apply below_alloc | apply pw_below_drewN | apply below_drew1 | refine below_set ?_ GE371.out | refine below_set ?_ GE372.out) | exact HB.out))) : w.heap.size ≤ gb373)); have n6_ := Aside0.mk ((by rw [hg]; exact Nat.ne_of_lt (blk_lt (g := gb371) (o := .cells #[.int .i64 a0_0, .int .i64 a0_1] 30 (0, 0)) (by (with_reducible repeat (first | refine blk_drewN ?_ _ | refine blk_drew ?_ | refine blk_alloc ?_ _)); exact BK371.out)) : gb371 ≠ gb373)); have n7_ := Aside0.mk ((by rw [hg]; exact Nat.ne_of_gt (blk_lt (g := gb371) (o := .cells #[.int .i64 a0_0, .int .i64 a0_1] 30 (0, 0)) (by (with_reducible repeat (first | refine blk_drewN ?_ _ | refine blk_drew ?_ | refine blk_alloc ?_ _)); exact BK371.out)) : gb373 ≠ gb371)); have n8_ := Aside0.mk ((by rw [hg]; exact Nat.ne_of_lt (blk_lt (g := gb372) (o := .cells #[.int .i64 a1_0, .int .i64 a1_1] 30 (0, 0)) (by (with_reducible repeat (first | refine blk_drewN ?_ _ | refine blk_drew ?_ | refine blk_alloc ?_ _)); exact BK372.out)) : gb372 ≠ gb373)); have n9_ := Aside0.mk ((by rw [hg]; exact Nat.ne_of_gt (blk_lt (g := gb372) (o := .cells #[.int .i64 a1_0, .int .i64 a1_1] 30 (0, 0)) (by (with_reducible repeat (first | refine blk_drewN ?_ _ | refine blk_drew ?_ | refine blk_alloc ?_ _)); exact BK372.out)) : gb373 ≠ gb372)); clear BK371; clear BK372; clear HB; have BK371 := n0_; have BK372 := n1_; have HB := n2_; have BK373 := n3_; have GW373 := n4_; have GE373 := n5_; have NB371_373 := n6_; have NB373_371 := n7_; have NB372_373 := n8_; have NB373_372 := n9_; clear n0_ n1_ n2_ n3_ n4_ n5_ n6_ n7_ n8_ n9_; clear hb hbox hg; have hnb8 := NB371_372.out; have hnc8 := NB372_371.out; have hnb9 := NB371_373.out; have hnc9 := NB373_371.out; have hcz10_0 : w7.cell? ⟨gb371, 0, none⟩ = some (.int .i64 a0_0) := (blk_cell BK371.out 0).trans rfl; have hcz10_1 : w7.cell? ⟨gb371, 1, none⟩ = some (.int .i64 a0_1) := (blk_cell BK371.out 1).trans rfl; have hfz10_0 := blk_frozen BK371.out 0; have hfz10_1 := blk_frozen BK371.out 1; have hnb11 := NB372_373.out; have hnc11 := NB373_372.out; have hcz12_0 : w7.cell? ⟨gb372, 0, none⟩ = some (.int .i64 a1_0) := (blk_cell BK372.out 0).trans rfl; have hcz12_1 : w7.cell? ⟨gb372, 1, none⟩ = some (.int .i64 a1_1) := (blk_cell BK372.out 1).trans rfl; have hfz12_0 := blk_frozen BK372.out 0; have hfz12_1 := blk_frozen BK372.out 1; have hcz13_0 : w7.cell? ⟨gb373, 0, none⟩ = some (.int .i64 0) := (blk_cell BK373.out 0).trans rfl; have hcz13_1 : w7.cell? ⟨gb373, 1, none⟩ = some (.int .i64 0) := (blk_cell BK373.out 1).trans rfl; have hfz13_0 := blk_frozen BK373.out 0; have hfz13_1 := blk_frozen BK373.out 1))
  refine bodyPost_ret (results_cell_row rfl _ _ gb373 30 #[.int .i64 ji3, .int .i64 ji4] (0, 0) _ rfl (by (with_reducible repeat (first | refine blk_drewN ?_ _ | refine blk_drew ?_ | refine blk_alloc ?_ _)); refine blk_put (cs := #[.int .i64 ji3, .int .i64 0]) ?_ 1 _ rfl; (with_reducible repeat (first | refine blk_drewN ?_ _ | refine blk_drew ?_ | refine blk_alloc ?_ _)); refine blk_put (cs := #[.int .i64 0, .int .i64 0]) ?_ 0 _ rfl; (with_reducible repeat (first | refine blk_drewN ?_ _ | refine blk_drew ?_ | refine blk_alloc ?_ _)); exact BK373.out) Try.underlying30 rfl (by kernel_rfl)) rfl ?_
  exact ⟨by first | rfl | (simp [errW_none, errW_some] <;> rfl) | (simp only [← hji3, ← hji4]; first | rfl | (simp [errW_none, errW_some] <;> rfl)) | (simp [*, errW_none, errW_some] <;> rfl), by repeat (first | (with_reducible first | exact HB.out | apply below_alloc | apply pw_below_drewN | apply below_drew1 | refine below_set ?_ GE371.out | refine below_set ?_ GE372.out | refine below_set ?_ GE373.out) | exact HB.out)⟩
end Go.Proofs.Ytgncbhpmnjfhhaa.S
end
section
namespace Go.Proofs.Ytgncbhpmnjfhhaa.S
open Go.RowKit Go.Proofs.YtgncbhpmnjfhhaaW.PrintWords Go.Proofs.YtgncbhpmnjfhhaaW.PrintLast Go.Proofs.YtgncbhpmnjfhhaaW.PrintMore
set_option linter.unusedVariables false
set_option linter.unusedSimpArgs false
def enc30 (x : S30) : List Value := [.int .i64 x.f0, .int .i64 x.f1]
def cells30 (xs : List S30) : List Value := xs.flatMap enc30
theorem cells30_nil : cells30 [] = [] := rfl
theorem cells30_cons (x : S30) (xs : List S30) : cells30 (x :: xs) = .int .i64 x.f0 :: .int .i64 x.f1 :: cells30 xs := rfl
theorem cells30_length (xs : List S30) : (cells30 xs).length = xs.length * 2 := by
  induction xs with
  | nil => rfl
  | cons x xs ih => rw [cells30_cons, List.length_cons, List.length_cons, ih, List.length_cons]; omega
theorem cells30_append (xs ys : List S30) : cells30 (xs ++ ys) = cells30 xs ++ cells30 ys := List.flatMap_append
theorem cells30_drop (xs : List S30) : ∀ n, cells30 (xs.drop n) = (cells30 xs).drop (n * 2) := by
  induction xs with
  | nil => intro n; simp [cells30_nil]
  | cons x xs ih =>
    intro n
    cases n with
    | zero => simp
    | succ n => rw [List.drop_succ_cons, cells30_cons, Nat.succ_mul, List.drop_succ_cons, List.drop_succ_cons, ih]
theorem cells30_at (xs : List S30) : ∀ j p, xs[j]? = some p → ((cells30 xs).drop (j * 2)).take 2 = enc30 p := by
  intro j p h
  rw [← cells30_drop]
  have : xs.drop j = p :: xs.drop (j + 1) := by
    have hj := (List.getElem?_eq_some_iff.1 h).1
    rw [List.drop_eq_getElem_cons hj, (List.getElem?_eq_some_iff.1 h).2]
  rw [this, cells30_cons]
  rfl
theorem cells30_one (xs : List S30) : ∀ u ∈ cells30 xs, u.oneCell' = true := by
  induction xs with
  | nil => intro u hu; cases hu
  | cons x xs ih =>
    intro u hu
    rw [cells30_cons] at hu
    simp only [List.mem_cons] at hu
    rcases hu with rfl | rfl | hu
    · rfl
    · rfl
    · exact ih u hu
theorem cells30_get0 (xs : List S30) (j : Nat) (p : S30) (h : xs[j]? = some p) : (cells30 xs)[j * 2]? = some (.int .i64 p.f0) := by
  have h1 := cells30_at xs j p h
  have h2 : (((cells30 xs).drop (j * 2)).take 2)[0]? = (enc30 p)[0]? := by rw [h1]
  rw [List.getElem?_take, List.getElem?_drop] at h2
  simpa [enc30] using h2
theorem cells30_get1 (xs : List S30) (j : Nat) (p : S30) (h : xs[j]? = some p) : (cells30 xs)[j * 2 + 1]? = some (.int .i64 p.f1) := by
  have h1 := cells30_at xs j p h
  have h2 : (((cells30 xs).drop (j * 2)).take 2)[1]? = (enc30 p)[1]? := by rw [h1]
  rw [List.getElem?_take, List.getElem?_drop] at h2
  simpa [enc30] using h2
theorem reps30 {R : S30 → List Value → Prop} (hR : ∀ x cs, R x cs → cs = enc30 x) {xs : List S30} : ∀ {cs : List Value}, Reps R 2 xs cs → cs = cells30 xs := by
  induction xs with
  | nil => intro cs h; have := h.1; simp at this; rw [this]; rfl
  | cons x xs ih =>
    intro cs h
    have h0 := hR _ _ (h.2 0 x rfl)
    have hl : cs.length = xs.length * 2 + 2 := by rw [h.1, List.length_cons, Nat.succ_mul]
    have ht : Reps R 2 xs (cs.drop 2) := by
      refine ⟨by rw [List.length_drop]; omega, fun j p hj => ?_⟩
      have := h.2 (j + 1) p (by simpa using hj)
      rw [List.drop_drop]
      rwa [Nat.succ_mul, Nat.add_comm] at this
    have e1 := ih ht
    rw [cells30_cons, ← e1]
    have : cs = cs.take 2 ++ cs.drop 2 := (List.take_append_drop 2 cs).symm
    rw [Nat.zero_mul, List.drop_zero] at h0
    rw [this, h0]
    rfl
theorem reps30_mk {R : S30 → List Value → Prop} (hR : ∀ x, R x (enc30 x)) (xs : List S30) : Reps R 2 xs (cells30 xs) :=
  ⟨cells30_length xs, fun j p hj => by rw [cells30_at xs j p hj]; exact hR p⟩
theorem R30 {w : World} {base : Nat} {ok : Nat → Prop} {v : Value} {xs : List S30} : k30.R 30 w base ok v xs ↔ (∀ k, v.ownBlock = some k → ok k) ∧ w.ownsRow base 30 2 v xs.length (cells30 xs) := by
  constructor
  · rintro ⟨h0, inner, ho, hr⟩
    have := reps30 (fun x cs h => k30_openM h) hr
    subst this
    exact ⟨h0, ho⟩
  · rintro ⟨h0, ho⟩
    exact ⟨h0, _, ho, reps30_mk (fun x => k30_mkM _ _ _ x) xs⟩
theorem C30 {w : World} {A : Option Addr} {n : Nat} {xs : List S30} : k30.C w A n xs ↔ xs.length = n ∧ n ≤ 9223372036854775807 ∧ (0 < n → ∃ ad, A = some ad ∧ ∀ j u, (cells30 xs)[j]? = some u → w.cell? (ad.add j) = some u) := by
  constructor
  · intro h
    refine ⟨h.1, h.2.1, fun hn => ?_⟩
    obtain ⟨ad, rfl, _⟩ := h.2.2 hn
    obtain ⟨inner, hr, hc⟩ := ReadsRow.inner_ h
    obtain rfl := reps30 (fun x cs h => k30_open h) hr
    exact ⟨ad, rfl, hc⟩
  · rintro ⟨h1, h2, h3⟩
    refine ⟨h1, h2, fun hn => ?_⟩
    obtain ⟨ad, rfl, hc⟩ := h3 hn
    refine ⟨ad, rfl, fun j p hj => ⟨enc30 p, rfl, k30_mk _ _, fun i u hu => hc _ _ ?_⟩⟩
    have h4 := cells30_at xs j p hj
    have hi : i < 2 := (List.getElem?_eq_some_iff.1 hu).1
    rw [← h4, List.getElem?_take, if_pos hi, List.getElem?_drop] at hu
    exact hu
theorem repsInt {R : Int → List Value → Prop} (hR : ∀ x cs, R x cs → cs = [.int .i64 x]) {xs : List Int} : ∀ {cs : List Value}, Reps R 1 xs cs → cs = nums .i64 xs := by
  induction xs with
  | nil => intro cs h; have := h.1; simp at this; rw [this]; rfl
  | cons x xs ih =>
    intro cs h
    have h0 := hR _ _ (h.2 0 x rfl)
    have hl : cs.length = xs.length * 1 + 1 := by rw [h.1, List.length_cons, Nat.succ_mul]
    have ht : Reps R 1 xs (cs.drop 1) := by
      refine ⟨by rw [List.length_drop]; omega, fun j p hj => ?_⟩
      have := h.2 (j + 1) p (by simpa using hj)
      rw [List.drop_drop]
      rwa [Nat.succ_mul, Nat.add_comm] at this
    have e1 := ih ht
    have : cs = cs.take 1 ++ cs.drop 1 := (List.take_append_drop 1 cs).symm
    rw [Nat.zero_mul, List.drop_zero] at h0
    rw [this, h0, e1]
    rfl
theorem RInt {w : World} {base : Nat} {ok : Nat → Prop} {v : Value} {xs : List Int} : (Kd.int .i64).R 3 w base ok v xs ↔ (∀ k, v.ownBlock = some k → ok k) ∧ w.ownsRow base 3 1 v xs.length (nums .i64 xs) := by
  constructor
  · rintro ⟨h0, inner, ho, hr⟩
    have := repsInt (fun x cs h => h) hr
    subst this
    exact ⟨h0, ho⟩
  · rintro ⟨h0, ho⟩
    refine ⟨h0, _, ho, ⟨by rw [nums_length]; exact (Nat.mul_one _).symm, fun j p hj => ?_⟩⟩
    have hj2 := (List.getElem?_eq_some_iff.1 hj)
    show List.take 1 (List.drop (j * 1) (nums .i64 xs)) = [.int .i64 p]
    rw [Nat.mul_one]
    have hl : j < (nums .i64 xs).length := by rw [nums_length]; exact hj2.1
    rw [List.drop_eq_getElem_cons hl]
    simp [nums, hj2.2]
end Go.Proofs.Ytgncbhpmnjfhhaa.S
end
section
namespace Go.Proofs.Ytgncbhpmnjfhhaa.S
open Go.RowKit Go.ChangeShapes Go.WideShapes Go.Deep Go.Joins Go.Proofs.YtgncbhpmnjfhhaaW.PrintWords
set_option linter.unusedVariables false
instance inhS30Row : Inhabited S30 := ⟨⟨0, 0⟩⟩
def okS (s : S30) : Prop := (-9223372036854775808 ≤ s.f0 ∧ s.f0 ≤ 9223372036854775807) ∧ (-9223372036854775808 ≤ s.f1 ∧ s.f1 ≤ 9223372036854775807)
theorem wf64 {n : Int} (h : (Lit.int .i64 n).wf = true) : -9223372036854775808 ≤ n ∧ n ≤ 9223372036854775807 := by
  simp [Lit.wf] at h
  exact h
theorem cells2 : Try.prog.cellsOf 30 = 2 := by kernel_rfl
theorem cells1 : Try.prog.cellsOf 3 = 1 := by kernel_rfl
section
variable {H : Type} {enc : TypeId × Value → H} {W : World} {base : Nat} {spare : Nat → Bool} {held : Bool}
theorem open_span_cells {fuel : Nat} {cs : List Value} {x : DataW H × List MemPlace} (h : DataW.trod enc Try.prog W base spare held fuel 30 cs = some x) : ∃ p : S30, cs = enc30 p ∧ okS p := by
  obtain ⟨xs, n, _, _, hl, hxl, hf⟩ := DataW.trod_struct Try.underlying30 h
  rw [cells2] at hl
  obtain ⟨u, v, rfl⟩ : ∃ u v, cs = [u, v] := by
    rcases cs with _ | ⟨u, _ | ⟨v, _ | ⟨z, cs⟩⟩⟩
    · simp at hl
    · simp at hl
    · exact ⟨u, v, rfl⟩
    · simp at hl
  have hx0 : xs[0]? = some (xs[0]'(by rw [hxl]; decide)) := List.getElem?_eq_getElem _
  have hx1 : xs[1]? = some (xs[1]'(by rw [hxl]; decide)) := List.getElem?_eq_getElem _
  have h0 : DataW.trod enc Try.prog W base spare held n 3 (List.take (Try.prog.cellsOf 3) (List.drop 0 [u, v])) = _ := (hf 0 _ rfl).trans hx0
  have h1 : DataW.trod enc Try.prog W base spare held n 3 (List.take (Try.prog.cellsOf 3) (List.drop 1 [u, v])) = _ := (hf 1 _ rfl).trans hx1
  obtain ⟨a, ha, _, wa⟩ := DataW.trod_int Try.underlying3 h0
  obtain ⟨b, hb, _, wb⟩ := DataW.trod_int Try.underlying3 h1
  rw [cells1] at ha hb
  simp at ha hb
  exact ⟨⟨a, b⟩, by simp [enc30, ha, hb], wf64 wa, wf64 wb⟩
theorem open_spans {a : Option Addr} {len cap : Nat} {d : DataW H} {p : List MemPlace} (h : DataW.Trod enc Try.prog W base spare held 22 (.slice a len cap) d p) :
    ∃ zs : List S30, zs.length = len ∧ k30.C W a len zs ∧ len ≤ cap ∧ ∀ s ∈ zs, okS s := by
  obtain ⟨fuel, hf⟩ := h
  rcases open_slice Try.underlying22 hf with ⟨hcs, _⟩ | ⟨x, l, c, m, n, D, Pl, hcs, _, hl, hm, hmm, _, hi⟩
  · simp [Value.cells] at hcs
    obtain ⟨rfl, rfl, rfl⟩ := hcs
    exact ⟨[], rfl, C30.2 ⟨rfl, by decide, fun h => absurd h (by decide)⟩, Nat.le_refl _, fun s hs => by cases hs⟩
  · simp [Value.cells] at hcs
    obtain ⟨rfl, rfl, rfl⟩ := hcs
    have hlm : len ≤ m := by rw [hmm]; split <;> omega
    have hp : ∀ i, i < len → ∃ p : S30, (W.cell? (x.add (i * 2)) = some (.int .i64 p.f0) ∧ W.cell? (x.add (i * 2 + 1)) = some (.int .i64 p.f1)) ∧ okS p := fun i hi' => by
      obtain ⟨cs', hc, ht⟩ := hi i (by omega)
      obtain ⟨p, rfl, ho⟩ := open_span_cells ht
      rw [cells2] at hc
      obtain ⟨_, _, hat⟩ := World.cells?_some hc
      have e0 := hat 0 (by decide)
      have e1 := hat 1 (by decide)
      rw [Go.Deep.add_add] at e0 e1
      exact ⟨p, ⟨e0, e1⟩, ho⟩
    obtain ⟨f, hfp⟩ := choose_lt hp
    have hlen : ((List.range len).map f).length = len := by simp
    refine ⟨(List.range len).map f, hlen, ⟨hlen, by unfold maxLen at hm; omega, fun _ => ⟨x, rfl, fun j p hj => ⟨enc30 p, rfl, k30_mk _ _, fun i u hu => ?_⟩⟩⟩, hl, fun s hs => ?_⟩
    · have hjl : j < len := by have := (List.getElem?_eq_some_iff.1 hj).1; simpa using this
      have hpj : f j = p := by simpa [hjl] using hj
      subst hpj
      obtain ⟨⟨e0, e1⟩, _⟩ := hfp j hjl
      match i with
      | 0 => simp [enc30] at hu; rw [← hu]; exact e0
      | 1 => simp [enc30] at hu; rw [← hu]; exact e1
      | i + 2 => simp [enc30] at hu
    · obtain ⟨i, hi', rfl⟩ := List.mem_map.1 hs
      exact (hfp i (List.mem_range.1 hi')).2
set_option maxRecDepth 100000 in
theorem open_span {r : Reach} {b0 : Nat} {v : Value} {d : DataW H} {p : List MemPlace} (hv : Value.okWide Try.prog W r b0 30 v) (h : DataW.Trod enc Try.prog W base spare held 30 v d p) :
    ∃ s : S30, v = .agg #[.int .i64 s.f0, .int .i64 s.f1] ∧ d = .agg [.lit (.int .i64 s.f0), .lit (.int .i64 s.f1)] ∧ p = [] ∧ okS s := by
  obtain ⟨v0, v1, y0, y1, n, rfl, rfl, rfl, h0, h1⟩ := open_agg2 Try.underlying30 (by kernel_rfl) cells2 hv h
  obtain ⟨a, ha, rfl, wa⟩ := DataW.trod_int Try.underlying3 h0
  obtain ⟨b, hb, rfl, wb⟩ := DataW.trod_int Try.underlying3 h1
  injection ha with ha
  injection hb with hb
  subst ha hb
  exact ⟨⟨a, b⟩, rfl, rfl, rfl, wf64 wa, wf64 wb⟩
theorem wf64_mk {n : Int} (h : -9223372036854775808 ≤ n ∧ n ≤ 9223372036854775807) : (Lit.int .i64 n).wf = true := by
  simp [Lit.wf]
  exact h
set_option maxRecDepth 100000 in
theorem shut_span {s : S30} (o : okS s) : DataW.Trod enc Try.prog W base spare held 30 (.agg #[.int .i64 s.f0, .int .i64 s.f1]) (.agg [.lit (.int .i64 s.f0), .lit (.int .i64 s.f1)]) [] :=
  shut_agg2 Try.underlying30 (by kernel_rfl) cells2 (y0 := (.lit (.int .i64 s.f0), [])) (y1 := (.lit (.int .i64 s.f1), [])) ⟨1, trod_int_mk 0 Try.underlying3 (wf64_mk o.1)⟩ ⟨1, trod_int_mk 0 Try.underlying3 (wf64_mk o.2)⟩
end
end Go.Proofs.Ytgncbhpmnjfhhaa.S
end
section
namespace Go.Proofs.Ytgncbhpmnjfhhaa.S
open Go.RowKit Go.Proofs.YtgncbhpmnjfhhaaW.PrintWords Go.Proofs.YtgncbhpmnjfhhaaW.PrintLast Go.Proofs.YtgncbhpmnjfhhaaW.PrintMore
set_option linter.unusedVariables false
set_option linter.unusedSimpArgs false
theorem zeroCells_size (z : Array Value) (n : Nat) : (Builtin.zeroCells z n).toList.length = n * z.size := by simp [Builtin.zeroCells]
theorem zeroCells_one (z : Array Value) (n : Nat) (h : ∀ u ∈ z.toList, u.oneCell' = true) : ∀ u ∈ (Builtin.zeroCells z n).toList, u.oneCell' = true := by
  intro u hu
  simp only [Builtin.zeroCells, Array.toList_map, Array.toList_range, List.mem_map, List.mem_range] at hu
  obtain ⟨i, hi, rfl⟩ := hu
  have hz : 0 < z.size := by
    rcases Nat.eq_zero_or_pos z.size with h | h
    · rw [h] at hi; omega
    · exact h
  have : i % z.size < z.size := Nat.mod_lt _ hz
  rw [getElem!_pos z _ this]
  exact h _ (by simp)
section
variable {α : Type} {d : Kd α} {e base n c g : Nat} {ok : Nat → Prop} {w W' : World} {xs : List α}
theorem R_spoil {i : Nat} (h : d.R e w base ok (.slice (some ⟨g, 0, none⟩) i c) xs) {cur cur' : Array Value} (hg : w.heap[g]? = some (.cells cur e (0, 0))) (hg' : W'.heap[g]? = some (.cells cur' e (0, 0)))
    (hs : cur'.size = cur.size) (ht : cur'.toList.take (i * d.sz) = cur.toList.take (i * d.sz)) (ho : ∀ k, k ≠ g → W'.heap[k]? = w.heap[k]?) : d.R e W' base ok (.slice (some ⟨g, 0, none⟩) i c) xs := by
  obtain ⟨h0, inner, how, hr⟩ := h
  refine ⟨h0, inner, ⟨how.1, ?_⟩, hr.imp_ (fun _ _ hp => d.M_move (fun k hk => ho k (fun e => hk.2 (by rw [e]; rfl))) hp)⟩
  rcases how.2 with ⟨e1, _⟩ | ⟨g2, cap, cur2, e1, h1, h2, h3, h4, h5, h6⟩
  · cases e1
  · injection e1 with e1 e2 e3
    injection e1 with e1
    injection e1 with e1
    subst e1
    rw [hg] at h2
    injection h2 with h2
    injection h2 with h2
    subst h2
    have hxl : i = xs.length := e2
    exact .inr ⟨g, cap, cur', by rw [e2, e3], h1, hg', h3, h4, hs.trans h5, by rw [← hxl, ht, hxl]; exact h6⟩
theorem clear_tail {P : Program} (t : TypeId) (z : Value) (ht : P.underlying t = some (.slice e)) (hv : ∀ w, (zeroValue e).run P w = .ok z w) (hzc : z.cells.size = d.sz) (h1 : ∀ u ∈ z.cells.toList, u.oneCell' = true)
    (h : d.R e w base ok (.slice (some ⟨g, 0, none⟩) n c) xs) (i : Nat) (hi : i < n) :
    (∀ ty c', (Builtin.clear_ #[t] ty #[.slice (some ⟨g, i * d.sz, none⟩) (n - i) c']).run P w = .ok (.tuple #[]) (w.setCells g (i * d.sz) (Builtin.zeroCells z.cells (n - i)).toList)) ∧
      d.R e (w.setCells g (i * d.sz) (Builtin.zeroCells z.cells (n - i)).toList) base ok (.slice (some ⟨g, 0, none⟩) i c) (xs.take i) ∧
      w.grownBy (w.setCells g (i * d.sz) (Builtin.zeroCells z.cells (n - i)).toList) (some g) := by
  have hlen : n = xs.length := (Kd.R_reads' h).1
  obtain ⟨h0, inner, how, hr⟩ := h
  rcases how.2 with ⟨e1, _⟩ | ⟨g2, cap, cur, e1, hb, hg, hnc, hcm, hcs, htk⟩
  · cases e1
  · injection e1 with e1 e2 e3
    injection e1 with e1
    injection e1 with e1
    subst e1
    subst e3
    have hlv : (Builtin.zeroCells z.cells (n - i)).toList.length = (n - i) * d.sz := by rw [zeroCells_size, hzc]
    have hfit : i * d.sz + (n - i) * d.sz ≤ cur.size := by
      rw [← Nat.add_mul, hcs]
      exact Nat.mul_le_mul_right _ (by omega)
    have hst := run_storeCells_cells (P := P) g (i * d.sz) (Builtin.zeroCells z.cells (n - i)).toList 0 w
      (fun j hj => by
        rw [hlv] at hj
        rw [cell_of_row w g _ cur e (0, 0) hg]
        have : i * d.sz + 0 + j < cur.size := by omega
        simp; omega)
      (fun j hj => by simp [World.frozen?, hg]) (zeroCells_one _ _ h1)
    rw [Nat.add_zero] at hst
    obtain ⟨cur', hc1, hc2, hc3⟩ := setCells_row (Builtin.zeroCells z.cells (n - i)).toList (i * d.sz) w cur hg (by rw [hlv]; exact hfit)
    obtain ⟨s1, s2, s3, s4⟩ := setCells_same g (Builtin.zeroCells z.cells (n - i)).toList (i * d.sz) w
    refine ⟨fun ty c' => ?_, ?_, ⟨s1, s2, s3, by rw [s4]; exact Nat.le_refl _, fun k hk hne => setCells_far _ _ k (fun e => hne (by rw [e]))⟩⟩
    · obtain ⟨m, hm⟩ : ∃ m, n - i = m + 1 := ⟨n - i - 1, by omega⟩
      rw [hm] at hst ⊢
      simp [Builtin.clear_, run_underlying ht, hv, hst]
    · have hR : d.R e w base ok (.slice (some ⟨g, 0, none⟩) i c) (xs.take i) := Kd.R_take (m := i) (n := n) ⟨h0, inner, how, hr⟩ (by omega)
      refine R_spoil hR hg hc1 hc2 ?_ (fun k hk => setCells_far _ _ k hk)
      rw [hc3, List.append_assoc, List.take_append_of_le_length (by rw [List.length_take, Array.length_toList]; omega), List.take_take, Nat.min_self]
end
end Go.Proofs.Ytgncbhpmnjfhhaa.S
end
section
namespace Go.Proofs.Ytgncbhpmnjfhhaa.S
open Go.RowKit Go.Proofs.YtgncbhpmnjfhhaaW.PrintWords Go.Proofs.YtgncbhpmnjfhhaaW.PrintLast Go.Proofs.YtgncbhpmnjfhhaaW.PrintMore
set_option linter.unusedVariables false
set_option linter.unusedSimpArgs false
structure Flat {α : Type} (d : Kd α) (e : Nat) (cells : List α → List Value) : Prop where
  len : ∀ xs, (cells xs).length = xs.length * d.sz
  app : ∀ xs ys, cells (xs ++ ys) = cells xs ++ cells ys
  one : ∀ xs, ∀ u ∈ cells xs, u.oneCell' = true
  iff : ∀ {w : World} {base : Nat} {ok : Nat → Prop} {v : Value} {xs : List α}, d.R e w base ok v xs ↔ (∀ k, v.ownBlock = some k → ok k) ∧ w.ownsRow base e d.sz v xs.length (cells xs)
theorem flatS30 : Flat k30 30 cells30 := ⟨cells30_length, cells30_append, cells30_one, R30⟩
theorem flatInt : Flat (Kd.int .i64) 3 (nums .i64) := ⟨fun xs => by rw [nums_length]; exact (Nat.mul_one _).symm, fun xs ys => nums_append _ _ _, fun xs u hu => by simp only [nums, List.mem_map] at hu; obtain ⟨x, _, rfl⟩ := hu; rfl, RInt⟩
section
variable {α : Type} {d : Kd α} {e : Nat} {cells : List α → List Value}
theorem Flat.take (F : Flat d e cells) (xs : List α) (i : Nat) (hi : i ≤ xs.length) : cells (xs.take i) = (cells xs).take (i * d.sz) := by
  have h := F.app (xs.take i) (xs.drop i)
  rw [List.take_append_drop] at h
  rw [h, List.take_left' (by rw [F.len, List.length_take, Nat.min_eq_left hi])]
theorem Flat.drop (F : Flat d e cells) (xs : List α) (i : Nat) (hi : i ≤ xs.length) : cells (xs.drop i) = (cells xs).drop (i * d.sz) := by
  have h := F.app (xs.take i) (xs.drop i)
  rw [List.take_append_drop] at h
  rw [h, List.drop_left' (by rw [F.len, List.length_take, Nat.min_eq_left hi])]
variable {base n c g : Nat} {ok : Nat → Prop} {w : World} {xs : List α}
theorem Flat.open_ (F : Flat d e cells) (h : d.R e w base ok (.slice (some ⟨g, 0, none⟩) n c) xs) : n = xs.length ∧ ok g ∧ base ≤ g ∧ n ≤ c ∧ c ≤ maxLen ∧ ∃ cur, w.heap[g]? = some (.cells cur e (0, 0)) ∧ cur.size = c * d.sz ∧ cur.toList.take (n * d.sz) = cells xs := by
  obtain ⟨h0, hl, ho⟩ := F.iff.1 h
  rcases ho with ⟨e1, _⟩ | ⟨g2, cap, cur, e1, hb, hg, hnc, hcm, hcs, htk⟩
  · cases e1
  · injection e1 with e1 e2 e3
    injection e1 with e1
    injection e1 with e1
    subst e1 e2 e3
    exact ⟨rfl, h0 g rfl, hb, hnc, hcm, cur, hg, hcs, htk⟩
theorem Flat.mk_ (F : Flat d e cells) (h0 : ok g) (hb : base ≤ g) (hn : n = xs.length) (hnc : n ≤ c) (hcm : c ≤ maxLen) {cur : Array Value} (hg : w.heap[g]? = some (.cells cur e (0, 0))) (hcs : cur.size = c * d.sz) (ht : cur.toList.take (n * d.sz) = cells xs) :
    d.R e w base ok (.slice (some ⟨g, 0, none⟩) n c) xs := by
  subst hn
  refine F.iff.2 ⟨fun k hk => ?_, F.len xs, .inr ⟨g, c, cur, rfl, hb, hg, hnc, hcm, hcs, ht⟩⟩
  have : g = k := by simpa [Value.ownBlock] using hk
  rw [← this]; exact h0
theorem setCells_grown (g o : Nat) (vs : List Value) (w : World) : w.grownBy (w.setCells g o vs) (some g) := by
  obtain ⟨s1, s2, s3, s4⟩ := setCells_same g vs o w
  exact ⟨s1, s2, s3, by rw [s4]; exact Nat.le_refl _, fun k hk hne => setCells_far _ _ k (fun e => hne (by rw [e]))⟩
theorem Flat.del (F : Flat d e cells) (h : d.R e w base ok (.slice (some ⟨g, 0, none⟩) n c) xs) (i : Nat) (hi : i < n) :
    d.R e (w.setCells g (i * d.sz) (cells (xs.drop (i + 1)))) base ok (.slice (some ⟨g, 0, none⟩) n c) (xs.take i ++ xs.drop (i + 1) ++ xs.drop (n - 1)) := by
  obtain ⟨hn, h0, hb, hnc, hcm, cur, hg, hcs, htk⟩ := F.open_ h
  have hl1 : (cells (xs.drop (i + 1))).length = (n - (i + 1)) * d.sz := by rw [F.len, List.length_drop, hn]
  have hm1 : i * d.sz + (n - (i + 1)) * d.sz = (n - 1) * d.sz := by rw [← Nat.add_mul]; congr 1; omega
  have hm2 : (n - 1) * d.sz + d.sz = n * d.sz := by rw [← Nat.succ_mul]; congr 1; omega
  have hm3 : n * d.sz ≤ c * d.sz := Nat.mul_le_mul_right _ hnc
  obtain ⟨cur', hc1, hc2, hc3⟩ := setCells_row (cells (xs.drop (i + 1))) (i * d.sz) w cur hg (by rw [hl1, hcs]; omega)
  have hls : (xs.take i ++ xs.drop (i + 1) ++ xs.drop (n - 1)).length = n := by simp; omega
  refine F.mk_ h0 hb hls.symm hnc hcm hc1 (hc2.trans hcs) ?_
  rw [hc3, hl1, F.app, F.app, F.take xs i (by omega), F.drop xs (n - 1) (by omega), ← htk, List.take_take, Nat.min_eq_left (Nat.mul_le_mul_right _ (by omega)), List.append_assoc, List.append_assoc, List.take_append]
  have e1 : (cur.toList.take (i * d.sz)).length = i * d.sz := by rw [List.length_take, Array.length_toList, Nat.min_eq_left (by rw [hcs]; omega)]
  rw [e1, List.take_of_length_le (by rw [e1]; omega)]
  congr 1
  rw [List.take_append, hl1, List.take_of_length_le (by rw [hl1]; omega)]
  congr 1
  rw [hm1, List.drop_take]
  congr 1
  omega
theorem Flat.ins (F : Flat d e cells) (h : d.R e w base ok (.slice (some ⟨g, 0, none⟩) n c) xs) (i : Nat) (hi : i ≤ n) (x : α) (hroom : n + 1 ≤ c) :
    d.R e ((w.setCells g ((i + 1) * d.sz) (cells (xs.drop i))).setCells g (i * d.sz) (cells [x])) base ok (.slice (some ⟨g, 0, none⟩) (n + 1) c) (xs.take i ++ [x] ++ xs.drop i) := by
  obtain ⟨hn, h0, hb, hnc, hcm, cur, hg, hcs, htk⟩ := F.open_ h
  have hl1 : (cells (xs.drop i)).length = (n - i) * d.sz := by rw [F.len, List.length_drop, hn]
  have hl2 : (cells [x]).length = d.sz := by rw [F.len]; simp
  have hm1 : (i + 1) * d.sz + (n - i) * d.sz = (n + 1) * d.sz := by rw [← Nat.add_mul]; congr 1; omega
  have hm2 : i * d.sz + d.sz = (i + 1) * d.sz := by rw [Nat.succ_mul]
  have hm3 : (n + 1) * d.sz ≤ c * d.sz := Nat.mul_le_mul_right _ hroom
  obtain ⟨cur1, hc1, hc2, hc3⟩ := setCells_row (cells (xs.drop i)) ((i + 1) * d.sz) w cur hg (by rw [hl1, hcs]; omega)
  obtain ⟨cur2, hd1, hd2, hd3⟩ := setCells_row (cells [x]) (i * d.sz) _ cur1 hc1 (by rw [hl2, hc2, hcs]; omega)
  have hls : (xs.take i ++ [x] ++ xs.drop i).length = n + 1 := by simp; omega
  refine F.mk_ h0 hb hls.symm hroom hcm hd1 (hd2.trans (hc2.trans hcs)) ?_
  have e1 : (cur.toList.take ((i + 1) * d.sz)).length = (i + 1) * d.sz := by rw [List.length_take, Array.length_toList, Nat.min_eq_left (by rw [hcs]; omega)]
  have e0 : (cur.toList.take (i * d.sz)).length = i * d.sz := by rw [List.length_take, Array.length_toList, Nat.min_eq_left (by rw [hcs]; omega)]
  rw [hd3, hl2, hm2, hc3, hl1, hm1, F.app, F.app, F.take xs i (by omega), ← htk, List.take_take, Nat.min_eq_left (Nat.mul_le_mul_right _ hi)]
  have f1 : (cur.toList.take ((i + 1) * d.sz) ++ cells (xs.drop i) ++ cur.toList.drop ((n + 1) * d.sz)).take (i * d.sz) = cur.toList.take (i * d.sz) := by
    rw [List.append_assoc, List.take_append_of_le_length (by rw [e1]; omega), List.take_take, Nat.min_eq_left (by omega)]
  have f2 : (cur.toList.take ((i + 1) * d.sz) ++ cells (xs.drop i) ++ cur.toList.drop ((n + 1) * d.sz)).drop ((i + 1) * d.sz) = cells (xs.drop i) ++ cur.toList.drop ((n + 1) * d.sz) := by
    rw [List.append_assoc, List.drop_left' e1]
  rw [f1, f2, List.append_assoc, List.append_assoc, List.take_append, e0, List.take_of_length_le (by rw [e0]; omega)]
  congr 1
  rw [List.take_append, hl2, List.take_of_length_le (by rw [hl2]; omega)]
  congr 1
  rw [List.take_append_of_le_length (by rw [hl1]; omega), List.take_of_length_le (by rw [hl1]; omega)]
end
theorem run_copy_cellsK {P : Program} (w : World) (dT sT ty elem : TypeId) (k b o dLen dCap : Nat) (a : Addr) (sLen sCap : Nat) (cs : List Value)
    (hu : P.underlying dT = some (.slice elem)) (hs : (P.info? elem).map (·.size) = some k) (m : Nat) (hm : m = Nat.min sLen dLen) (hn : cs.length = m * k)
    (hsrc : ∀ j v, cs[j]? = some v → w.cell? (a.add j) = some v) (hc : ∀ j, j < cs.length → (w.cell? ⟨b, o + j, none⟩).isSome = true) (hf : ∀ j, j < cs.length → w.frozen? ⟨b, o + j, none⟩ = false) (h1 : ∀ v ∈ cs, v.oneCell' = true) :
    (Builtin.copy_ #[dT, sT] ty #[.slice (some ⟨b, o, none⟩) dLen dCap, .slice (some a) sLen sCap]).run P w = .ok (goInt m) (w.setCells b o cs) := by
  have hl := run_loadCells_list (P := P) w a cs hsrc
  have hst := run_storeCells_cells (P := P) b o cs 0 w (by simpa using hc) (by simpa using hf) h1
  cases hq : P.info? elem with
  | none => simp [hq] at hs
  | some i =>
    have hi : i.size = k := by simpa [hq] using hs
    simp [Builtin.copy_, run_underlying hu, Builtin.lenOf, Builtin.firstCells, sizeOf, typeInfo, hq, hi, ← hm, ← hn, hl, hst]
end Go.Proofs.Ytgncbhpmnjfhhaa.S
end
section
namespace Go.Proofs.Ytgncbhpmnjfhhaa.S
open Go.RowKit Go.Proofs.YtgncbhpmnjfhhaaW.PrintWords Go.Proofs.YtgncbhpmnjfhhaaW.PrintLast Go.Proofs.YtgncbhpmnjfhhaaW.PrintMore
set_option linter.unusedVariables false
set_option linter.unusedSimpArgs false
theorem Flat.cell {α : Type} {d : Kd α} {e : Nat} {cells : List α → List Value} {base n c g : Nat} {ok : Nat → Prop} {w : World} {xs : List α} (F : Flat d e cells) (h : d.R e w base ok (.slice (some ⟨g, 0, none⟩) n c) xs) (i : Nat) (hi : i ≤ n) :
    ∀ t u, (cells (xs.drop i))[t]? = some u → w.cell? ⟨g, i * d.sz + t, none⟩ = some u := by
  obtain ⟨hn, h0, hb, hnc, hcm, cur, hg, hcs, htk⟩ := F.open_ h
  intro t u hu
  rw [F.drop xs i (by omega), List.getElem?_drop] at hu
  rw [← htk, List.getElem?_take] at hu
  split at hu
  · rw [cell_of_row w g _ cur e (0, 0) hg]
    simpa using hu
  · cases hu
theorem Flat.spare {α : Type} {d : Kd α} {e : Nat} {cells : List α → List Value} {base n c g : Nat} {ok : Nat → Prop} {w : World} {xs : List α} (F : Flat d e cells) (h : d.R e w base ok (.slice (some ⟨g, 0, none⟩) n c) xs) :
    (∀ j, j < c * d.sz → (w.cell? ⟨g, j, none⟩).isSome = true) ∧ ∀ j, w.frozen? ⟨g, j, none⟩ = false := by
  obtain ⟨hn, h0, hb, hnc, hcm, cur, hg, hcs, htk⟩ := F.open_ h
  refine ⟨fun j hj => ?_, fun j => by simp [World.frozen?, hg]⟩
  rw [cell_of_row w g _ cur e (0, 0) hg]
  simp; omega
theorem eraseIdx_eq {α : Type} (xs : List α) (i : Nat) (h : i < xs.length) : (xs.take i ++ xs.drop (i + 1) ++ xs.drop (xs.length - 1)).take (xs.length - 1) = xs.eraseIdx i := by
  rw [List.eraseIdx_eq_take_drop_succ, List.take_append_of_le_length (by simp; omega), List.take_of_length_le (by simp; omega)]
set_option maxHeartbeats 8000000 in
set_option maxRecDepth 100000 in
theorem api_Span_75.calls (g n c i : Nat) (xs : List (S30)) (ok : Nat → Prop) (w0 w : World) (HB : Below w0.heap.size w0 w) (hR : (k30).R 30 w w0.heap.size ok (.slice (some ⟨g, 0, none⟩) n c) xs) (hi : i < n) :
    Calls Try.prog 75 #[.slice (some ⟨g, 0, none⟩) n c, .int .i64 i, .int .i64 ((i : Int) + 1)] w fun e w' => e = .returned (.slice (some ⟨g, 0, none⟩) (n - 1) c) ∧
      (k30).R 30 w' w0.heap.size ok (.slice (some ⟨g, 0, none⟩) (n - 1) c) (xs.eraseIdx i) ∧ Below w0.heap.size w0 w' ∧ Kept w w' (fun k => k = g) := by
  have F := flatS30
  obtain ⟨i0, hi0, _, hsz, _⟩ := info_parts info30
  obtain ⟨hn, h0, hb, hnc, hcm, _⟩ := F.open_ hR
  have hm : c ≤ 9223372036854775807 := by unfold maxLen at hcm; omega
  have hsp := F.spare hR
  obtain ⟨j, hj⟩ : ∃ j, j = i + 1 := ⟨_, rfl⟩
  obtain ⟨news, hnews⟩ : ∃ news, news = cells30 (xs.drop (i + 1)) := ⟨_, rfl⟩
  have hlen : news.length = (n - j) * 2 := by rw [hnews, F.len, List.length_drop, hn, hj]; rfl
  have hcell := F.cell hR (i + 1) (by omega)
  rw [← hnews] at hcell
  obtain ⟨A, hA, hsrc⟩ : ∃ A : Addr, (if c = j then some (⟨g, 0, none⟩ : Addr) else some ⟨g, j * 2, none⟩) = some A ∧ Hid (∀ t u, news[t]? = some u → w.drew.cell? (A.add t) = some u) := by
    by_cases h : c = j
    · refine ⟨⟨g, 0, none⟩, by simp [h], fun t u hu => ?_⟩
      have h0 : news.length = 0 := by rw [hlen]; omega
      rw [List.length_eq_zero_iff.1 h0] at hu
      simp at hu
    · refine ⟨⟨g, j * 2, none⟩, by simp [h], fun t u hu => ?_⟩
      rw [Addr.add_lit, hj]
      exact hcell t u hu
  have s1 : Hid (news.length = (n - j) * 2) := hlen
  have s2 : Hid (∀ u ∈ news, u.oneCell' = true) := by rw [hnews]; exact F.one _
  have s3 : Hid (∀ t, t < news.length → (w.drew.cell? ⟨g, 0 + i * 2 + t, none⟩).isSome = true ∧ w.drew.frozen? ⟨g, 0 + i * 2 + t, none⟩ = false) := by
    intro t ht
    rw [hlen] at ht
    exact ⟨hsp.1 _ (by show 0 + i * 2 + t < c * 2; omega), hsp.2 _⟩
  obtain ⟨W1, hW1⟩ : ∃ W1, W1 = w.drew.setCells g (0 + i * 2) news := ⟨_, rfl⟩
  have hR1 : (k30).R 30 W1 w0.heap.size ok (.slice (some ⟨g, 0, none⟩) n c) (xs.take i ++ xs.drop (i + 1) ++ xs.drop (n - 1)) := by
    rw [hW1, hnews, Nat.zero_add]
    exact F.del (Kd.R_drew hR) i hi
  have hg1 : w.drew.grownBy W1 (some g) := by rw [hW1]; exact setCells_grown _ _ _ _
  obtain ⟨hcl, hR2, hg2⟩ := clear_tail (P := Try.prog) 22 (Value.agg #[Value.int IntKind.i64 0, Value.int IntKind.i64 0]) Try.underlying22 (fun w => by first | rfl | kernel_rfl) rfl (by decide) hR1 (n - 1) (by omega)
  have hW : Hid (W1 = w.drew.setCells g (0 + i * 2) news) := hW1
  obtain ⟨W2, hW2⟩ : ∃ W2, W2 = W1.setCells g ((n - 1) * (k30).sz) (Builtin.zeroCells ((Value.agg #[Value.int IntKind.i64 0, Value.int IntKind.i64 0])).cells (n - (n - 1))).toList := ⟨_, rfl⟩
  rw [← hW2] at hcl hR2 hg2
  have hge : w.drew.grownBy W2 (some g) := hg1.trans hg2
  have HB2 := Aside0.mk ((below_drew HB).grown hge HB.size (fun k hk => by injection hk with hk; subst hk; exact hb))
  have HK2 := Aside0.mk (show Kept w W2 (fun k => k = g) from ⟨hge.size, fun k hk hne => hge.block k hk (fun e => hne (by injection e))⟩)
  have he : (xs.take i ++ xs.drop (i + 1) ++ xs.drop (n - 1)).take (n - 1) = xs.eraseIdx i := by rw [hn]; exact eraseIdx_eq xs i (by omega)
  rw [he] at hR2
  have HR2 := Aside0.mk hR2
  have hj1 : j ≤ c := by omega
  have hj0 : i ≤ c := by omega
  have hj2 : j ≤ n := by omega
  have hij : i ≤ j := by omega
  have hj3 : ¬ i = j := by omega
  have hsum : i + (n - j) = n - 1 := by omega
  have hsum2 : n - 1 ≤ c := by omega
  rw [show (n - 1) * (k30).sz = (n - 1) * 2 from rfl] at hcl
  rw [show ((i : Int) + 1) = (j : Int) by omega]
  clear hR hR1 hR2 hg1 hg2 hge hcell hsp hnews hlen hW1 HB F hW2 hcm h0 hb hn hj he
  go_enter Try.func75, Try.ntmps75
  go_wp2_with fail
  go_region_law (refine step_append_room rfl (.tmp 22) (.tmp 25) 22 rfl 30 i0 2 Try.underlying22 hi0 hsz g 0 i c (by simp [Act.eval, Act.put]) A (n - j) (c - j) news (by simp [Act.eval, Act.put]) s1.out hsrc.out s2.out (by omega) s3.out ?_; rw [← hW.out, hsum])
  go_wp2
  go_ret
  exact ⟨rfl, HR2.out, HB2.out, HK2.out⟩
set_option maxHeartbeats 8000000 in
set_option maxRecDepth 100000 in
theorem api_int_76.calls (g n c i : Nat) (xs : List (Int)) (ok : Nat → Prop) (w0 w : World) (HB : Below w0.heap.size w0 w) (hR : (Kd.int .i64).R 3 w w0.heap.size ok (.slice (some ⟨g, 0, none⟩) n c) xs) (hi : i < n) :
    Calls Try.prog 76 #[.slice (some ⟨g, 0, none⟩) n c, .int .i64 i, .int .i64 ((i : Int) + 1)] w fun e w' => e = .returned (.slice (some ⟨g, 0, none⟩) (n - 1) c) ∧
      (Kd.int .i64).R 3 w' w0.heap.size ok (.slice (some ⟨g, 0, none⟩) (n - 1) c) (xs.eraseIdx i) ∧ Below w0.heap.size w0 w' ∧ Kept w w' (fun k => k = g) := by
  have F := flatInt
  obtain ⟨i0, hi0, _, hsz, _⟩ := info_parts info3
  obtain ⟨hn, h0, hb, hnc, hcm, _⟩ := F.open_ hR
  have hm : c ≤ 9223372036854775807 := by unfold maxLen at hcm; omega
  have hsp := F.spare hR
  obtain ⟨j, hj⟩ : ∃ j, j = i + 1 := ⟨_, rfl⟩
  obtain ⟨news, hnews⟩ : ∃ news, news = nums .i64 (xs.drop (i + 1)) := ⟨_, rfl⟩
  have hlen : news.length = (n - j) * 1 := by rw [hnews, F.len, List.length_drop, hn, hj]; rfl
  have hcell := F.cell hR (i + 1) (by omega)
  rw [← hnews] at hcell
  obtain ⟨A, hA, hsrc⟩ : ∃ A : Addr, (if c = j then some (⟨g, 0, none⟩ : Addr) else some ⟨g, j, none⟩) = some A ∧ Hid (∀ t u, news[t]? = some u → w.drew.cell? (A.add t) = some u) := by
    by_cases h : c = j
    · refine ⟨⟨g, 0, none⟩, by simp [h], fun t u hu => ?_⟩
      have h0 : news.length = 0 := by rw [hlen]; omega
      rw [List.length_eq_zero_iff.1 h0] at hu
      simp at hu
    · refine ⟨⟨g, j, none⟩, by simp [h], fun t u hu => ?_⟩
      rw [Addr.add_lit, hj]
      exact (by have h_ := hcell t u hu; rw [show (i + 1) * (Kd.int .i64).sz = i + 1 from Nat.mul_one _] at h_; exact h_)
  have s1 : Hid (news.length = (n - j) * 1) := hlen
  have s2 : Hid (∀ u ∈ news, u.oneCell' = true) := by rw [hnews]; exact F.one _
  have s3 : Hid (∀ t, t < news.length → (w.drew.cell? ⟨g, 0 + i * 1 + t, none⟩).isSome = true ∧ w.drew.frozen? ⟨g, 0 + i * 1 + t, none⟩ = false) := by
    intro t ht
    rw [hlen] at ht
    exact ⟨hsp.1 _ (by show 0 + i * 1 + t < c * 1; omega), hsp.2 _⟩
  obtain ⟨W1, hW1⟩ : ∃ W1, W1 = w.drew.setCells g (0 + i * 1) news := ⟨_, rfl⟩
  have hR1 : (Kd.int .i64).R 3 W1 w0.heap.size ok (.slice (some ⟨g, 0, none⟩) n c) (xs.take i ++ xs.drop (i + 1) ++ xs.drop (n - 1)) := by
    rw [hW1, hnews, Nat.zero_add]
    exact F.del (Kd.R_drew hR) i hi
  have hg1 : w.drew.grownBy W1 (some g) := by rw [hW1]; exact setCells_grown _ _ _ _
  obtain ⟨hcl, hR2, hg2⟩ := clear_tail (P := Try.prog) 37 (Value.int IntKind.i64 0) Try.underlying37 (fun w => by first | rfl | kernel_rfl) rfl (by decide) hR1 (n - 1) (by omega)
  have hW : Hid (W1 = w.drew.setCells g (0 + i * 1) news) := hW1
  obtain ⟨W2, hW2⟩ : ∃ W2, W2 = W1.setCells g ((n - 1) * (Kd.int .i64).sz) (Builtin.zeroCells ((Value.int IntKind.i64 0)).cells (n - (n - 1))).toList := ⟨_, rfl⟩
  rw [← hW2] at hcl hR2 hg2
  have hge : w.drew.grownBy W2 (some g) := hg1.trans hg2
  have HB2 := Aside0.mk ((below_drew HB).grown hge HB.size (fun k hk => by injection hk with hk; subst hk; exact hb))
  have HK2 := Aside0.mk (show Kept w W2 (fun k => k = g) from ⟨hge.size, fun k hk hne => hge.block k hk (fun e => hne (by injection e))⟩)
  have he : (xs.take i ++ xs.drop (i + 1) ++ xs.drop (n - 1)).take (n - 1) = xs.eraseIdx i := by rw [hn]; exact eraseIdx_eq xs i (by omega)
  rw [he] at hR2
  have HR2 := Aside0.mk hR2
  have hj1 : j ≤ c := by omega
  have hj0 : i ≤ c := by omega
  have hj2 : j ≤ n := by omega
  have hij : i ≤ j := by omega
  have hj3 : ¬ i = j := by omega
  have hsum : i + (n - j) = n - 1 := by omega
  have hsum2 : n - 1 ≤ c := by omega
  rw [show (n - 1) * (Kd.int .i64).sz = n - 1 from Nat.mul_one _] at hcl
  rw [show ((i : Int) + 1) = (j : Int) by omega]
  clear hR hR1 hR2 hg1 hg2 hge hcell hsp hnews hlen hW1 HB F hW2 hcm h0 hb hn hj he
  go_enter Try.func76, Try.ntmps76
  go_wp2_with fail
  go_region_law (refine step_append_room rfl (.tmp 22) (.tmp 25) 37 rfl 3 i0 1 Try.underlying37 hi0 hsz g 0 i c (by simp [Act.eval, Act.put]) A (n - j) (c - j) news (by simp [Act.eval, Act.put]) s1.out hsrc.out s2.out (by omega) s3.out ?_; rw [← hW.out, hsum])
  go_wp2
  go_ret
  exact ⟨rfl, HR2.out, HB2.out, HK2.out⟩
end Go.Proofs.Ytgncbhpmnjfhhaa.S
end
section
namespace Go.Proofs.Ytgncbhpmnjfhhaa.S
open Go.RowKit Go.Proofs.YtgncbhpmnjfhhaaW.PrintWords Go.Proofs.YtgncbhpmnjfhhaaW.PrintLast Go.Proofs.YtgncbhpmnjfhhaaW.PrintMore
set_option linter.unusedVariables false
set_option linter.unusedSimpArgs false
theorem C30one {w : World} {vb : Nat} {x : S30} (hv : w.heap[vb]? = some (.cells (cells30 [x]).toArray 30 (0, 0))) : k30.C w (some ⟨vb, 0, none⟩) 1 [x] :=
  C30.2 ⟨rfl, by decide, fun _ => ⟨_, rfl, fun j u hu => by rw [Addr.add_lit, cell_of_row w vb _ _ 30 (0, 0) hv]; simpa using hu⟩⟩
theorem CIntone {w : World} {vb : Nat} {x : Int} (hv : w.heap[vb]? = some (.cells (nums .i64 [x]).toArray 3 (0, 0))) : (Kd.int .i64).C w (some ⟨vb, 0, none⟩) 1 [x] := by
  refine ⟨rfl, by decide, fun _ => ⟨_, rfl, fun j p hj => ⟨[.int .i64 x], rfl, ?_, fun i u hu => ?_⟩⟩⟩
  · cases j with
    | zero => obtain rfl : x = p := by simpa using hj
              rfl
    | succ j => simp at hj
  · cases j with
    | zero =>
      rw [Addr.add_lit, cell_of_row w vb _ _ 3 (0, 0) hv]
      simpa [nums] using hu
    | succ j => simp at hj
theorem Flat.fresh {α : Type} {d : Kd α} {e : Nat} {cells : List α → List Value} {base n G H : Nat} {ok : Nat → Prop} {W : World} {xs : List α} {ROW : Array Value} (F : Flat d e cells) (hH : W.heap[H]? = some (.cells ROW e (0, 0))) (hs : ROW.size = G * d.sz)
    (i : Nat) (x : α) (hn : n = xs.length) (hi : i ≤ n) (ht : ROW.toList.take (i * d.sz) = cells (xs.take i)) (hG : n + 1 ≤ G) (hGm : G ≤ maxLen) (hb : base ≤ H) (h0 : ok H) :
    d.R e ((W.setCells H (i * d.sz) (cells [x])).setCells H ((i + 1) * d.sz) (cells (xs.drop i))) base ok (.slice (some ⟨H, 0, none⟩) (n + 1) G) (xs.take i ++ [x] ++ xs.drop i) := by
  have hl1 : (cells (xs.drop i)).length = (n - i) * d.sz := by rw [F.len, List.length_drop, hn]
  have hl2 : (cells [x]).length = d.sz := by rw [F.len]; simp
  have hm1 : (i + 1) * d.sz + (n - i) * d.sz = (n + 1) * d.sz := by rw [← Nat.add_mul]; congr 1; omega
  have hm2 : i * d.sz + d.sz = (i + 1) * d.sz := by rw [Nat.succ_mul]
  have hm3 : (n + 1) * d.sz ≤ G * d.sz := Nat.mul_le_mul_right _ hG
  have hm4 : (i + 1) * d.sz ≤ (n + 1) * d.sz := Nat.mul_le_mul_right _ (by omega)
  obtain ⟨cur1, hc1, hc2, hc3⟩ := setCells_row (cells [x]) (i * d.sz) W ROW hH (by rw [hl2, hs]; omega)
  obtain ⟨cur2, hd1, hd2, hd3⟩ := setCells_row (cells (xs.drop i)) ((i + 1) * d.sz) _ cur1 hc1 (by rw [hl1, hc2, hs]; omega)
  have hls : (xs.take i ++ [x] ++ xs.drop i).length = n + 1 := by simp; omega
  refine F.mk_ h0 hb hls.symm hG hGm hd1 (hd2.trans (hc2.trans hs)) ?_
  have e0 : (ROW.toList.take (i * d.sz)).length = i * d.sz := by rw [List.length_take, Array.length_toList, Nat.min_eq_left (by rw [hs]; omega)]
  have e1 : cur1.toList.take ((i + 1) * d.sz) = cells (xs.take i) ++ cells [x] := by
    rw [hc3, ht, hl2, hm2, List.take_append_of_le_length (by rw [← ht, List.length_append, e0, hl2]; omega), List.take_of_length_le (by rw [← ht, List.length_append, e0, hl2]; omega)]
  have e2 : (cells (xs.take i) ++ cells [x]).length = (i + 1) * d.sz := by rw [← ht, List.length_append, e0, hl2]; omega
  rw [hd3, hl1, hm1, e1, F.app, F.app, List.take_append_of_le_length (by rw [List.length_append, e2, hl1]; omega), List.take_of_length_le (by rw [List.length_append, e2, hl1]; omega)]
set_option maxHeartbeats 8000000 in
set_option maxRecDepth 100000 in
theorem api_Span_57.end_ (v : Value) (xs : List (S30)) (x : S30) (vb : Nat) (ok : Nat → Prop) (w0 w : World) (HB : Below w0.heap.size w0 w) (HO : (k30).R 30 w w0.heap.size ok v xs) (hl : xs.length < 1000000000000)
    (hv : w.heap[vb]? = some (.cells (cells30 [x]).toArray 30 (0, 0))) (hvb : some vb ≠ v.ownBlock) :
    Calls Try.prog 57 #[v, .int .i64 (xs.length : Int), .slice (some ⟨vb, 0, none⟩) 1 1] w fun e w' => ∃ v', e = .returned v' ∧
      (k30).R 30 w' w0.heap.size (fun k => ok k ∨ w.heap.size ≤ k) v' (xs ++ [x]) ∧ Below w0.heap.size w0 w' ∧ Kept w w' (fun k => some k = v.ownBlock) := by
  have HC := Aside0.mk (C30one hv)
  have HO1 := Aside0.mk (Kd.R_mono HO (ok' := fun k => ok k ∨ w.heap.size ≤ k) (fun k h => .inl h))
  have HBA := Aside0.mk HB
  have HL := Aside0.mk hl
  obtain ⟨A, c, rfl⟩ := Kd.R_slice HO
  have hm := (Kd.R_reads' HO).2.1
  have hcA := Aside0.mk (Kd.R_reads' HO).2.2
  have hnil : A = none → xs.length = 0 := fun h => by
    rcases Nat.eq_zero_or_pos xs.length with h1 | h1
    · exact h1
    · obtain ⟨ad, e, _⟩ := hcA.out.2.2 h1
      rw [h] at e; cases e
  obtain ⟨n, hn⟩ : ∃ n, n = xs.length := ⟨_, rfl⟩
  have HN := Aside0.mk hn
  rw [← hn] at HO1 hm hnil ⊢
  clear HO HB hl hv hcA hn hvb
  cases A with
  | none =>
    obtain rfl := hnil rfl
    go_enter Try.func57, Try.ntmps57
    go_wp2_with (first | ((with_reducible refine gate_builtin (b := .append) (xs := #[.tmp 23, .tmp 24]) rfl ?_); at_builtin; refine Kd.R_append_rows (k30) (w0 := w0) w0.heap.size rfl (.tmp 23) (.tmp 24) 22 30 (Value.agg #[Value.int IntKind.i64 0, Value.int IntKind.i64 0]) 16 rfl Try.underlying22 info30 rfl (by decide) (by omega) _ xs [x] _ _ _ (fun k => ok k ∨ w.heap.size ≤ k) (fun _ => False) rfl rfl ?aO HC.out (fun _ _ h => h) (fun _ h => h.elim) (fun k hk => .inr hk) ?aB ?aS ?aL ?_; (case aO => exact HO1.out); (case aB => exact HBA.out); (case aS => exact HBA.out.size); (case aL => have := HL.out; omega); intro v105 w5 ho hb hg hat; have HR5 := Aside0.mk ho; have HB5 := Aside0.mk hb; have HG5 := Aside0.mk hg; clear ho hb hg hat))
    go_ret
    exact ⟨_, rfl, HR5.out, HB5.out, ⟨HG5.out.size, fun k hk hne => HG5.out.block k hk (fun e => hne e)⟩⟩
  | some a =>
    obtain ⟨ab, ao, asp⟩ := a
    go_enter Try.func57, Try.ntmps57
    go_wp2_with (first | ((with_reducible refine gate_builtin (b := .append) (xs := #[.tmp 23, .tmp 24]) rfl ?_); at_builtin; refine Kd.R_append_rows (k30) (w0 := w0) w0.heap.size rfl (.tmp 23) (.tmp 24) 22 30 (Value.agg #[Value.int IntKind.i64 0, Value.int IntKind.i64 0]) 16 rfl Try.underlying22 info30 rfl (by decide) (by omega) _ xs [x] _ _ _ (fun k => ok k ∨ w.heap.size ≤ k) (fun _ => False) rfl rfl ?aO HC.out (fun _ _ h => h) (fun _ h => h.elim) (fun k hk => .inr hk) ?aB ?aS ?aL ?_; (case aO => exact HO1.out); (case aB => exact HBA.out); (case aS => exact HBA.out.size); (case aL => have := HL.out; omega); intro v105 w5 ho hb hg hat; have HR5 := Aside0.mk ho; have HB5 := Aside0.mk hb; have HG5 := Aside0.mk hg; clear ho hb hg hat))
    all_goals (go_ret; exact ⟨_, rfl, HR5.out, HB5.out, ⟨HG5.out.size, fun k hk hne => HG5.out.block k hk (fun e => hne e)⟩⟩)
set_option maxHeartbeats 8000000 in
set_option maxRecDepth 100000 in
theorem api_Span_57.shift (g n c i : Nat) (xs : List (S30)) (x : S30) (vb : Nat) (ok : Nat → Prop) (w0 w : World) (HB : Below w0.heap.size w0 w) (HO : (k30).R 30 w w0.heap.size ok (.slice (some ⟨g, 0, none⟩) n c) xs) (hi : i < n) (hroom : n + 1 ≤ c)
    (hv : w.heap[vb]? = some (.cells (cells30 [x]).toArray 30 (0, 0))) (hvb : vb ≠ g) :
    Calls Try.prog 57 #[.slice (some ⟨g, 0, none⟩) n c, .int .i64 i, .slice (some ⟨vb, 0, none⟩) 1 1] w fun e w' => e = .returned (.slice (some ⟨g, 0, none⟩) (n + 1) c) ∧
      (k30).R 30 w' w0.heap.size ok (.slice (some ⟨g, 0, none⟩) (n + 1) c) (xs.take i ++ [x] ++ xs.drop i) ∧ Below w0.heap.size w0 w' ∧ Kept w w' (fun k => k = g) := by
  have F := flatS30
  obtain ⟨i0, hi0, _, hsz0, _⟩ := info_parts info30
  have hsz : (Try.prog.info? 30).map (·.size) = some 2 := by rw [hi0]; simp [hsz0]
  obtain ⟨hn, h0, hb, hnc, hcm, cur, hg, hcs, htk⟩ := F.open_ HO
  have hc63 : c ≤ 9223372036854775807 := by unfold maxLen at hcm; omega
  have hsp := F.spare HO
  obtain ⟨m, hm⟩ : ∃ m, m = 1 := ⟨_, rfl⟩
  obtain ⟨news, hnews⟩ : ∃ news, news = cells30 (xs.drop i) := ⟨_, rfl⟩
  have hnl : news.length = (n - i) * 2 := by rw [hnews, F.len, List.length_drop, hn]; rfl
  have hxl : (cells30 [x]).length = 1 * 2 := F.len [x]
  have hcs2 : cur.size = c * 2 := hcs
  have hcell : ∀ t u, news[t]? = some u → w.cell? ⟨g, i * 2 + t, none⟩ = some u := by rw [hnews]; exact F.cell HO i (by omega)
  have hz1 : ¬ ((m : Int) = 0) := by omega
  have hz2 : ¬ ((i : Int) = (n : Int)) := by omega
  have hcsz : 0 < cur.size := by rw [hcs2]; omega
  have hov : ∀ lb cb, (callFunc 71 #[.slice (some ⟨vb, 0, none⟩) m 1, .slice (some ⟨g, (i + m) * 2, none⟩) lb cb]).run Try.prog w = .ok (.value (.bool false)) w := fun lb cb => by
    rw [run_callFunc_extern (show Try.prog.funcs[71]? = some Try.f71 by kernel_rfl) (by kernel_rfl) (by kernel_rfl) (by kernel_rfl) (e := Extern.SlicesOverlaps.overlaps #[22, 22] #[4]) (by kernel_rfl),
      Lib.run_overlaps_apart w 22 4 30 Try.underlying22 2 (fun w => by first | rfl | kernel_rfl) ⟨vb, 0, none⟩ ⟨g, (i + m) * 2, none⟩ m 1 lb cb hvb 30 30 (cells30 [x]).toArray.size cur.size (by simp [World.shape?, hv]) (by simp [World.shape?, hg]) (by omega) (by simp [World.frozen?, hv]) (by simp [World.frozen?, hv])]
    rfl
  have hw1 : IntKind.i64.wrap ((i : Int) + (m : Int)) = (i : Int) + (m : Int) := by rw [IntKind.wrap_i64]; omega
  have hb1 : (0 : Int) ≤ (i : Int) + (m : Int) := by omega
  have hin : i ≤ n := by omega
  have htn : ((i : Int) + (m : Int)).toNat = i + m := by omega
  have hb2 : ¬ (c = i + m) := by omega
  have hb3 : (i : Int) ≤ (n : Int) + (m : Int) := by omega
  have hb4 : ¬ (c = i) := by omega
  have hroom2 : n + m ≤ c := by omega
  have hcp1 : ∀ ty dc sc, (Builtin.copy_ #[22, 22] ty #[.slice (some ⟨g, (i + m) * 2, none⟩) (n + m - (i + m)) dc, .slice (some ⟨g, i * 2, none⟩) (n + m - i) sc]).run Try.prog w.drew = .ok (goInt ((n - i : Nat) : Int)) (w.drew.setCells g ((i + m) * 2) news) := fun ty dc sc =>
    run_copy_cellsK w.drew 22 22 ty 30 2 g ((i + m) * 2) (n + m - (i + m)) dc ⟨g, i * 2, none⟩ (n + m - i) sc news Try.underlying22 hsz (n - i) (by simp only [Nat.min_def]; split <;> omega) hnl
      (fun j v hj => by rw [Addr.add_lit]; have := hcell j v hj; exact this)
      (fun j hj => hsp.1 _ (by show _ < c * 2; omega)) (fun j hj => hsp.2 _) (fun v hv => F.one (xs.drop i) v (by rw [← hnews]; exact hv))
  obtain ⟨W1, hW1⟩ : ∃ W1, W1 = w.drew.setCells g ((i + m) * 2) news := ⟨_, rfl⟩
  obtain ⟨cur1, hc1, hc2, hc3⟩ := setCells_row news ((i + m) * 2) w.drew cur hg (by rw [hnl, hcs2]; omega)
  rw [← hW1] at hc1 hcp1
  have hgv : W1.heap[vb]? = some (.cells (cells30 [x]).toArray 30 (0, 0)) := by rw [hW1, setCells_far _ _ vb (fun e => hvb e)]; exact hv
  have hcp2 : ∀ (W : World), (∀ x, W.cell? x = W1.cell? x) → (∀ x, W.frozen? x = W1.frozen? x) → ∀ ty dc, (Builtin.copy_ #[22, 22] ty #[.slice (some ⟨g, i * 2, none⟩) (n + m - i) dc, .slice (some ⟨vb, 0, none⟩) m 1]).run Try.prog W = .ok (goInt m) (W.setCells g (i * 2) (cells30 [x])) := fun W hWc hWf ty dc =>
    run_copy_cellsK W 22 22 ty 30 2 g (i * 2) (n + m - i) dc ⟨vb, 0, none⟩ m 1 (cells30 [x]) Try.underlying22 hsz m (by simp only [Nat.min_def]; split <;> omega) (by rw [hxl, hm])
      (fun j v hj => by rw [Addr.add_lit, hWc, cell_of_row W1 vb _ _ 30 (0, 0) hgv]; simpa using hj)
      (fun j hj => by rw [hWc, cell_of_row W1 g _ _ 30 (0, 0) hc1]; simp; rw [hc2, hcs2]; omega) (fun j hj => by rw [hWf]; simp [World.frozen?, hc1]) (F.one [x])
  obtain ⟨W2, hW2⟩ : ∃ W2, W2 = W1.setCells g (i * 2) (cells30 [x]) := ⟨_, rfl⟩
  have hcp3 := fun ty dc => hcp2 W1 (fun _ => rfl) (fun _ => rfl) ty dc
  rw [← hW2] at hcp3
  have HR2 := Aside0.mk (show (k30).R 30 W2 w0.heap.size ok (.slice (some ⟨g, 0, none⟩) (n + m) c) (xs.take i ++ [x] ++ xs.drop i) by
    have h_ := F.ins (Kd.R_drew HO) i hin x hroom
    rw [hW2, hW1, hnews, hm]; exact h_)
  have hge : w.drew.grownBy W2 (some g) := by rw [hW2, hW1]; exact (setCells_grown _ _ _ _).trans (setCells_grown _ _ _ _)
  have HB2 := Aside0.mk ((below_drew HB).grown hge HB.size (fun k hk => by injection hk with hk; subst hk; exact hb))
  have HK2 := Aside0.mk (show Kept w W2 (fun k => k = g) from ⟨hge.size, fun k hk hne => hge.block k hk (fun e => hne (by injection e))⟩)
  have HE : #[.slice (some ⟨g, 0, none⟩) n c, .int .i64 i, .slice (some ⟨vb, 0, none⟩) 1 1] = (#[.slice (some ⟨g, 0, none⟩) n c, .int .i64 i, .slice (some ⟨vb, 0, none⟩) m 1] : Array Value) := by rw [hm]
  rw [HE, show n + 1 = n + m by rw [hm]]
  clear hge hcell hsp hW1 hW2 hnews HO HB hnl hxl hcs hcs2 hcsz hg h0 hb hcm htk hn hc1 hc2 hc3 hgv hcp2 F hm HE hv hroom
  go_enter Try.func57, Try.ntmps57
  go_wp2_with (simp only [hov])
  go_region_law (refine step_copy_runI rfl _ _ 22 22 rfl _ _ (by simp [Act.eval, Act.put]) (by simp [Act.eval, Act.put]) (hcp1 _ _ _) ?_)
  go_wp2_with (at_builtin; refine wpList_copy_runI _ rfl _ _ 22 22 rfl _ _ rfl rfl (hcp3 _ _) ?_)
  go_ret
  exact ⟨rfl, HR2.out, HB2.out, HK2.out⟩
set_option maxHeartbeats 8000000 in
set_option maxRecDepth 100000 in
theorem api_Span_57.grow (g n c i : Nat) (xs : List (S30)) (x : S30) (vb : Nat) (ok : Nat → Prop) (w0 w : World) (HB : Below w0.heap.size w0 w) (HO : (k30).R 30 w w0.heap.size ok (.slice (some ⟨g, 0, none⟩) n c) xs) (hi : i < n) (hroom : c < n + 1) (hbig : n < 1000000000000)
    (hv : w.heap[vb]? = some (.cells (cells30 [x]).toArray 30 (0, 0))) :
    Calls Try.prog 57 #[.slice (some ⟨g, 0, none⟩) n c, .int .i64 i, .slice (some ⟨vb, 0, none⟩) 1 1] w fun e w' => ∃ v', e = .returned v' ∧
      (k30).R 30 w' w0.heap.size (fun k => w.heap.size ≤ k) v' (xs.take i ++ [x] ++ xs.drop i) ∧ Below w0.heap.size w0 w' ∧ Kept w w' (fun _ => False) := by
  have F := flatS30
  obtain ⟨i0, hi0, hzv, hzs, hzb⟩ := info_parts info30
  have hsz : (Try.prog.info? 30).map (·.size) = some 2 := by rw [hi0]; simp [hzs]
  obtain ⟨hn, h0, hb, hnc, hcm, cur, hg, hcs, htk⟩ := F.open_ HO
  have hc63 : c ≤ 9223372036854775807 := by unfold maxLen at hcm; omega
  obtain ⟨m, hm⟩ : ∃ m, m = 1 := ⟨_, rfl⟩
  have hbw : g < w.heap.size := (Array.getElem?_eq_some_iff.1 hg).1
  have hvw : vb < w.heap.size := (Array.getElem?_eq_some_iff.1 hv).1
  obtain ⟨news, hnews⟩ : ∃ news, news = cells30 (xs.drop i) := ⟨_, rfl⟩
  obtain ⟨olds, holds⟩ : ∃ olds, olds = cells30 (xs.take i) := ⟨_, rfl⟩
  have hnl : news.length = (n - i) * 2 := by rw [hnews, F.len, List.length_drop, hn]; rfl
  have hol : olds.length = i * 2 := by rw [holds, F.len, List.length_take, Nat.min_eq_left (by omega)]; rfl
  have hxl : (cells30 [x]).length = 1 * 2 := F.len [x]
  have hcell : ∀ t u, news[t]? = some u → w.cell? ⟨g, i * 2 + t, none⟩ = some u := by rw [hnews]; exact F.cell HO i (by omega)
  have hz1 : ¬ ((m : Int) = 0) := by omega
  have hz2 : ¬ ((i : Int) = (n : Int)) := by omega
  have hz3 : (c : Int) < (n : Int) + (m : Int) := by omega
  have hkk : (n : Int) + (m : Int) - (i : Int) = ((n + m - i : Nat) : Int) := by omega
  have hik : i + (n + m - i) = n + m := by omega
  have hold : (Builtin.firstCells i0.size i (.slice (some ⟨g, 0, none⟩) i c)).run Try.prog w.drew = .ok olds.toArray w.drew := by
    rw [hzs]
    exact run_firstCells_some w.drew 2 i ⟨g, 0, none⟩ i c olds (by rw [hol]) (fun j v hj => by
      rw [Addr.add_lit, Nat.zero_add]
      have hcl := (List.getElem?_eq_some_iff.1 hj).1
      rw [holds, F.take xs i (by omega), ← htk, List.take_take, List.getElem?_take] at hj
      split at hj
      · show w.cell? _ = _
        rw [cell_of_row w g _ cur 30 (0, 0) hg]; simpa using hj
      · cases hj)
  have hbig2 : (n + m) * 16 ≤ 140737488355328 := by omega
  have hrz : ∀ ty, (Builtin.append_ #[22, 3] ty #[.slice (some ⟨g, 0, none⟩) i c, .int .i64 ((n : Int) + (m : Int) - (i : Int))]).run Try.prog w =
      .ok (.slice (some ⟨w.heap.size, 0, none⟩) (n + m) (grownCap w (n + m) c 30)) (w.drew.alloc (.cells (olds.toArray ++ Builtin.zeroCells ((Value.agg #[Value.int IntKind.i64 0, Value.int IntKind.i64 0])).cells (n + m - i) ++ Builtin.zeroCells ((Value.agg #[Value.int IntKind.i64 0, Value.int IntKind.i64 0])).cells (grownCap w (n + m) c 30 - (n + m))) 30)) := fun ty => by
    have h := Lib.run_append_grow_zeros w 22 3 ty 30 i0 _ .i64 .i64 Try.underlying22 Try.underlying3 hi0 hzv (some ⟨g, 0, none⟩) i c olds hold (n + m - i) (by omega) (by omega) (by omega) (by omega) (by rw [hzb]; omega) (by rw [hzb, hik]; exact growslice_fits (by omega) hbig2)
    rw [hik] at h
    rw [hkk]
    exact h
  obtain ⟨G, hG⟩ : ∃ G, G = grownCap w (n + m) c 30 := ⟨_, rfl⟩
  obtain ⟨ROW, hROW⟩ : ∃ ROW : Array Value, ROW = olds.toArray ++ Builtin.zeroCells ((Value.agg #[Value.int IntKind.i64 0, Value.int IntKind.i64 0])).cells (n + m - i) ++ Builtin.zeroCells ((Value.agg #[Value.int IntKind.i64 0, Value.int IntKind.i64 0])).cells (G - (n + m)) := ⟨_, rfl⟩
  rw [← hG] at hrz
  rw [← hROW] at hrz
  have hGn : n + m ≤ G := by rw [hG]; exact grownCap_ge w _ _ _
  have hGM : G ≤ maxLen := by rw [hG]; exact grownCap_le_maxLen w (n + m) c 30 (by unfold maxLen; omega)
  have hG63 : G ≤ 9223372036854775807 := by unfold maxLen at hGM; omega
  have hRs : ROW.size = G * 2 := by
    have e1 := zeroCells_size ((Value.agg #[Value.int IntKind.i64 0, Value.int IntKind.i64 0])).cells (n + m - i)
    have e2 := zeroCells_size ((Value.agg #[Value.int IntKind.i64 0, Value.int IntKind.i64 0])).cells (G - (n + m))
    rw [Array.length_toList] at e1 e2
    rw [hROW, Array.size_append, Array.size_append, e1, e2, List.size_toArray, hol]
    have : ((Value.agg #[Value.int IntKind.i64 0, Value.int IntKind.i64 0])).cells.size = 2 := rfl
    rw [this]
    omega
  have hRt : ROW.toList.take (i * 2) = olds := by
    rw [hROW, Array.toList_append, Array.toList_append, List.append_assoc, List.take_left' (by rw [hol])]
  obtain ⟨W1, hW1⟩ : ∃ W1, W1 = w.drew.alloc (.cells ROW 30) := ⟨_, rfl⟩
  have hrz2 := hrz
  rw [← hW1] at hrz
  have h1g : W1.heap[g]? = some (.cells cur 30 (0, 0)) := by rw [hW1]; exact (below_alloc (below_drew (Below.refl w.heap.size w)) _).block g hbw ▸ hg
  have h1v : W1.heap[vb]? = some (.cells (cells30 [x]).toArray 30 (0, 0)) := by rw [hW1]; exact (below_alloc (below_drew (Below.refl w.heap.size w)) _).block vb hvw ▸ hv
  have h1H : W1.heap[w.heap.size]? = some (.cells ROW 30 (0, 0)) := by rw [hW1]; show (w.heap.push _)[w.heap.size]? = _; simp
  have hcpA : ∀ (W : World), (∀ x, W.cell? x = W1.cell? x) → (∀ x, W.frozen? x = W1.frozen? x) → ∀ ty dc, (Builtin.copy_ #[22, 22] ty #[.slice (some ⟨w.heap.size, i * 2, none⟩) (n + m - i) dc, .slice (some ⟨vb, 0, none⟩) m 1]).run Try.prog W = .ok (goInt m) (W.setCells w.heap.size (i * 2) (cells30 [x])) := fun W hWc hWf ty dc =>
    run_copy_cellsK W 22 22 ty 30 2 w.heap.size (i * 2) (n + m - i) dc ⟨vb, 0, none⟩ m 1 (cells30 [x]) Try.underlying22 hsz m (by simp only [Nat.min_def]; split <;> omega) (by rw [hxl, hm])
      (fun j v hj => by rw [Addr.add_lit, hWc, cell_of_row W1 vb _ _ 30 (0, 0) h1v]; simpa using hj)
      (fun j hj => by rw [hWc, cell_of_row W1 _ _ _ 30 (0, 0) h1H]; simp; rw [hRs]; omega) (fun j hj => by rw [hWf]; simp [World.frozen?, h1H]) (F.one [x])
  have hGi : ¬ (G = i) := by omega
  have hGim : ¬ (G = i + m) := by omega
  have hci : ¬ (c = i) := by omega
  have hbN : g ≠ w.heap.size := by omega
  obtain ⟨W2, hW2⟩ : ∃ W2, W2 = W1.setCells w.heap.size (i * 2) (cells30 [x]) := ⟨_, rfl⟩
  obtain ⟨cur2, h2H, h2s, h2t⟩ := setCells_row (cells30 [x]) (i * 2) W1 ROW h1H (by rw [hxl, hRs]; omega)
  rw [← hW2] at h2H
  have h2g : W2.heap[g]? = some (.cells cur 30 (0, 0)) := by rw [hW2, setCells_far _ _ g hbN]; exact h1g
  have hcpB : ∀ (W : World), (∀ x, W.cell? x = W2.cell? x) → (∀ x, W.frozen? x = W2.frozen? x) → ∀ ty dc sc, (Builtin.copy_ #[22, 22] ty #[.slice (some ⟨w.heap.size, (i + m) * 2, none⟩) (n + m - (i + m)) dc, .slice (some ⟨g, i * 2, none⟩) (n - i) sc]).run Try.prog W = .ok (goInt ((n - i : Nat) : Int)) (W.setCells w.heap.size ((i + m) * 2) news) := fun W hWc hWf ty dc sc =>
    run_copy_cellsK W 22 22 ty 30 2 w.heap.size ((i + m) * 2) (n + m - (i + m)) dc ⟨g, i * 2, none⟩ (n - i) sc news Try.underlying22 hsz (n - i) (by simp only [Nat.min_def]; split <;> omega) hnl
      (fun j v hj => by
        have h_ := hcell j v hj
        rw [Addr.add_lit, hWc, cell_of_row W2 g _ cur 30 (0, 0) h2g]
        rw [cell_of_row w g _ cur 30 (0, 0) hg] at h_
        exact h_)
      (fun j hj => by rw [hWc, cell_of_row W2 _ _ _ 30 (0, 0) h2H]; simp; rw [h2s, hRs]; omega)
      (fun j hj => by rw [hWf]; simp [World.frozen?, h2H]) (fun v hv => F.one (xs.drop i) v (by rw [← hnews]; exact hv))
  have hg1 : w.drew.grownBy W1 (some w.heap.size) := by rw [hW1]; exact World.grownBy_alloc w.drew _ _
  have hg2 : W1.grownBy W2 (some w.heap.size) := by rw [hW2]; exact setCells_grown _ _ _ _
  have hg3 : W2.drew.grownBy (W2.drew.setCells w.heap.size ((i + m) * 2) news) (some w.heap.size) := setCells_grown _ _ _ _
  have hRf := Aside0.mk (show (k30).R 30 (W2.drew.setCells w.heap.size ((i + m) * 2) news) w0.heap.size (fun k => w.heap.size ≤ k) (.slice (some ⟨w.heap.size, 0, none⟩) (n + m) G) (xs.take i ++ [x] ++ xs.drop i) by
    have h_ := F.fresh (W := W1.drew) (base := w0.heap.size) (ok := fun k => w.heap.size ≤ k) (n := n) (G := G) h1H hRs i x hn (by omega) (hRt.trans holds) (by omega) hGM HB.size (Nat.le_refl _)
    rw [hW2, drew_setCells, hnews, hm]; exact h_)
  have HBf := Aside0.mk (show Below w0.heap.size w0 (W2.drew.setCells w.heap.size ((i + m) * 2) news) from
    (below_drew (((below_drew HB).grown hg1 HB.size (fun k hk => by injection hk with hk; subst hk; exact HB.size)).grown hg2 (Nat.le_trans HB.size hg1.size) (fun k hk => by injection hk with hk; subst hk; exact HB.size))).grown hg3 (Nat.le_trans HB.size (Nat.le_trans hg1.size hg2.size)) (fun k hk => by injection hk with hk; subst hk; exact HB.size))
  have HKf := Aside0.mk (show Kept w (W2.drew.setCells w.heap.size ((i + m) * 2) news) (fun _ => False) from
    ⟨Nat.le_trans hg1.size (Nat.le_trans hg2.size hg3.size), fun k hk _ => ((hg3.block k (Nat.lt_of_lt_of_le hk (Nat.le_trans hg1.size hg2.size)) (fun e => absurd e (by simp; omega))).trans (hg2.block k (Nat.lt_of_lt_of_le hk hg1.size) (fun e => absurd e (by simp; omega)))).trans (hg1.block k hk (fun e => absurd e (by simp; omega)))⟩)
  have HE : #[.slice (some ⟨g, 0, none⟩) n c, .int .i64 i, .slice (some ⟨vb, 0, none⟩) 1 1] = (#[.slice (some ⟨g, 0, none⟩) n c, .int .i64 i, .slice (some ⟨vb, 0, none⟩) m 1] : Array Value) := by rw [hm]
  have hw1 : IntKind.i64.wrap ((i : Int) + (m : Int)) = (i : Int) + (m : Int) := by rw [IntKind.wrap_i64]; omega
  have hb1 : (0 : Int) ≤ (i : Int) + (m : Int) := by omega
  have hin : i ≤ n := by omega
  have hinc : i ≤ c := by omega
  have htn : ((i : Int) + (m : Int)).toNat = i + m := by omega
  have hb3 : (i : Int) ≤ (n : Int) := by omega
  have hb5 : i ≤ n + m := by omega
  have hE1 : ∀ x, ((w.alloc (.cells ROW 30)).drew).cell? x = W1.cell? x := fun x => by rw [hW1]; rfl
  have hE2 : ∀ x, ((w.alloc (.cells ROW 30)).drew).frozen? x = W1.frozen? x := fun x => by rw [hW1]; rfl
  have hA2 : ∀ ty dc, (Builtin.copy_ #[22, 22] ty #[.slice (some ⟨w.heap.size, i * 2, none⟩) (n + m - i) dc, .slice (some ⟨vb, 0, none⟩) m 1]).run Try.prog W1 = .ok (goInt m) W2 := fun ty dc => by
    rw [hW2]; exact hcpA W1 (fun _ => rfl) (fun _ => rfl) ty dc
  have hB2 := hcpB W2.drew (fun _ => rfl) (fun _ => rfl)
  obtain ⟨W3, hW3⟩ : ∃ W3, W3 = W2.drew.setCells w.heap.size ((i + m) * 2) news := ⟨_, rfl⟩
  rw [← hW3] at hB2 hRf HBf HKf
  have hrz3 : ∀ ty, (Builtin.append_ #[22, 3] ty #[.slice (some ⟨g, 0, none⟩) i c, .int .i64 ((n : Int) + (m : Int) - (i : Int))]).run Try.prog w = .ok (.slice (some ⟨w.heap.size, 0, none⟩) (n + m) G) W1 := hrz
  obtain ⟨H, hH⟩ : ∃ H, H = w.heap.size := ⟨_, rfl⟩
  rw [← hH] at hA2 hB2 hRf hrz3
  rw [HE]
  have HH := Aside0.mk hH
  clear hkk hik hold hROW hG hRs hRt hrz hrz2 hcpA hcpB hE1 hE2 hW1 hW2 hW3 h1g h1v h1H h2g h2H h2s h2t hg1 hg2 hg3 hcell hnl hol hxl holds hnews HO HB F hg hcs htk hn h0 hb hcm hm HE hv hbw hvw hbN hroom hbig hbig2 hGM hH hi0 hzv hzs hzb hsz
  go_enter Try.func57, Try.ntmps57
  go_wp2_with (first
    | (at_builtin; refine Lib.wpList_append_run _ rfl _ _ _ _ rfl _ _ rfl rfl _ _ (hrz3 _) ?_)
    | (at_builtin; refine wpList_copy_runI _ rfl _ _ 22 22 rfl _ _ rfl rfl (hA2 _ _) ?_))
  go_region_law (refine step_copy_runI rfl _ _ 22 22 rfl (.slice (some ⟨H, (i + m) * 2, none⟩) (n + m - (i + m)) (G - (i + m))) (.slice (some ⟨g, i * 2, none⟩) (n - i) (c - i)) (by simp [Act.eval, Act.put]) (by simp [Act.eval, Act.put]) (hB2 3 (G - (i + m)) (c - i)) ?_)
  go_wp2
  go_ret
  exact ⟨.slice (some ⟨H, 0, none⟩) (n + m) G, rfl, Kd.R_mono hRf.out (fun k hk => by rw [← HH.out]; exact hk), HBf.out, HKf.out⟩
theorem api_Span_57.calls (v : Value) (xs : List (S30)) (x : S30) (i : Nat) (vb : Nat) (ok : Nat → Prop) (w0 w : World) (HB : Below w0.heap.size w0 w) (HO : (k30).R 30 w w0.heap.size ok v xs) (hi : i ≤ xs.length) (hl : xs.length < 1000000000000)
    (hv : w.heap[vb]? = some (.cells (cells30 [x]).toArray 30 (0, 0))) (hvb : some vb ≠ v.ownBlock) :
    Calls Try.prog 57 #[v, .int .i64 (i : Int), .slice (some ⟨vb, 0, none⟩) 1 1] w fun e w' => ∃ v', e = .returned v' ∧
      (k30).R 30 w' w0.heap.size (fun k => ok k ∨ w.heap.size ≤ k) v' (xs.take i ++ [x] ++ xs.drop i) ∧ Below w0.heap.size w0 w' ∧ Kept w w' (fun k => some k = v.ownBlock) := by
  by_cases he : i = xs.length
  · subst he
    have h := api_Span_57.end_ v xs x vb ok w0 w HB HO hl hv hvb
    rw [List.take_length, List.drop_length, List.append_nil]
    exact h
  · obtain ⟨g, c, rfl, _, _⟩ := Kd.R_form HO (by omega)
    have hn := (flatS30.open_ HO).2.2.2.1
    by_cases hr : xs.length + 1 ≤ c
    · refine (api_Span_57.shift g xs.length c i xs x vb ok w0 w HB HO (by omega) hr hv (fun e => hvb (by rw [e]; rfl))).mono ?_
      rintro e w' ⟨rfl, h1, h2, h3⟩
      exact ⟨_, rfl, Kd.R_mono h1 (fun k h => .inl h), h2, h3.mono (fun k h => by rw [h]; rfl)⟩
    · refine (api_Span_57.grow g xs.length c i xs x vb ok w0 w HB HO (by omega) (by omega) hl hv).mono ?_
      rintro e w' ⟨v', rfl, h1, h2, h3⟩
      exact ⟨_, rfl, Kd.R_mono h1 (fun k h => .inr h), h2, h3.mono (fun k h => h.elim)⟩
set_option maxHeartbeats 8000000 in
set_option maxRecDepth 100000 in
theorem api_int_58.end_ (v : Value) (xs : List (Int)) (x : Int) (vb : Nat) (ok : Nat → Prop) (w0 w : World) (HB : Below w0.heap.size w0 w) (HO : (Kd.int .i64).R 3 w w0.heap.size ok v xs) (hl : xs.length < 1000000000000)
    (hv : w.heap[vb]? = some (.cells (nums .i64 [x]).toArray 3 (0, 0))) (hvb : some vb ≠ v.ownBlock) :
    Calls Try.prog 58 #[v, .int .i64 (xs.length : Int), .slice (some ⟨vb, 0, none⟩) 1 1] w fun e w' => ∃ v', e = .returned v' ∧
      (Kd.int .i64).R 3 w' w0.heap.size (fun k => ok k ∨ w.heap.size ≤ k) v' (xs ++ [x]) ∧ Below w0.heap.size w0 w' ∧ Kept w w' (fun k => some k = v.ownBlock) := by
  have HC := Aside0.mk (CIntone hv)
  have HO1 := Aside0.mk (Kd.R_mono HO (ok' := fun k => ok k ∨ w.heap.size ≤ k) (fun k h => .inl h))
  have HBA := Aside0.mk HB
  have HL := Aside0.mk hl
  obtain ⟨A, c, rfl⟩ := Kd.R_slice HO
  have hm := (Kd.R_reads' HO).2.1
  have hcA := Aside0.mk (Kd.R_reads' HO).2.2
  have hnil : A = none → xs.length = 0 := fun h => by
    rcases Nat.eq_zero_or_pos xs.length with h1 | h1
    · exact h1
    · obtain ⟨ad, e, _⟩ := hcA.out.2.2 h1
      rw [h] at e; cases e
  obtain ⟨n, hn⟩ : ∃ n, n = xs.length := ⟨_, rfl⟩
  have HN := Aside0.mk hn
  rw [← hn] at HO1 hm hnil ⊢
  clear HO HB hl hv hcA hn hvb
  cases A with
  | none =>
    obtain rfl := hnil rfl
    go_enter Try.func58, Try.ntmps58
    go_wp2_with (first | ((with_reducible refine gate_builtin (b := .append) (xs := #[.tmp 23, .tmp 24]) rfl ?_); at_builtin; refine Kd.R_append_rows (Kd.int .i64) (w0 := w0) w0.heap.size rfl (.tmp 23) (.tmp 24) 37 3 (Value.int IntKind.i64 0) 8 rfl Try.underlying37 info3 rfl (by decide) (by omega) _ xs [x] _ _ _ (fun k => ok k ∨ w.heap.size ≤ k) (fun _ => False) rfl rfl ?aO HC.out (fun _ _ h => h) (fun _ h => h.elim) (fun k hk => .inr hk) ?aB ?aS ?aL ?_; (case aO => exact HO1.out); (case aB => exact HBA.out); (case aS => exact HBA.out.size); (case aL => have := HL.out; omega); intro v105 w5 ho hb hg hat; have HR5 := Aside0.mk ho; have HB5 := Aside0.mk hb; have HG5 := Aside0.mk hg; clear ho hb hg hat))
    go_ret
    exact ⟨_, rfl, HR5.out, HB5.out, ⟨HG5.out.size, fun k hk hne => HG5.out.block k hk (fun e => hne e)⟩⟩
  | some a =>
    obtain ⟨ab, ao, asp⟩ := a
    go_enter Try.func58, Try.ntmps58
    go_wp2_with (first | ((with_reducible refine gate_builtin (b := .append) (xs := #[.tmp 23, .tmp 24]) rfl ?_); at_builtin; refine Kd.R_append_rows (Kd.int .i64) (w0 := w0) w0.heap.size rfl (.tmp 23) (.tmp 24) 37 3 (Value.int IntKind.i64 0) 8 rfl Try.underlying37 info3 rfl (by decide) (by omega) _ xs [x] _ _ _ (fun k => ok k ∨ w.heap.size ≤ k) (fun _ => False) rfl rfl ?aO HC.out (fun _ _ h => h) (fun _ h => h.elim) (fun k hk => .inr hk) ?aB ?aS ?aL ?_; (case aO => exact HO1.out); (case aB => exact HBA.out); (case aS => exact HBA.out.size); (case aL => have := HL.out; omega); intro v105 w5 ho hb hg hat; have HR5 := Aside0.mk ho; have HB5 := Aside0.mk hb; have HG5 := Aside0.mk hg; clear ho hb hg hat))
    all_goals (go_ret; exact ⟨_, rfl, HR5.out, HB5.out, ⟨HG5.out.size, fun k hk hne => HG5.out.block k hk (fun e => hne e)⟩⟩)
set_option maxHeartbeats 8000000 in
set_option maxRecDepth 100000 in
theorem api_int_58.shift (g n c i : Nat) (xs : List (Int)) (x : Int) (vb : Nat) (ok : Nat → Prop) (w0 w : World) (HB : Below w0.heap.size w0 w) (HO : (Kd.int .i64).R 3 w w0.heap.size ok (.slice (some ⟨g, 0, none⟩) n c) xs) (hi : i < n) (hroom : n + 1 ≤ c)
    (hv : w.heap[vb]? = some (.cells (nums .i64 [x]).toArray 3 (0, 0))) (hvb : vb ≠ g) :
    Calls Try.prog 58 #[.slice (some ⟨g, 0, none⟩) n c, .int .i64 i, .slice (some ⟨vb, 0, none⟩) 1 1] w fun e w' => e = .returned (.slice (some ⟨g, 0, none⟩) (n + 1) c) ∧
      (Kd.int .i64).R 3 w' w0.heap.size ok (.slice (some ⟨g, 0, none⟩) (n + 1) c) (xs.take i ++ [x] ++ xs.drop i) ∧ Below w0.heap.size w0 w' ∧ Kept w w' (fun k => k = g) := by
  have F := flatInt
  obtain ⟨i0, hi0, _, hsz0, _⟩ := info_parts info3
  have hsz : (Try.prog.info? 3).map (·.size) = some 1 := by rw [hi0]; simp [hsz0]
  obtain ⟨hn, h0, hb, hnc, hcm, cur, hg, hcs, htk⟩ := F.open_ HO
  have hc63 : c ≤ 9223372036854775807 := by unfold maxLen at hcm; omega
  have hsp := F.spare HO
  obtain ⟨m, hm⟩ : ∃ m, m = 1 := ⟨_, rfl⟩
  obtain ⟨news, hnews⟩ : ∃ news, news = nums .i64 (xs.drop i) := ⟨_, rfl⟩
  have hnl : news.length = (n - i) * 1 := by rw [hnews, F.len, List.length_drop, hn]; rfl
  have hxl : (nums .i64 [x]).length = 1 * 1 := F.len [x]
  have hcs2 : cur.size = c * 1 := hcs
  have hcell : ∀ t u, news[t]? = some u → w.cell? ⟨g, i * 1 + t, none⟩ = some u := by rw [hnews]; exact F.cell HO i (by omega)
  have hz1 : ¬ ((m : Int) = 0) := by omega
  have hz2 : ¬ ((i : Int) = (n : Int)) := by omega
  have hcsz : 0 < cur.size := by rw [hcs2]; omega
  have hov : ∀ lb cb, (callFunc 73 #[.slice (some ⟨vb, 0, none⟩) m 1, .slice (some ⟨g, i + m, none⟩) lb cb]).run Try.prog w = .ok (.value (.bool false)) w := fun lb cb => by
    rw [run_callFunc_extern (show Try.prog.funcs[73]? = some Try.f73 by kernel_rfl) (by kernel_rfl) (by kernel_rfl) (by kernel_rfl) (e := Extern.SlicesOverlaps.overlaps #[37, 37] #[4]) (by kernel_rfl),
      Lib.run_overlaps_apart w 37 4 3 Try.underlying37 1 (fun w => by first | rfl | kernel_rfl) ⟨vb, 0, none⟩ ⟨g, i + m, none⟩ m 1 lb cb hvb 3 3 (nums .i64 [x]).toArray.size cur.size (by simp [World.shape?, hv]) (by simp [World.shape?, hg]) (by omega) (by simp [World.frozen?, hv]) (by simp [World.frozen?, hv])]
    rfl
  have hw1 : IntKind.i64.wrap ((i : Int) + (m : Int)) = (i : Int) + (m : Int) := by rw [IntKind.wrap_i64]; omega
  have hb1 : (0 : Int) ≤ (i : Int) + (m : Int) := by omega
  have hin : i ≤ n := by omega
  have htn : ((i : Int) + (m : Int)).toNat = i + m := by omega
  have hb2 : ¬ (c = i + m) := by omega
  have hb3 : (i : Int) ≤ (n : Int) + (m : Int) := by omega
  have hb4 : ¬ (c = i) := by omega
  have hroom2 : n + m ≤ c := by omega
  have hcp1 : ∀ ty dc sc, (Builtin.copy_ #[37, 37] ty #[.slice (some ⟨g, i + m, none⟩) (n + m - (i + m)) dc, .slice (some ⟨g, i, none⟩) (n + m - i) sc]).run Try.prog w.drew = .ok (goInt ((n - i : Nat) : Int)) (w.drew.setCells g (i + m) news) := fun ty dc sc =>
    run_copy_cellsK w.drew 37 37 ty 3 1 g (i + m) (n + m - (i + m)) dc ⟨g, i, none⟩ (n + m - i) sc news Try.underlying37 hsz (n - i) (by simp only [Nat.min_def]; split <;> omega) hnl
      (fun j v hj => by rw [Addr.add_lit]; have := hcell j v hj; rw [Nat.mul_one] at this; exact this)
      (fun j hj => hsp.1 _ (by show _ < c * 1; omega)) (fun j hj => hsp.2 _) (fun v hv => F.one (xs.drop i) v (by rw [← hnews]; exact hv))
  obtain ⟨W1, hW1⟩ : ∃ W1, W1 = w.drew.setCells g (i + m) news := ⟨_, rfl⟩
  obtain ⟨cur1, hc1, hc2, hc3⟩ := setCells_row news (i + m) w.drew cur hg (by rw [hnl, hcs2]; omega)
  rw [← hW1] at hc1 hcp1
  have hgv : W1.heap[vb]? = some (.cells (nums .i64 [x]).toArray 3 (0, 0)) := by rw [hW1, setCells_far _ _ vb (fun e => hvb e)]; exact hv
  have hcp2 : ∀ (W : World), (∀ x, W.cell? x = W1.cell? x) → (∀ x, W.frozen? x = W1.frozen? x) → ∀ ty dc, (Builtin.copy_ #[37, 37] ty #[.slice (some ⟨g, i, none⟩) (n + m - i) dc, .slice (some ⟨vb, 0, none⟩) m 1]).run Try.prog W = .ok (goInt m) (W.setCells g (i) (nums .i64 [x])) := fun W hWc hWf ty dc =>
    run_copy_cellsK W 37 37 ty 3 1 g (i) (n + m - i) dc ⟨vb, 0, none⟩ m 1 (nums .i64 [x]) Try.underlying37 hsz m (by simp only [Nat.min_def]; split <;> omega) (by rw [hxl, hm])
      (fun j v hj => by rw [Addr.add_lit, hWc, cell_of_row W1 vb _ _ 3 (0, 0) hgv]; simpa using hj)
      (fun j hj => by rw [hWc, cell_of_row W1 g _ _ 3 (0, 0) hc1]; simp; rw [hc2, hcs2]; omega) (fun j hj => by rw [hWf]; simp [World.frozen?, hc1]) (F.one [x])
  obtain ⟨W2, hW2⟩ : ∃ W2, W2 = W1.setCells g (i) (nums .i64 [x]) := ⟨_, rfl⟩
  have hcp3 := fun ty dc => hcp2 W1 (fun _ => rfl) (fun _ => rfl) ty dc
  rw [← hW2] at hcp3
  have HR2 := Aside0.mk (show (Kd.int .i64).R 3 W2 w0.heap.size ok (.slice (some ⟨g, 0, none⟩) (n + m) c) (xs.take i ++ [x] ++ xs.drop i) by
    have h_ := F.ins (Kd.R_drew HO) i hin x hroom
    rw [hW2, hW1, hnews, hm]; (rw [show (i + 1) * (Kd.int .i64).sz = i + 1 from Nat.mul_one _, show i * (Kd.int .i64).sz = i from Nat.mul_one _] at h_; exact h_))
  have hge : w.drew.grownBy W2 (some g) := by rw [hW2, hW1]; exact (setCells_grown _ _ _ _).trans (setCells_grown _ _ _ _)
  have HB2 := Aside0.mk ((below_drew HB).grown hge HB.size (fun k hk => by injection hk with hk; subst hk; exact hb))
  have HK2 := Aside0.mk (show Kept w W2 (fun k => k = g) from ⟨hge.size, fun k hk hne => hge.block k hk (fun e => hne (by injection e))⟩)
  have HE : #[.slice (some ⟨g, 0, none⟩) n c, .int .i64 i, .slice (some ⟨vb, 0, none⟩) 1 1] = (#[.slice (some ⟨g, 0, none⟩) n c, .int .i64 i, .slice (some ⟨vb, 0, none⟩) m 1] : Array Value) := by rw [hm]
  rw [HE, show n + 1 = n + m by rw [hm]]
  clear hge hcell hsp hW1 hW2 hnews HO HB hnl hxl hcs hcs2 hcsz hg h0 hb hcm htk hn hc1 hc2 hc3 hgv hcp2 F hm HE hv hroom
  go_enter Try.func58, Try.ntmps58
  go_wp2_with (simp only [hov])
  go_region_law (refine step_copy_runI rfl _ _ 37 37 rfl _ _ (by simp [Act.eval, Act.put]) (by simp [Act.eval, Act.put]) (hcp1 _ _ _) ?_)
  go_wp2_with (at_builtin; refine wpList_copy_runI _ rfl _ _ 37 37 rfl _ _ rfl rfl (hcp3 _ _) ?_)
  go_ret
  exact ⟨rfl, HR2.out, HB2.out, HK2.out⟩
set_option maxHeartbeats 8000000 in
set_option maxRecDepth 100000 in
theorem api_int_58.grow (g n c i : Nat) (xs : List (Int)) (x : Int) (vb : Nat) (ok : Nat → Prop) (w0 w : World) (HB : Below w0.heap.size w0 w) (HO : (Kd.int .i64).R 3 w w0.heap.size ok (.slice (some ⟨g, 0, none⟩) n c) xs) (hi : i < n) (hroom : c < n + 1) (hbig : n < 1000000000000)
    (hv : w.heap[vb]? = some (.cells (nums .i64 [x]).toArray 3 (0, 0))) :
    Calls Try.prog 58 #[.slice (some ⟨g, 0, none⟩) n c, .int .i64 i, .slice (some ⟨vb, 0, none⟩) 1 1] w fun e w' => ∃ v', e = .returned v' ∧
      (Kd.int .i64).R 3 w' w0.heap.size (fun k => w.heap.size ≤ k) v' (xs.take i ++ [x] ++ xs.drop i) ∧ Below w0.heap.size w0 w' ∧ Kept w w' (fun _ => False) := by
  have F := flatInt
  obtain ⟨i0, hi0, hzv, hzs, hzb⟩ := info_parts info3
  have hsz : (Try.prog.info? 3).map (·.size) = some 1 := by rw [hi0]; simp [hzs]
  obtain ⟨hn, h0, hb, hnc, hcm, cur, hg, hcs, htk⟩ := F.open_ HO
  have hc63 : c ≤ 9223372036854775807 := by unfold maxLen at hcm; omega
  obtain ⟨m, hm⟩ : ∃ m, m = 1 := ⟨_, rfl⟩
  have hbw : g < w.heap.size := (Array.getElem?_eq_some_iff.1 hg).1
  have hvw : vb < w.heap.size := (Array.getElem?_eq_some_iff.1 hv).1
  obtain ⟨news, hnews⟩ : ∃ news, news = nums .i64 (xs.drop i) := ⟨_, rfl⟩
  obtain ⟨olds, holds⟩ : ∃ olds, olds = nums .i64 (xs.take i) := ⟨_, rfl⟩
  have hnl : news.length = (n - i) * 1 := by rw [hnews, F.len, List.length_drop, hn]; rfl
  have hol : olds.length = i * 1 := by rw [holds, F.len, List.length_take, Nat.min_eq_left (by omega)]; rfl
  have hxl : (nums .i64 [x]).length = 1 * 1 := F.len [x]
  have hcell : ∀ t u, news[t]? = some u → w.cell? ⟨g, i * 1 + t, none⟩ = some u := by rw [hnews]; exact F.cell HO i (by omega)
  have hz1 : ¬ ((m : Int) = 0) := by omega
  have hz2 : ¬ ((i : Int) = (n : Int)) := by omega
  have hz3 : (c : Int) < (n : Int) + (m : Int) := by omega
  have hkk : (n : Int) + (m : Int) - (i : Int) = ((n + m - i : Nat) : Int) := by omega
  have hik : i + (n + m - i) = n + m := by omega
  have hold : (Builtin.firstCells i0.size i (.slice (some ⟨g, 0, none⟩) i c)).run Try.prog w.drew = .ok olds.toArray w.drew := by
    rw [hzs]
    exact run_firstCells_some w.drew 1 i ⟨g, 0, none⟩ i c olds (by rw [hol]) (fun j v hj => by
      rw [Addr.add_lit, Nat.zero_add]
      have hcl := (List.getElem?_eq_some_iff.1 hj).1
      rw [holds, F.take xs i (by omega), ← htk, List.take_take, List.getElem?_take] at hj
      split at hj
      · show w.cell? _ = _
        rw [cell_of_row w g _ cur 3 (0, 0) hg]; simpa using hj
      · cases hj)
  have hbig2 : (n + m) * 8 ≤ 140737488355328 := by omega
  have hrz : ∀ ty, (Builtin.append_ #[37, 3] ty #[.slice (some ⟨g, 0, none⟩) i c, .int .i64 ((n : Int) + (m : Int) - (i : Int))]).run Try.prog w =
      .ok (.slice (some ⟨w.heap.size, 0, none⟩) (n + m) (grownCap w (n + m) c 3)) (w.drew.alloc (.cells (olds.toArray ++ Builtin.zeroCells ((Value.int IntKind.i64 0)).cells (n + m - i) ++ Builtin.zeroCells ((Value.int IntKind.i64 0)).cells (grownCap w (n + m) c 3 - (n + m))) 3)) := fun ty => by
    have h := Lib.run_append_grow_zeros w 37 3 ty 3 i0 _ .i64 .i64 Try.underlying37 Try.underlying3 hi0 hzv (some ⟨g, 0, none⟩) i c olds hold (n + m - i) (by omega) (by omega) (by omega) (by omega) (by rw [hzb]; omega) (by rw [hzb, hik]; exact growslice_fits (by omega) hbig2)
    rw [hik] at h
    rw [hkk]
    exact h
  obtain ⟨G, hG⟩ : ∃ G, G = grownCap w (n + m) c 3 := ⟨_, rfl⟩
  obtain ⟨ROW, hROW⟩ : ∃ ROW : Array Value, ROW = olds.toArray ++ Builtin.zeroCells ((Value.int IntKind.i64 0)).cells (n + m - i) ++ Builtin.zeroCells ((Value.int IntKind.i64 0)).cells (G - (n + m)) := ⟨_, rfl⟩
  rw [← hG] at hrz
  rw [← hROW] at hrz
  have hGn : n + m ≤ G := by rw [hG]; exact grownCap_ge w _ _ _
  have hGM : G ≤ maxLen := by rw [hG]; exact grownCap_le_maxLen w (n + m) c 3 (by unfold maxLen; omega)
  have hG63 : G ≤ 9223372036854775807 := by unfold maxLen at hGM; omega
  have hRs : ROW.size = G * 1 := by
    have e1 := zeroCells_size ((Value.int IntKind.i64 0)).cells (n + m - i)
    have e2 := zeroCells_size ((Value.int IntKind.i64 0)).cells (G - (n + m))
    rw [Array.length_toList] at e1 e2
    rw [hROW, Array.size_append, Array.size_append, e1, e2, List.size_toArray, hol]
    have : ((Value.int IntKind.i64 0)).cells.size = 1 := rfl
    rw [this]
    omega
  have hRt : ROW.toList.take (i * 1) = olds := by
    rw [hROW, Array.toList_append, Array.toList_append, List.append_assoc, List.take_left' (by rw [hol])]
  obtain ⟨W1, hW1⟩ : ∃ W1, W1 = w.drew.alloc (.cells ROW 3) := ⟨_, rfl⟩
  have hrz2 := hrz
  rw [← hW1] at hrz
  have h1g : W1.heap[g]? = some (.cells cur 3 (0, 0)) := by rw [hW1]; exact (below_alloc (below_drew (Below.refl w.heap.size w)) _).block g hbw ▸ hg
  have h1v : W1.heap[vb]? = some (.cells (nums .i64 [x]).toArray 3 (0, 0)) := by rw [hW1]; exact (below_alloc (below_drew (Below.refl w.heap.size w)) _).block vb hvw ▸ hv
  have h1H : W1.heap[w.heap.size]? = some (.cells ROW 3 (0, 0)) := by rw [hW1]; show (w.heap.push _)[w.heap.size]? = _; simp
  have hcpA : ∀ (W : World), (∀ x, W.cell? x = W1.cell? x) → (∀ x, W.frozen? x = W1.frozen? x) → ∀ ty dc, (Builtin.copy_ #[37, 37] ty #[.slice (some ⟨w.heap.size, i, none⟩) (n + m - i) dc, .slice (some ⟨vb, 0, none⟩) m 1]).run Try.prog W = .ok (goInt m) (W.setCells w.heap.size (i) (nums .i64 [x])) := fun W hWc hWf ty dc =>
    run_copy_cellsK W 37 37 ty 3 1 w.heap.size (i) (n + m - i) dc ⟨vb, 0, none⟩ m 1 (nums .i64 [x]) Try.underlying37 hsz m (by simp only [Nat.min_def]; split <;> omega) (by rw [hxl, hm])
      (fun j v hj => by rw [Addr.add_lit, hWc, cell_of_row W1 vb _ _ 3 (0, 0) h1v]; simpa using hj)
      (fun j hj => by rw [hWc, cell_of_row W1 _ _ _ 3 (0, 0) h1H]; simp; rw [hRs]; omega) (fun j hj => by rw [hWf]; simp [World.frozen?, h1H]) (F.one [x])
  have hGi : ¬ (G = i) := by omega
  have hGim : ¬ (G = i + m) := by omega
  have hci : ¬ (c = i) := by omega
  have hbN : g ≠ w.heap.size := by omega
  obtain ⟨W2, hW2⟩ : ∃ W2, W2 = W1.setCells w.heap.size (i) (nums .i64 [x]) := ⟨_, rfl⟩
  obtain ⟨cur2, h2H, h2s, h2t⟩ := setCells_row (nums .i64 [x]) (i) W1 ROW h1H (by rw [hxl, hRs]; omega)
  rw [← hW2] at h2H
  have h2g : W2.heap[g]? = some (.cells cur 3 (0, 0)) := by rw [hW2, setCells_far _ _ g hbN]; exact h1g
  have hcpB : ∀ (W : World), (∀ x, W.cell? x = W2.cell? x) → (∀ x, W.frozen? x = W2.frozen? x) → ∀ ty dc sc, (Builtin.copy_ #[37, 37] ty #[.slice (some ⟨w.heap.size, i + m, none⟩) (n + m - (i + m)) dc, .slice (some ⟨g, i, none⟩) (n - i) sc]).run Try.prog W = .ok (goInt ((n - i : Nat) : Int)) (W.setCells w.heap.size (i + m) news) := fun W hWc hWf ty dc sc =>
    run_copy_cellsK W 37 37 ty 3 1 w.heap.size (i + m) (n + m - (i + m)) dc ⟨g, i, none⟩ (n - i) sc news Try.underlying37 hsz (n - i) (by simp only [Nat.min_def]; split <;> omega) hnl
      (fun j v hj => by
        have h_ := hcell j v hj
        rw [Addr.add_lit, hWc, cell_of_row W2 g _ cur 3 (0, 0) h2g]
        rw [cell_of_row w g _ cur 3 (0, 0) hg] at h_
        rw [Nat.mul_one] at h_; exact h_)
      (fun j hj => by rw [hWc, cell_of_row W2 _ _ _ 3 (0, 0) h2H]; simp; rw [h2s, hRs]; omega)
      (fun j hj => by rw [hWf]; simp [World.frozen?, h2H]) (fun v hv => F.one (xs.drop i) v (by rw [← hnews]; exact hv))
  have hg1 : w.drew.grownBy W1 (some w.heap.size) := by rw [hW1]; exact World.grownBy_alloc w.drew _ _
  have hg2 : W1.grownBy W2 (some w.heap.size) := by rw [hW2]; exact setCells_grown _ _ _ _
  have hg3 : W2.drew.grownBy (W2.drew.setCells w.heap.size (i + m) news) (some w.heap.size) := setCells_grown _ _ _ _
  have hRf := Aside0.mk (show (Kd.int .i64).R 3 (W2.drew.setCells w.heap.size (i + m) news) w0.heap.size (fun k => w.heap.size ≤ k) (.slice (some ⟨w.heap.size, 0, none⟩) (n + m) G) (xs.take i ++ [x] ++ xs.drop i) by
    have h_ := F.fresh (W := W1.drew) (base := w0.heap.size) (ok := fun k => w.heap.size ≤ k) (n := n) (G := G) h1H hRs i x hn (by omega) (hRt.trans holds) (by omega) hGM HB.size (Nat.le_refl _)
    rw [hW2, drew_setCells, hnews, hm]; (rw [show (i + 1) * (Kd.int .i64).sz = i + 1 from Nat.mul_one _, show i * (Kd.int .i64).sz = i from Nat.mul_one _] at h_; exact h_))
  have HBf := Aside0.mk (show Below w0.heap.size w0 (W2.drew.setCells w.heap.size (i + m) news) from
    (below_drew (((below_drew HB).grown hg1 HB.size (fun k hk => by injection hk with hk; subst hk; exact HB.size)).grown hg2 (Nat.le_trans HB.size hg1.size) (fun k hk => by injection hk with hk; subst hk; exact HB.size))).grown hg3 (Nat.le_trans HB.size (Nat.le_trans hg1.size hg2.size)) (fun k hk => by injection hk with hk; subst hk; exact HB.size))
  have HKf := Aside0.mk (show Kept w (W2.drew.setCells w.heap.size (i + m) news) (fun _ => False) from
    ⟨Nat.le_trans hg1.size (Nat.le_trans hg2.size hg3.size), fun k hk _ => ((hg3.block k (Nat.lt_of_lt_of_le hk (Nat.le_trans hg1.size hg2.size)) (fun e => absurd e (by simp; omega))).trans (hg2.block k (Nat.lt_of_lt_of_le hk hg1.size) (fun e => absurd e (by simp; omega)))).trans (hg1.block k hk (fun e => absurd e (by simp; omega)))⟩)
  have HE : #[.slice (some ⟨g, 0, none⟩) n c, .int .i64 i, .slice (some ⟨vb, 0, none⟩) 1 1] = (#[.slice (some ⟨g, 0, none⟩) n c, .int .i64 i, .slice (some ⟨vb, 0, none⟩) m 1] : Array Value) := by rw [hm]
  have hw1 : IntKind.i64.wrap ((i : Int) + (m : Int)) = (i : Int) + (m : Int) := by rw [IntKind.wrap_i64]; omega
  have hb1 : (0 : Int) ≤ (i : Int) + (m : Int) := by omega
  have hin : i ≤ n := by omega
  have hinc : i ≤ c := by omega
  have htn : ((i : Int) + (m : Int)).toNat = i + m := by omega
  have hb3 : (i : Int) ≤ (n : Int) := by omega
  have hb5 : i ≤ n + m := by omega
  have hE1 : ∀ x, ((w.alloc (.cells ROW 3)).drew).cell? x = W1.cell? x := fun x => by rw [hW1]; rfl
  have hE2 : ∀ x, ((w.alloc (.cells ROW 3)).drew).frozen? x = W1.frozen? x := fun x => by rw [hW1]; rfl
  have hA2 : ∀ ty dc, (Builtin.copy_ #[37, 37] ty #[.slice (some ⟨w.heap.size, i, none⟩) (n + m - i) dc, .slice (some ⟨vb, 0, none⟩) m 1]).run Try.prog W1 = .ok (goInt m) W2 := fun ty dc => by
    rw [hW2]; exact hcpA W1 (fun _ => rfl) (fun _ => rfl) ty dc
  have hB2 := hcpB W2.drew (fun _ => rfl) (fun _ => rfl)
  obtain ⟨W3, hW3⟩ : ∃ W3, W3 = W2.drew.setCells w.heap.size (i + m) news := ⟨_, rfl⟩
  rw [← hW3] at hB2 hRf HBf HKf
  have hrz3 : ∀ ty, (Builtin.append_ #[37, 3] ty #[.slice (some ⟨g, 0, none⟩) i c, .int .i64 ((n : Int) + (m : Int) - (i : Int))]).run Try.prog w = .ok (.slice (some ⟨w.heap.size, 0, none⟩) (n + m) G) W1 := hrz
  obtain ⟨H, hH⟩ : ∃ H, H = w.heap.size := ⟨_, rfl⟩
  rw [← hH] at hA2 hB2 hRf hrz3
  rw [HE]
  have HH := Aside0.mk hH
  clear hkk hik hold hROW hG hRs hRt hrz hrz2 hcpA hcpB hE1 hE2 hW1 hW2 hW3 h1g h1v h1H h2g h2H h2s h2t hg1 hg2 hg3 hcell hnl hol hxl holds hnews HO HB F hg hcs htk hn h0 hb hcm hm HE hv hbw hvw hbN hroom hbig hbig2 hGM hH hi0 hzv hzs hzb hsz
  go_enter Try.func58, Try.ntmps58
  go_wp2_with (first
    | (at_builtin; refine Lib.wpList_append_run _ rfl _ _ _ _ rfl _ _ rfl rfl _ _ (hrz3 _) ?_)
    | (at_builtin; refine wpList_copy_runI _ rfl _ _ 37 37 rfl _ _ rfl rfl (hA2 _ _) ?_))
  go_region_law (refine step_copy_runI rfl _ _ 37 37 rfl (.slice (some ⟨H, i + m, none⟩) (n + m - (i + m)) (G - (i + m))) (.slice (some ⟨g, i, none⟩) (n - i) (c - i)) (by simp [Act.eval, Act.put]) (by simp [Act.eval, Act.put]) (hB2 3 (G - (i + m)) (c - i)) ?_)
  go_wp2
  go_ret
  exact ⟨.slice (some ⟨H, 0, none⟩) (n + m) G, rfl, Kd.R_mono hRf.out (fun k hk => by rw [← HH.out]; exact hk), HBf.out, HKf.out⟩
theorem api_int_58.calls (v : Value) (xs : List (Int)) (x : Int) (i : Nat) (vb : Nat) (ok : Nat → Prop) (w0 w : World) (HB : Below w0.heap.size w0 w) (HO : (Kd.int .i64).R 3 w w0.heap.size ok v xs) (hi : i ≤ xs.length) (hl : xs.length < 1000000000000)
    (hv : w.heap[vb]? = some (.cells (nums .i64 [x]).toArray 3 (0, 0))) (hvb : some vb ≠ v.ownBlock) :
    Calls Try.prog 58 #[v, .int .i64 (i : Int), .slice (some ⟨vb, 0, none⟩) 1 1] w fun e w' => ∃ v', e = .returned v' ∧
      (Kd.int .i64).R 3 w' w0.heap.size (fun k => ok k ∨ w.heap.size ≤ k) v' (xs.take i ++ [x] ++ xs.drop i) ∧ Below w0.heap.size w0 w' ∧ Kept w w' (fun k => some k = v.ownBlock) := by
  by_cases he : i = xs.length
  · subst he
    have h := api_int_58.end_ v xs x vb ok w0 w HB HO hl hv hvb
    rw [List.take_length, List.drop_length, List.append_nil]
    exact h
  · obtain ⟨g, c, rfl, _, _⟩ := Kd.R_form HO (by omega)
    have hn := (flatInt.open_ HO).2.2.2.1
    by_cases hr : xs.length + 1 ≤ c
    · refine (api_int_58.shift g xs.length c i xs x vb ok w0 w HB HO (by omega) hr hv (fun e => hvb (by rw [e]; rfl))).mono ?_
      rintro e w' ⟨rfl, h1, h2, h3⟩
      exact ⟨_, rfl, Kd.R_mono h1 (fun k h => .inl h), h2, h3.mono (fun k h => by rw [h]; rfl)⟩
    · refine (api_int_58.grow g xs.length c i xs x vb ok w0 w HB HO (by omega) (by omega) hl hv).mono ?_
      rintro e w' ⟨v', rfl, h1, h2, h3⟩
      exact ⟨_, rfl, Kd.R_mono h1 (fun k h => .inr h), h2, h3.mono (fun k h => h.elim)⟩
end Go.Proofs.Ytgncbhpmnjfhhaa.S
end
section
namespace Go.Proofs.Ytgncbhpmnjfhhaa.S
open Go.RowKit Go.Proofs.YtgncbhpmnjfhhaaW.PrintWords Go.Proofs.YtgncbhpmnjfhhaaW.PrintLast Go.Proofs.YtgncbhpmnjfhhaaW.PrintMore
set_option linter.unusedVariables false
set_option linter.unusedSimpArgs false
def StI (gS base : Nat) (ok : Nat → Prop) (w : World) (l : List S30) (v : List Int) : Prop :=
  ∃ vl vv, w.heap[gS]? = some (.cells #[vl, vv] 41 (0, 0)) ∧ k30.R 30 w base ok vl l ∧ (Kd.int .i64).R 3 w base ok vv v
theorem StI.kept {gS base : Nat} {ok S : Nat → Prop} {w w' : World} {l : List S30} {v : List Int} (h : StI gS base ok w l v) (hk : Kept w w' S) (hS : ∀ k, ok k → ¬ S k) (hg : ¬ S gS) : StI gS base ok w' l v := by
  obtain ⟨vl, vv, h1, h2, h3⟩ := h
  exact ⟨vl, vv, blk_kept h1 hk hg, Kd.R_kept h2 hk hS, Kd.R_kept h3 hk hS⟩
theorem StI.mono {gS base : Nat} {ok ok' : Nat → Prop} {w : World} {l : List S30} {v : List Int} (h : StI gS base ok w l v) (hk : ∀ k, ok k → ok' k) : StI gS base ok' w l v := by
  obtain ⟨vl, vv, h1, h2, h3⟩ := h
  exact ⟨vl, vv, h1, Kd.R_mono h2 hk, Kd.R_mono h3 hk⟩
def glues {β : Type} [DecidableEq β] (z : β) (l : List S30) (v : List β) (i : Nat) : Prop := 1 ≤ i ∧ i < l.length ∧ (l.getD (i - 1) z30).f1 = (l.getD i z30).f0 ∧ v.getD (i - 1) z = v.getD i z
instance {β : Type} [DecidableEq β] (z : β) (l : List S30) (v : List β) (i : Nat) : Decidable (glues z l v i) := by unfold glues; infer_instance
def glueL {β : Type} [DecidableEq β] (z : β) (l : List S30) (v : List β) (i : Nat) : List S30 × List β :=
  if glues z l v i then ((l.set (i - 1) ⟨(l.getD (i - 1) z30).f0, (l.getD i z30).f1⟩).eraseIdx i, v.eraseIdx i) else (l, v)
set_option maxHeartbeats 8000000 in
set_option maxRecDepth 100000 in
theorem glueI.quiet (gS i : Nat) (ok : Nat → Prop) (l : List S30) (v : List Int) (w0 w : World) (HB : Below w0.heap.size w0 w) (HS : StI gS w0.heap.size ok w l v) (hlv : l.length = v.length) (hl : l.length < 1000000000000) (hi : i < 1000000000000) (h : ¬ glues 0 l v i) :
    Calls Try.prog 59 #[.pointer (some ⟨gS, 0, none⟩), .int .i64 (i : Int)] w fun e w' => e = .returned (.tuple #[]) ∧ ∃ m, w' = w.drewN m := by
  obtain ⟨vl, vv, h1, h2, h3⟩ := HS
  obtain ⟨A, c, rfl⟩ := Kd.R_slice h2
  obtain ⟨A2, c2, rfl⟩ := Kd.R_slice h3
  have hcz0 : w.cell? ⟨gS, 0, none⟩ = some (.slice A l.length c) := (blk_cell h1 0).trans rfl
  have hcz1 : w.cell? ⟨gS, 1, none⟩ = some (.slice A2 v.length c2) := (blk_cell h1 1).trans rfl
  have HR := Aside0.mk (Kd.R_reads' h2).2.2
  have HV := Aside0.mk (Kd.R_reads' h3).2.2
  clear h1 h2 h3
  obtain ⟨x, hx⟩ : ∃ x : Int, x = (i : Int) := ⟨_, rfl⟩
  rw [← hx]
  by_cases c1 : x < 1
  · have c1b : decide (x < 1) = true := decide_eq_true c1
    clear hx
    go_enter Try.func59, Try.ntmps59
    go_wp2
    go_quiet (fail)
    go_wp2
    first | go_end0 | ((try simp only [Exit.inBlock, Exit.then]); refine bodyPost_ret (results_none rfl _ _ _) rfl ?_)
    exact ⟨rfl, _, rfl⟩
  have c1b : decide (x < 1) = false := decide_eq_false c1
  by_cases c2 : (l.length : Int) ≤ x
  · have c2b : decide ((l.length : Int) ≤ x) = true := decide_eq_true c2
    have hx' := Aside0.mk hx
    clear hx hlv hl
    go_enter Try.func59, Try.ntmps59
    go_wp2
    go_quiet (fail)
    go_wp2
    first | go_end0 | ((try simp only [Exit.inBlock, Exit.then]); refine bodyPost_ret (results_none rfl _ _ _) rfl ?_)
    exact ⟨rfl, _, rfl⟩
  have c2b : decide ((l.length : Int) ≤ x) = false := decide_eq_false c2
  obtain ⟨y, hy⟩ : ∃ y, y = x - 1 := ⟨_, rfl⟩
  have hw : IntKind.i64.wrap (x - 1) = y := by rw [IntKind.wrap_i64]; omega
  have p0 : 0 ≤ y := by omega
  have q0 : y < (l.length : Int) := by omega
  have p1 : 0 ≤ x := by omega
  have q1 : x < (l.length : Int) := by omega
  obtain ⟨ad, e, hx0, hx1⟩ := at_T30 HR.out y p0 q0
  obtain ⟨ad2, e2, hy0, hy1⟩ := at_T30 HR.out x p1 q1
  cases e
  cases e2
  by_cases c3 : (rd_T30 l y).f1 = (rd_T30 l x).f0
  · have q2 : y < (v.length : Int) := by omega
    have q3 : x < (v.length : Int) := by omega
    obtain ⟨bd, e, hz0⟩ := Kd.at_int HV.out y p0 q2
    obtain ⟨bd2, e2, hz1⟩ := Kd.at_int HV.out x p1 q3
    cases e
    cases e2
    have c4 : ¬ rd v y = rd v x := fun e => h ⟨by omega, by omega, by
      have h_ := c3
      simp only [rd_T30] at h_
      rwa [show y.toNat = i - 1 by omega, show x.toNat = i by omega] at h_, by
      have h_ := e
      simp only [rd] at h_
      rwa [show y.toNat = i - 1 by omega, show x.toNat = i by omega] at h_⟩
    have c3b : ((rd_T30 l y).f1 != (rd_T30 l x).f0) = false := bne_eq_false_iff_eq.mpr c3
    have c4b : (rd v y != rd v x) = true := bne_iff_ne.mpr c4
    have hx' := Aside0.mk hx
    have hy' := Aside0.mk hy
    clear hx h hlv hl hi hy
    go_enter Try.func59, Try.ntmps59
    go_wp2
    go_quiet (fail)
    go_wp2
    first | go_end0 | ((try simp only [Exit.inBlock, Exit.then]); refine bodyPost_ret (results_none rfl _ _ _) rfl ?_)
    exact ⟨rfl, _, rfl⟩
  · have c3b : ((rd_T30 l y).f1 != (rd_T30 l x).f0) = true := bne_iff_ne.mpr c3
    have hx' := Aside0.mk hx
    have hy' := Aside0.mk hy
    clear hx h hlv hl hi hy
    go_enter Try.func59, Try.ntmps59
    go_wp2
    go_quiet (fail)
    go_wp2
    first | go_end0 | ((try simp only [Exit.inBlock, Exit.then]); refine bodyPost_ret (results_none rfl _ _ _) rfl ?_)
    exact ⟨rfl, _, rfl⟩
end Go.Proofs.Ytgncbhpmnjfhhaa.S
end
section
namespace Go.Proofs.Ytgncbhpmnjfhhaa.S
open Go.RowKit Go.Proofs.YtgncbhpmnjfhhaaW.PrintWords Go.Proofs.YtgncbhpmnjfhhaaW.PrintLast Go.Proofs.YtgncbhpmnjfhhaaW.PrintMore
set_option linter.unusedVariables false
set_option linter.unusedSimpArgs false
theorem R30_setTo {base n c g : Nat} {ok : Nat → Prop} {w : World} {l : List S30} (h : k30.R 30 w base ok (.slice (some ⟨g, 0, none⟩) n c) l) (y : Int) (h0 : 0 ≤ y) (h1 : y < n) (t : Int) :
    k30.R 30 (w.setCell ⟨g, y.toNat * 2 + 1, none⟩ (.int .i64 t)) base ok (.slice (some ⟨g, 0, none⟩) n c) (l.set y.toNat ⟨(l.getD y.toNat z30).f0, t⟩) ∧ w.grownBy (w.setCell ⟨g, y.toNat * 2 + 1, none⟩ (.int .i64 t)) (some g) := by
  obtain ⟨cs, hcl, hM, hcc, _⟩ := Kd.R_elem h z30 y h0 h1
  have he := k30_openM hM
  subst he
  exact Kd.R_seg h y h0 h1 (seg := [.int .i64 t]) (j := 1) (okp := fun k => ok k ∧ k ≠ g) hcl hcc (Nat.le_refl 2) (k30_mkM _ _ _ (⟨(l.getD y.toNat z30).f0, t⟩ : S30)) (fun k hk => hk)
theorem api_Span_75.callsI (g n c i : Nat) (xs : List S30) (ok : Nat → Prop) (w0 w : World) (x x1 : Int) (hx : x = (i : Int)) (hx1 : x1 = x + 1) (HB : Below w0.heap.size w0 w) (hR : k30.R 30 w w0.heap.size ok (.slice (some ⟨g, 0, none⟩) n c) xs) (hi : i < n) :
    Calls Try.prog 75 #[.slice (some ⟨g, 0, none⟩) n c, .int .i64 x, .int .i64 x1] w fun e w' => e = .returned (.slice (some ⟨g, 0, none⟩) (n - 1) c) ∧
      k30.R 30 w' w0.heap.size ok (.slice (some ⟨g, 0, none⟩) (n - 1) c) (xs.eraseIdx i) ∧ Below w0.heap.size w0 w' ∧ Kept w w' (fun k => k = g) := by
  subst hx1 hx
  exact api_Span_75.calls g n c i xs ok w0 w HB hR hi
theorem api_int_76.callsI (g n c i : Nat) (xs : List Int) (ok : Nat → Prop) (w0 w : World) (x x1 : Int) (hx : x = (i : Int)) (hx1 : x1 = x + 1) (HB : Below w0.heap.size w0 w) (hR : (Kd.int .i64).R 3 w w0.heap.size ok (.slice (some ⟨g, 0, none⟩) n c) xs) (hi : i < n) :
    Calls Try.prog 76 #[.slice (some ⟨g, 0, none⟩) n c, .int .i64 x, .int .i64 x1] w fun e w' => e = .returned (.slice (some ⟨g, 0, none⟩) (n - 1) c) ∧
      (Kd.int .i64).R 3 w' w0.heap.size ok (.slice (some ⟨g, 0, none⟩) (n - 1) c) (xs.eraseIdx i) ∧ Below w0.heap.size w0 w' ∧ Kept w w' (fun k => k = g) := by
  subst hx1 hx
  exact api_int_76.calls g n c i xs ok w0 w HB hR hi
theorem R30_int_ne {base base2 n n2 c c2 g g2 : Nat} {ok ok2 : Nat → Prop} {w : World} {l : List S30} {v : List Int} (h : k30.R 30 w base ok (.slice (some ⟨g, 0, none⟩) n c) l) (h2 : (Kd.int .i64).R 3 w base2 ok2 (.slice (some ⟨g2, 0, none⟩) n2 c2) v) : g ≠ g2 := by
  obtain ⟨_, _, _, _, _, cur, e1, _⟩ := flatS30.open_ h
  obtain ⟨_, _, _, _, _, cur2, e2, _⟩ := flatInt.open_ h2
  rintro rfl
  rw [e1] at e2
  injection e2 with e2
  injection e2 with _ e2
  exact absurd e2 (by decide)
set_option maxHeartbeats 8000000 in
set_option maxRecDepth 100000 in
theorem glueI.merge (gS i : Nat) (ok : Nat → Prop) (l : List S30) (v : List Int) (w0 w : World) (HB : Below w0.heap.size w0 w) (HgS : w0.heap.size ≤ gS) (HS : StI gS w0.heap.size ok w l v) (hlv : l.length = v.length) (hl : l.length < 1000000000000) (h : glues 0 l v i) :
    Calls Try.prog 59 #[.pointer (some ⟨gS, 0, none⟩), .int .i64 (i : Int)] w fun e w' => e = .returned (.tuple #[]) ∧ Below w0.heap.size w0 w' ∧
      StI gS w0.heap.size ok w' ((l.set (i - 1) ⟨(l.getD (i - 1) z30).f0, (l.getD i z30).f1⟩).eraseIdx i) (v.eraseIdx i) ∧ Kept w w' (fun k => k = gS ∨ ok k) := by
  obtain ⟨hi1, hil, htf, hvv⟩ := h
  obtain ⟨vl, vv, h1, h2, h3⟩ := HS
  obtain ⟨g, c, rfl, hg0, hglt, cur, hgc⟩ := Kd.R_form h2 (by omega)
  obtain ⟨g2, c2, rfl, hg20, hg2lt, cur2, hgc2⟩ := Kd.R_form h3 (by omega)
  have hgg : g ≠ g2 := R30_int_ne h2 h3
  have hgS1 : g ≠ gS := by rintro rfl; rw [h1] at hgc; injection hgc with hgc; injection hgc with _ e; exact absurd e (by decide)
  have hgS2 : g2 ≠ gS := by rintro rfl; rw [h1] at hgc2; injection hgc2 with hgc2; injection hgc2 with _ e; exact absurd e (by decide)
  obtain ⟨x, hx⟩ : ∃ x : Int, x = (i : Int) := ⟨_, rfl⟩
  obtain ⟨y, hy⟩ : ∃ y, y = x - 1 := ⟨_, rfl⟩
  have hok1 : ok g := (flatS30.open_ h2).2.1
  have hok2 : ok g2 := (flatInt.open_ h3).2.1
  have p0 : 0 ≤ y := by omega
  have q0 : y < (l.length : Int) := by omega
  have p1 : 0 ≤ x := by omega
  have q1 : x < (l.length : Int) := by omega
  have q2 : y < (v.length : Int) := by omega
  have q3 : x < (v.length : Int) := by omega
  obtain ⟨ad, e, hx0, hx1⟩ := at_T30 (Kd.R_reads' h2).2.2 y p0 q0
  obtain ⟨ad2, e2, hy0, hy1⟩ := at_T30 (Kd.R_reads' h2).2.2 x p1 q1
  obtain ⟨bd, e3, hz0⟩ := Kd.at_int (Kd.R_reads' h3).2.2 y p0 q2
  obtain ⟨bd2, e4, hz1⟩ := Kd.at_int (Kd.R_reads' h3).2.2 x p1 q3
  cases e; cases e2; cases e3; cases e4
  simp only [Addr.add_lit, Nat.zero_add] at hx0 hx1 hy0 hy1 hz0 hz1
  have hey : y.toNat = i - 1 := by omega
  have hex : x.toNat = i := by omega
  have c1b : decide (x < 1) = false := decide_eq_false (by omega)
  have c2b : decide ((l.length : Int) ≤ x) = false := decide_eq_false (by omega)
  have c3 : (rd_T30 l y).f1 = (rd_T30 l x).f0 := by simp only [rd_T30]; rw [hey, hex]; exact htf
  have c4 : rd v y = rd v x := by simp only [rd]; rw [hey, hex]; exact hvv
  have c3b : ((rd_T30 l y).f1 != (rd_T30 l x).f0) = false := bne_eq_false_iff_eq.mpr c3
  have c4b : (rd v y != rd v x) = false := bne_eq_false_iff_eq.mpr c4
  have hw : IntKind.i64.wrap (x - 1) = y := by rw [IntKind.wrap_i64]; omega
  obtain ⟨x1, hx1e⟩ : ∃ x1, x1 = x + 1 := ⟨_, rfl⟩
  have hw1 : IntKind.i64.wrap (x + 1) = x1 := by rw [IntKind.wrap_i64]; omega
  have hcz0 : w.cell? ⟨gS, 0, none⟩ = some (.slice (some ⟨g, 0, none⟩) l.length c) := (blk_cell h1 0).trans rfl
  have hcz1 : w.cell? ⟨gS, 1, none⟩ = some (.slice (some ⟨g2, 0, none⟩) v.length c2) := (blk_cell h1 1).trans rfl
  have hf0 : ∀ j, w.frozen? ⟨g, j, none⟩ = false := (flatS30.spare h2).2
  obtain ⟨t, ht⟩ : ∃ t, t = (rd_T30 l x).f1 := ⟨_, rfl⟩
  rw [← ht] at hy1
  rw [← hx]
  have hcy : (w.cell? ⟨g, y.toNat * 2 + 1, none⟩).isSome = true := (flatS30.spare h2).1 _ (by
    have := (flatS30.open_ h2).2.2.2.1
    show _ < c * 2
    omega)
  have HX := Aside0.mk hx; have HY := Aside0.mk hy; have HX1 := Aside0.mk hx1e
  have HL := Aside0.mk hlv; have HT := Aside0.mk ht; have HI := Aside0.mk hil
  have H1 := Aside0.mk h1; have H2 := Aside0.mk h2; have H3 := Aside0.mk h3
  have HB0 := Aside0.mk HB
  have HGC := Aside0.mk hgc
  clear hx hy hx1e hlv ht h1 h2 h3 c3 c4 hey hex htf hvv hl hgc hgc2 HB
  go_enter Try.func59, Try.ntmps59
  go_wp2
  go_quiet (fail)
  go_wp2
  go_region
  generalize hW1 : (w.drewN (nq + 1)).setCell ⟨g, y.toNat * 2 + 1, none⟩ (.int .i64 t) = W1
  have hset := R30_setTo (w := w.drewN (nq + 1)) (by exact Kd.R_drewN H2.out _) y p0 q0 t
  rw [hW1] at hset
  have R1 := Aside0.mk hset.1
  have hG1 : (w.drewN (nq + 1)).grownBy W1 (some g) := hset.2
  have K1 := Aside0.mk (show Kept w W1 (fun k => k = gS ∨ ok k) from ⟨hG1.size, fun k hk hne => hG1.block k hk (fun e => hne (by injection e with e; subst e; exact .inr hok1))⟩)
  have B1 := Aside0.mk ((pw_below_drewN HB0.out (nq + 1)).grown hG1 HB0.out.size (fun k hk => by injection hk with hk; subst hk; exact hg0))
  have b1 : W1.heap[gS]? = some (.cells #[.slice (some ⟨g, 0, none⟩) l.length c, .slice (some ⟨g2, 0, none⟩) v.length c2] 41 (0, 0)) := (hG1.block gS (blk_lt H1.out) (fun e => hgS1 (Option.some.inj e).symm)).trans H1.out
  have V1 := Aside0.mk (Kd.R_step (w1 := W1) (Kd.R_types (Kd.R_drewN H3.out (nq + 1)) (t := 30) (g := g) (cells := cur) (by exact HGC.out) (by decide)) (fun k hk hlt => hG1.block k hlt (fun e => hk.2 (Option.some.inj e))))
  have D1 := Aside0.mk b1
  clear hset hG1 hW1 hx0 hx1 hy0 hy1 hz0 hz1 hcz0 hcz1 hf0 hcy H1 H2 H3 HB0
  have hcz0 : W1.cell? ⟨gS, 0, none⟩ = some (.slice (some ⟨g, 0, none⟩) l.length c) := (blk_cell b1 0).trans rfl
  have hcz1 : W1.cell? ⟨gS, 1, none⟩ = some (.slice (some ⟨g2, 0, none⟩) v.length c2) := (blk_cell b1 1).trans rfl
  clear b1
  go_wp2_with (first
    | (go_at_call 75; refine (api_Span_75.callsI g l.length c i _ ok w0 W1 x x1 HX.out HX1.out B1.out R1.out HI.out).mono ?_; rintro e W2 ⟨rfl, hr, hb, hk⟩; have R2 := Aside0.mk hr; have B2 := Aside0.mk hb; have K2 := Aside0.mk hk; have D2 := Aside0.mk (blk_kept D1.out hk (fun e => hgS1 e.symm)); have V2 := Aside0.mk (Kd.R_kept V1.out hk (fun k h => h.2)); clear hr hb hk hcz0 hcz1; have hcz0 : W2.cell? ⟨gS, 0, none⟩ = some (.slice (some ⟨g, 0, none⟩) l.length c) := (blk_cell D2.out 0).trans rfl; have hcz1 : W2.cell? ⟨gS, 1, none⟩ = some (.slice (some ⟨g2, 0, none⟩) v.length c2) := (blk_cell D2.out 1).trans rfl; have hfz0 := blk_frozen D2.out 0; have hfz1 := blk_frozen D2.out 1)
    | (go_at_call 76; refine (api_int_76.callsI g2 v.length c2 i _ _ w0 _ x x1 HX.out HX1.out (below_set B2.out HgS) (Kd.R_set V2.out D2.out (by decide) 0 _) (by have := HL.out; have := HI.out; omega)).mono ?_; rintro e W4 ⟨rfl, hr, hb, hk⟩; have V4 := Aside0.mk hr; have B4 := Aside0.mk hb; have K4 := Aside0.mk hk; have D4 := Aside0.mk (blk_kept (blk_put D2.out 0 (.slice (some ⟨g, 0, none⟩) (l.length - 1) c) rfl) hk (fun e => hgS2 e.symm)); clear hr hb hk hcz0 hcz1 hfz0 hfz1; have hcz0 : W4.cell? ⟨gS, 0, none⟩ = some (.slice (some ⟨g, 0, none⟩) (l.length - 1) c) := (blk_cell D4.out 0).trans rfl; have hcz1 : W4.cell? ⟨gS, 1, none⟩ = some (.slice (some ⟨g2, 0, none⟩) v.length c2) := (blk_cell D4.out 1).trans rfl; have hfz0 := blk_frozen D4.out 0; have hfz1 := blk_frozen D4.out 1))
  all_goals (
    first | go_end0 | ((try simp only [Exit.inBlock, Exit.then]); refine bodyPost_ret (results_none rfl _ _ _) rfl ?_)
    have hey : y.toNat = i - 1 := by have := HX.out; have := HY.out; omega
    have hex : x.toNat = i := by have := HX.out; omega
    have ht2 : t = (l.getD i z30).f1 := by rw [HT.out]; simp only [rd_T30]; rw [hex]
    obtain ⟨_, _, _, _, _, cur3, e3, _⟩ := flatInt.open_ V2.out
    have R4 := Kd.R_kept (Kd.R_set (Kd.R_types R2.out e3 (by decide)) D2.out (by decide) 0 (.slice (some ⟨g, 0, none⟩) (l.length - 1) c)) K4.out (fun k hk => hk.2)
    have R5 := Kd.R_mono (Kd.R_set R4 D4.out (by decide) 1 (.slice (some ⟨g2, 0, none⟩) (v.length - 1) c2)) (ok' := ok) (fun k hk => hk.1)
    have V5 := Kd.R_mono (Kd.R_set V4.out D4.out (by decide) 1 (.slice (some ⟨g2, 0, none⟩) (v.length - 1) c2)) (ok' := ok) (fun k hk => hk.1)
    rw [hey, ht2] at R5
    refine ⟨rfl, below_set B4.out HgS, ⟨_, _, blk_put D4.out 1 _ rfl, R5, V5⟩, ?_⟩
    exact Kept.setCell (((K1.out.then_ K2.out (fun k hk => .inl (.inr (by rw [hk]; exact hok1)))).setCell (p := ⟨gS, 0, none⟩) (.inl (.inl rfl)) _).then_ K4.out (fun k hk => .inl (.inr (by rw [hk]; exact hok2)))) (p := ⟨gS, 1, none⟩) (.inl (.inl rfl)) _)
theorem glueI.calls (gS i : Nat) (ok : Nat → Prop) (l : List S30) (v : List Int) (w0 w : World) (HB : Below w0.heap.size w0 w) (HgS : w0.heap.size ≤ gS) (HS : StI gS w0.heap.size ok w l v) (hlv : l.length = v.length) (hl : l.length < 1000000000000) (hi : i < 1000000000000) :
    Calls Try.prog 59 #[.pointer (some ⟨gS, 0, none⟩), .int .i64 (i : Int)] w fun e w' => e = .returned (.tuple #[]) ∧ Below w0.heap.size w0 w' ∧
      StI gS w0.heap.size ok w' (glueL 0 l v i).1 (glueL 0 l v i).2 ∧ Kept w w' (fun k => k = gS ∨ ok k) := by
  by_cases h : glues 0 l v i
  · have := glueI.merge gS i ok l v w0 w HB HgS HS hlv hl h
    simp only [glueL, if_pos h]
    exact this
  · refine (glueI.quiet gS i ok l v w0 w HB HS hlv hl hi h).mono ?_
    rintro e w' ⟨rfl, m, rfl⟩
    rw [show glueL 0 l v i = (l, v) from if_neg h]
    exact ⟨rfl, pw_below_drewN HB m, HS.kept (Kept.drewN (Kept.refl w (fun _ => False)) m) (fun _ _ h => h) (fun h => h), Kept.drewN (Kept.refl w _) m⟩
end Go.Proofs.Ytgncbhpmnjfhhaa.S
end
section
namespace Go.Proofs.Ytgncbhpmnjfhhaa.S
open Go.RowKit Go.Proofs.YtgncbhpmnjfhhaaW.PrintWords Go.Proofs.YtgncbhpmnjfhhaaW.PrintLast Go.Proofs.YtgncbhpmnjfhhaaW.PrintMore
attribute [local go_sem] max2_int min2_int max_two min_two max_three min_three max_four min_four
set_option linter.unusedVariables false
set_option linter.unusedSimpArgs false
theorem eqA30 (d : Nat) (w : World) (x0 y0 : Int) (x1 y1 : Int) :
    (Op.equalIn (d + 2) 30 (.agg #[.int .i64 x0, .int .i64 x1]) (.agg #[.int .i64 y0, .int .i64 y1])).run Try.prog w = .ok (x0 == y0 && (x1 == y1)) w := by
  refine eqA_of Try.underlying30 (by kernel_rfl) ?_
  refine eqf_cons (by rfl) (by go_simp; rfl) (by go_simp; rfl) (by go_simp) ?_
  exact eqf_last (by rfl) (by go_simp; rfl) (by go_simp; rfl) (by go_simp)
end Go.Proofs.Ytgncbhpmnjfhhaa.S
end
section
namespace Go.Proofs.Ytgncbhpmnjfhhaa.S
open Go.RowKit Go.Proofs.YtgncbhpmnjfhhaaW.PrintWords Go.Proofs.YtgncbhpmnjfhhaaW.PrintLast Go.Proofs.YtgncbhpmnjfhhaaW.PrintMore
set_option linter.unusedVariables false
set_option linter.unusedSimpArgs false
def api_Span_47.f (l0 : List S30) : Option (List S30) := if l0.length < 8796093022208 then some l0 else none
set_option maxHeartbeats 1000000 in
set_option maxRecDepth 100000 in
theorem api_Span_47.calls (A0 : Option Addr) (c0 : Nat) (l0 : List (S30)) (r : List (S30)) (w : World) (hr0 : Kd.C k30 w A0 l0.length l0) (hc0 : l0.length ≤ c0) (h : api_Span_47.f l0 = some r) :
    Calls Try.prog 47 #[.slice A0 l0.length c0] w fun e w' => ∃ v0_ : Value, e = .returned (v0_) ∧ Kd.R k30 30 w' w.heap.size (fun _ => True) v0_ r ∧ Below w.heap.size w w' := by
  unfold api_Span_47.f at h
  split at h
  · rename_i hlen
    injection h with h
    subst h
    have q22 : ∀ (w : World) (a : Option Addr) (n c n' c' : Nat), (binOp .eql 22 (.slice a n c) (.slice none n' c')).run Try.prog w = .ok (.bool a.isNone) w := fun w a n c n' c' => Lib.run_eql_slice_nil w _ _ a n c n' c' Try.underlying22
    have LM := Aside0.mk hlen
    clear hlen
    have HR0 := Aside0.mk hr0
    have HC0 := Aside0.mk hc0
    clear hr0 hc0
    cases A0 with
    | none =>
      have h0 : l0 = [] := by
        rcases Nat.eq_zero_or_pos l0.length with h | h
        · exact List.eq_nil_of_length_eq_zero h
        · obtain ⟨ad, e, _⟩ := (C30.1 HR0.out).2.2 h
          cases e
      subst h0
      clear LM HR0 HC0
      go_enter Try.func47, Try.ntmps47
      go_wp2
      go_ret
      exact ⟨_, rfl, Kd.R_nil _ _ _ _ _, Below.refl _ _⟩
    | some ad =>
      have HB := Aside0.mk (Below.refl w.heap.size w)
      go_enter Try.func47, Try.ntmps47
      go_wp2_with (first | ((with_reducible refine gate_dst (N := 5) rfl ?_); refine Kd.R_lit k30 _ 30 ?hg (N := 5) ?hd (xs := ([] : List (S30))) (inner := []) (ok := fun _ => True) (okp := fun _ => True) ?hr ?hp (fun _ hk => hk) trivial (Below.refl _ _) (Nat.le_refl _) (by simp) ?_; (case hd => rfl); (case hg => rfl); (case hr => first | (go_simp; done) | (go_simp; rfl)); (case hp => exact (Reps.none _ _)); intro v102 w3 ho4 hb hg_ hnew_; clear hg_ hnew_; have n0_ := Aside0.mk (Kd.R_lower ho4 (below_size (by repeat (first | (with_reducible first | exact HB.out | apply below_alloc | apply pw_below_drewN | apply below_drew1) | exact HB.out)))); have n1_ := Aside0.mk (below_step (by repeat (first | (with_reducible first | exact HB.out | apply below_alloc | apply pw_below_drewN | apply below_drew1) | exact HB.out)) hb); clear HB; have HO103 := n0_; have HB := n1_; clear n0_ n1_; clear hb ho4) | ((with_reducible refine gate_builtin (b := .append) (xs := #[.tmp 5, .tmp 6]) rfl ?_); at_builtin; refine Kd.R_append_rows k30 (w0 := w) w.heap.size rfl (.tmp 5) (.tmp 6) 22 30 (.agg #[(.int .i64 0), (.int .i64 0)]) 16 rfl Try.underlying22 info30 rfl (by decide) (by omega) v102 ([] : List S30) l0 _ _ _ (fun _ => True) (fun _ => False) rfl rfl ?aO ?aR (fun _ _ h => h) (fun _ h => h.elim) ?aF ?aB ?aS ?aL ?_; (case aR => repeat (first | exact (Kd.C_below HR0.out HB.out) | (with_reducible refine Kd.C_alloc ?_ _) | (with_reducible refine Kd.C_drewN ?_ _) | (with_reducible refine Kd.C_drew ?_))); (case aB => exact (by repeat (first | (with_reducible first | exact HB.out | apply below_alloc | apply pw_below_drewN | apply below_drew1) | exact HB.out))); (case aF => exact (fun _ _ => trivial)); (case aO => exact (by (with_reducible repeat (first | apply Kd.R_alloc | apply Kd.R_drewN | apply Kd.R_drew)); exact HO103.out)); (case aS => exact (below_size (by repeat (first | (with_reducible first | exact HB.out | apply below_alloc | apply pw_below_drewN | apply below_drew1) | exact HB.out)))); (case aL => have := LM.out; simp only [List.length_nil]; omega); intro v105 w5 ho hb hg hat; have n0_ := Aside0.mk (hb); have n1_ := Aside0.mk (ho); clear HB; clear HO103; have HB := n0_; have HO106 := n1_; clear n0_ n1_; clear ho hb hg hat))
      go_ret
      exact ⟨_, rfl, HO106.out, HB.out⟩
  · cases h
end Go.Proofs.Ytgncbhpmnjfhhaa.S
end
section
namespace Go.Proofs.Ytgncbhpmnjfhhaa.S
open Go.RowKit Go.Proofs.YtgncbhpmnjfhhaaW.PrintWords Go.Proofs.YtgncbhpmnjfhhaaW.PrintLast Go.Proofs.YtgncbhpmnjfhhaaW.PrintMore
attribute [local go_sem] max2_int min2_int max_two min_two max_three min_three max_four min_four
set_option linter.unusedVariables false
set_option linter.unusedSimpArgs false
def api_Span_66.l0 : Nat → List (S30) → Int → Int → Option (Int)
  | 0, _, _, _ => none
  | k + 1, x0, x7, x8 => if x8 < x7 then (if 0 ≤ x8 then (if x8 < (x0.length : Int) then ((span_empty.f ((rd_T30 x0 x8).f0) ((rd_T30 x0 x8).f1)).bind fun t103 => (if t103 = true then (some x8) else (api_Span_66.l0 k x0 x7 (wrap64 (x8 + 1))))) else (none)) else (none)) else (some (-1))
def api_Span_66.f (k : Nat) (l0 : List (S30)) (a1 : Int) : Option (Int) := api_Span_66.l0 k l0 (l0.length : Int) 0
theorem api_Span_66.mono_l : ∀ k, (∀ y0 y1 y2, LeO (api_Span_66.l0 k y0 y1 y2) (api_Span_66.l0 (k + 1) y0 y1 y2))
  | 0 => fun _ _ _ r h => by simp [api_Span_66.l0] at h
  | k + 1 => by
    have ih0 := api_Span_66.mono_l k
    · intro y0 y1 y2
      unfold api_Span_66.l0
      repeat' first
      | (with_reducible exact ih0 _ _ _)
      | (with_reducible exact LeO.refl _)
      | (with_reducible exact LeO.none _)
      | (with_reducible refine LeO.ite ?_ ?_)
      | (with_reducible refine LeO.bind ?_ (fun _ => ?_))
      | exact ih0 _ _ _
      | exact LeO.none _
      | refine LeO.ite ?_ ?_
      | refine LeO.bind ?_ (fun _ => ?_)
theorem api_Span_66.mono : ∀ a0 a1 k, LeO (api_Span_66.f k a0 a1) (api_Span_66.f (k + 1) a0 a1) := by
  intro a0 a1 k
  have ih0 := api_Span_66.mono_l k
  unfold api_Span_66.f
  repeat' first
      | (with_reducible exact ih0 _ _ _)
      | (with_reducible exact LeO.refl _)
      | (with_reducible exact LeO.none _)
      | (with_reducible refine LeO.ite ?_ ?_)
      | (with_reducible refine LeO.bind ?_ (fun _ => ?_))
      | exact ih0 _ _ _
      | exact LeO.none _
      | refine LeO.ite ?_ ?_
      | refine LeO.bind ?_ (fun _ => ?_)
set_option maxHeartbeats 8000000 in
set_option maxRecDepth 100000 in
theorem api_Span_66.calls (k : Nat) (A0 : Option Addr) (c0 : Nat) (l0 : List (S30)) (a1 : Int) (r : Int) (w : World) (hr0 : Kd.C k30 w A0 l0.length l0) (hc0 : l0.length ≤ c0) (h : api_Span_66.f k l0 a1 = some r) :
    Calls Try.prog 66 #[.slice A0 l0.length c0, .func (.func 48) #[] #[]] w fun e w' => e = .returned (.int .i64 r) ∧ Below w.heap.size w w' := by
  have hu30 := Try.underlying30
  have HR0 := Aside0.mk hr0
  have HC0 := Aside0.mk hc0
  clear hr0 hc0
  have HB := Aside0.mk (Below.refl w.heap.size w)
  have H : (api_Span_66.l0 k l0 (l0.length : Int) 0) = some r := h
  clear h
  have H' := Aside0.mk H
  clear H
  go_enter Try.func66, Try.ntmps66
  go_wp2
  go_loopg [8] k (fun kq v8 w' => ∃ (x8_1 : Int), v8 = .int .i64 x8_1 ∧ Aside0 (api_Span_66.l0 kq l0 (l0.length : Int) x8_1 = some r) ∧ Aside0 (kq ≤ k) ∧ Aside0 (Below w.heap.size w w'))
  case atStart => exact ⟨(0), (by first | rfl | (simp; done) | (simp [*]; done)), H', ⟨Nat.le_refl _⟩, ⟨by repeat (first | (with_reducible first | exact HB.out | apply below_alloc | apply pw_below_drewN | apply below_drew1) | exact HB.out)⟩⟩
  case round =>
    clear H'
    try clear p2
    obtain ⟨x8_1, rfl, HA, HK1, HB⟩ := hrel
    cases gk with
    | zero => exact absurd HA.out (by simp [api_Span_66.l0])
    | succ k1 =>
      have H := HA.out
      clear HA
      simp only [api_Span_66.l0] at H
      by_cases c3 : x8_1 < (l0.length : Int)
      · rw [if_pos c3] at H
        have c3b0 : decide (x8_1 < (l0.length : Int)) = true := decide_eq_true c3
        clear c3
        by_cases c4 : 0 ≤ x8_1
        · rw [if_pos c4] at H
          have c4b0 : decide (0 ≤ x8_1) = true := decide_eq_true c4
          clear c4
          by_cases c5 : x8_1 < (l0.length : Int)
          · rw [if_pos c5] at H
            have c5b0 : decide (x8_1 < (l0.length : Int)) = true := decide_eq_true c5
            clear c5
            replace H := Option.bind_eq_some_iff.mp H
            obtain ⟨t103, A60, H⟩ := H
            replace H : (if t103 = true then (some x8_1) else (api_Span_66.l0 k1 l0 (l0.length : Int) (wrap64 (x8_1 + 1)))) = some r := H
            have A6 := Aside0.mk A60
            clear A60
            by_cases c7 : t103 = true
            · subst c7
              have H1 : (some x8_1) = some r := by rw [if_pos rfl] at H; exact H
              clear H
              have H := H1
              clear H1
              obtain rfl := Option.some.inj H
              have p102 : 0 ≤ (x8_1 : Int) := of_decide_eq_true (by first | (with_reducible assumption) | assumption)
              have q102 : x8_1 < (l0.length : Int) := of_decide_eq_true (by first | (with_reducible assumption) | assumption)
              obtain ⟨ad102, e102, hx102_0, hx102_1⟩ := at_T30 HR0.out x8_1 p102 q102
              cases e102
              replace hx102_0 := (HB.out.cell (World.block_lt_of_cell? w _ hx102_0)).trans hx102_0
              replace hx102_1 := (HB.out.cell (World.block_lt_of_cell? w _ hx102_1)).trans hx102_1
              replace p102 := eq_true p102
              replace q102 := eq_true q102
              go_wp2_with (first | (go_at_call 48; refine (span_empty.calls ((rd_T30 l0 x8_1).f0) ((rd_T30 l0 x8_1).f1) true _ A6.out).mono ?_; rintro e w8 ⟨rfl, hb⟩; have n0_ := Aside0.mk (below_step (by repeat (first | (with_reducible first | exact HB.out | apply below_alloc | apply pw_below_drewN | apply below_drew1) | exact HB.out)) hb); clear HB; have HB := n0_; clear n0_; (try clear hb); (try clear hb2); (try clear hk); (try clear hi)))
              go_ret
              exact ⟨by first | rfl | (simp [errW_none, errW_some] <;> rfl) | (simp [*, errW_none, errW_some] <;> rfl), by repeat (first | (with_reducible first | exact HB.out | apply below_alloc | apply pw_below_drewN | apply below_drew1) | exact HB.out)⟩
            · replace c7 := Bool.eq_false_iff.mpr c7
              subst c7
              have H1 : (api_Span_66.l0 k1 l0 (l0.length : Int) (wrap64 (x8_1 + 1))) = some r := by rw [if_neg (show ¬ (false = true) by decide)] at H; exact H
              clear H
              have H := H1
              clear H1
              have H' := Aside0.mk H
              clear H
              have p102 : 0 ≤ (x8_1 : Int) := of_decide_eq_true (by first | (with_reducible assumption) | assumption)
              have q102 : x8_1 < (l0.length : Int) := of_decide_eq_true (by first | (with_reducible assumption) | assumption)
              obtain ⟨ad102, e102, hx102_0, hx102_1⟩ := at_T30 HR0.out x8_1 p102 q102
              cases e102
              replace hx102_0 := (HB.out.cell (World.block_lt_of_cell? w _ hx102_0)).trans hx102_0
              replace hx102_1 := (HB.out.cell (World.block_lt_of_cell? w _ hx102_1)).trans hx102_1
              replace p102 := eq_true p102
              replace q102 := eq_true q102
              go_wp2_with (first | (go_at_call 48; refine (span_empty.calls ((rd_T30 l0 x8_1).f0) ((rd_T30 l0 x8_1).f1) false _ A6.out).mono ?_; rintro e w9 ⟨rfl, hb⟩; have n0_ := Aside0.mk (below_step (by repeat (first | (with_reducible first | exact HB.out | apply below_alloc | apply pw_below_drewN | apply below_drew1) | exact HB.out)) hb); clear HB; have HB := n0_; clear n0_; (try clear hb); (try clear hb2); (try clear hk); (try clear hi)))
              go_roundg k1
              case measure => have := HK1.out; omega
              case rel => exact ⟨(wrap64 (x8_1 + 1)), (by first | rfl | (simp; done) | (simp [*]; done)), H', ⟨by have := HK1.out; omega⟩, ⟨by repeat (first | (with_reducible first | exact HB.out | apply below_alloc | apply pw_below_drewN | apply below_drew1) | exact HB.out)⟩⟩
          · rw [if_neg c5] at H
            exact absurd H (by simp)
        · rw [if_neg c4] at H
          exact absurd H (by simp)
      · rw [if_neg c3] at H
        have c3b0 : decide (x8_1 < (l0.length : Int)) = false := decide_eq_false c3
        clear c3
        obtain rfl := Option.some.inj H
        go_wp2
        go_ret
        exact ⟨by first | rfl | (simp [errW_none, errW_some] <;> rfl) | (simp [*, errW_none, errW_some] <;> rfl), by repeat (first | (with_reducible first | exact HB.out | apply below_alloc | apply pw_below_drewN | apply below_drew1) | exact HB.out)⟩
def api_Span_46.l0 : Nat → List (S30) → Int → Int → Option ((List (S30)))
  | 0, _, _, _ => none
  | k + 1, x0, x5, x6 => if x6 < (x0.length : Int) then (if 0 ≤ x6 then ((span_empty.f ((rd_T30 x0 x6).f0) ((rd_T30 x0 x6).f1)).bind fun t107 => (if t107 = true then (api_Span_46.l0 k x0 x5 (wrap64 (x6 + 1))) else (if 0 ≤ x5 then (if x5 < (x0.length : Int) then (api_Span_46.l0 k (x0.set (x5 : Int).toNat (⟨(rd_T30 x0 x6).f0, (rd_T30 x0 x6).f1⟩ : S30)) (wrap64 (x5 + 1)) (wrap64 (x6 + 1))) else (none)) else (none)))) else (none)) else (if 0 ≤ x5 then (if x5 ≤ (x0.length : Int) then (some (x0.take (x5 : Int).toNat)) else (none)) else (none))
def api_Span_46.f (k : Nat) (l0 : List (S30)) (a1 : Int) : Option ((List (S30))) := (api_Span_66.f k l0 a1).bind fun t104 => (if t104 = (-1) then (some l0) else (api_Span_46.l0 k l0 t104 (wrap64 (t104 + 1))))
theorem api_Span_46.mono_l : ∀ k, (∀ y0 y1 y2, LeO (api_Span_46.l0 k y0 y1 y2) (api_Span_46.l0 (k + 1) y0 y1 y2))
  | 0 => fun _ _ _ r h => by simp [api_Span_46.l0] at h
  | k + 1 => by
    have ih0 := api_Span_46.mono_l k
    · intro y0 y1 y2
      unfold api_Span_46.l0
      repeat' first
      | (with_reducible exact ih0 _ _ _)
      | (with_reducible exact api_Span_66.mono _ _ _)
      | (with_reducible exact LeO.refl _)
      | (with_reducible exact LeO.none _)
      | (with_reducible refine LeO.ite ?_ ?_)
      | (with_reducible refine LeO.bind ?_ (fun _ => ?_))
      | exact ih0 _ _ _
      | exact api_Span_66.mono _ _ _
      | exact LeO.none _
      | refine LeO.ite ?_ ?_
      | refine LeO.bind ?_ (fun _ => ?_)
theorem api_Span_46.mono : ∀ a0 a1 k, LeO (api_Span_46.f k a0 a1) (api_Span_46.f (k + 1) a0 a1) := by
  intro a0 a1 k
  have ih0 := api_Span_46.mono_l k
  unfold api_Span_46.f
  repeat' first
      | (with_reducible exact ih0 _ _ _)
      | (with_reducible exact api_Span_66.mono _ _ _)
      | (with_reducible exact LeO.refl _)
      | (with_reducible exact LeO.none _)
      | (with_reducible refine LeO.ite ?_ ?_)
      | (with_reducible refine LeO.bind ?_ (fun _ => ?_))
      | exact ih0 _ _ _
      | exact api_Span_66.mono _ _ _
      | exact LeO.none _
      | refine LeO.ite ?_ ?_
      | refine LeO.bind ?_ (fun _ => ?_)
set_option maxHeartbeats 8000000 in
set_option maxRecDepth 100000 in
theorem api_Span_46.calls (k : Nat) (P0_ : Nat → Prop) (u9000_ : Value) (l0 : List (S30)) (a1 : Int) (r : List (S30)) (w0 w : World) (hB : Below w0.heap.size w0 w) (ho0 : Kd.R k30 30 w w0.heap.size P0_ u9000_ l0) (h : api_Span_46.f k l0 a1 = some r) :
    Calls Try.prog 46 #[u9000_, .func (.func 48) #[] #[]] w fun e w' => ∃ v0_ : Value, e = .returned (v0_) ∧ Kd.R k30 30 w' w0.heap.size (fun k_ => (P0_ k_ ∨ w.heap.size ≤ k_)) v0_ r ∧ Below w0.heap.size w0 w' ∧ Kept w w' (fun k_ => P0_ k_) := by
  have hu30 := Try.underlying30
  have HO0 := Aside0.mk (show Kd.R k30 30 w w0.heap.size (fun k_ => (P0_ k_ ∨ w.heap.size ≤ k_)) u9000_ l0 from Kd.R_mono ho0 (fun k_ hk => (.inl hk)))
  have HK := Aside0.mk (Kept.refl w (fun k_ => P0_ k_))
  have HW0 := Aside0.mk hB.size
  have HB := Aside0.mk hB
  clear hB
  have H : ((api_Span_66.f k l0 a1).bind fun t104 => (if t104 = (-1) then (some l0) else (api_Span_46.l0 k l0 t104 (wrap64 (t104 + 1))))) = some r := h
  clear h
  replace H := Option.bind_eq_some_iff.mp H
  obtain ⟨t104, A30, H⟩ := H
  replace H : (if t104 = (-1) then (some l0) else (api_Span_46.l0 k l0 t104 (wrap64 (t104 + 1)))) = some r := H
  have A3 := Aside0.mk A30
  clear A30
  by_cases c4 : t104 = (-1)
  · rw [if_pos c4] at H
    have c4b0 : (t104 == (-1)) = true := beq_iff_eq.mpr c4
    have c4b1 : (t104 != (-1)) = false := bne_eq_false_iff_eq.mpr c4
    clear c4
    obtain rfl := Option.some.inj H
    obtain ⟨Ao5, co5, eo5⟩ := Kd.R_slice HO0.out
    subst eo5
    go_enter Try.func46, Try.ntmps46
    go_wp2_with (first | ((with_reducible refine gate_callee (f := 66) rfl ?_); refine goesL_ (some 10) rfl rfl Try.func66 (by kernel_rfl) rfl #[.slice Ao5 l0.length co5, .func (.func 48) #[] #[]] rfl (by (try simp only [List.map_toArray, List.map_cons, List.map_nil]); first | done | rfl | (simp only [List.length_drop, List.length_take]; rfl)) ?_; (with_reducible refine (api_Span_66.calls k _ _ l0 a1 t104 _ ?side1 ?side2 A3.out).mono ?_); (case side1 => repeat (first | exact (Kd.R_reads' HO0.out).2.2 | (with_reducible refine Kd.C_alloc ?_ _) | (with_reducible refine Kd.C_drewN ?_ _) | (with_reducible refine Kd.C_drew ?_))); (case side2 => exact (Kd.R_reads' HO0.out).2.1); rintro e w6 ⟨rfl, hb⟩; refine ⟨_, rfl, ?_⟩; have n0_ := Aside0.mk (Kd.R_below (by (with_reducible repeat (first | apply Kd.R_alloc | apply Kd.R_drewN | apply Kd.R_drew)); exact HO0.out) hb); have n1_ := Aside0.mk (Kept.below (S := (fun k_ => P0_ k_)) (by repeat (first | (with_reducible first | exact HK.out | apply Kept.alloc | apply Kept.drewN | apply Kept.drew) | exact HK.out)) hb); have n2_ := Aside0.mk (below_step (by repeat (first | (with_reducible first | exact HB.out | apply below_alloc | apply pw_below_drewN | apply below_drew1) | exact HB.out)) hb); clear HO0; clear HK; clear HB; have HO0 := n0_; have HK := n1_; have HB := n2_; clear n0_ n1_ n2_; (try clear hb); (try clear hb2); (try clear hk); (try clear hi)))
    go_ret
    exact ⟨_, by first | rfl | (simp [errW_none, errW_some] <;> rfl) | (simp [*, errW_none, errW_some] <;> rfl), by (with_reducible repeat (first | apply Kd.R_alloc | apply Kd.R_drewN | apply Kd.R_drew)); exact HO0.out, by repeat (first | (with_reducible first | exact HB.out | apply below_alloc | apply pw_below_drewN | apply below_drew1) | exact HB.out), by repeat (first | (with_reducible first | exact HK.out | apply Kept.alloc | apply Kept.drewN | apply Kept.drew) | exact HK.out)⟩
  · rw [if_neg c4] at H
    have c4b0 : (t104 == (-1)) = false := beq_eq_false_iff_ne.mpr c4
    have c4b1 : (t104 != (-1)) = true := bne_iff_ne.mpr c4
    have H' := Aside0.mk H
    clear H
    obtain ⟨Ao7, co7, eo7⟩ := Kd.R_slice HO0.out
    subst eo7
    go_enter Try.func46, Try.ntmps46
    go_wp2_with (first | ((with_reducible refine gate_callee (f := 66) rfl ?_); refine goesL_ (some 10) rfl rfl Try.func66 (by kernel_rfl) rfl #[.slice Ao7 l0.length co7, .func (.func 48) #[] #[]] rfl (by (try simp only [List.map_toArray, List.map_cons, List.map_nil]); first | done | rfl | (simp only [List.length_drop, List.length_take]; rfl)) ?_; (with_reducible refine (api_Span_66.calls k _ _ l0 a1 t104 _ ?side1 ?side2 A3.out).mono ?_); (case side1 => repeat (first | exact (Kd.R_reads' HO0.out).2.2 | (with_reducible refine Kd.C_alloc ?_ _) | (with_reducible refine Kd.C_drewN ?_ _) | (with_reducible refine Kd.C_drew ?_))); (case side2 => exact (Kd.R_reads' HO0.out).2.1); rintro e w8 ⟨rfl, hb⟩; refine ⟨_, rfl, ?_⟩; have n0_ := Aside0.mk (Kd.R_below (by (with_reducible repeat (first | apply Kd.R_alloc | apply Kd.R_drewN | apply Kd.R_drew)); exact HO0.out) hb); have n1_ := Aside0.mk (Kept.below (S := (fun k_ => P0_ k_)) (by repeat (first | (with_reducible first | exact HK.out | apply Kept.alloc | apply Kept.drewN | apply Kept.drew) | exact HK.out)) hb); have n2_ := Aside0.mk (below_step (by repeat (first | (with_reducible first | exact HB.out | apply below_alloc | apply pw_below_drewN | apply below_drew1) | exact HB.out)) hb); clear HO0; clear HK; clear HB; have HO0 := n0_; have HK := n1_; have HB := n2_; clear n0_ n1_ n2_; (try clear hb); (try clear hb2); (try clear hk); (try clear hi)))
    go_loopg [5, 6] k (fun kq v5 v6 w' => ∃ (x0_1 : List (S30)) (x5_1 : Int) (x6_1 : Int), v5 = .int .i64 x5_1 ∧ v6 = .int .i64 x6_1 ∧ Aside0 (api_Span_46.l0 kq x0_1 x5_1 x6_1 = some r) ∧ Aside0 (kq ≤ k) ∧ Aside0 (Kd.R k30 30 w' w0.heap.size (fun k_ => (P0_ k_ ∨ w.heap.size ≤ k_)) (.slice Ao7 l0.length co7) x0_1) ∧ Aside0 (Kept w w' (fun k_ => P0_ k_)) ∧ Aside0 (Below w0.heap.size w0 w'))
    case atStart => exact ⟨(l0), (t104), (wrap64 (t104 + 1)), (by first | rfl | (simp; done) | (simp [*]; done)), (by first | rfl | (simp; done) | (simp [*]; done)), H', ⟨Nat.le_refl _⟩, ⟨by (with_reducible repeat (first | apply Kd.R_alloc | apply Kd.R_drewN | apply Kd.R_drew)); exact HO0.out⟩, ⟨by repeat (first | (with_reducible first | exact HK.out | apply Kept.alloc | apply Kept.drewN | apply Kept.drew) | exact HK.out)⟩, ⟨by repeat (first | (with_reducible first | exact HB.out | apply below_alloc | apply pw_below_drewN | apply below_drew1) | exact HB.out)⟩⟩
    case round =>
      clear H'
      try clear p2
      try clear c4
      try clear c4b0
      try clear c4b1
      try clear c6
      try clear p6
      obtain ⟨x0_1, x5_1, x6_1, rfl, rfl, HA, HK1, HO_0, HK, HB⟩ := hrel
      have hl0_1 := (Kd.R_reads' HO_0.out).1
      rw [hl0_1] at HO_0
      (try simp only [hl0_1])
      cases gk with
      | zero => exact absurd HA.out (by simp [api_Span_46.l0])
      | succ k1 =>
        have H := HA.out
        clear HA
        simp only [api_Span_46.l0] at H
        by_cases c9 : x6_1 < (x0_1.length : Int)
        · rw [if_pos c9] at H
          have c9b0 : decide (x6_1 < (x0_1.length : Int)) = true := decide_eq_true c9
          clear c9
          by_cases c10 : 0 ≤ x6_1
          · rw [if_pos c10] at H
            have c10b0 : decide (0 ≤ x6_1) = true := decide_eq_true c10
            clear c10
            replace H := Option.bind_eq_some_iff.mp H
            obtain ⟨t107, A110, H⟩ := H
            replace H : (if t107 = true then (api_Span_46.l0 k1 x0_1 x5_1 (wrap64 (x6_1 + 1))) else (if 0 ≤ x5_1 then (if x5_1 < (x0_1.length : Int) then (api_Span_46.l0 k1 (x0_1.set (x5_1 : Int).toNat (⟨(rd_T30 x0_1 x6_1).f0, (rd_T30 x0_1 x6_1).f1⟩ : S30)) (wrap64 (x5_1 + 1)) (wrap64 (x6_1 + 1))) else (none)) else (none))) = some r := H
            have A11 := Aside0.mk A110
            clear A110
            by_cases c12 : t107 = true
            · subst c12
              have H1 : (api_Span_46.l0 k1 x0_1 x5_1 (wrap64 (x6_1 + 1))) = some r := by rw [if_pos rfl] at H; exact H
              clear H
              have H := H1
              clear H1
              have H' := Aside0.mk H
              clear H
              have p105 : 0 ≤ (x6_1 : Int) := of_decide_eq_true (by first | (with_reducible assumption) | assumption)
              have q105 : x6_1 < (x0_1.length : Int) := of_decide_eq_true (by first | (with_reducible assumption) | assumption)
              obtain ⟨ad105, e105, hx105_0, hx105_1⟩ := at_T30 (Kd.R_reads' HO_0.out).2.2 x6_1 p105 q105
              cases e105
              replace p105 := eq_true p105
              replace q105 := eq_true q105
              go_wp2_with (first | ((with_reducible refine gate_dst (N := 7) rfl ?_); refine box_event ?hg (N := 7) ?hd (cs := #[.int .i64 0, .int .i64 0]) (t := 30) ?hr ?_; (case hd => rfl); (case hg => rfl); (case hr => first | (go_simp; done) | (go_simp; rfl)); intro gb106 hg w13 hbox hb; have n0_ := Aside0.mk (Kd.R_below (Kd.R_elderB (by (with_reducible repeat (first | apply Kd.R_alloc | apply Kd.R_drewN | apply Kd.R_drew)); exact HO_0.out) gb106 (Nat.le_of_eq hg.symm)) hb); have n1_ := Aside0.mk (Kept.below (S := (fun k_ => P0_ k_)) (by repeat (first | (with_reducible first | exact HK.out | apply Kept.alloc | apply Kept.drewN | apply Kept.drew) | exact HK.out)) hb); have n2_ := Aside0.mk (below_step (by repeat (first | (with_reducible first | exact HB.out | apply below_alloc | apply pw_below_drewN | apply below_drew1) | exact HB.out)) hb); have n3_ := Aside0.mk (hbox); have n4_ := Aside0.mk ((by rw [hg]; exact (by first | exact HK.out.1 | exact (show Kept w _ (fun k_ => P0_ k_) from by repeat (first | (with_reducible first | exact HK.out | apply Kept.alloc | apply Kept.drewN | apply Kept.drew) | exact HK.out)).1) : w.heap.size ≤ gb106)); have n5_ := Aside0.mk ((by rw [hg]; exact (below_size (by repeat (first | (with_reducible first | exact HB.out | apply below_alloc | apply pw_below_drewN | apply below_drew1) | exact HB.out))) : w0.heap.size ≤ gb106)); clear HO_0; clear HK; clear HB; have HO_0 := n0_; have HK := n1_; have HB := n2_; have BK106 := n3_; have GW106 := n4_; have GE106 := n5_; clear n0_ n1_ n2_ n3_ n4_ n5_; clear hb hbox hg; have hcz14_0 : w13.cell? ⟨gb106, 0, none⟩ = some (.int .i64 0) := (blk_cell BK106.out 0).trans rfl; have hcz14_1 : w13.cell? ⟨gb106, 1, none⟩ = some (.int .i64 0) := (blk_cell BK106.out 1).trans rfl; have hfz14_0 := blk_frozen BK106.out 0; have hfz14_1 := blk_frozen BK106.out 1) | (go_at_call 48; refine (span_empty.calls ((rd_T30 x0_1 x6_1).f0) ((rd_T30 x0_1 x6_1).f1) true _ A11.out).mono ?_; rintro e w15 ⟨rfl, hb⟩; have n0_ := Aside0.mk (Kd.R_below (by (with_reducible repeat (first | apply Kd.R_alloc | apply Kd.R_drewN | apply Kd.R_drew)); exact (Kd.R_mono (Kd.R_far (p := ⟨gb106, 1, none⟩) (Kd.R_far (p := ⟨gb106, 0, none⟩) (Kd.R_mono HO_0.out (fun k_ hk => (⟨hk, hk.2⟩ : _ ∧ k_ ≠ gb106))) (fun _ hk => hk.2) (.int .i64 ((rd_T30 x0_1 x6_1).f0))) (fun _ hk => hk.2) (.int .i64 ((rd_T30 x0_1 x6_1).f1))) (fun _ h_ => h_.1))) hb); have n1_ := Aside0.mk (blk_below (g := gb106) (o := .cells #[.int .i64 ((rd_T30 x0_1 x6_1).f0), .int .i64 ((rd_T30 x0_1 x6_1).f1)] 30 (0, 0)) (by (with_reducible repeat (first | refine blk_drewN ?_ _ | refine blk_drew ?_ | refine blk_alloc ?_ _)); refine blk_put (cs := #[.int .i64 ((rd_T30 x0_1 x6_1).f0), .int .i64 0]) ?_ 1 _ rfl; (with_reducible repeat (first | refine blk_drewN ?_ _ | refine blk_drew ?_ | refine blk_alloc ?_ _)); refine blk_put (cs := #[.int .i64 0, .int .i64 0]) ?_ 0 _ rfl; (with_reducible repeat (first | refine blk_drewN ?_ _ | refine blk_drew ?_ | refine blk_alloc ?_ _)); exact BK106.out) hb); have n2_ := Aside0.mk (Kept.below (S := (fun k_ => P0_ k_)) (by repeat (first | (with_reducible first | exact HK.out | apply Kept.alloc | apply Kept.drewN | apply Kept.drew | refine Kept.setCell ?_ (.inr GW106.out) _) | exact HK.out)) hb); have n3_ := Aside0.mk (below_step (by repeat (first | (with_reducible first | exact HB.out | apply below_alloc | apply pw_below_drewN | apply below_drew1 | refine below_set ?_ GE106.out) | exact HB.out)) hb); clear HO_0; clear BK106; clear HK; clear HB; have HO_0 := n0_; have BK106 := n1_; have HK := n2_; have HB := n3_; clear n0_ n1_ n2_ n3_; (try clear hb); (try clear hb2); (try clear hk); (try clear hi)))
              (try simp only [← hl0_1])
              go_roundg k1
              case measure => have := HK1.out; omega
              case rel => exact ⟨(x0_1), (x5_1), (wrap64 (x6_1 + 1)), (by first | rfl | (simp; done) | (simp [*]; done)), (by first | rfl | (simp; done) | (simp [*]; done)), H', ⟨by have := HK1.out; omega⟩, ⟨by (try simp only [hl0_1]); (with_reducible repeat (first | apply Kd.R_alloc | apply Kd.R_drewN | apply Kd.R_drew)); exact Kd.R_mono HO_0.out (fun _ hk => hk.1)⟩, ⟨by repeat (first | (with_reducible first | exact HK.out | apply Kept.alloc | apply Kept.drewN | apply Kept.drew | refine Kept.setCell ?_ (.inr GW106.out) _) | exact HK.out)⟩, ⟨by repeat (first | (with_reducible first | exact HB.out | apply below_alloc | apply pw_below_drewN | apply below_drew1 | refine below_set ?_ GE106.out) | exact HB.out)⟩⟩
            · replace c12 := Bool.eq_false_iff.mpr c12
              subst c12
              have H1 : (if 0 ≤ x5_1 then (if x5_1 < (x0_1.length : Int) then (api_Span_46.l0 k1 (x0_1.set (x5_1 : Int).toNat (⟨(rd_T30 x0_1 x6_1).f0, (rd_T30 x0_1 x6_1).f1⟩ : S30)) (wrap64 (x5_1 + 1)) (wrap64 (x6_1 + 1))) else (none)) else (none)) = some r := by rw [if_neg (show ¬ (false = true) by decide)] at H; exact H
              clear H
              have H := H1
              clear H1
              by_cases c16 : 0 ≤ x5_1
              · rw [if_pos c16] at H
                have c16b0 : decide (0 ≤ x5_1) = true := decide_eq_true c16
                clear c16
                by_cases c17 : x5_1 < (x0_1.length : Int)
                · rw [if_pos c17] at H
                  have c17b0 : decide (x5_1 < (x0_1.length : Int)) = true := decide_eq_true c17
                  clear c17
                  obtain ⟨y108, hy108⟩ : ∃ y_ : List (S30), y_ = (x0_1.set (x5_1 : Int).toNat (⟨(rd_T30 x0_1 x6_1).f0, (rd_T30 x0_1 x6_1).f1⟩ : S30)) := ⟨_, rfl⟩
                  replace H : (api_Span_46.l0 k1 y108 (wrap64 (x5_1 + 1)) (wrap64 (x6_1 + 1))) = some r := by first | (rw [hy108]; with_reducible exact H) | (have H2_ := (Option.bind_some _ _).symm.trans H; rw [hy108]; with_reducible exact H2_) | (have H2_ := (Option.bind_some _ _).symm.trans H; with_reducible exact H2_) | with_reducible exact H | (rw [hy108]; exact H) | exact H
                  have Ny108 := Aside0.mk hy108
                  clear hy108
                  have H' := Aside0.mk H
                  clear H
                  have p105 : 0 ≤ (x6_1 : Int) := of_decide_eq_true (by first | (with_reducible assumption) | assumption)
                  have q105 : x6_1 < (x0_1.length : Int) := of_decide_eq_true (by first | (with_reducible assumption) | assumption)
                  obtain ⟨ad105, e105, hx105_0, hx105_1⟩ := at_T30 (Kd.R_reads' HO_0.out).2.2 x6_1 p105 q105
                  cases e105
                  replace p105 := eq_true p105
                  replace q105 := eq_true q105
                  go_wp2_with (first | ((with_reducible refine gate_dst (N := 7) rfl ?_); refine box_event ?hg (N := 7) ?hd (cs := #[.int .i64 0, .int .i64 0]) (t := 30) ?hr ?_; (case hd => rfl); (case hg => rfl); (case hr => first | (go_simp; done) | (go_simp; rfl)); intro gb106 hg w19 hbox hb; have n0_ := Aside0.mk (Kd.R_below (Kd.R_elderB (by (with_reducible repeat (first | apply Kd.R_alloc | apply Kd.R_drewN | apply Kd.R_drew)); exact HO_0.out) gb106 (Nat.le_of_eq hg.symm)) hb); have n1_ := Aside0.mk (Kept.below (S := (fun k_ => P0_ k_)) (by repeat (first | (with_reducible first | exact HK.out | apply Kept.alloc | apply Kept.drewN | apply Kept.drew) | exact HK.out)) hb); have n2_ := Aside0.mk (below_step (by repeat (first | (with_reducible first | exact HB.out | apply below_alloc | apply pw_below_drewN | apply below_drew1) | exact HB.out)) hb); have n3_ := Aside0.mk (hbox); have n4_ := Aside0.mk ((by rw [hg]; exact (by first | exact HK.out.1 | exact (show Kept w _ (fun k_ => P0_ k_) from by repeat (first | (with_reducible first | exact HK.out | apply Kept.alloc | apply Kept.drewN | apply Kept.drew) | exact HK.out)).1) : w.heap.size ≤ gb106)); have n5_ := Aside0.mk ((by rw [hg]; exact (below_size (by repeat (first | (with_reducible first | exact HB.out | apply below_alloc | apply pw_below_drewN | apply below_drew1) | exact HB.out))) : w0.heap.size ≤ gb106)); clear HO_0; clear HK; clear HB; have HO_0 := n0_; have HK := n1_; have HB := n2_; have BK106 := n3_; have GW106 := n4_; have GE106 := n5_; clear n0_ n1_ n2_ n3_ n4_ n5_; clear hb hbox hg; have hcz20_0 : w19.cell? ⟨gb106, 0, none⟩ = some (.int .i64 0) := (blk_cell BK106.out 0).trans rfl; have hcz20_1 : w19.cell? ⟨gb106, 1, none⟩ = some (.int .i64 0) := (blk_cell BK106.out 1).trans rfl; have hfz20_0 := blk_frozen BK106.out 0; have hfz20_1 := blk_frozen BK106.out 1) | (go_at_call 48; refine (span_empty.calls ((rd_T30 x0_1 x6_1).f0) ((rd_T30 x0_1 x6_1).f1) false _ A11.out).mono ?_; rintro e w21 ⟨rfl, hb⟩; have n0_ := Aside0.mk (Kd.R_below (by (with_reducible repeat (first | apply Kd.R_alloc | apply Kd.R_drewN | apply Kd.R_drew)); exact (Kd.R_mono (Kd.R_far (p := ⟨gb106, 1, none⟩) (Kd.R_far (p := ⟨gb106, 0, none⟩) (Kd.R_mono HO_0.out (fun k_ hk => (⟨hk, hk.2⟩ : _ ∧ k_ ≠ gb106))) (fun _ hk => hk.2) (.int .i64 ((rd_T30 x0_1 x6_1).f0))) (fun _ hk => hk.2) (.int .i64 ((rd_T30 x0_1 x6_1).f1))) (fun _ h_ => h_.1))) hb); have n1_ := Aside0.mk (blk_below (g := gb106) (o := .cells #[.int .i64 ((rd_T30 x0_1 x6_1).f0), .int .i64 ((rd_T30 x0_1 x6_1).f1)] 30 (0, 0)) (by (with_reducible repeat (first | refine blk_drewN ?_ _ | refine blk_drew ?_ | refine blk_alloc ?_ _)); refine blk_put (cs := #[.int .i64 ((rd_T30 x0_1 x6_1).f0), .int .i64 0]) ?_ 1 _ rfl; (with_reducible repeat (first | refine blk_drewN ?_ _ | refine blk_drew ?_ | refine blk_alloc ?_ _)); refine blk_put (cs := #[.int .i64 0, .int .i64 0]) ?_ 0 _ rfl; (with_reducible repeat (first | refine blk_drewN ?_ _ | refine blk_drew ?_ | refine blk_alloc ?_ _)); exact BK106.out) hb); have n2_ := Aside0.mk (Kept.below (S := (fun k_ => P0_ k_)) (by repeat (first | (with_reducible first | exact HK.out | apply Kept.alloc | apply Kept.drewN | apply Kept.drew | refine Kept.setCell ?_ (.inr GW106.out) _) | exact HK.out)) hb); have n3_ := Aside0.mk (below_step (by repeat (first | (with_reducible first | exact HB.out | apply below_alloc | apply pw_below_drewN | apply below_drew1 | refine below_set ?_ GE106.out) | exact HB.out)) hb); clear HO_0; clear BK106; clear HK; clear HB; have HO_0 := n0_; have BK106 := n1_; have HK := n2_; have HB := n3_; clear n0_ n1_ n2_ n3_; (try clear hb); (try clear hb2); (try clear hk); (try clear hi); have hcz22_0 : w21.cell? ⟨gb106, 0, none⟩ = some (.int .i64 ((rd_T30 x0_1 x6_1).f0)) := (blk_cell BK106.out 0).trans rfl; have hcz22_1 : w21.cell? ⟨gb106, 1, none⟩ = some (.int .i64 ((rd_T30 x0_1 x6_1).f1)) := (blk_cell BK106.out 1).trans rfl; have hfz22_0 := blk_frozen BK106.out 0; have hfz22_1 := blk_frozen BK106.out 1; have p18 : 0 ≤ (x5_1 : Int) := of_decide_eq_true (by first | (with_reducible assumption) | assumption); have q18 : (x5_1 : Int) < ((x0_1.length : Int) : Int) := of_decide_eq_true (by first | (with_reducible assumption) | assumption); obtain ⟨go18, co18, eo18, gb18, gl18, cl18, HG18⟩ := Kd.R_form HO_0.out (by omega); (first | cases eo18 | (injection eo18 with ea_ en_ ec_; (first | subst ea_ | (injection ea_ with ea_; subst ea_)); subst ec_; clear en_)); have GB18 := Aside0.mk gb18; have GG18 := Aside0.mk HG18; clear gb18 gl18 HG18; have HMgo18 := Aside0.mk (show (P0_ go18 ∨ w.heap.size ≤ go18) from (HO_0.out.1 _ rfl).1); (first | simp only [add_plain] at hx105_0 | skip); (first | simp only [add_plain] at hx105_1 | skip); obtain ⟨ce18, hcl18, hM18, hcc18, hfr18⟩ := Kd.R_elem HO_0.out z30 (x5_1 : Int) p18 q18; obtain rfl := k30_openM hM18; have hx18_0 : w21.cell? ⟨go18, (x5_1 : Int).toNat * 2, none⟩ = some (.int .i64 ((rd_T30 x0_1 x5_1).f0)) := hcc18 0 _ rfl; have hx18_1 : w21.cell? ⟨go18, (x5_1 : Int).toNat * 2 + 1, none⟩ = some (.int .i64 ((rd_T30 x0_1 x5_1).f1)) := hcc18 1 _ rfl; have hf18_0 : w21.frozen? ⟨go18, (x5_1 : Int).toNat * 2, none⟩ = false := hfr18 0; have hf18_1 : w21.frozen? ⟨go18, (x5_1 : Int).toNat * 2 + 1, none⟩ = false := hfr18 1; clear hcl18 hcc18 hfr18 hM18; replace p18 := eq_true p18; replace q18 := eq_true q18; have HX23 := Aside0.mk (show Kd.R k30 30 w21 w0.heap.size (fun k_ => (P0_ k_ ∨ w.heap.size ≤ k_) ∧ k_ ≠ gb106) (.slice (some ⟨go18, 0, none⟩) x0_1.length co7) x0_1 from (by (with_reducible repeat (first | apply Kd.R_alloc | apply Kd.R_drewN | apply Kd.R_drew)); exact HO_0.out)); obtain ⟨ce23, hcl23, hM23, hcc23, hfr23⟩ := Kd.R_elem HX23.out z30 (x5_1 : Int) (of_decide_eq_true (by first | (with_reducible assumption) | assumption)) (by have h_ : (x5_1 : Int) < ((x0_1.length : Int) : Int) := of_decide_eq_true (by first | (with_reducible assumption) | assumption); first | exact h_ | (have e_ := (Kd.R_reads' HO_0.out).1; omega) | simpa using h_); obtain rfl := k30_openM hM23; have HP23 := Kd.R_seg HX23.out (x5_1 : Int) (of_decide_eq_true (by first | (with_reducible assumption) | assumption)) (by have h_ : (x5_1 : Int) < ((x0_1.length : Int) : Int) := of_decide_eq_true (by first | (with_reducible assumption) | assumption); first | exact h_ | (have e_ := (Kd.R_reads' HO_0.out).1; omega) | simpa using h_) (seg := [.int .i64 ((rd_T30 x0_1 x6_1).f0), .int .i64 ((rd_T30 x0_1 x6_1).f1)]) (j := 0) hcl23 hcc23 (show 2 ≤ 2 from by decide) (x' := (⟨(rd_T30 x0_1 x6_1).f0, (rd_T30 x0_1 x6_1).f1⟩ : S30)) (k30_mkM _ _ _ (⟨(rd_T30 x0_1 x6_1).f0, (rd_T30 x0_1 x6_1).f1⟩ : S30) ) (fun _ hk => hk); have hx23_0 := hcc23 0 _ rfl; (try simp only [show (k30).sz = 2 from rfl, Nat.mul_one, Nat.add_zero] at hx23_0); have hf23_0 := hfr23 0; (try simp only [show (k30).sz = 2 from rfl, Nat.mul_one, Nat.add_zero] at hf23_0); have hx23_1 := hcc23 1 _ rfl; (try simp only [show (k30).sz = 2 from rfl, Nat.mul_one, Nat.add_zero] at hx23_1); have hf23_1 := hfr23 1; (try simp only [show (k30).sz = 2 from rfl, Nat.mul_one, Nat.add_zero] at hf23_1); clear hcl23 hcc23 hfr23 hM23) | ((with_reducible refine gate_store (t := 30) (p := 33) rfl ?_); refine store_event (t := 30) (p := 33) (v := ?vo_w24) (w1 := ((w21.setCell ⟨go18, (x5_1 : Int).toNat * 2, none⟩ (.int .i64 ((rd_T30 x0_1 x6_1).f0))).setCell ⟨go18, (x5_1 : Int).toNat * 2 + 1, none⟩ (.int .i64 ((rd_T30 x0_1 x6_1).f1)))) ?hg ?ho ?hn ?hr ?_; (case ho => rfl); (case hg => rfl); (case hn => rfl); (case hr => first | (go_simp; done) | (go_simp; rfl)); intro w24 hw; have hg : w21.grownBy w24 (some go18) := (by rw [hw]; exact HP23.2); have hp_ : Kd.R k30 30 w24 w0.heap.size (fun k_ => (P0_ k_ ∨ w.heap.size ≤ k_) ∧ k_ ≠ gb106) (.slice (some ⟨go18, 0, none⟩) x0_1.length co7) y108 := (by rw [hw, Ny108.out]; exact HP23.1); clear HP23; have n0_ := Aside0.mk (hp_); have n1_ := Aside0.mk (blk_grown (g := gb106) (o := .cells #[.int .i64 ((rd_T30 x0_1 x6_1).f0), .int .i64 ((rd_T30 x0_1 x6_1).f1)] 30 (0, 0)) (by (with_reducible repeat (first | refine blk_drewN ?_ _ | refine blk_drew ?_ | refine blk_alloc ?_ _)); exact BK106.out) hg (Kd.R_away HO_0.out (fun _ hk => hk.2))); have n2_ := Aside0.mk ((by rw [hw]; exact below_set (below_set (HB.out) GB18.out) GB18.out : Below w0.heap.size w0 w24)); have n3_ := Aside0.mk (Kept.of_grown (S := (fun k_ => P0_ k_)) hg (by repeat (first | (with_reducible first | exact HK.out | apply Kept.alloc | apply Kept.drewN | apply Kept.drew | refine Kept.setCell ?_ (.inr GW106.out) _) | exact HK.out)) (fun k_ e_ => (HO_0.out.1 k_ e_).1)); clear HO_0; clear BK106; clear HB; clear HK; have HO_0 := n0_; have BK106 := n1_; have HB := n2_; have HK := n3_; clear n0_ n1_ n2_ n3_; clear hg hw hp_))
                  (try simp only [← hl0_1])
                  go_roundg k1
                  case measure => have := HK1.out; omega
                  case rel => exact ⟨(y108), (wrap64 (x5_1 + 1)), (wrap64 (x6_1 + 1)), (by first | rfl | (simp; done) | (simp [*]; done)), (by first | rfl | (simp; done) | (simp [*]; done)), H', ⟨by have := HK1.out; omega⟩, ⟨by (try simp only [hl0_1]); (with_reducible repeat (first | apply Kd.R_alloc | apply Kd.R_drewN | apply Kd.R_drew)); exact Kd.R_mono HO_0.out (fun _ hk => hk.1)⟩, ⟨by repeat (first | (with_reducible first | exact HK.out | apply Kept.alloc | apply Kept.drewN | apply Kept.drew | refine Kept.setCell ?_ (.inr GW106.out) _) | exact HK.out)⟩, ⟨by repeat (first | (with_reducible first | exact HB.out | apply below_alloc | apply pw_below_drewN | apply below_drew1 | refine below_set ?_ GE106.out) | exact HB.out)⟩⟩
                · rw [if_neg c17] at H
                  exact absurd H (by simp)
              · rw [if_neg c16] at H
                exact absurd H (by simp)
          · rw [if_neg c10] at H
            exact absurd H (by simp)
        · rw [if_neg c9] at H
          have c9b0 : decide (x6_1 < (x0_1.length : Int)) = false := decide_eq_false c9
          clear c9
          by_cases c25 : 0 ≤ x5_1
          · rw [if_pos c25] at H
            have c25b0 := eq_true c25
            have c25b1 : decide (0 ≤ x5_1) = true := decide_eq_true c25
            clear c25
            by_cases c26 : x5_1 ≤ (x0_1.length : Int)
            · rw [if_pos c26] at H
              have c26b0 := eq_true c26
              have c26b1 : decide (x5_1 ≤ (x0_1.length : Int)) = true := decide_eq_true c26
              clear c26
              obtain ⟨y109, hy109⟩ : ∃ y_ : List (S30), y_ = (x0_1.take (x5_1 : Int).toNat) := ⟨_, rfl⟩
              replace H : (some y109) = some r := by first | (rw [hy109]; with_reducible exact H) | (have H2_ := (Option.bind_some _ _).symm.trans H; rw [hy109]; with_reducible exact H2_) | (have H2_ := (Option.bind_some _ _).symm.trans H; with_reducible exact H2_) | with_reducible exact H | (rw [hy109]; exact H) | exact H
              have Ny109 := Aside0.mk hy109
              clear hy109
              obtain rfl := Option.some.inj H
              obtain ⟨W27, A27, hsl27, hcl27, hrt27, hgr27⟩ : ∃ (W27 : World) (A27 : Option Addr), (∀ W : World, (Instr.slice 22 (.slice Ao7 x0_1.length co7) (some (.int .i64 x5_1)) none none).run Try.prog W = .ok (.slice A27 (x0_1.length - x5_1.toNat) (co7 - x5_1.toNat)) W) ∧
                  (∀ ty, (Builtin.clear_ #[22] ty #[.slice A27 (x0_1.length - x5_1.toNat) (co7 - x5_1.toNat)]).run Try.prog wr = .ok (.tuple #[]) W27) ∧ Kd.R k30 30 W27 w0.heap.size (fun k_ => (P0_ k_ ∨ w.heap.size ≤ k_)) (.slice Ao7 x5_1.toNat co7) (x0_1.take x5_1.toNat) ∧ wr.grownBy W27 (Value.slice Ao7 x0_1.length co7).ownBlock := by
                have h0 : 0 ≤ x5_1 := of_decide_eq_true c25b1
                have h1 : x5_1 ≤ (x0_1.length : Int) := of_decide_eq_true c26b1
                obtain ⟨i0, hi0, _, hsz, _⟩ := info_parts info30
                have hsl := cut_from (P := Try.prog) 22 30 .i64 Try.underlying22 hi0 2 hsz Ao7 x0_1.length co7 x5_1 h0 h1
                by_cases hlt : x5_1.toNat < x0_1.length
                · obtain ⟨g, cap, e, hgb, hgl⟩ := Kd.R_form HO_0.out (by omega)
                  have hle := (Kd.R_reads' HO_0.out).2.1
                  obtain rfl : Ao7 = some ⟨g, 0, none⟩ := by cases e; rfl
                  obtain ⟨k1, k2, k3⟩ := clear_tail (d := k30) (P := Try.prog) 22 (.agg #[.int .i64 0, .int .i64 0]) Try.underlying22 Try.zeroValue30 rfl (by intro u hu; simp [Value.cells] at hu; rw [hu]; rfl) HO_0.out x5_1.toNat hlt
                  refine ⟨_, _, hsl, fun ty => ?_, k2, k3⟩
                  rw [if_neg (by omega)]
                  show (Builtin.clear_ #[22] ty #[.slice (some ((⟨g, 0, none⟩ : Addr).add (x5_1.toNat * 2))) (x0_1.length - x5_1.toNat) (co7 - x5_1.toNat)]).run Try.prog wr = _
                  rw [add_plain]
                  exact k1 ty _
                · have he : x5_1.toNat = x0_1.length := by omega
                  refine ⟨wr, _, hsl, fun ty => ?_, ?_, ⟨rfl, rfl, rfl, Nat.le_refl _, fun _ _ _ => rfl⟩⟩
                  · rw [he, Nat.sub_self]
                    cases (if co7 = x0_1.length then Ao7 else Ao7.map (·.add (x0_1.length * 2))) <;> simp [Builtin.clear_, run_underlying Try.underlying22]
                  · rw [he, List.take_length]
                    exact HO_0.out
              have HB27 := Aside0.mk (show Below w0.heap.size w0 W27 from HB.out.grown hgr27 (below_size HB.out) (fun k hk => Kd.R_base HO_0.out k hk))
              have HK27 := Aside0.mk (Kept.of_grown (S := (fun k_ => P0_ k_)) hgr27 HK.out (fun k_ e_ => HO_0.out.1 k_ e_))
              clear hgr27
              have q27 : (x5_1 : Int) ≤ ((x0_1.length : Int) : Int) := of_decide_eq_true (by first | (with_reducible assumption) | assumption)
              obtain ⟨i027, hi027, _, hsz27, _⟩ := info_parts info30
              have hcut27 := cut_to (P := Try.prog) 22 30 .i64 Try.underlying22 hi027 Ao7 x0_1.length co7 x5_1 (of_decide_eq_true (by first | (with_reducible assumption) | assumption)) q27 (Kd.R_reads' HO_0.out).2.1
              have hr27 := hrt27
              have hy27 : y109.length = (x5_1 : Int).toNat := (by rw [Ny109.out, List.length_take]; omega)
              rw [← Ny109.out] at hr27
              rw [← hy27] at hr27 hcut27
              clear hy27 hi027 hsz27 HO_0 hrt27
              have HO111 := Aside0.mk hr27
              clear hr27
              replace q27 := eq_true q27
              go_wp2
              go_ret
              exact ⟨_, by first | rfl | (simp [errW_none, errW_some] <;> rfl) | (simp [*, errW_none, errW_some] <;> rfl), by (with_reducible repeat (first | apply Kd.R_alloc | apply Kd.R_drewN | apply Kd.R_drew)); exact HO111.out, by repeat (first | (with_reducible first | exact HB27.out | apply below_alloc | apply pw_below_drewN | apply below_drew1) | exact HB27.out), by repeat (first | (with_reducible first | exact HK27.out | apply Kept.alloc | apply Kept.drewN | apply Kept.drew) | exact HK27.out)⟩
            · rw [if_neg c26] at H
              exact absurd H (by simp)
          · rw [if_neg c25] at H
            exact absurd H (by simp)
end Go.Proofs.Ytgncbhpmnjfhhaa.S
end
section
namespace Go.Proofs.Ytgncbhpmnjfhhaa.S
open Go.Shelf Go.RowKit Go.Lib Go.Sort Go.Proofs.YtgncbhpmnjfhhaaW.PrintWords Go.Proofs.YtgncbhpmnjfhhaaW.PrintLast Go.Proofs.YtgncbhpmnjfhhaaW.PrintMore
set_option linter.unusedVariables false
set_option linter.unusedSimpArgs false
def lsort_ren : Go.Shelf.Ren := ⟨fun | 6 => 49 | 15 => 68 | 14 => 67 | 28 => 91 | 29 => 92 | 20 => 83 | 21 => 84 | 22 => 85 | 23 => 86 | 24 => 87 | 25 => 88 | 26 => 89 | 27 => 90 | 46 => 97 | 47 => 98 | 48 => 99 | 49 => 100 | 50 => 101 | 57 => 105 | n => n, fun | 22 => 22 | 24 => 30 | 25 => 80 | 3 => 3 | 39 => 60 | 0 => 0 | 53 => 123 | 55 => 73 | 4 => 4 | 46 => 117 | 45 => 116 | 50 => 51 | 5 => 5 | 9 => 9 | 66 => 126 | 70 => 130 | 76 => 135 | 77 => 136 | n => n, fun | n => n⟩
theorem lsort : Go.Proofs.SlLaysF0.n6 Try.prog lsort_ren := {
  mixed := by kernel_rfl
  f6 := ⟨Try.f49.name, by decide, Try.func49.trans (congrArg some (by kernel_rfl))⟩
  f14 := ⟨Try.f67.name, by decide, Try.func67.trans (congrArg some (by kernel_rfl))⟩
  f15 := Try.func68.trans (congrArg some (by kernel_rfl))
  f20 := ⟨Try.f83.name, by decide, Try.func83.trans (congrArg some (by kernel_rfl))⟩
  f21 := ⟨Try.f84.name, by decide, Try.func84.trans (congrArg some (by kernel_rfl))⟩
  f22 := ⟨Try.f85.name, by decide, Try.func85.trans (congrArg some (by kernel_rfl))⟩
  f23 := ⟨Try.f86.name, by decide, Try.func86.trans (congrArg some (by kernel_rfl))⟩
  f24 := ⟨Try.f87.name, by decide, Try.func87.trans (congrArg some (by kernel_rfl))⟩
  f25 := ⟨Try.f88.name, by decide, Try.func88.trans (congrArg some (by kernel_rfl))⟩
  f26 := ⟨Try.f89.name, by decide, Try.func89.trans (congrArg some (by kernel_rfl))⟩
  f27 := ⟨Try.f90.name, by decide, Try.func90.trans (congrArg some (by kernel_rfl))⟩
  f28 := Try.func91.trans (congrArg some (by kernel_rfl))
  f29 := Try.func92.trans (congrArg some (by kernel_rfl))
  f46 := ⟨Try.f97.name, by decide, Try.func97.trans (congrArg some (by kernel_rfl))⟩
  f47 := Try.func98.trans (congrArg some (by kernel_rfl))
  f48 := Try.func99.trans (congrArg some (by kernel_rfl))
  f49 := ⟨Try.f100.name, by decide, Try.func100.trans (congrArg some (by kernel_rfl))⟩
  f50 := ⟨Try.f101.name, by decide, Try.func101.trans (congrArg some (by kernel_rfl))⟩
  f57 := ⟨Try.f105.name, by decide, Try.func105.trans (congrArg some (by kernel_rfl))⟩
  t0 := Try.underlying0
  a0 := Try.isAgg0
  z0 := Try.sizeOf0
  v0 := Try.zeroValue0
  t3 := Try.underlying3
  a3 := Try.isAgg3
  z3 := Try.sizeOf3
  v3 := Try.zeroValue3
  t4 := Try.underlying4
  a4 := Try.isAgg4
  z4 := Try.sizeOf4
  v4 := Try.zeroValue4
  t5 := Try.underlying5
  a5 := Try.isAgg5
  z5 := Try.sizeOf5
  v5 := Try.zeroValue5
  t9 := Try.underlying9
  a9 := Try.isAgg9
  z9 := Try.sizeOf9
  v9 := Try.zeroValue9
  t22 := Try.underlying22
  a22 := Try.isAgg22
  z22 := Try.sizeOf22
  v22 := Try.zeroValue22
  t25 := Try.underlying80
  a25 := Try.isAgg80
  z25 := Try.sizeOf80
  v25 := Try.zeroValue80
  t39 := Try.underlying60
  a39 := Try.isAgg60
  z39 := Try.sizeOf60
  v39 := Try.zeroValue60
  t45 := Try.underlying116
  a45 := Try.isAgg116
  z45 := Try.sizeOf116
  v45 := Try.zeroValue116
  t46 := Try.underlying117
  a46 := Try.isAgg117
  z46 := Try.sizeOf117
  v46 := Try.zeroValue117
  t50 := Try.underlying51
  a50 := Try.isAgg51
  z50 := Try.sizeOf51
  v50 := Try.zeroValue51
  t53 := Try.underlying123
  a53 := Try.isAgg123
  z53 := Try.sizeOf123
  v53 := Try.zeroValue123
  t55 := Try.underlying73
  a55 := Try.isAgg73
  z55 := Try.sizeOf73
  v55 := Try.zeroValue73
  t66 := Try.underlying126
  a66 := Try.isAgg126
  z66 := Try.sizeOf126
  v66 := Try.zeroValue126
  t70 := Try.underlying130
  a70 := Try.isAgg130
  z70 := Try.sizeOf130
  v70 := Try.zeroValue130
  t76 := Try.underlying135
  a76 := Try.isAgg135
  z76 := Try.sizeOf135
  v76 := Try.zeroValue135
  t77 := Try.underlying136
  a77 := Try.isAgg136
  z77 := Try.sizeOf136
  v77 := Try.zeroValue136 }
instance : Inhabited S30 := ⟨z30⟩
def cmp30 (x y : S30) : Int := if x.f0 < y.f0 then -1 else if y.f0 < x.f0 then 1 else 0
set_option maxHeartbeats 1000000 in
theorem closure50 (x y : S30) (W : World) : Calls Try.prog 50 #[.agg #[.int .i64 x.f0, .int .i64 x.f1], .agg #[.int .i64 y.f0, .int .i64 y.f1]] W fun e w' => e = .returned (.int .i64 (cmp30 x y)) ∧ ∃ q os', w' = grow (W.drewN q) os' := by
  unfold cmp30
  rcases Int.lt_trichotomy x.f0 y.f0 with h | h | h
  · rw [if_pos h]
    go_enter Try.func50, Try.ntmps50
    go_wp2
    go_ret
    exact ⟨rfl, 0, _, by rw [alloc_eq_grow, alloc_eq_grow, grow_grow]; rfl⟩
  · rw [if_neg (by omega), if_neg (by omega)]
    have h1 : ¬ x.f0 < y.f0 := by omega
    have h2 : ¬ y.f0 < x.f0 := by omega
    clear h
    go_enter Try.func50, Try.ntmps50
    go_wp2
    go_ret
    exact ⟨rfl, 0, _, by rw [alloc_eq_grow, alloc_eq_grow, grow_grow]; rfl⟩
  · rw [if_neg (by omega), if_pos h]
    have h1 : ¬ x.f0 < y.f0 := by omega
    go_enter Try.func50, Try.ntmps50
    go_wp2
    go_ret
    exact ⟨rfl, 0, _, by rw [alloc_eq_grow, alloc_eq_grow, grow_grow]; rfl⟩
theorem cmpLays50 (blk off size : Nat) (w : World) : CmpLays Try.prog 50 #[] enc30 2 cmp30 blk off size w := fun _ _ _ _ x y => closure50 x y _
theorem lt30 (x y : S30) : ltOf cmp30 x y = decide (x.f0 < y.f0) := by
  unfold ltOf cmp30
  by_cases h1 : x.f0 < y.f0
  · simp [h1]
  · by_cases h2 : y.f0 < x.f0 <;> simp [h1, h2]
theorem swo30 : SWO (ltOf cmp30) where
  irrefl x := by rw [lt30]; simp
  trans x y z h1 h2 := by rw [lt30] at *; simp at *; omega
  ntrans x y z h1 h2 := by rw [lt30] at *; simp at *; omega
def sort30 (l : List S30) : List S30 := (pdq (ltOf cmp30) l.toArray 0 l.toArray.size (Lib.bitLen l.toArray.size) true true).toList
theorem flat30 (l : List S30) : (flatK enc30 2 l.toArray).toList = cells30 l := by
  apply List.ext_getElem
  · simp [cells30_length]
  · intro t h1 h2
    have h1' : t < l.length * 2 := by simpa using h1
    have h3 := get_flatK enc30 2 l.toArray t (by simpa using h1')
    have h4 : t / 2 < l.length := by omega
    have e1 : (flatK enc30 2 l.toArray).toList[t] = (flatK enc30 2 l.toArray)[t]! := by
      rw [getElem!_pos _ t (by simpa using h1')]; simp
    rw [e1, h3]
    have e2 : l.toArray[t / 2]! = l[t / 2] := by
      rw [getElem!_pos _ _ (by simpa using h4)]; simp
    rw [e2]
    have hp : l[t / 2]? = some l[t / 2] := List.getElem?_eq_getElem h4
    have q0 := cells30_get0 l _ _ hp
    have q1 := cells30_get1 l _ _ hp
    have hm : t % 2 = 0 ∨ t % 2 = 1 := by omega
    rcases hm with hm | hm
    · have ht : t = t / 2 * 2 := by omega
      have : (cells30 l)[t]? = some (.int .i64 (l[t/2]).f0) := by rw [← q0]; congr 1
      rw [hm]
      rw [List.getElem?_eq_getElem h2] at this
      injection this with this
      rw [this]
      rfl
    · have ht : t = t / 2 * 2 + 1 := by omega
      have : (cells30 l)[t]? = some (.int .i64 (l[t/2]).f1) := by rw [← q1]; congr 1
      rw [hm]
      rw [List.getElem?_eq_getElem h2] at this
      injection this with this
      rw [this]
      rfl
theorem sort30_sorts (l : List S30) : PermIn 0 l.toArray.size l.toArray (sort30 l).toArray ∧ SortedIn (ltOf cmp30) 0 l.toArray.size (sort30 l).toArray := by
  have h := pdq_sorts (ltOf cmp30) swo30 l.toArray 0 l.toArray.size (Lib.bitLen l.toArray.size) true true (Nat.zero_le _) (Nat.le_refl _) (Or.inl rfl)
  unfold sort30
  rw [Array.toArray_toList]
  exact h
end Go.Proofs.Ytgncbhpmnjfhhaa.S
end
section
namespace Go.Proofs.Ytgncbhpmnjfhhaa.S
open Go.Shelf Go.RowKit Go.Lib Go.Sort Go.Proofs.YtgncbhpmnjfhhaaW.PrintWords Go.Proofs.YtgncbhpmnjfhhaaW.PrintLast Go.Proofs.YtgncbhpmnjfhhaaW.PrintMore
set_option linter.unusedVariables false
set_option linter.unusedSimpArgs false
theorem sort30_length (l : List S30) : (sort30 l).length = l.length := by
  have h := (sort30_sorts l).1.1
  simpa using h
theorem sort30_nil : sort30 [] = [] := List.eq_nil_of_length_eq_zero (by rw [sort30_length]; rfl)
theorem putCells_take (F cur : Array Value) (h : F.size ≤ cur.size) : (putCells id 0 F cur).toList.take F.size = F.toList := by
  apply List.ext_getElem
  · simp [putCells]; omega
  · intro t h1 h2
    have ht : t < F.size := by simpa using h2
    simp [putCells, ht]
theorem heap_put_other (w : World) (g n off k : Nat) (d : Array S30) (os : Array Obj) (hk : k < w.heap.size) (hne : k ≠ g) : (grow (putRowK enc30 2 (Sort.ahead w n) g off d) os).heap[k]? = w.heap[k]? := by
  unfold grow putRowK putRow mapBlock
  show (Array.modify w.heap g _ ++ os)[k]? = _
  rw [Array.getElem?_append_left (by simpa using hk), Array.getElem?_modify, if_neg (fun e => hne e.symm)]
theorem heap_put_same (w : World) (g n : Nat) (d : Array S30) (os : Array Obj) (cur : Array Value) (hg : w.heap[g]? = some (.cells cur 30 (0, 0))) :
    (grow (putRowK enc30 2 (Sort.ahead w n) g 0 d) os).heap[g]? = some (.cells (putCells id 0 (flatK enc30 2 d) cur) 30 (0, 0)) := by
  unfold grow putRowK putRow mapBlock
  show (Array.modify w.heap g _ ++ os)[g]? = _
  have hk := (Array.getElem?_eq_some_iff.1 hg).1
  rw [Array.getElem?_append_left (by simpa using hk), Array.getElem?_modify, if_pos rfl, hg]
  rfl
def api_Span_49.f (k : Nat) (l0 : List S30) (a1 : Int) : Option (List S30) := if l0.length < 4611686018427387904 then some (sort30 l0) else none
theorem api_Span_49.mono : ∀ a0 a1 k, LeO (api_Span_49.f k a0 a1) (api_Span_49.f (k + 1) a0 a1) := fun _ _ _ => LeO.refl _
theorem holds30 (w : World) (g : Nat) (cur : Array Value) (l : List S30) (hg : w.heap[g]? = some (.cells cur 30 (0, 0))) (ht : cur.toList.take (l.length * 2) = cells30 l) : HoldsK enc30 2 w g 0 l.toArray := by
  intro j hj
  have hj2 : j < l.length * 2 := by simpa using hj
  constructor
  · rw [Nat.zero_add, cell_of_row w g j cur 30 (0, 0) hg]
    have h1 : (cur.toList.take (l.length * 2))[j]? = (cells30 l)[j]? := by rw [ht]
    rw [List.getElem?_take, if_pos hj2] at h1
    have h2 : cur[j]? = (cells30 l)[j]? := by simpa using h1
    rw [h2, ← flat30]
    rw [getElem!_pos _ j (by simpa using hj2)]
    simp [hj2]
  · rw [Nat.zero_add]
    simp [World.frozen?, hg]
set_option maxHeartbeats 1000000 in
theorem api_Span_49.calls (k : Nat) (P0_ : Nat → Prop) (u9000_ : Value) (l0 : List (S30)) (a1 : Int) (r : List (S30)) (w0 w : World) (hB : Below w0.heap.size w0 w) (ho0 : Kd.R k30 30 w w0.heap.size P0_ u9000_ l0) (h : api_Span_49.f k l0 a1 = some r) :
    Calls Try.prog 49 #[u9000_, .func (.func 50) #[] #[]] w fun e w' => e = .returned (.tuple #[]) ∧ Kd.R k30 30 w' w0.heap.size (fun k_ => (P0_ k_ ∨ w.heap.size ≤ k_)) u9000_ r ∧ Below w0.heap.size w0 w' ∧ Kept w w' (fun k_ => P0_ k_) := by
  unfold api_Span_49.f at h
  split at h
  · rename_i hlen
    injection h with h
    subst h
    obtain ⟨hok, hl, ho⟩ := R30.1 ho0
    rcases ho with ⟨rfl, hn⟩ | ⟨g, cap, cur, rfl, hb, hg, hnc, hcm, hcs, htk⟩
    · obtain rfl : l0 = [] := List.eq_nil_of_length_eq_zero hn
      have hc := AnyF.slices_SortFunc_none lsort none 0 (.func (.func 50) #[] #[]) w
      change Calls Try.prog 49 _ _ _ at hc
      refine hc.mono ?_
      rintro e w' ⟨rfl, rfl⟩
      refine ⟨rfl, ?_, hB, Kept.refl _ _⟩
      rw [sort30_nil]
      exact Kd.R_nil _ _ _ _ _
    · have hgs := (Array.getElem?_eq_some_iff.1 hg).1
      have eg : ∀ args w, (callFunc 50 args).run Try.prog w = .ok (.enter 50 args) w := enters_of Try.func50 (by kernel_rfl) rfl
      have hc := AnyQ.slices_SortFunc_eq lsort 2 Try.isAgg30 Try.sizeOf30 enc30 (fun _ => rfl) (fun x v hv => by simp [enc30] at hv; rcases hv with rfl | rfl <;> rfl) cmp30 swo30 50 #[] g 0 cap l0.toArray w eg (cmpLays50 _ _ _ _) (holds30 w g cur l0 hg htk) hgs (by simpa using hlen)
      change Calls Try.prog 49 _ _ _ at hc
      have e0 : l0.toArray.size = l0.length := by simp
      rw [e0] at hc
      refine hc.mono ?_
      rintro e w' ⟨rfl, n, os, rfl⟩
      have hle : w.heap.size ≤ (grow (putRowK enc30 2 (Sort.ahead w n) g 0 (sort30 l0).toArray) os).heap.size := by
        rw [size_grow, size_putRowK]; exact Nat.le_add_right _ _
      have eW : sortWorldK enc30 2 w g 0 n (pdq (ltOf cmp30) l0.toArray 0 l0.length (Lib.bitLen l0.length) true true) os = grow (putRowK enc30 2 (Sort.ahead w n) g 0 (sort30 l0).toArray) os := by
        unfold sortWorldK sort30
        rw [Array.toArray_toList, e0]
      rw [eW]
      have hsz : (flatK enc30 2 (sort30 l0).toArray).size = l0.length * 2 := by simp [sort30_length]
      have hcur : l0.length * 2 ≤ cur.size := by rw [hcs]; exact Nat.mul_le_mul_right _ hnc
      refine ⟨rfl, R30.2 ⟨fun k_ hk => .inl (hok k_ hk), ?_, .inr ⟨g, cap, _, ?_, hb, heap_put_same w g n _ os cur hg, ?_, hcm, ?_, ?_⟩⟩, ?_, hle, fun i hi hni => heap_put_other w g n 0 i _ os hi (fun e => hni (e ▸ hok g rfl))⟩
      · rw [cells30_length]
      · rw [sort30_length]
      · rw [sort30_length]; exact hnc
      · simpa [putCells] using hcs
      · rw [sort30_length]
        have := putCells_take (flatK enc30 2 (sort30 l0).toArray) cur (by rw [hsz]; exact hcur)
        rw [hsz] at this
        rw [this, flat30]
      · refine ⟨hB.os, hB.tape, hB.output, Nat.le_trans hB.size hle, fun i hi => ?_⟩
        rw [heap_put_other w g n 0 i _ os (Nat.lt_of_lt_of_le hi hB.size) (by omega)]
        exact hB.block i hi
  · cases h
end Go.Proofs.Ytgncbhpmnjfhhaa.S
end
section
namespace Go.Proofs.Ytgncbhpmnjfhhaa.S
open Go.RowKit Go.Proofs.YtgncbhpmnjfhhaaW.PrintWords Go.Proofs.YtgncbhpmnjfhhaaW.PrintLast Go.Proofs.YtgncbhpmnjfhhaaW.PrintMore
attribute [local go_sem] max2_int min2_int max_two min_two max_three min_three max_four min_four
set_option linter.unusedVariables false
set_option linter.unusedSimpArgs false
attribute [local go_sem high] eqA30
def span_Norm.l0 : Nat → List (S30) → List (S30) → Int → Int → Option ((List (S30)))
  | 0, _, _, _, _ => none
  | k + 1, x4, x13, x14, x15 => if x15 < x14 then (if 0 ≤ x15 then (if x15 < (x13.length : Int) then (if (wrap64 ((x4.length : Int) - 1)) ≥ 0 then (if 0 ≤ (wrap64 ((x4.length : Int) - 1)) then (if (wrap64 ((x4.length : Int) - 1)) < (x4.length : Int) then (if ((rd_T30 x13 x15).f0) ≤ ((rd_T30 x4 (wrap64 ((x4.length : Int) - 1))).f1) then (span_Norm.l0 k (x4.set ((wrap64 ((x4.length : Int) - 1)) : Int).toNat (⟨(rd_T30 x4 (wrap64 ((x4.length : Int) - 1))).f0, mx ((rd_T30 x4 (wrap64 ((x4.length : Int) - 1))).f1) ((rd_T30 x13 x15).f1)⟩ : S30)) x13 x14 (wrap64 (x15 + 1))) else (if x4.length < 8796093022208 then (span_Norm.l0 k (x4 ++ [(⟨(rd_T30 x13 x15).f0, (rd_T30 x13 x15).f1⟩ : S30)]) x13 x14 (wrap64 (x15 + 1))) else (none))) else (none)) else (none)) else (if x4.length < 8796093022208 then (span_Norm.l0 k (x4 ++ [(⟨(rd_T30 x13 x15).f0, (rd_T30 x13 x15).f1⟩ : S30)]) x13 x14 (wrap64 (x15 + 1))) else (none))) else (none)) else (none)) else (some x4)
def span_Norm.f (k : Nat) (l0 : List (S30)) : Option ((List (S30))) := (api_Span_47.f l0).bind fun t133 => ((api_Span_46.f k t133 48).bind fun t136 => ((api_Span_49.f k t136 50).bind fun t139 => (span_Norm.l0 k ([] : List (S30)) t139 (t136.length : Int) 0)))
theorem span_Norm.mono_l : ∀ k, (∀ y0 y1 y2 y3, LeO (span_Norm.l0 k y0 y1 y2 y3) (span_Norm.l0 (k + 1) y0 y1 y2 y3))
  | 0 => fun _ _ _ _ r h => by simp [span_Norm.l0] at h
  | k + 1 => by
    have ih0 := span_Norm.mono_l k
    · intro y0 y1 y2 y3
      unfold span_Norm.l0
      repeat' first
      | (with_reducible exact ih0 _ _ _ _)
      | (with_reducible exact api_Span_46.mono _ _ _)
      | (with_reducible exact api_Span_49.mono _ _ _)
      | (with_reducible exact LeO.refl _)
      | (with_reducible exact LeO.none _)
      | (with_reducible refine LeO.ite ?_ ?_)
      | (with_reducible refine LeO.bind ?_ (fun _ => ?_))
      | exact ih0 _ _ _ _
      | exact api_Span_46.mono _ _ _
      | exact api_Span_49.mono _ _ _
      | exact LeO.none _
      | refine LeO.ite ?_ ?_
      | refine LeO.bind ?_ (fun _ => ?_)
theorem span_Norm.mono : ∀ a0 k, LeO (span_Norm.f k a0) (span_Norm.f (k + 1) a0) := by
  intro a0 k
  have ih0 := span_Norm.mono_l k
  unfold span_Norm.f
  repeat' first
      | (with_reducible exact ih0 _ _ _ _)
      | (with_reducible exact api_Span_46.mono _ _ _)
      | (with_reducible exact api_Span_49.mono _ _ _)
      | (with_reducible exact LeO.refl _)
      | (with_reducible exact LeO.none _)
      | (with_reducible refine LeO.ite ?_ ?_)
      | (with_reducible refine LeO.bind ?_ (fun _ => ?_))
      | exact ih0 _ _ _ _
      | exact api_Span_46.mono _ _ _
      | exact api_Span_49.mono _ _ _
      | exact LeO.none _
      | refine LeO.ite ?_ ?_
      | refine LeO.bind ?_ (fun _ => ?_)
def span_Norm.T8 : Bool × List (List Nat × List Nat) := (true, [([], []), ([0], [0]), ([1], [1]), ([2], [2]), ([3, 2], [2, 3]), ([2], [2]), ([2], [2]), ([5, 6, 2], [2, 5, 6]), ([7, 2], [2, 7]), ([8, 2], [2, 8]), ([4, 9, 2], [2, 4, 9]), ([2, 10], [2, 10])])
def span_Norm.B8 : List Nat := [0, 1, 3, 7, 15, 7, 7, 103, 231, 487, 1023, 2047]
theorem span_Norm.tab8 : rtab .any (opsOf Try.f18 8) = span_Norm.T8 := by kernel_rfl
theorem span_Norm.bits8 : waitsOk span_Norm.T8.2 span_Norm.B8 = true := by kernel_rfl
def span_Norm.T9 : Bool × List (List Nat × List Nat) := (true, [([], []), ([], []), ([], []), ([], []), ([2, 3], [2, 3]), ([4], [4]), ([5], [5]), ([], []), ([7], [7]), ([6, 8], [6, 8]), ([0, 1, 0, 1, 2, 3, 4, 5, 6, 7, 8, 9], [0, 1]), ([10, 0, 1, 2, 3, 4, 5, 6, 7, 8, 9], [10]), ([11, 9, 0, 1, 2, 3, 4, 5, 6, 7, 8, 9], [9, 11])])
def span_Norm.B9 : List Nat := [0, 0, 0, 0, 12, 28, 60, 0, 128, 508, 1023, 2047, 4095]
theorem span_Norm.tab9 : rtab .any (opsOf Try.f18 9) = span_Norm.T9 := by kernel_rfl
theorem span_Norm.bits9 : waitsOk span_Norm.T9.2 span_Norm.B9 = true := by kernel_rfl
set_option maxHeartbeats 8000000 in
set_option maxRecDepth 100000 in
theorem span_Norm.calls (k : Nat) (A0 : Option Addr) (c0 : Nat) (l0 : List (S30)) (r : List (S30)) (w : World) (hr0 : Kd.C k30 w A0 l0.length l0) (hc0 : l0.length ≤ c0) (h : span_Norm.f k l0 = some r) :
    Calls Try.prog 18 #[.slice A0 l0.length c0] w fun e w' => ∃ v0_ : Value, e = .returned (v0_) ∧ Kd.R k30 30 w' w.heap.size (fun _ => True) v0_ r ∧ Below w.heap.size w w' := by
  have hu30 := Try.underlying30
  have HR0 := Aside0.mk hr0
  have HC0 := Aside0.mk hc0
  clear hr0 hc0
  have HB := Aside0.mk (Below.refl w.heap.size w)
  have H : ((api_Span_47.f l0).bind fun t133 => ((api_Span_46.f k t133 48).bind fun t136 => ((api_Span_49.f k t136 50).bind fun t139 => (span_Norm.l0 k ([] : List (S30)) t139 (t136.length : Int) 0)))) = some r := h
  clear h
  replace H := Option.bind_eq_some_iff.mp H
  obtain ⟨t133, A20, H⟩ := H
  replace H : ((api_Span_46.f k t133 48).bind fun t136 => ((api_Span_49.f k t136 50).bind fun t139 => (span_Norm.l0 k ([] : List (S30)) t139 (t136.length : Int) 0))) = some r := H
  have A2 := Aside0.mk A20
  clear A20
  replace H := Option.bind_eq_some_iff.mp H
  obtain ⟨t136, A30, H⟩ := H
  replace H : ((api_Span_49.f k t136 50).bind fun t139 => (span_Norm.l0 k ([] : List (S30)) t139 (t136.length : Int) 0)) = some r := H
  have A3 := Aside0.mk A30
  clear A30
  replace H := Option.bind_eq_some_iff.mp H
  obtain ⟨t139, A40, H⟩ := H
  replace H : (span_Norm.l0 k ([] : List (S30)) t139 (t136.length : Int) 0) = some r := H
  have A4 := Aside0.mk A40
  clear A40
  have H' := Aside0.mk H
  clear H
  go_enter Try.func18, Try.ntmps18
  go_wp2_with (first | ((with_reducible refine gate_callee (f := 47) rfl ?_); refine goesL_ (some 9) rfl rfl Try.func47 (by kernel_rfl) rfl #[.slice A0 l0.length c0] rfl (by (try simp only [List.map_toArray, List.map_cons, List.map_nil]); first | done | rfl | (simp only [List.length_drop, List.length_take]; rfl)) ?_; (with_reducible refine (api_Span_47.calls _ _ l0 t133 _ ?side1 ?side2 A2.out).mono ?_); (case side1 => repeat (first | exact HR0.out | (with_reducible refine Kd.C_alloc ?_ _) | (with_reducible refine Kd.C_drewN ?_ _) | (with_reducible refine Kd.C_drew ?_))); (case side2 => exact HC0.out); rintro e w5 ⟨v134, rfl, ho0, hb⟩; refine ⟨_, rfl, ?_⟩; have n0_ := Aside0.mk (Kd.R_lower ho0 (below_size (by repeat (first | (with_reducible first | exact HB.out | apply below_alloc | apply pw_below_drewN | apply below_drew1) | exact HB.out)))); have n1_ := Aside0.mk (below_step (by repeat (first | (with_reducible first | exact HB.out | apply below_alloc | apply pw_below_drewN | apply below_drew1) | exact HB.out)) hb); clear HB; have HO135 := n0_; have HB := n1_; clear n0_ n1_; (try clear hb); (try clear hb2); (try clear hk); (try clear hi); (try clear ho0); obtain ⟨Ao6, co6, eo6⟩ := Kd.R_slice HO135.out; subst eo6) | ((with_reducible refine gate_callee (f := 46) rfl ?_); refine goesL_ (some 10) rfl rfl Try.func46 (by kernel_rfl) rfl #[.slice Ao6 t133.length co6, .func (.func 48) #[] #[]] rfl (by (try simp only [List.map_toArray, List.map_cons, List.map_nil]); first | done | rfl | (simp only [List.length_drop, List.length_take]; rfl)) ?_; (with_reducible refine (api_Span_46.calls k (fun k_ => some k_ = (.slice Ao6 t133.length co6 : Value).ownBlock) (.slice Ao6 t133.length co6) t133 48 t136 w _ ?side1 ?side2 A3.out).mono ?_); (case side1 => repeat (first | (with_reducible first | exact HB.out | apply below_alloc | apply pw_below_drewN | apply below_drew1) | exact HB.out)); (case side2 => exact Kd.R_tight rfl HO135.out); rintro e w7 ⟨v137, rfl, ho0, hb, hkp⟩; refine ⟨_, rfl, ?_⟩; have n0_ := Aside0.mk (Kd.R_mono (ok' := fun k_ => True) ho0 (fun k_ hk_ => trivial)); have n1_ := Aside0.mk (hb); clear HB; clear HO135; have HO138 := n0_; have HB := n1_; clear n0_ n1_; (try clear hb); (try clear hkp); (try clear ho0); obtain ⟨Ao8, co8, eo8⟩ := Kd.R_slice HO138.out; subst eo8) | ((with_reducible refine gate_callee (f := 49) rfl ?_); refine goesL_ (some 12) rfl rfl Try.func49 (by kernel_rfl) rfl #[.slice Ao8 t136.length co8, .func (.func 50) #[] #[]] rfl (by (try simp only [List.map_toArray, List.map_cons, List.map_nil]); first | done | rfl | (simp only [List.length_drop, List.length_take]; rfl)) ?_; (with_reducible refine (api_Span_49.calls k (fun k_ => some k_ = (.slice Ao8 t136.length co8 : Value).ownBlock) (.slice Ao8 t136.length co8) t136 50 t139 w _ ?side1 ?side2 A4.out).mono ?_); (case side1 => repeat (first | (with_reducible first | exact HB.out | apply below_alloc | apply pw_below_drewN | apply below_drew1) | exact HB.out)); (case side2 => exact Kd.R_tight rfl HO138.out); rintro e w9 ⟨rfl, hy0, hb, hkp⟩; refine ⟨_, rfl, ?_⟩; have n0_ := Aside0.mk (Kd.R_reok rfl hy0 (fun k_ e_ => HO138.out.1 k_ e_)); have n1_ := Aside0.mk (hb); clear HO138; clear HB; have HO138 := n0_; have HB := n1_; clear n0_ n1_; (try clear hb); (try clear hkp); (try clear hy0)))
  go_loopg [4, 15] k (fun kq v4 v15 w' => ∃ (x4_1 : List (S30)) (x13_1 : List (S30)) (x15_1 : Int), v15 = .int .i64 x15_1 ∧ Aside0 (span_Norm.l0 kq x4_1 x13_1 (t136.length : Int) x15_1 = some r) ∧ Aside0 (kq ≤ k) ∧ Aside0 (Kd.R k30 30 w' w.heap.size (fun k_ => some k_ ≠ ((.slice Ao8 t136.length co8) : Value).ownBlock) v4 x4_1) ∧ Aside0 (Kd.R k30 30 w' w.heap.size (fun k_ => some k_ ≠ (v4 : Value).ownBlock) (.slice Ao8 t136.length co8) x13_1) ∧ Aside0 (Below w.heap.size w w'))
  case atStart => exact ⟨(([] : List (S30))), (t139), (0), (by first | rfl | (simp; done) | (simp [*]; done)), H', ⟨Nat.le_refl _⟩, ⟨by first | exact Kd.R_nil _ _ _ _ _ | exact Kd.N_nil _ _ _ _ _ | exact Kd.V_nil _ _ _ _ _ | exact Kd.Q_nil _ _ _ _ _ | exact Kd.S_nil _ _ _ _ _⟩, ⟨by (with_reducible repeat (first | apply Kd.R_alloc | apply Kd.R_drewN | apply Kd.R_drew)); exact Kd.R_mono HO138.out (fun _ hk => (by simp [Value.ownBlock]))⟩, ⟨by repeat (first | (with_reducible first | exact HB.out | apply below_alloc | apply pw_below_drewN | apply below_drew1) | exact HB.out)⟩⟩
  case round =>
    clear H'
    try clear c1
    try clear p2
    try clear c4
    obtain ⟨x4_1, x13_1, x15_1, rfl, HA, HK1, HO_4, HO_13, HB⟩ := hrel
    have hl13_1 := (Kd.R_reads' HO_13.out).1
    rw [hl13_1] at HO_13
    (try simp only [hl13_1])
    (try simp only [hl13_1] at HO_4)
    cases gk with
    | zero => exact absurd HA.out (by simp [span_Norm.l0])
    | succ k1 =>
      have H := HA.out
      clear HA
      simp only [span_Norm.l0] at H
      by_cases c10 : x15_1 < (t136.length : Int)
      · rw [if_pos c10] at H
        have c10b0 : decide (x15_1 < (t136.length : Int)) = true := decide_eq_true c10
        clear c10
        by_cases c11 : 0 ≤ x15_1
        · rw [if_pos c11] at H
          have c11b0 : decide (0 ≤ x15_1) = true := decide_eq_true c11
          clear c11
          by_cases c12 : x15_1 < (x13_1.length : Int)
          · rw [if_pos c12] at H
            have c12b0 : decide (x15_1 < (x13_1.length : Int)) = true := decide_eq_true c12
            clear c12
            by_cases c13 : (wrap64 ((x4_1.length : Int) - 1)) ≥ 0
            · rw [if_pos c13] at H
              have c13b0 : decide (0 ≤ (wrap64 ((x4_1.length : Int) - 1))) = true := decide_eq_true c13
              clear c13
              obtain ⟨ji14, hji14⟩ : ∃ j_ : Int, (wrap64 ((x4_1.length : Int) - 1)) = j_ := ⟨_, rfl⟩
              replace H : (if 0 ≤ (ji14) then (if (ji14) < (x4_1.length : Int) then (if ((rd_T30 x13_1 x15_1).f0) ≤ ((rd_T30 x4_1 (ji14)).f1) then (span_Norm.l0 k1 (x4_1.set ((ji14) : Int).toNat (⟨(rd_T30 x4_1 (ji14)).f0, mx ((rd_T30 x4_1 (ji14)).f1) ((rd_T30 x13_1 x15_1).f1)⟩ : S30)) x13_1 (t136.length : Int) (wrap64 (x15_1 + 1))) else (if x4_1.length < 8796093022208 then (span_Norm.l0 k1 (x4_1 ++ [(⟨(rd_T30 x13_1 x15_1).f0, (rd_T30 x13_1 x15_1).f1⟩ : S30)]) x13_1 (t136.length : Int) (wrap64 (x15_1 + 1))) else (none))) else (none)) else (none)) = some r := by first | (rw [hji14] at H; exact H) | (simp only [hji14] at H ⊢; exact H)
              (try rw [hji14] at c13b0)
              have hji14w : (IntKind.i64.wrap ((x4_1.length : Int) - 1)) = ji14 := (i64_w _).trans hji14
              by_cases c15 : 0 ≤ (ji14)
              · rw [if_pos c15] at H
                have c15b0 : decide (0 ≤ (ji14)) = true := decide_eq_true c15
                clear c15
                by_cases c16 : (ji14) < (x4_1.length : Int)
                · rw [if_pos c16] at H
                  have c16b0 : decide ((ji14) < (x4_1.length : Int)) = true := decide_eq_true c16
                  clear c16
                  by_cases c17 : ((rd_T30 x13_1 x15_1).f0) ≤ ((rd_T30 x4_1 (ji14)).f1)
                  · rw [if_pos c17] at H
                    have c17b0 : decide (((rd_T30 x13_1 x15_1).f0) ≤ ((rd_T30 x4_1 (ji14)).f1)) = true := decide_eq_true c17
                    clear c17
                    obtain ⟨ji18, hji18⟩ : ∃ j_ : Int, (mx ((rd_T30 x4_1 (ji14)).f1) ((rd_T30 x13_1 x15_1).f1)) = j_ := ⟨_, rfl⟩
                    replace H : (span_Norm.l0 k1 (x4_1.set ((ji14) : Int).toNat (⟨(rd_T30 x4_1 (ji14)).f0, ji18⟩ : S30)) x13_1 (t136.length : Int) (wrap64 (x15_1 + 1))) = some r := by first | (rw [hji18] at H; exact H) | (simp only [hji18] at H ⊢; exact H)
                    have hji18_ : (if ((rd_T30 x4_1 (ji14)).f1) < ((rd_T30 x13_1 x15_1).f1) then ((rd_T30 x13_1 x15_1).f1) else ((rd_T30 x4_1 (ji14)).f1)) = ji18 := hji18
                    obtain ⟨y144, hy144⟩ : ∃ y_ : List (S30), y_ = (x4_1.set ((ji14) : Int).toNat (⟨(rd_T30 x4_1 (ji14)).f0, ji18⟩ : S30)) := ⟨_, rfl⟩
                    replace H : (span_Norm.l0 k1 y144 x13_1 (t136.length : Int) (wrap64 (x15_1 + 1))) = some r := by first | (rw [hy144]; with_reducible exact H) | (have H2_ := (Option.bind_some _ _).symm.trans H; rw [hy144]; with_reducible exact H2_) | (have H2_ := (Option.bind_some _ _).symm.trans H; with_reducible exact H2_) | with_reducible exact H | (rw [hy144]; exact H) | exact H
                    have Ny144 := Aside0.mk hy144
                    clear hy144
                    have H' := Aside0.mk H
                    clear H
                    have p140 : 0 ≤ (x15_1 : Int) := of_decide_eq_true (by first | (with_reducible assumption) | assumption)
                    have q140 : x15_1 < (x13_1.length : Int) := of_decide_eq_true (by first | (with_reducible assumption) | assumption)
                    obtain ⟨ad140, e140, hx140_0, hx140_1⟩ := at_T30 (Kd.R_reads' HO_13.out).2.2 x15_1 p140 q140
                    cases e140
                    replace p140 := eq_true p140
                    replace q140 := eq_true q140
                    try go_wp2_with (first | ((with_reducible refine gate_dst (N := 6) rfl ?_); refine box_event ?hg (N := 6) ?hd (cs := #[.int .i64 0, .int .i64 0]) (t := 30) ?hr ?_; (case hd => rfl); (case hg => rfl); (case hr => first | (go_simp; done) | (go_simp; rfl)); intro gb141 hg w20 hbox hb; have n0_ := Aside0.mk (Kd.R_below (Kd.R_elderB (by (with_reducible repeat (first | apply Kd.R_alloc | apply Kd.R_drewN | apply Kd.R_drew)); exact HO_4.out) gb141 (Nat.le_of_eq hg.symm)) hb); have n1_ := Aside0.mk (Kd.R_below (Kd.R_elderB (by (with_reducible repeat (first | apply Kd.R_alloc | apply Kd.R_drewN | apply Kd.R_drew)); exact HO_13.out) gb141 (Nat.le_of_eq hg.symm)) hb); have n2_ := Aside0.mk (below_step (by repeat (first | (with_reducible first | exact HB.out | apply below_alloc | apply pw_below_drewN | apply below_drew1) | exact HB.out)) hb); have n3_ := Aside0.mk (hbox); have n4_ := Aside0.mk ((by rw [hg]; exact (below_size (by repeat (first | (with_reducible first | exact HB.out | apply below_alloc | apply pw_below_drewN | apply below_drew1) | exact HB.out))) : w.heap.size ≤ gb141)); have n5_ := Aside0.mk ((by rw [hg]; exact (below_size (by repeat (first | (with_reducible first | exact HB.out | apply below_alloc | apply pw_below_drewN | apply below_drew1) | exact HB.out))) : w.heap.size ≤ gb141)); clear HO_4; clear HO_13; clear HB; have HO_4 := n0_; have HO_13 := n1_; have HB := n2_; have BK141 := n3_; have GW141 := n4_; have GE141 := n5_; clear n0_ n1_ n2_ n3_ n4_ n5_; clear hb hbox hg; have hcz21_0 : w20.cell? ⟨gb141, 0, none⟩ = some (.int .i64 0) := (blk_cell BK141.out 0).trans rfl; have hcz21_1 : w20.cell? ⟨gb141, 1, none⟩ = some (.int .i64 0) := (blk_cell BK141.out 1).trans rfl; have hfz21_0 := blk_frozen BK141.out 0; have hfz21_1 := blk_frozen BK141.out 1; obtain ⟨Ao22, co22, eo22⟩ := Kd.R_slice HO_4.out; subst eo22))
                    have n0_ : Aside0 (Kd.R k30 30 ((w20.setCell ⟨gb141, 0, none⟩ (.int .i64 ((rd_T30 x13_1 x15_1).f0))).setCell ⟨gb141, 1, none⟩ (.int .i64 ((rd_T30 x13_1 x15_1).f1))) w.heap.size (fun k_ => some k_ ≠ (.slice (some ad140) x13_1.length co8 : Value).ownBlock ∧ k_ ≠ gb141) (.slice Ao22 x4_1.length co22) x4_1) := ⟨by (with_reducible repeat (first | apply Kd.R_alloc | apply Kd.R_drewN | apply Kd.R_drew)); exact Kd.R_mono (Kd.R_far (p := ⟨gb141, 1, none⟩) (Kd.R_far (p := ⟨gb141, 0, none⟩) (Kd.R_mono HO_4.out (fun k_ hk => (⟨hk, hk.2⟩ : _ ∧ k_ ≠ gb141))) (fun _ hk => hk.2) (.int .i64 ((rd_T30 x13_1 x15_1).f0))) (fun _ hk => hk.2) (.int .i64 ((rd_T30 x13_1 x15_1).f1))) (fun _ hk => ⟨hk.1.1, hk.1.2⟩)⟩
                    have n1_ : Aside0 (Kd.R k30 30 ((w20.setCell ⟨gb141, 0, none⟩ (.int .i64 ((rd_T30 x13_1 x15_1).f0))).setCell ⟨gb141, 1, none⟩ (.int .i64 ((rd_T30 x13_1 x15_1).f1))) w.heap.size (fun k_ => some k_ ≠ (.slice Ao22 x4_1.length co22 : Value).ownBlock ∧ k_ ≠ gb141) (.slice (some ad140) x13_1.length co8) x13_1) := ⟨by (with_reducible repeat (first | apply Kd.R_alloc | apply Kd.R_drewN | apply Kd.R_drew)); exact Kd.R_mono (Kd.R_far (p := ⟨gb141, 1, none⟩) (Kd.R_far (p := ⟨gb141, 0, none⟩) (Kd.R_mono HO_13.out (fun k_ hk => (⟨hk, hk.2⟩ : _ ∧ k_ ≠ gb141))) (fun _ hk => hk.2) (.int .i64 ((rd_T30 x13_1 x15_1).f0))) (fun _ hk => hk.2) (.int .i64 ((rd_T30 x13_1 x15_1).f1))) (fun _ hk => ⟨hk.1.1, hk.1.2⟩)⟩
                    have n2_ : Aside0 (((w20.setCell ⟨gb141, 0, none⟩ (.int .i64 ((rd_T30 x13_1 x15_1).f0))).setCell ⟨gb141, 1, none⟩ (.int .i64 ((rd_T30 x13_1 x15_1).f1))).heap[gb141]? = some (.cells #[.int .i64 ((rd_T30 x13_1 x15_1).f0), .int .i64 ((rd_T30 x13_1 x15_1).f1)] 30 (0, 0))) := ⟨by (with_reducible repeat (first | refine blk_drewN ?_ _ | refine blk_drew ?_ | refine blk_alloc ?_ _)); refine blk_put (cs := #[.int .i64 ((rd_T30 x13_1 x15_1).f0), .int .i64 0]) ?_ 1 _ rfl; (with_reducible repeat (first | refine blk_drewN ?_ _ | refine blk_drew ?_ | refine blk_alloc ?_ _)); refine blk_put (cs := #[.int .i64 0, .int .i64 0]) ?_ 0 _ rfl; (with_reducible repeat (first | refine blk_drewN ?_ _ | refine blk_drew ?_ | refine blk_alloc ?_ _)); exact BK141.out⟩
                    have n3_ : Aside0 (Below w.heap.size w ((w20.setCell ⟨gb141, 0, none⟩ (.int .i64 ((rd_T30 x13_1 x15_1).f0))).setCell ⟨gb141, 1, none⟩ (.int .i64 ((rd_T30 x13_1 x15_1).f1)))) := ⟨by repeat (first | (with_reducible first | exact HB.out | apply below_alloc | apply pw_below_drewN | apply below_drew1 | refine below_set ?_ GE141.out) | exact HB.out)⟩
                    (try clear HO_4)
                    (try clear HO_13)
                    (try clear BK141)
                    (try clear HB)
                    generalize ((w20.setCell ⟨gb141, 0, none⟩ (.int .i64 ((rd_T30 x13_1 x15_1).f0))).setCell ⟨gb141, 1, none⟩ (.int .i64 ((rd_T30 x13_1 x15_1).f1))) = w23 at n0_ n1_ n2_ n3_ ⊢
                    have HO_4 := n0_
                    have HO_13 := n1_
                    have BK141 := n2_
                    have HB := n3_
                    clear n0_ n1_ n2_ n3_
                    have n0_ := Aside0.mk (Kd.R_drew HO_4.out)
                    have n1_ := Aside0.mk (Kd.R_drew HO_13.out)
                    have n2_ := Aside0.mk (blk_drew BK141.out)
                    have n3_ := Aside0.mk (below_drew1 HB.out)
                    clear HO_4
                    clear HO_13
                    clear BK141
                    clear HB
                    have HO_4 := n0_
                    have HO_13 := n1_
                    have BK141 := n2_
                    have HB := n3_
                    clear n0_ n1_ n2_ n3_
                    have p142 : 0 ≤ ((ji14) : Int) := of_decide_eq_true (by first | (with_reducible assumption) | assumption)
                    have q142 : (ji14) < (x4_1.length : Int) := of_decide_eq_true (by first | (with_reducible assumption) | assumption)
                    obtain ⟨ad142, e142, hx142_0, hx142_1⟩ := at_T30 (Kd.R_reads' HO_4.out).2.2 (ji14) p142 q142
                    cases e142
                    replace p142 := eq_true p142
                    replace q142 := eq_true q142
                    refine start_ (n := 12) (S := fun w' => w'.cell? ⟨gb141, 0, none⟩ = some (.int .i64 ((rd_T30 x13_1 x15_1).f0)) ∧ w'.cell? ⟨gb141, 1, none⟩ = some (.int .i64 ((rd_T30 x13_1 x15_1).f1)) ∧ w'.cell? (ad142.add (((ji14)).toNat * 2)) = some (.int .i64 ((rd_T30 x4_1 (ji14)).f0)) ∧ w'.cell? ⟨(ad142.add (((ji14)).toNat * 2)).block, (ad142.add (((ji14)).toNat * 2)).off + 1, none⟩ = some (.int .i64 ((rd_T30 x4_1 (ji14)).f1))) (ds := []) #[false, false, false, false, false, false, false, false, false, false, false, false] (by kernel_rfl) rfl rfl ⟨(blk_cell BK141.out 0).trans rfl, (blk_cell BK141.out 1).trans rfl, hx142_0, hx142_1⟩ (fun hHeld => ?_); refine with_tabW span_Norm.tab8 span_Norm.bits8 (fun HT_ HW_ => ?_)
                    generalize w23.drew = w24 at HO_4 HO_13 BK141 HB hx142_0 hx142_1 hHeld ⊢
                    refine pure_ (i := 0) (N := some 22) (v := ?_) (a' := ?_) #[true, false, false, false, false, false, false, false, false, false, false, false] rfl rfl (any_of HT_.out (by kernel_rfl)) (fun _ _ _ h => h) (Or.inl ⟨by rfl, ?_⟩) ?_ ?_
                    rotate_left
                    · intro w'
                      go_simp
                      with_reducible rfl
                    rotate_left
                    · simp only [Act.put, List.setIfInBounds_toArray, List.set_cons_zero, List.set_cons_succ, i64_w, i32_w]
                      rfl
                    refine pure_ (i := 1) (N := some 23) (v := ?_) (a' := ?_) #[true, true, false, false, false, false, false, false, false, false, false, false] rfl rfl (any_of HT_.out (by kernel_rfl)) (fun _ _ _ h => h) (Or.inl ⟨by rfl, ?_⟩) ?_ ?_
                    rotate_left
                    · intro w'
                      go_simp
                      with_reducible rfl
                    rotate_left
                    · simp only [Act.put, List.setIfInBounds_toArray, List.set_cons_zero, List.set_cons_succ, i64_w, i32_w]
                      rfl
                    refine pure_ (i := 2) (N := some 24) (v := ?_) (a' := ?_) #[true, true, true, false, false, false, false, false, false, false, false, false] rfl rfl (any_of HT_.out (by kernel_rfl)) (fun _ _ _ h => h) (Or.inl ⟨by rfl, ?_⟩) ?_ ?_
                    rotate_left
                    · intro w'
                      go_simp
                      with_reducible rfl
                    rotate_left
                    · simp only [Act.put, List.setIfInBounds_toArray, List.set_cons_zero, List.set_cons_succ, i64_w, i32_w]
                      rfl
                    refine pure_ (i := 3) (N := some 25) (v := ?_) (a' := ?_) #[true, true, true, true, false, false, false, false, false, false, false, false] rfl rfl (any_of HT_.out (by kernel_rfl)) (fun _ _ _ h => h) (Or.inl ⟨by rfl, ?_⟩) ?_ ?_
                    rotate_left
                    · intro w'
                      go_simp
                      with_reducible rfl
                    rotate_left
                    · simp only [Act.put, List.setIfInBounds_toArray, List.set_cons_zero, List.set_cons_succ, i64_w, i32_w]
                      rfl
                    refine pure_ (i := 5) (N := some 27) (v := ?_) (a' := ?_) #[true, true, true, true, false, true, false, false, false, false, false, false] rfl rfl (any_of HT_.out (by kernel_rfl)) (fun _ _ _ h => h) (Or.inl ⟨by rfl, ?_⟩) ?_ ?_
                    rotate_left
                    · intro w'
                      go_simp
                      with_reducible rfl
                    rotate_left
                    · simp only [Act.put, List.setIfInBounds_toArray, List.set_cons_zero, List.set_cons_succ, i64_w, i32_w]
                      rfl
                    refine pure_ (i := 6) (N := some 28) (v := ?_) (a' := ?_) #[true, true, true, true, false, true, true, false, false, false, false, false] rfl rfl (any_of HT_.out (by kernel_rfl)) (fun _ _ _ h => h) (Or.inl ⟨by rfl, ?_⟩) ?_ ?_
                    rotate_left
                    · intro w'
                      go_simp
                      with_reducible rfl
                    rotate_left
                    · simp only [Act.put, List.setIfInBounds_toArray, List.set_cons_zero, List.set_cons_succ, i64_w, i32_w]
                      rfl
                    refine pure_ (i := 7) (N := some 29) (v := ?_) (a' := ?_) #[true, true, true, true, false, true, true, true, false, false, false, false] rfl rfl (any_of HT_.out (by kernel_rfl)) (fun _ _ _ h => h) (Or.inl ⟨by rfl, ?_⟩) ?_ ?_
                    rotate_left
                    · intro w'
                      go_simp
                      with_reducible rfl
                    rotate_left
                    · simp only [Act.put, List.setIfInBounds_toArray, List.set_cons_zero, List.set_cons_succ, i64_w, i32_w]
                      rfl
                    refine pure_ (i := 8) (N := some 30) (v := ?_) (a' := ?_) #[true, true, true, true, false, true, true, true, true, false, false, false] rfl rfl (any_of HT_.out (by kernel_rfl)) (fun _ _ _ h => h) (Or.inl ⟨by rfl, ?_⟩) ?_ ?_
                    rotate_left
                    · intro w'
                      go_simp
                      with_reducible rfl
                    rotate_left
                    · simp only [Act.put, List.setIfInBounds_toArray, List.set_cons_zero, List.set_cons_succ, i64_w, i32_w]
                      rfl
                    refine take_ (i := 4) (N := some 26) (v := ?_) (a' := ?_) #[true, true, true, true, true, true, true, true, true, false, false, false] rfl rfl (take_ofW HT_.out HW_.out (by kernel_rfl)) (fun _ _ _ h => h) (Or.inl ⟨by rfl, ?_⟩) hHeld ?_ ?_
                    rotate_left
                    · rintro w' ⟨s0, s1, s2, s3⟩
                      go_simp
                      with_reducible rfl
                    rotate_left
                    · simp only [Act.put, List.setIfInBounds_toArray, List.set_cons_zero, List.set_cons_succ, i64_w, i32_w]
                      rfl
                    refine take_ (i := 9) (N := some 31) (v := ?_) (a' := ?_) #[true, true, true, true, true, true, true, true, true, true, false, false] rfl rfl (take_ofW HT_.out HW_.out (by kernel_rfl)) (fun _ _ _ h => h) (Or.inl ⟨by rfl, ?_⟩) hHeld ?_ ?_
                    rotate_left
                    · rintro w' ⟨s0, s1, s2, s3⟩
                      go_simp
                      with_reducible rfl
                    rotate_left
                    · simp only [Act.put, List.setIfInBounds_toArray, List.set_cons_zero, List.set_cons_succ, i64_w, i32_w]
                      rfl
                    refine pure_ (i := 10) (N := some 32) (v := ?_) (a' := ?_) #[true, true, true, true, true, true, true, true, true, true, true, false] rfl rfl (any_of HT_.out (by kernel_rfl)) (fun _ _ _ h => h) (Or.inl ⟨by rfl, ?_⟩) ?_ ?_
                    rotate_left
                    · intro w'
                      go_simp
                      with_reducible rfl
                    rotate_left
                    · simp only [Act.put, List.setIfInBounds_toArray, List.set_cons_zero, List.set_cons_succ, i64_w, i32_w]
                      rfl
                    refine pure_ (i := 11) (N := some 33) (v := ?_) (a' := ?_) #[true, true, true, true, true, true, true, true, true, true, true, true] rfl rfl (any_of HT_.out (by kernel_rfl)) (fun _ _ _ h => h) (Or.inl ⟨by rfl, ?_⟩) ?_ ?_
                    rotate_left
                    · intro w'
                      go_simp
                      with_reducible rfl
                    rotate_left
                    · simp only [Act.put, List.setIfInBounds_toArray, List.set_cons_zero, List.set_cons_succ, i64_w, i32_w]
                      rfl
                    refine done_ (done_of HT_.out (by kernel_rfl)) ?_
                    try go_wp2
                    have n0_ := Aside0.mk (Kd.R_drew HO_4.out)
                    have n1_ := Aside0.mk (Kd.R_drew HO_13.out)
                    have n2_ := Aside0.mk (blk_drew BK141.out)
                    have n3_ := Aside0.mk (below_drew1 HB.out)
                    clear HO_4
                    clear HO_13
                    clear BK141
                    clear HB
                    have HO_4 := n0_
                    have HO_13 := n1_
                    have BK141 := n2_
                    have HB := n3_
                    clear n0_ n1_ n2_ n3_
                    have p143 : 0 ≤ ((ji14) : Int) := of_decide_eq_true (by first | (with_reducible assumption) | assumption)
                    have q143 : (ji14) < (x4_1.length : Int) := of_decide_eq_true (by first | (with_reducible assumption) | assumption)
                    obtain ⟨ad143, e143, hx143_0, hx143_1⟩ := at_T30 (Kd.R_reads' HO_4.out).2.2 (ji14) p143 q143
                    obtain rfl : ad142 = ad143 := (by injection e143)
                    replace p143 := eq_true p143
                    replace q143 := eq_true q143
                    have p19 : 0 ≤ ((ji14) : Int) := of_decide_eq_true (by first | (with_reducible assumption) | assumption)
                    have q19 : ((ji14) : Int) < ((x4_1.length : Int) : Int) := of_decide_eq_true (by first | (with_reducible assumption) | assumption)
                    obtain ⟨go19, co19, eo19, gb19, gl19, cl19, HG19⟩ := Kd.R_form HO_4.out (by omega)
                    (first | cases eo19 | (injection eo19 with ea_ en_ ec_; (first | subst ea_ | (injection ea_ with ea_; subst ea_)); subst ec_; clear en_))
                    have GB19 := Aside0.mk gb19
                    have GG19 := Aside0.mk HG19
                    clear gb19 gl19 HG19
                    (first | simp only [add_plain] at hx142_0 | skip)
                    (first | simp only [add_plain] at hx142_1 | skip)
                    (first | simp only [add_plain] at hx143_0 | skip)
                    (first | simp only [add_plain] at hx143_1 | skip)
                    obtain ⟨ce19, hcl19, hM19, hcc19, hfr19⟩ := Kd.R_elem HO_4.out z30 ((ji14) : Int) p19 q19
                    obtain rfl := k30_openM hM19
                    have hx19_0 : World.cell? _ ⟨go19, ((ji14) : Int).toNat * 2, none⟩ = some (.int .i64 ((rd_T30 x4_1 (ji14)).f0)) := hcc19 0 _ rfl
                    have hx19_1 : World.cell? _ ⟨go19, ((ji14) : Int).toNat * 2 + 1, none⟩ = some (.int .i64 ((rd_T30 x4_1 (ji14)).f1)) := hcc19 1 _ rfl
                    have hf19_0 : World.frozen? _ ⟨go19, ((ji14) : Int).toNat * 2, none⟩ = false := hfr19 0
                    have hf19_1 : World.frozen? _ ⟨go19, ((ji14) : Int).toNat * 2 + 1, none⟩ = false := hfr19 1
                    clear hcl19 hcc19 hfr19 hM19
                    replace p19 := eq_true p19
                    replace q19 := eq_true q19
                    obtain ⟨ce26, hcl26, hM26, hcc26, hfr26⟩ := Kd.R_elem HO_4.out z30 ((ji14) : Int) (of_decide_eq_true (by first | (with_reducible assumption) | assumption)) (by have h_ : ((ji14) : Int) < ((x4_1.length : Int) : Int) := of_decide_eq_true (by first | (with_reducible assumption) | assumption); first | exact h_ | (have e_ := (Kd.R_reads' HO_4.out).1; omega) | simpa using h_)
                    obtain rfl := k30_openM hM26
                    have HP26 := (Kd.R_seg HO_4.out ((ji14) : Int) (of_decide_eq_true (by first | (with_reducible assumption) | assumption)) (by have h_ : ((ji14) : Int) < ((x4_1.length : Int) : Int) := of_decide_eq_true (by first | (with_reducible assumption) | assumption); first | exact h_ | (have e_ := (Kd.R_reads' HO_4.out).1; omega) | simpa using h_) (seg := [.int .i64 ji18]) (j := 1) hcl26 hcc26 (show 2 ≤ 2 from by decide) (x' := (⟨(rd_T30 x4_1 (ji14)).f0, ji18⟩ : S30)) (k30_mkM _ _ _ (⟨(rd_T30 x4_1 (ji14)).f0, ji18⟩ : S30) ) (fun _ hk => hk)).1
                    rw [← Ny144.out] at HP26
                    have HQ26 := Aside0.mk HP26
                    clear hcl26 hcc26 hfr26 hM26 HP26
                    refine start_ (n := 13) (S := fun w' => w'.cell? ⟨gb141, 0, none⟩ = some (.int .i64 ((rd_T30 x13_1 x15_1).f0)) ∧ w'.cell? ⟨gb141, 1, none⟩ = some (.int .i64 ((rd_T30 x13_1 x15_1).f1)) ∧ w'.cell? ⟨go19, ((ji14)).toNat * 2, none⟩ = some (.int .i64 ((rd_T30 x4_1 (ji14)).f0)) ∧ w'.cell? ⟨go19, ((ji14)).toNat * 2 + 1, none⟩ = some (.int .i64 ((rd_T30 x4_1 (ji14)).f1))) (ds := [12]) #[false, false, false, false, false, false, false, false, false, false, false, false, false] (by kernel_rfl) rfl rfl ⟨(blk_cell BK141.out 0).trans rfl, (blk_cell BK141.out 1).trans rfl, hx143_0, hx143_1⟩ (fun hHeld => ?_); refine with_tabW span_Norm.tab9 span_Norm.bits9 (fun HT_ HW_ => ?_)
                    generalize w24.drew = w25 at HO_4 HO_13 BK141 HB GG19 HQ26 hf19_0 hf19_1 hx142_0 hx142_1 hx143_0 hx143_1 hx19_0 hx19_1 hHeld ⊢
                    refine pure_ (i := 0) (N := some 34) (v := ?_) (a' := ?_) #[true, false, false, false, false, false, false, false, false, false, false, false, false] rfl rfl (any_of HT_.out (by kernel_rfl)) (fun _ _ _ h => h) (Or.inl ⟨by rfl, ?_⟩) ?_ ?_
                    rotate_left
                    · intro w'
                      go_simp
                      with_reducible rfl
                    rotate_left
                    · simp only [Act.put, List.setIfInBounds_toArray, List.set_cons_zero, List.set_cons_succ, i64_w, i32_w]
                      rfl
                    refine pure_ (i := 1) (N := some 35) (v := ?_) (a' := ?_) #[true, true, false, false, false, false, false, false, false, false, false, false, false] rfl rfl (any_of HT_.out (by kernel_rfl)) (fun _ _ _ h => h) (Or.inl ⟨by rfl, ?_⟩) ?_ ?_
                    rotate_left
                    · intro w'
                      go_simp
                      with_reducible rfl
                    rotate_left
                    · simp only [Act.put, List.setIfInBounds_toArray, List.set_cons_zero, List.set_cons_succ, i64_w, i32_w]
                      rfl
                    refine pure_ (i := 2) (N := some 36) (v := ?_) (a' := ?_) #[true, true, true, false, false, false, false, false, false, false, false, false, false] rfl rfl (any_of HT_.out (by kernel_rfl)) (fun _ _ _ h => h) (Or.inl ⟨by rfl, ?_⟩) ?_ ?_
                    rotate_left
                    · intro w'
                      go_simp
                      with_reducible rfl
                    rotate_left
                    · simp only [Act.put, List.setIfInBounds_toArray, List.set_cons_zero, List.set_cons_succ, i64_w, i32_w]
                      rfl
                    refine pure_ (i := 3) (N := some 37) (v := ?_) (a' := ?_) #[true, true, true, true, false, false, false, false, false, false, false, false, false] rfl rfl (any_of HT_.out (by kernel_rfl)) (fun _ _ _ h => h) (Or.inl ⟨by rfl, ?_⟩) ?_ ?_
                    rotate_left
                    · intro w'
                      go_simp
                      with_reducible rfl
                    rotate_left
                    · simp only [Act.put, List.setIfInBounds_toArray, List.set_cons_zero, List.set_cons_succ, i64_w, i32_w]
                      rfl
                    refine pure_ (i := 4) (N := some 38) (v := ?_) (a' := ?_) #[true, true, true, true, true, false, false, false, false, false, false, false, false] rfl rfl (any_of HT_.out (by kernel_rfl)) (fun _ _ _ h => h) (Or.inl ⟨by rfl, ?_⟩) ?_ ?_
                    rotate_left
                    · intro w'
                      go_simp
                      with_reducible rfl
                    rotate_left
                    · simp only [Act.put, List.setIfInBounds_toArray, List.set_cons_zero, List.set_cons_succ, i64_w, i32_w]
                      rfl
                    refine pure_ (i := 5) (N := some 39) (v := ?_) (a' := ?_) #[true, true, true, true, true, true, false, false, false, false, false, false, false] rfl rfl (any_of HT_.out (by kernel_rfl)) (fun _ _ _ h => h) (Or.inl ⟨by rfl, ?_⟩) ?_ ?_
                    rotate_left
                    · intro w'
                      go_simp
                      with_reducible rfl
                    rotate_left
                    · simp only [Act.put, List.setIfInBounds_toArray, List.set_cons_zero, List.set_cons_succ, i64_w, i32_w]
                      rfl
                    refine pure_ (i := 7) (N := some 41) (v := ?_) (a' := ?_) #[true, true, true, true, true, true, false, true, false, false, false, false, false] rfl rfl (any_of HT_.out (by kernel_rfl)) (fun _ _ _ h => h) (Or.inl ⟨by rfl, ?_⟩) ?_ ?_
                    rotate_left
                    · intro w'
                      go_simp
                      with_reducible rfl
                    rotate_left
                    · simp only [Act.put, List.setIfInBounds_toArray, List.set_cons_zero, List.set_cons_succ, i64_w, i32_w]
                      rfl
                    refine take_ (i := 6) (N := some 40) (v := ?_) (a' := ?_) #[true, true, true, true, true, true, true, true, false, false, false, false, false] rfl rfl (take_ofW HT_.out HW_.out (by kernel_rfl)) (fun _ _ _ h => h) (Or.inl ⟨by rfl, ?_⟩) hHeld ?_ ?_
                    rotate_left
                    · rintro w' ⟨s0, s1, s2, s3⟩
                      go_simp
                      with_reducible rfl
                    rotate_left
                    · simp only [Act.put, List.setIfInBounds_toArray, List.set_cons_zero, List.set_cons_succ, i64_w, i32_w]
                      rfl
                    refine take_ (i := 8) (N := some 42) (v := ?_) (a' := ?_) #[true, true, true, true, true, true, true, true, true, false, false, false, false] rfl rfl (take_ofW HT_.out HW_.out (by kernel_rfl)) (fun _ _ _ h => h) (Or.inl ⟨by rfl, ?_⟩) hHeld ?_ ?_
                    rotate_left
                    · rintro w' ⟨s0, s1, s2, s3⟩
                      go_simp
                      with_reducible rfl
                    rotate_left
                    · simp only [Act.put, List.setIfInBounds_toArray, List.set_cons_zero, List.set_cons_succ, i64_w, i32_w]
                      rfl
                    refine pure_ (i := 9) (N := some 43) (v := ?_) (a' := ?_) #[true, true, true, true, true, true, true, true, true, true, false, false, false] rfl rfl (any_of HT_.out (by kernel_rfl)) (fun _ _ _ h => h) (Or.inl ⟨by rfl, ?_⟩) ?_ ?_
                    rotate_left
                    · intro w'
                      go_simp
                      with_reducible rfl
                    rotate_left
                    · simp only [Act.put, List.setIfInBounds_toArray, List.set_cons_zero, List.set_cons_succ, i64_w, i32_w]
                      rfl
                    refine pure_ (i := 10) (N := some 44) (v := ?_) (a' := ?_) #[true, true, true, true, true, true, true, true, true, true, true, false, false] rfl rfl (any_of HT_.out (by kernel_rfl)) (fun _ _ _ h => h) (Or.inl ⟨by rfl, ?_⟩) ?_ ?_
                    rotate_left
                    · intro w'
                      go_simp
                      with_reducible rfl
                    rotate_left
                    · simp only [Act.put, List.setIfInBounds_toArray, List.set_cons_zero, List.set_cons_succ, i64_w, i32_w]
                      rfl
                    refine pure_ (i := 11) (N := some 45) (v := ?_) (a' := ?_) #[true, true, true, true, true, true, true, true, true, true, true, true, false] rfl rfl (any_of HT_.out (by kernel_rfl)) (fun _ _ _ h => h) (Or.inl ⟨by rfl, ?_⟩) ?_ ?_
                    rotate_left
                    · intro w'
                      go_simp
                      with_reducible rfl
                    rotate_left
                    · simp only [Act.put, List.setIfInBounds_toArray, List.set_cons_zero, List.set_cons_succ, i64_w, i32_w]
                      rfl
                    refine last_ (i := 12) (N := none) #[true, true, true, true, true, true, true, true, true, true, true, true, true] rfl rfl (one_of HT_.out (by kernel_rfl)) (by decide) (fun K hK => ?_)
                    refine skip_ (w1 := ?_) (by rfl) rfl ?_ ?_
                    rotate_left
                    · go_simp
                      rfl
                    refine hK.out _ _ ?_
                    clear hK K
                    refine done_ (done_of HT_.out (by kernel_rfl)) ?_
                    try go_wp2
                    (try simp only [← hl13_1])
                    go_roundg k1
                    case measure => have := HK1.out; omega
                    case rel => exact ⟨(y144), (x13_1), (wrap64 (x15_1 + 1)), (by first | rfl | (simp; done) | (simp [*]; done)), H', ⟨by have := HK1.out; omega⟩, ⟨by (try simp only [hl13_1]); (with_reducible repeat (first | apply Kd.R_alloc | apply Kd.R_drewN | apply Kd.R_drew)); exact Kd.R_mono HQ26.out (fun _ hk => hk.1)⟩, ⟨by (try simp only [hl13_1]); (with_reducible repeat (first | apply Kd.R_alloc | apply Kd.R_drewN | apply Kd.R_drew)); exact Kd.R_mono (Kd.R_far (p := ⟨go19, ((ji14) : Int).toNat * 2 + 1, none⟩) (Kd.R_mono HO_13.out (fun k_ hk => (⟨hk, fun e_ => hk.1 (by rw [e_]; rfl)⟩ : _ ∧ k_ ≠ go19))) (fun _ hk => hk.2) (.int .i64 ji18)) (fun _ hk => hk.1.1)⟩, ⟨by repeat (first | (with_reducible first | exact HB.out | apply below_alloc | apply pw_below_drewN | apply below_drew1 | refine below_set ?_ GB19.out | refine below_set ?_ GE141.out) | exact HB.out)⟩⟩
                  · rw [if_neg c17] at H
                    have c17b0 : decide (((rd_T30 x13_1 x15_1).f0) ≤ ((rd_T30 x4_1 (ji14)).f1)) = false := decide_eq_false c17
                    clear c17
                    by_cases c27 : x4_1.length < 8796093022208
                    · rw [if_pos c27] at H
                      have LMc27 := Aside0.mk c27
                      clear c27
                      obtain ⟨y145, hy145⟩ : ∃ y_ : List (S30), y_ = (x4_1 ++ [(⟨(rd_T30 x13_1 x15_1).f0, (rd_T30 x13_1 x15_1).f1⟩ : S30)]) := ⟨_, rfl⟩
                      replace H : (span_Norm.l0 k1 y145 x13_1 (t136.length : Int) (wrap64 (x15_1 + 1))) = some r := by first | (rw [hy145]; with_reducible exact H) | (have H2_ := (Option.bind_some _ _).symm.trans H; rw [hy145]; with_reducible exact H2_) | (have H2_ := (Option.bind_some _ _).symm.trans H; with_reducible exact H2_) | with_reducible exact H | (rw [hy145]; exact H) | exact H
                      have Ny145 := Aside0.mk hy145
                      clear hy145
                      have H' := Aside0.mk H
                      clear H
                      have p140 : 0 ≤ (x15_1 : Int) := of_decide_eq_true (by first | (with_reducible assumption) | assumption)
                      have q140 : x15_1 < (x13_1.length : Int) := of_decide_eq_true (by first | (with_reducible assumption) | assumption)
                      obtain ⟨ad140, e140, hx140_0, hx140_1⟩ := at_T30 (Kd.R_reads' HO_13.out).2.2 x15_1 p140 q140
                      cases e140
                      replace p140 := eq_true p140
                      replace q140 := eq_true q140
                      try go_wp2_with (first | ((with_reducible refine gate_dst (N := 6) rfl ?_); refine box_event ?hg (N := 6) ?hd (cs := #[.int .i64 0, .int .i64 0]) (t := 30) ?hr ?_; (case hd => rfl); (case hg => rfl); (case hr => first | (go_simp; done) | (go_simp; rfl)); intro gb141 hg w28 hbox hb; have n0_ := Aside0.mk (Kd.R_below (Kd.R_elderB (by (with_reducible repeat (first | apply Kd.R_alloc | apply Kd.R_drewN | apply Kd.R_drew)); exact HO_4.out) gb141 (Nat.le_of_eq hg.symm)) hb); have n1_ := Aside0.mk (Kd.R_below (Kd.R_elderB (by (with_reducible repeat (first | apply Kd.R_alloc | apply Kd.R_drewN | apply Kd.R_drew)); exact HO_13.out) gb141 (Nat.le_of_eq hg.symm)) hb); have n2_ := Aside0.mk (below_step (by repeat (first | (with_reducible first | exact HB.out | apply below_alloc | apply pw_below_drewN | apply below_drew1) | exact HB.out)) hb); have n3_ := Aside0.mk (hbox); have n4_ := Aside0.mk ((by rw [hg]; exact (below_size (by repeat (first | (with_reducible first | exact HB.out | apply below_alloc | apply pw_below_drewN | apply below_drew1) | exact HB.out))) : w.heap.size ≤ gb141)); have n5_ := Aside0.mk ((by rw [hg]; exact (below_size (by repeat (first | (with_reducible first | exact HB.out | apply below_alloc | apply pw_below_drewN | apply below_drew1) | exact HB.out))) : w.heap.size ≤ gb141)); clear HO_4; clear HO_13; clear HB; have HO_4 := n0_; have HO_13 := n1_; have HB := n2_; have BK141 := n3_; have GW141 := n4_; have GE141 := n5_; clear n0_ n1_ n2_ n3_ n4_ n5_; clear hb hbox hg; have hcz29_0 : w28.cell? ⟨gb141, 0, none⟩ = some (.int .i64 0) := (blk_cell BK141.out 0).trans rfl; have hcz29_1 : w28.cell? ⟨gb141, 1, none⟩ = some (.int .i64 0) := (blk_cell BK141.out 1).trans rfl; have hfz29_0 := blk_frozen BK141.out 0; have hfz29_1 := blk_frozen BK141.out 1; obtain ⟨Ao30, co30, eo30⟩ := Kd.R_slice HO_4.out; subst eo30))
                      have n0_ : Aside0 (Kd.R k30 30 ((w28.setCell ⟨gb141, 0, none⟩ (.int .i64 ((rd_T30 x13_1 x15_1).f0))).setCell ⟨gb141, 1, none⟩ (.int .i64 ((rd_T30 x13_1 x15_1).f1))) w.heap.size (fun k_ => some k_ ≠ (.slice (some ad140) x13_1.length co8 : Value).ownBlock ∧ k_ ≠ gb141) (.slice Ao30 x4_1.length co30) x4_1) := ⟨by (with_reducible repeat (first | apply Kd.R_alloc | apply Kd.R_drewN | apply Kd.R_drew)); exact Kd.R_mono (Kd.R_far (p := ⟨gb141, 1, none⟩) (Kd.R_far (p := ⟨gb141, 0, none⟩) (Kd.R_mono HO_4.out (fun k_ hk => (⟨hk, hk.2⟩ : _ ∧ k_ ≠ gb141))) (fun _ hk => hk.2) (.int .i64 ((rd_T30 x13_1 x15_1).f0))) (fun _ hk => hk.2) (.int .i64 ((rd_T30 x13_1 x15_1).f1))) (fun _ hk => ⟨hk.1.1, hk.1.2⟩)⟩
                      have n1_ : Aside0 (Kd.R k30 30 ((w28.setCell ⟨gb141, 0, none⟩ (.int .i64 ((rd_T30 x13_1 x15_1).f0))).setCell ⟨gb141, 1, none⟩ (.int .i64 ((rd_T30 x13_1 x15_1).f1))) w.heap.size (fun k_ => some k_ ≠ (.slice Ao30 x4_1.length co30 : Value).ownBlock ∧ k_ ≠ gb141) (.slice (some ad140) x13_1.length co8) x13_1) := ⟨by (with_reducible repeat (first | apply Kd.R_alloc | apply Kd.R_drewN | apply Kd.R_drew)); exact Kd.R_mono (Kd.R_far (p := ⟨gb141, 1, none⟩) (Kd.R_far (p := ⟨gb141, 0, none⟩) (Kd.R_mono HO_13.out (fun k_ hk => (⟨hk, hk.2⟩ : _ ∧ k_ ≠ gb141))) (fun _ hk => hk.2) (.int .i64 ((rd_T30 x13_1 x15_1).f0))) (fun _ hk => hk.2) (.int .i64 ((rd_T30 x13_1 x15_1).f1))) (fun _ hk => ⟨hk.1.1, hk.1.2⟩)⟩
                      have n2_ : Aside0 (((w28.setCell ⟨gb141, 0, none⟩ (.int .i64 ((rd_T30 x13_1 x15_1).f0))).setCell ⟨gb141, 1, none⟩ (.int .i64 ((rd_T30 x13_1 x15_1).f1))).heap[gb141]? = some (.cells #[.int .i64 ((rd_T30 x13_1 x15_1).f0), .int .i64 ((rd_T30 x13_1 x15_1).f1)] 30 (0, 0))) := ⟨by (with_reducible repeat (first | refine blk_drewN ?_ _ | refine blk_drew ?_ | refine blk_alloc ?_ _)); refine blk_put (cs := #[.int .i64 ((rd_T30 x13_1 x15_1).f0), .int .i64 0]) ?_ 1 _ rfl; (with_reducible repeat (first | refine blk_drewN ?_ _ | refine blk_drew ?_ | refine blk_alloc ?_ _)); refine blk_put (cs := #[.int .i64 0, .int .i64 0]) ?_ 0 _ rfl; (with_reducible repeat (first | refine blk_drewN ?_ _ | refine blk_drew ?_ | refine blk_alloc ?_ _)); exact BK141.out⟩
                      have n3_ : Aside0 (Below w.heap.size w ((w28.setCell ⟨gb141, 0, none⟩ (.int .i64 ((rd_T30 x13_1 x15_1).f0))).setCell ⟨gb141, 1, none⟩ (.int .i64 ((rd_T30 x13_1 x15_1).f1)))) := ⟨by repeat (first | (with_reducible first | exact HB.out | apply below_alloc | apply pw_below_drewN | apply below_drew1 | refine below_set ?_ GE141.out) | exact HB.out)⟩
                      (try clear HO_4)
                      (try clear HO_13)
                      (try clear BK141)
                      (try clear HB)
                      generalize ((w28.setCell ⟨gb141, 0, none⟩ (.int .i64 ((rd_T30 x13_1 x15_1).f0))).setCell ⟨gb141, 1, none⟩ (.int .i64 ((rd_T30 x13_1 x15_1).f1))) = w31 at n0_ n1_ n2_ n3_ ⊢
                      have HO_4 := n0_
                      have HO_13 := n1_
                      have BK141 := n2_
                      have HB := n3_
                      clear n0_ n1_ n2_ n3_
                      have n0_ := Aside0.mk (Kd.R_drew HO_4.out)
                      have n1_ := Aside0.mk (Kd.R_drew HO_13.out)
                      have n2_ := Aside0.mk (blk_drew BK141.out)
                      have n3_ := Aside0.mk (below_drew1 HB.out)
                      clear HO_4
                      clear HO_13
                      clear BK141
                      clear HB
                      have HO_4 := n0_
                      have HO_13 := n1_
                      have BK141 := n2_
                      have HB := n3_
                      clear n0_ n1_ n2_ n3_
                      have p142 : 0 ≤ ((ji14) : Int) := of_decide_eq_true (by first | (with_reducible assumption) | assumption)
                      have q142 : (ji14) < (x4_1.length : Int) := of_decide_eq_true (by first | (with_reducible assumption) | assumption)
                      obtain ⟨ad142, e142, hx142_0, hx142_1⟩ := at_T30 (Kd.R_reads' HO_4.out).2.2 (ji14) p142 q142
                      cases e142
                      replace p142 := eq_true p142
                      replace q142 := eq_true q142
                      refine start_ (n := 12) (S := fun w' => w'.cell? ⟨gb141, 0, none⟩ = some (.int .i64 ((rd_T30 x13_1 x15_1).f0)) ∧ w'.cell? ⟨gb141, 1, none⟩ = some (.int .i64 ((rd_T30 x13_1 x15_1).f1)) ∧ w'.cell? (ad142.add (((ji14)).toNat * 2)) = some (.int .i64 ((rd_T30 x4_1 (ji14)).f0)) ∧ w'.cell? ⟨(ad142.add (((ji14)).toNat * 2)).block, (ad142.add (((ji14)).toNat * 2)).off + 1, none⟩ = some (.int .i64 ((rd_T30 x4_1 (ji14)).f1))) (ds := []) #[false, false, false, false, false, false, false, false, false, false, false, false] (by kernel_rfl) rfl rfl ⟨(blk_cell BK141.out 0).trans rfl, (blk_cell BK141.out 1).trans rfl, hx142_0, hx142_1⟩ (fun hHeld => ?_); refine with_tabW span_Norm.tab8 span_Norm.bits8 (fun HT_ HW_ => ?_)
                      generalize w31.drew = w32 at HO_4 HO_13 BK141 HB hx142_0 hx142_1 hHeld ⊢
                      refine pure_ (i := 0) (N := some 22) (v := ?_) (a' := ?_) #[true, false, false, false, false, false, false, false, false, false, false, false] rfl rfl (any_of HT_.out (by kernel_rfl)) (fun _ _ _ h => h) (Or.inl ⟨by rfl, ?_⟩) ?_ ?_
                      rotate_left
                      · intro w'
                        go_simp
                        with_reducible rfl
                      rotate_left
                      · simp only [Act.put, List.setIfInBounds_toArray, List.set_cons_zero, List.set_cons_succ, i64_w, i32_w]
                        rfl
                      refine pure_ (i := 1) (N := some 23) (v := ?_) (a' := ?_) #[true, true, false, false, false, false, false, false, false, false, false, false] rfl rfl (any_of HT_.out (by kernel_rfl)) (fun _ _ _ h => h) (Or.inl ⟨by rfl, ?_⟩) ?_ ?_
                      rotate_left
                      · intro w'
                        go_simp
                        with_reducible rfl
                      rotate_left
                      · simp only [Act.put, List.setIfInBounds_toArray, List.set_cons_zero, List.set_cons_succ, i64_w, i32_w]
                        rfl
                      refine pure_ (i := 2) (N := some 24) (v := ?_) (a' := ?_) #[true, true, true, false, false, false, false, false, false, false, false, false] rfl rfl (any_of HT_.out (by kernel_rfl)) (fun _ _ _ h => h) (Or.inl ⟨by rfl, ?_⟩) ?_ ?_
                      rotate_left
                      · intro w'
                        go_simp
                        with_reducible rfl
                      rotate_left
                      · simp only [Act.put, List.setIfInBounds_toArray, List.set_cons_zero, List.set_cons_succ, i64_w, i32_w]
                        rfl
                      refine pure_ (i := 3) (N := some 25) (v := ?_) (a' := ?_) #[true, true, true, true, false, false, false, false, false, false, false, false] rfl rfl (any_of HT_.out (by kernel_rfl)) (fun _ _ _ h => h) (Or.inl ⟨by rfl, ?_⟩) ?_ ?_
                      rotate_left
                      · intro w'
                        go_simp
                        with_reducible rfl
                      rotate_left
                      · simp only [Act.put, List.setIfInBounds_toArray, List.set_cons_zero, List.set_cons_succ, i64_w, i32_w]
                        rfl
                      refine pure_ (i := 5) (N := some 27) (v := ?_) (a' := ?_) #[true, true, true, true, false, true, false, false, false, false, false, false] rfl rfl (any_of HT_.out (by kernel_rfl)) (fun _ _ _ h => h) (Or.inl ⟨by rfl, ?_⟩) ?_ ?_
                      rotate_left
                      · intro w'
                        go_simp
                        with_reducible rfl
                      rotate_left
                      · simp only [Act.put, List.setIfInBounds_toArray, List.set_cons_zero, List.set_cons_succ, i64_w, i32_w]
                        rfl
                      refine pure_ (i := 6) (N := some 28) (v := ?_) (a' := ?_) #[true, true, true, true, false, true, true, false, false, false, false, false] rfl rfl (any_of HT_.out (by kernel_rfl)) (fun _ _ _ h => h) (Or.inl ⟨by rfl, ?_⟩) ?_ ?_
                      rotate_left
                      · intro w'
                        go_simp
                        with_reducible rfl
                      rotate_left
                      · simp only [Act.put, List.setIfInBounds_toArray, List.set_cons_zero, List.set_cons_succ, i64_w, i32_w]
                        rfl
                      refine pure_ (i := 7) (N := some 29) (v := ?_) (a' := ?_) #[true, true, true, true, false, true, true, true, false, false, false, false] rfl rfl (any_of HT_.out (by kernel_rfl)) (fun _ _ _ h => h) (Or.inl ⟨by rfl, ?_⟩) ?_ ?_
                      rotate_left
                      · intro w'
                        go_simp
                        with_reducible rfl
                      rotate_left
                      · simp only [Act.put, List.setIfInBounds_toArray, List.set_cons_zero, List.set_cons_succ, i64_w, i32_w]
                        rfl
                      refine pure_ (i := 8) (N := some 30) (v := ?_) (a' := ?_) #[true, true, true, true, false, true, true, true, true, false, false, false] rfl rfl (any_of HT_.out (by kernel_rfl)) (fun _ _ _ h => h) (Or.inl ⟨by rfl, ?_⟩) ?_ ?_
                      rotate_left
                      · intro w'
                        go_simp
                        with_reducible rfl
                      rotate_left
                      · simp only [Act.put, List.setIfInBounds_toArray, List.set_cons_zero, List.set_cons_succ, i64_w, i32_w]
                        rfl
                      refine take_ (i := 4) (N := some 26) (v := ?_) (a' := ?_) #[true, true, true, true, true, true, true, true, true, false, false, false] rfl rfl (take_ofW HT_.out HW_.out (by kernel_rfl)) (fun _ _ _ h => h) (Or.inl ⟨by rfl, ?_⟩) hHeld ?_ ?_
                      rotate_left
                      · rintro w' ⟨s0, s1, s2, s3⟩
                        go_simp
                        with_reducible rfl
                      rotate_left
                      · simp only [Act.put, List.setIfInBounds_toArray, List.set_cons_zero, List.set_cons_succ, i64_w, i32_w]
                        rfl
                      refine take_ (i := 9) (N := some 31) (v := ?_) (a' := ?_) #[true, true, true, true, true, true, true, true, true, true, false, false] rfl rfl (take_ofW HT_.out HW_.out (by kernel_rfl)) (fun _ _ _ h => h) (Or.inl ⟨by rfl, ?_⟩) hHeld ?_ ?_
                      rotate_left
                      · rintro w' ⟨s0, s1, s2, s3⟩
                        go_simp
                        with_reducible rfl
                      rotate_left
                      · simp only [Act.put, List.setIfInBounds_toArray, List.set_cons_zero, List.set_cons_succ, i64_w, i32_w]
                        rfl
                      refine pure_ (i := 10) (N := some 32) (v := ?_) (a' := ?_) #[true, true, true, true, true, true, true, true, true, true, true, false] rfl rfl (any_of HT_.out (by kernel_rfl)) (fun _ _ _ h => h) (Or.inl ⟨by rfl, ?_⟩) ?_ ?_
                      rotate_left
                      · intro w'
                        go_simp
                        with_reducible rfl
                      rotate_left
                      · simp only [Act.put, List.setIfInBounds_toArray, List.set_cons_zero, List.set_cons_succ, i64_w, i32_w]
                        rfl
                      refine pure_ (i := 11) (N := some 33) (v := ?_) (a' := ?_) #[true, true, true, true, true, true, true, true, true, true, true, true] rfl rfl (any_of HT_.out (by kernel_rfl)) (fun _ _ _ h => h) (Or.inl ⟨by rfl, ?_⟩) ?_ ?_
                      rotate_left
                      · intro w'
                        go_simp
                        with_reducible rfl
                      rotate_left
                      · simp only [Act.put, List.setIfInBounds_toArray, List.set_cons_zero, List.set_cons_succ, i64_w, i32_w]
                        rfl
                      refine done_ (done_of HT_.out (by kernel_rfl)) ?_
                      have hcz33_0 : w32.cell? ⟨gb141, 0, none⟩ = some (.int .i64 ((rd_T30 x13_1 x15_1).f0)) := (blk_cell BK141.out 0).trans rfl
                      have hcz33_1 : w32.cell? ⟨gb141, 1, none⟩ = some (.int .i64 ((rd_T30 x13_1 x15_1).f1)) := (blk_cell BK141.out 1).trans rfl
                      have hfz33_0 := blk_frozen BK141.out 0
                      have hfz33_1 := blk_frozen BK141.out 1
                      try go_wp2_with (first | ((with_reducible refine gate_builtin (b := .append) (xs := #[.tmp 46, .tmp 48]) rfl ?_); at_builtin; refine Kd.R_append k30 (w0 := w) w.heap.size rfl (.tmp 46) (.tmp 48) 22 30 (.agg #[(.int .i64 0), (.int .i64 0)]) 16 rfl Try.underlying22 info30 rfl (by decide) (by omega) (.slice (some ad142) x4_1.length co30) x4_1 (⟨(rd_T30 x13_1 x15_1).f0, (rd_T30 x13_1 x15_1).f1⟩ : S30) [.int .i64 ((rd_T30 x13_1 x15_1).f0), .int .i64 ((rd_T30 x13_1 x15_1).f1)] (fun k_ => some k_ ≠ (.slice (some ad140) x13_1.length co8 : Value).ownBlock ∧ k_ ≠ gb141) (fun _ => False) rfl rfl ?aP (fun _ hk => hk.elim) ?aF ?aO ?aB ?aS ?aL ?_; (case aP => exact k30_mkM _ _ _ (⟨(rd_T30 x13_1 x15_1).f0, (rd_T30 x13_1 x15_1).f1⟩ : S30)); (case aB => exact (by repeat (first | (with_reducible first | exact HB.out | apply below_alloc | apply pw_below_drewN | apply below_drew1 | refine below_set ?_ GE141.out) | exact HB.out))); (case aF => exact (fun k_ hk => ⟨Kd.fresh' (Kd.R_lt (by (with_reducible repeat (first | apply Kd.R_alloc | apply Kd.R_drewN | apply Kd.R_drew)); exact HO_13.out)) k_ hk, Kd.freshB (g := gb141) (o := .cells #[.int .i64 ((rd_T30 x13_1 x15_1).f0), .int .i64 ((rd_T30 x13_1 x15_1).f1)] 30 (0, 0)) (by (with_reducible repeat (first | refine blk_drewN ?_ _ | refine blk_drew ?_ | refine blk_alloc ?_ _)); exact BK141.out) k_ hk⟩)); (case aO => exact (by (with_reducible repeat (first | apply Kd.R_alloc | apply Kd.R_drewN | apply Kd.R_drew)); exact HO_4.out)); (case aS => exact (below_size (by repeat (first | (with_reducible first | exact HB.out | apply below_alloc | apply pw_below_drewN | apply below_drew1 | refine below_set ?_ GE141.out) | exact HB.out)))); (case aL => have := LMc27.out; omega); intro v146 w34 ho hb hg hat; rw [← Ny145.out] at ho; have n0_ := Aside0.mk (Kd.R_after (ok := (fun k_ => k_ ≠ gb141)) (by (with_reducible repeat (first | apply Kd.R_alloc | apply Kd.R_drewN | apply Kd.R_drew)); exact Kd.R_mono HO_13.out (fun _ hk => ⟨hk.2, hk.1⟩)) hg hat); have n1_ := Aside0.mk (blk_grown (g := gb141) (o := .cells #[.int .i64 ((rd_T30 x13_1 x15_1).f0), .int .i64 ((rd_T30 x13_1 x15_1).f1)] 30 (0, 0)) (by (with_reducible repeat (first | refine blk_drewN ?_ _ | refine blk_drew ?_ | refine blk_alloc ?_ _)); exact BK141.out) hg (Kd.R_away HO_4.out (fun _ hk => hk.2))); have n2_ := Aside0.mk (hb); have n3_ := Aside0.mk (ho); clear HO_13; clear BK141; clear HB; clear HO_4; have HO_13 := n0_; have BK141 := n1_; have HB := n2_; have HO147 := n3_; clear n0_ n1_ n2_ n3_; clear ho hb hg hat))
                      (try simp only [← hl13_1])
                      go_roundg k1
                      case measure => have := HK1.out; omega
                      case rel => exact ⟨(y145), (x13_1), (wrap64 (x15_1 + 1)), (by first | rfl | (simp; done) | (simp [*]; done)), H', ⟨by have := HK1.out; omega⟩, ⟨by (try simp only [hl13_1]); (with_reducible repeat (first | apply Kd.R_alloc | apply Kd.R_drewN | apply Kd.R_drew)); exact Kd.R_mono HO147.out (fun _ hk => hk.1)⟩, ⟨by (try simp only [hl13_1]); (with_reducible repeat (first | apply Kd.R_alloc | apply Kd.R_drewN | apply Kd.R_drew)); exact Kd.R_mono HO_13.out (fun _ hk => hk.2)⟩, ⟨by repeat (first | (with_reducible first | exact HB.out | apply below_alloc | apply pw_below_drewN | apply below_drew1 | refine below_set ?_ GE141.out) | exact HB.out)⟩⟩
                    · rw [if_neg c27] at H
                      exact absurd H (by simp)
                · rw [if_neg c16] at H
                  exact absurd H (by simp)
              · rw [if_neg c15] at H
                exact absurd H (by simp)
            · rw [if_neg c13] at H
              have c13b0 : decide (0 ≤ (wrap64 ((x4_1.length : Int) - 1))) = false := decide_eq_false c13
              clear c13
              by_cases c35 : x4_1.length < 8796093022208
              · rw [if_pos c35] at H
                have LMc35 := Aside0.mk c35
                clear c35
                obtain ⟨y148, hy148⟩ : ∃ y_ : List (S30), y_ = (x4_1 ++ [(⟨(rd_T30 x13_1 x15_1).f0, (rd_T30 x13_1 x15_1).f1⟩ : S30)]) := ⟨_, rfl⟩
                replace H : (span_Norm.l0 k1 y148 x13_1 (t136.length : Int) (wrap64 (x15_1 + 1))) = some r := by first | (rw [hy148]; with_reducible exact H) | (have H2_ := (Option.bind_some _ _).symm.trans H; rw [hy148]; with_reducible exact H2_) | (have H2_ := (Option.bind_some _ _).symm.trans H; with_reducible exact H2_) | with_reducible exact H | (rw [hy148]; exact H) | exact H
                have Ny148 := Aside0.mk hy148
                clear hy148
                have H' := Aside0.mk H
                clear H
                have p140 : 0 ≤ (x15_1 : Int) := of_decide_eq_true (by first | (with_reducible assumption) | assumption)
                have q140 : x15_1 < (x13_1.length : Int) := of_decide_eq_true (by first | (with_reducible assumption) | assumption)
                obtain ⟨ad140, e140, hx140_0, hx140_1⟩ := at_T30 (Kd.R_reads' HO_13.out).2.2 x15_1 p140 q140
                cases e140
                replace p140 := eq_true p140
                replace q140 := eq_true q140
                try go_wp2_with (first | ((with_reducible refine gate_dst (N := 6) rfl ?_); refine box_event ?hg (N := 6) ?hd (cs := #[.int .i64 0, .int .i64 0]) (t := 30) ?hr ?_; (case hd => rfl); (case hg => rfl); (case hr => first | (go_simp; done) | (go_simp; rfl)); intro gb141 hg w36 hbox hb; have n0_ := Aside0.mk (Kd.R_below (Kd.R_elderB (by (with_reducible repeat (first | apply Kd.R_alloc | apply Kd.R_drewN | apply Kd.R_drew)); exact HO_4.out) gb141 (Nat.le_of_eq hg.symm)) hb); have n1_ := Aside0.mk (Kd.R_below (Kd.R_elderB (by (with_reducible repeat (first | apply Kd.R_alloc | apply Kd.R_drewN | apply Kd.R_drew)); exact HO_13.out) gb141 (Nat.le_of_eq hg.symm)) hb); have n2_ := Aside0.mk (below_step (by repeat (first | (with_reducible first | exact HB.out | apply below_alloc | apply pw_below_drewN | apply below_drew1) | exact HB.out)) hb); have n3_ := Aside0.mk (hbox); have n4_ := Aside0.mk ((by rw [hg]; exact (below_size (by repeat (first | (with_reducible first | exact HB.out | apply below_alloc | apply pw_below_drewN | apply below_drew1) | exact HB.out))) : w.heap.size ≤ gb141)); have n5_ := Aside0.mk ((by rw [hg]; exact (below_size (by repeat (first | (with_reducible first | exact HB.out | apply below_alloc | apply pw_below_drewN | apply below_drew1) | exact HB.out))) : w.heap.size ≤ gb141)); clear HO_4; clear HO_13; clear HB; have HO_4 := n0_; have HO_13 := n1_; have HB := n2_; have BK141 := n3_; have GW141 := n4_; have GE141 := n5_; clear n0_ n1_ n2_ n3_ n4_ n5_; clear hb hbox hg; have hcz37_0 : w36.cell? ⟨gb141, 0, none⟩ = some (.int .i64 0) := (blk_cell BK141.out 0).trans rfl; have hcz37_1 : w36.cell? ⟨gb141, 1, none⟩ = some (.int .i64 0) := (blk_cell BK141.out 1).trans rfl; have hfz37_0 := blk_frozen BK141.out 0; have hfz37_1 := blk_frozen BK141.out 1; obtain ⟨Ao38, co38, eo38⟩ := Kd.R_slice HO_4.out; subst eo38))
                have n0_ : Aside0 (Kd.R k30 30 ((w36.setCell ⟨gb141, 0, none⟩ (.int .i64 ((rd_T30 x13_1 x15_1).f0))).setCell ⟨gb141, 1, none⟩ (.int .i64 ((rd_T30 x13_1 x15_1).f1))) w.heap.size (fun k_ => some k_ ≠ (.slice (some ad140) x13_1.length co8 : Value).ownBlock ∧ k_ ≠ gb141) (.slice Ao38 x4_1.length co38) x4_1) := ⟨by (with_reducible repeat (first | apply Kd.R_alloc | apply Kd.R_drewN | apply Kd.R_drew)); exact Kd.R_mono (Kd.R_far (p := ⟨gb141, 1, none⟩) (Kd.R_far (p := ⟨gb141, 0, none⟩) (Kd.R_mono HO_4.out (fun k_ hk => (⟨hk, hk.2⟩ : _ ∧ k_ ≠ gb141))) (fun _ hk => hk.2) (.int .i64 ((rd_T30 x13_1 x15_1).f0))) (fun _ hk => hk.2) (.int .i64 ((rd_T30 x13_1 x15_1).f1))) (fun _ hk => ⟨hk.1.1, hk.1.2⟩)⟩
                have n1_ : Aside0 (Kd.R k30 30 ((w36.setCell ⟨gb141, 0, none⟩ (.int .i64 ((rd_T30 x13_1 x15_1).f0))).setCell ⟨gb141, 1, none⟩ (.int .i64 ((rd_T30 x13_1 x15_1).f1))) w.heap.size (fun k_ => some k_ ≠ (.slice Ao38 x4_1.length co38 : Value).ownBlock ∧ k_ ≠ gb141) (.slice (some ad140) x13_1.length co8) x13_1) := ⟨by (with_reducible repeat (first | apply Kd.R_alloc | apply Kd.R_drewN | apply Kd.R_drew)); exact Kd.R_mono (Kd.R_far (p := ⟨gb141, 1, none⟩) (Kd.R_far (p := ⟨gb141, 0, none⟩) (Kd.R_mono HO_13.out (fun k_ hk => (⟨hk, hk.2⟩ : _ ∧ k_ ≠ gb141))) (fun _ hk => hk.2) (.int .i64 ((rd_T30 x13_1 x15_1).f0))) (fun _ hk => hk.2) (.int .i64 ((rd_T30 x13_1 x15_1).f1))) (fun _ hk => ⟨hk.1.1, hk.1.2⟩)⟩
                have n2_ : Aside0 (((w36.setCell ⟨gb141, 0, none⟩ (.int .i64 ((rd_T30 x13_1 x15_1).f0))).setCell ⟨gb141, 1, none⟩ (.int .i64 ((rd_T30 x13_1 x15_1).f1))).heap[gb141]? = some (.cells #[.int .i64 ((rd_T30 x13_1 x15_1).f0), .int .i64 ((rd_T30 x13_1 x15_1).f1)] 30 (0, 0))) := ⟨by (with_reducible repeat (first | refine blk_drewN ?_ _ | refine blk_drew ?_ | refine blk_alloc ?_ _)); refine blk_put (cs := #[.int .i64 ((rd_T30 x13_1 x15_1).f0), .int .i64 0]) ?_ 1 _ rfl; (with_reducible repeat (first | refine blk_drewN ?_ _ | refine blk_drew ?_ | refine blk_alloc ?_ _)); refine blk_put (cs := #[.int .i64 0, .int .i64 0]) ?_ 0 _ rfl; (with_reducible repeat (first | refine blk_drewN ?_ _ | refine blk_drew ?_ | refine blk_alloc ?_ _)); exact BK141.out⟩
                have n3_ : Aside0 (Below w.heap.size w ((w36.setCell ⟨gb141, 0, none⟩ (.int .i64 ((rd_T30 x13_1 x15_1).f0))).setCell ⟨gb141, 1, none⟩ (.int .i64 ((rd_T30 x13_1 x15_1).f1)))) := ⟨by repeat (first | (with_reducible first | exact HB.out | apply below_alloc | apply pw_below_drewN | apply below_drew1 | refine below_set ?_ GE141.out) | exact HB.out)⟩
                (try clear HO_4)
                (try clear HO_13)
                (try clear BK141)
                (try clear HB)
                generalize ((w36.setCell ⟨gb141, 0, none⟩ (.int .i64 ((rd_T30 x13_1 x15_1).f0))).setCell ⟨gb141, 1, none⟩ (.int .i64 ((rd_T30 x13_1 x15_1).f1))) = w39 at n0_ n1_ n2_ n3_ ⊢
                have HO_4 := n0_
                have HO_13 := n1_
                have BK141 := n2_
                have HB := n3_
                clear n0_ n1_ n2_ n3_
                have n0_ := Aside0.mk (Kd.R_drew HO_4.out)
                have n1_ := Aside0.mk (Kd.R_drew HO_13.out)
                have n2_ := Aside0.mk (blk_drew BK141.out)
                have n3_ := Aside0.mk (below_drew1 HB.out)
                clear HO_4
                clear HO_13
                clear BK141
                clear HB
                have HO_4 := n0_
                have HO_13 := n1_
                have BK141 := n2_
                have HB := n3_
                clear n0_ n1_ n2_ n3_
                refine start_ (n := 12) (S := fun w' => True) (ds := []) #[false, false, false, false, false, false, false, false, false, false, false, false] (by kernel_rfl) rfl rfl trivial (fun hHeld => ?_); refine with_tabW span_Norm.tab8 span_Norm.bits8 (fun HT_ HW_ => ?_)
                generalize w39.drew = w40 at HO_4 HO_13 BK141 HB hHeld ⊢
                refine pure_ (i := 0) (N := some 22) (v := ?_) (a' := ?_) #[true, false, false, false, false, false, false, false, false, false, false, false] rfl rfl (any_of HT_.out (by kernel_rfl)) (fun _ _ _ h => h) (Or.inl ⟨by rfl, ?_⟩) ?_ ?_
                rotate_left
                · intro w'
                  go_simp
                  with_reducible rfl
                rotate_left
                · simp only [Act.put, List.setIfInBounds_toArray, List.set_cons_zero, List.set_cons_succ, i64_w, i32_w]
                  rfl
                refine pure_ (i := 1) (N := some 23) (v := ?_) (a' := ?_) #[true, true, false, false, false, false, false, false, false, false, false, false] rfl rfl (any_of HT_.out (by kernel_rfl)) (fun _ _ _ h => h) (Or.inl ⟨by rfl, ?_⟩) ?_ ?_
                rotate_left
                · intro w'
                  go_simp
                  with_reducible rfl
                rotate_left
                · simp only [Act.put, List.setIfInBounds_toArray, List.set_cons_zero, List.set_cons_succ, i64_w, i32_w]
                  rfl
                refine pure_ (i := 2) (N := some 24) (v := ?_) (a' := ?_) #[true, true, true, false, false, false, false, false, false, false, false, false] rfl rfl (any_of HT_.out (by kernel_rfl)) (fun _ _ _ h => h) (Or.inl ⟨by rfl, ?_⟩) ?_ ?_
                rotate_left
                · intro w'
                  go_simp
                  with_reducible rfl
                rotate_left
                · simp only [Act.put, List.setIfInBounds_toArray, List.set_cons_zero, List.set_cons_succ, i64_w, i32_w]
                  rfl
                refine pure_ (i := 3) (N := some 25) (v := undef) (a' := ?_) #[true, true, true, true, false, false, false, false, false, false, false, false] rfl rfl (any_of HT_.out (by kernel_rfl)) (fun _ _ _ h => h) (Or.inr ⟨by rfl, rfl⟩) ?_ ?_
                rotate_left
                · simp only [Act.put, List.setIfInBounds_toArray, List.set_cons_zero, List.set_cons_succ, i64_w, i32_w]
                  rfl
                refine pure_ (i := 4) (N := some 26) (v := undef) (a' := ?_) #[true, true, true, true, true, false, false, false, false, false, false, false] rfl rfl (any_of HT_.out (by kernel_rfl)) (fun _ _ _ h => h) (Or.inr ⟨by rfl, rfl⟩) ?_ ?_
                rotate_left
                · simp only [Act.put, List.setIfInBounds_toArray, List.set_cons_zero, List.set_cons_succ, i64_w, i32_w]
                  rfl
                refine pure_ (i := 5) (N := some 27) (v := undef) (a' := ?_) #[true, true, true, true, true, true, false, false, false, false, false, false] rfl rfl (any_of HT_.out (by kernel_rfl)) (fun _ _ _ h => h) (Or.inr ⟨by rfl, rfl⟩) ?_ ?_
                rotate_left
                · simp only [Act.put, List.setIfInBounds_toArray, List.set_cons_zero, List.set_cons_succ, i64_w, i32_w]
                  rfl
                refine pure_ (i := 6) (N := some 28) (v := undef) (a' := ?_) #[true, true, true, true, true, true, true, false, false, false, false, false] rfl rfl (any_of HT_.out (by kernel_rfl)) (fun _ _ _ h => h) (Or.inr ⟨by rfl, rfl⟩) ?_ ?_
                rotate_left
                · simp only [Act.put, List.setIfInBounds_toArray, List.set_cons_zero, List.set_cons_succ, i64_w, i32_w]
                  rfl
                refine pure_ (i := 7) (N := some 29) (v := undef) (a' := ?_) #[true, true, true, true, true, true, true, true, false, false, false, false] rfl rfl (any_of HT_.out (by kernel_rfl)) (fun _ _ _ h => h) (Or.inr ⟨by rfl, rfl⟩) ?_ ?_
                rotate_left
                · simp only [Act.put, List.setIfInBounds_toArray, List.set_cons_zero, List.set_cons_succ, i64_w, i32_w]
                  rfl
                refine pure_ (i := 8) (N := some 30) (v := undef) (a' := ?_) #[true, true, true, true, true, true, true, true, true, false, false, false] rfl rfl (any_of HT_.out (by kernel_rfl)) (fun _ _ _ h => h) (Or.inr ⟨by rfl, rfl⟩) ?_ ?_
                rotate_left
                · simp only [Act.put, List.setIfInBounds_toArray, List.set_cons_zero, List.set_cons_succ, i64_w, i32_w]
                  rfl
                refine pure_ (i := 9) (N := some 31) (v := undef) (a' := ?_) #[true, true, true, true, true, true, true, true, true, true, false, false] rfl rfl (any_of HT_.out (by kernel_rfl)) (fun _ _ _ h => h) (Or.inr ⟨by rfl, rfl⟩) ?_ ?_
                rotate_left
                · simp only [Act.put, List.setIfInBounds_toArray, List.set_cons_zero, List.set_cons_succ, i64_w, i32_w]
                  rfl
                refine pure_ (i := 10) (N := some 32) (v := undef) (a' := ?_) #[true, true, true, true, true, true, true, true, true, true, true, false] rfl rfl (any_of HT_.out (by kernel_rfl)) (fun _ _ _ h => h) (Or.inr ⟨by rfl, rfl⟩) ?_ ?_
                rotate_left
                · simp only [Act.put, List.setIfInBounds_toArray, List.set_cons_zero, List.set_cons_succ, i64_w, i32_w]
                  rfl
                refine pure_ (i := 11) (N := some 33) (v := ?_) (a' := ?_) #[true, true, true, true, true, true, true, true, true, true, true, true] rfl rfl (any_of HT_.out (by kernel_rfl)) (fun _ _ _ h => h) (Or.inl ⟨by rfl, ?_⟩) ?_ ?_
                rotate_left
                · intro w'
                  go_simp
                  with_reducible rfl
                rotate_left
                · simp only [Act.put, List.setIfInBounds_toArray, List.set_cons_zero, List.set_cons_succ, i64_w, i32_w]
                  rfl
                refine done_ (done_of HT_.out (by kernel_rfl)) ?_
                have hcz41_0 : w40.cell? ⟨gb141, 0, none⟩ = some (.int .i64 ((rd_T30 x13_1 x15_1).f0)) := (blk_cell BK141.out 0).trans rfl
                have hcz41_1 : w40.cell? ⟨gb141, 1, none⟩ = some (.int .i64 ((rd_T30 x13_1 x15_1).f1)) := (blk_cell BK141.out 1).trans rfl
                have hfz41_0 := blk_frozen BK141.out 0
                have hfz41_1 := blk_frozen BK141.out 1
                try go_wp2_with (first | ((with_reducible refine gate_builtin (b := .append) (xs := #[.tmp 46, .tmp 48]) rfl ?_); at_builtin; refine Kd.R_append k30 (w0 := w) w.heap.size rfl (.tmp 46) (.tmp 48) 22 30 (.agg #[(.int .i64 0), (.int .i64 0)]) 16 rfl Try.underlying22 info30 rfl (by decide) (by omega) (.slice Ao38 x4_1.length co38) x4_1 (⟨(rd_T30 x13_1 x15_1).f0, (rd_T30 x13_1 x15_1).f1⟩ : S30) [.int .i64 ((rd_T30 x13_1 x15_1).f0), .int .i64 ((rd_T30 x13_1 x15_1).f1)] (fun k_ => some k_ ≠ (.slice (some ad140) x13_1.length co8 : Value).ownBlock ∧ k_ ≠ gb141) (fun _ => False) rfl rfl ?aP (fun _ hk => hk.elim) ?aF ?aO ?aB ?aS ?aL ?_; (case aP => exact k30_mkM _ _ _ (⟨(rd_T30 x13_1 x15_1).f0, (rd_T30 x13_1 x15_1).f1⟩ : S30)); (case aB => exact (by repeat (first | (with_reducible first | exact HB.out | apply below_alloc | apply pw_below_drewN | apply below_drew1 | refine below_set ?_ GE141.out) | exact HB.out))); (case aF => exact (fun k_ hk => ⟨Kd.fresh' (Kd.R_lt (by (with_reducible repeat (first | apply Kd.R_alloc | apply Kd.R_drewN | apply Kd.R_drew)); exact HO_13.out)) k_ hk, Kd.freshB (g := gb141) (o := .cells #[.int .i64 ((rd_T30 x13_1 x15_1).f0), .int .i64 ((rd_T30 x13_1 x15_1).f1)] 30 (0, 0)) (by (with_reducible repeat (first | refine blk_drewN ?_ _ | refine blk_drew ?_ | refine blk_alloc ?_ _)); exact BK141.out) k_ hk⟩)); (case aO => exact (by (with_reducible repeat (first | apply Kd.R_alloc | apply Kd.R_drewN | apply Kd.R_drew)); exact HO_4.out)); (case aS => exact (below_size (by repeat (first | (with_reducible first | exact HB.out | apply below_alloc | apply pw_below_drewN | apply below_drew1 | refine below_set ?_ GE141.out) | exact HB.out)))); (case aL => have := LMc35.out; omega); intro v149 w42 ho hb hg hat; rw [← Ny148.out] at ho; have n0_ := Aside0.mk (Kd.R_after (ok := (fun k_ => k_ ≠ gb141)) (by (with_reducible repeat (first | apply Kd.R_alloc | apply Kd.R_drewN | apply Kd.R_drew)); exact Kd.R_mono HO_13.out (fun _ hk => ⟨hk.2, hk.1⟩)) hg hat); have n1_ := Aside0.mk (blk_grown (g := gb141) (o := .cells #[.int .i64 ((rd_T30 x13_1 x15_1).f0), .int .i64 ((rd_T30 x13_1 x15_1).f1)] 30 (0, 0)) (by (with_reducible repeat (first | refine blk_drewN ?_ _ | refine blk_drew ?_ | refine blk_alloc ?_ _)); exact BK141.out) hg (Kd.R_away HO_4.out (fun _ hk => hk.2))); have n2_ := Aside0.mk (hb); have n3_ := Aside0.mk (ho); clear HO_13; clear BK141; clear HB; clear HO_4; have HO_13 := n0_; have BK141 := n1_; have HB := n2_; have HO150 := n3_; clear n0_ n1_ n2_ n3_; clear ho hb hg hat))
                (try simp only [← hl13_1])
                go_roundg k1
                case measure => have := HK1.out; omega
                case rel => exact ⟨(y148), (x13_1), (wrap64 (x15_1 + 1)), (by first | rfl | (simp; done) | (simp [*]; done)), H', ⟨by have := HK1.out; omega⟩, ⟨by (try simp only [hl13_1]); (with_reducible repeat (first | apply Kd.R_alloc | apply Kd.R_drewN | apply Kd.R_drew)); exact Kd.R_mono HO150.out (fun _ hk => hk.1)⟩, ⟨by (try simp only [hl13_1]); (with_reducible repeat (first | apply Kd.R_alloc | apply Kd.R_drewN | apply Kd.R_drew)); exact Kd.R_mono HO_13.out (fun _ hk => hk.2)⟩, ⟨by repeat (first | (with_reducible first | exact HB.out | apply below_alloc | apply pw_below_drewN | apply below_drew1 | refine below_set ?_ GE141.out) | exact HB.out)⟩⟩
              · rw [if_neg c35] at H
                exact absurd H (by simp)
          · rw [if_neg c12] at H
            exact absurd H (by simp)
        · rw [if_neg c11] at H
          exact absurd H (by simp)
      · rw [if_neg c10] at H
        have c10b0 : decide (x15_1 < (t136.length : Int)) = false := decide_eq_false c10
        clear c10
        rw [hl13_1] at c10b0
        obtain rfl := Option.some.inj H
        go_wp2
        go_ret
        exact ⟨_, by first | rfl | (simp [errW_none, errW_some] <;> rfl) | (simp [*, errW_none, errW_some] <;> rfl), by (with_reducible repeat (first | apply Kd.R_alloc | apply Kd.R_drewN | apply Kd.R_drew)); exact Kd.R_mono HO_4.out (fun _ hk => trivial), by repeat (first | (with_reducible first | exact HB.out | apply below_alloc | apply pw_below_drewN | apply below_drew1) | exact HB.out)⟩
end Go.Proofs.Ytgncbhpmnjfhhaa.S
end
