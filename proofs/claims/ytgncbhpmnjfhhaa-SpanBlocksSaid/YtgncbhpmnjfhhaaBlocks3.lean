/- Blocks goes over the blocks: whatever the input, the law returns true, and each argument reads behind the call as it did. No condition. -/
import Derived.Test.YtgncbhpmnjfhhaaBlocks2
import Derived.Deep.Slices
import Derived.Lib.SmallJoins
import Derived.ChangeSame
import Derived.KernelRfl
import Derived.Test.YtgncbhpmnjfhhaaRows
import Derived.WalkKit
import Derived.ProofKit
import Derived.OpenShut
import Derived.ShutString
import Derived.ChangeOld
import Derived.Below
import Derived.SizedLaws
section
namespace Go.Proofs.Ytgncbhpmnjfhhaa.S
open Go.RowKit Go.Proofs.YtgncbhpmnjfhhaaW.PrintWords
set_option linter.unusedVariables false
theorem rng_cons (b f : Int) (h : b < f) : rng b f = b :: rng (b + 1) f := by
  rw [rng_split b (b + 1) (f - (b + 1)).toNat f (by omega) (by omega), ← rng_snoc b b (Int.le_refl _), rng_self]
  rfl
section
variable {x0 : List S30} {M : Nat} {rows : List S30}
theorem blocks_l1 (hM : M ≤ 300) (i : Nat) (hi : i < 1000000) (g f : Int) (hg : -9223372036854775808 ≤ g) (hf : f ≤ 9223372036854775807) : ∀ (d k : Nat) (acc : List Int) (b : Int), acc.length + d = M → g ≤ b → d + 1 < k →
    ∃ k', k ≤ k' + d + 1 ∧ lamellalaw02_SpanBlocks.l1 k x0 (M : Int) acc b rows (rows.length : Int) (i : Int) g f = lamellalaw02_SpanBlocks.l0 k' x0 (M : Int) (acc ++ (rng b f).take d) rows (rows.length : Int) ((i + 1 : Nat) : Int) := by
  intro d
  induction d with
  | zero =>
    intro k acc b ha hgb hk
    obtain ⟨k, rfl⟩ : ∃ j, k = j + 1 := ⟨k - 1, by omega⟩
    refine ⟨k, by omega, ?_⟩
    rw [lamellalaw02_SpanBlocks.l1, List.take_zero, List.append_nil, wrap_in ((i : Int) + 1) (by omega) (by omega)]
    split
    · rw [if_neg (by omega)]; rfl
    · rfl
  | succ d ih =>
    intro k acc b ha hgb hk
    obtain ⟨k, rfl⟩ : ∃ j, k = j + 1 := ⟨k - 1, by omega⟩
    rw [lamellalaw02_SpanBlocks.l1]
    by_cases hb : b < f
    · rw [if_pos hb, if_pos (by omega), if_pos (by omega), wrap_in (b + 1) (by omega) (by omega)]
      obtain ⟨k', h1, h2⟩ := ih k (acc ++ [b]) (b + 1) (by simp; omega) (by omega) (by omega)
      refine ⟨k', by omega, ?_⟩
      rw [h2, rng_cons b f hb, List.take_succ_cons, List.append_assoc]
      rfl
    · rw [if_neg hb, rng_none b f (by omega), List.take_nil, List.append_nil, wrap_in ((i : Int) + 1) (by omega) (by omega)]
      exact ⟨k, by omega, rfl⟩
theorem blocks_l2 (W : List Int) (hW : W.length ≤ 300) : ∀ (m k i : Nat), W.length - i = m → i ≤ W.length → m < k → lamellalaw02_SpanBlocks.l2 k W W W (W.length : Int) (i : Int) = some true := by
  intro m
  induction m with
  | zero =>
    intro k i hm hi hk
    obtain ⟨k, rfl⟩ : ∃ j, k = j + 1 := ⟨k - 1, by omega⟩
    rw [lamellalaw02_SpanBlocks.l2, if_neg (by omega), lives_f, Option.bind_some]
  | succ m ih =>
    intro k i hm hi hk
    obtain ⟨k, rfl⟩ : ∃ j, k = j + 1 := ⟨k - 1, by omega⟩
    rw [lamellalaw02_SpanBlocks.l2, if_pos (by omega), if_pos (by omega), if_pos (by omega), if_pos (by omega), if_pos rfl, if_pos (by omega), if_pos rfl, wrap_in ((i : Int) + 1) (by omega) (by omega)]
    exact ih k (i + 1) (by omega) (by omega) (by omega)
theorem blocks_l0 (hM : M ≤ 300) (hx : x0.length < 1000) (hok : okSs x0 = true) (hr : rows = normL x0) (hrl : rows.length < 1000) (hrg : ∀ s ∈ rows, -9223372036854775808 ≤ s.f0 ∧ s.f0 < s.f1 ∧ s.f1 ≤ 9223372036854775807) :
    ∀ (m k i : Nat), rows.length - i = m → i ≤ rows.length → 303 * m + 400 < k → lamellalaw02_SpanBlocks.l0 k x0 (M : Int) ((blk (rows.take i)).take M) rows (rows.length : Int) (i : Int) = some true := by
  intro m
  induction m with
  | zero =>
    intro k i hm hi hk
    obtain ⟨k, rfl⟩ : ∃ j, k = j + 1 := ⟨k - 1, by omega⟩
    have hf : lamellalaw02_first.f x0 (M : Int) = some ((blk rows).take M) := by
      unfold lamellalaw02_first.f
      rw [if_pos ⟨by omega, by omega, by omega, hok⟩, hr]
      rfl
    have hl : ((blk rows).take M).length ≤ 300 := by rw [List.length_take]; omega
    have e0 : rows.take i = rows := List.take_of_length_le (by omega)
    rw [lamellalaw02_SpanBlocks.l0, if_neg (by omega), e0, hf, Option.bind_some, Option.bind_some, if_pos rfl]
    obtain ⟨k, rfl⟩ : ∃ j, k = j + 1 := ⟨k - 1, by omega⟩
    rw [lamellalaw02_SpanBlocks.j2, bne_self_eq_false, if_neg (by decide)]
    exact blocks_l2 _ hl _ k 0 rfl (by omega) (by omega)
  | succ m ih =>
    intro k i hm hi hk
    obtain ⟨k, rfl⟩ : ∃ j, k = j + 1 := ⟨k - 1, by omega⟩
    have hil : i < rows.length := by omega
    have h1 := hrg (rows[i]) (List.getElem_mem hil)
    rw [lamellalaw02_SpanBlocks.l0, if_pos (by omega), if_pos (by omega), if_pos (by omega), rd_nat, getD_at rows i hil]
    have hal : ((blk (rows.take i)).take M).length = min M (blk (rows.take i)).length := List.length_take
    obtain ⟨k', e1, e2⟩ := blocks_l1 (x0 := x0) (rows := rows) hM i (by omega) (rows[i]).f0 (rows[i]).f1 h1.1 h1.2.2 (M - ((blk (rows.take i)).take M).length) k ((blk (rows.take i)).take M) (rows[i]).f0 (by omega) (Int.le_refl _) (by omega)
    rw [e2]
    have e3 : (blk (rows.take i)).take M ++ (rng (rows[i]).f0 (rows[i]).f1).take (M - ((blk (rows.take i)).take M).length) = (blk (rows.take (i + 1))).take M := by
      have hB := blk_take rows i hil
      rw [← hB, List.take_append]
      congr 2
      omega
    rw [e3]
    refine ih k' (i + 1) (by omega) (by omega) ?_
    have hd : M - ((blk (rows.take i)).take M).length ≤ 300 := by omega
    clear ih e2 e3 hal
    generalize M - ((blk (rows.take i)).take M).length = d at e1 hd
    clear hrg h1 hok hr hM hx hrl hi hm hil
    omega
end
theorem okSs_take (l : List S30) (n : Nat) (h : ∀ s ∈ l, (-9223372036854775808 ≤ s.f0 ∧ s.f0 ≤ 9223372036854775807) ∧ (-9223372036854775808 ≤ s.f1 ∧ s.f1 ≤ 9223372036854775807)) : okSs (l.take n) = true :=
  List.all_eq_true.2 fun s hs => decide_eq_true (h s (List.mem_of_mem_take hs))
theorem pureSpanBlocks (l0 : List S30) (a1 : Int) (o : ∀ s ∈ l0, (-9223372036854775808 ≤ s.f0 ∧ s.f0 ≤ 9223372036854775807) ∧ (-9223372036854775808 ≤ s.f1 ∧ s.f1 ≤ 9223372036854775807)) (_w : -9223372036854775808 ≤ a1 ∧ a1 ≤ 9223372036854775807) : lamellalaw02_SpanBlocks.f 100000 l0 a1 = some true := by
  unfold lamellalaw02_SpanBlocks.f
  rw [cut60, Option.bind_some]
  have h := cut60_len l0
  have hok := okSs_take l0 60 o
  generalize l0.take 60 = l at h hok
  obtain ⟨n1, n2, n3⟩ := normL_plain l
  rw [of_spec l [] 0 (by omega) (by decide) _ (by simp; omega), Option.bind_some, ← norm_of]
  obtain ⟨M, hM, hM2⟩ : ∃ M : Nat, mx 0 (mn a1 300) = (M : Int) ∧ M ≤ 300 := ⟨(mx 0 (mn a1 300)).toNat, by unfold mx mn; omega, by unfold mx mn; omega⟩
  rw [hM]
  have h0 : (blk ((normL l).take 0)).take M = [] := by simp [blk]
  have hfin := blocks_l0 hM2 (by omega) hok rfl (by omega) (normL_range l (okSs_ok l hok)) (normL l).length 100000 0 (by omega) (by omega) (by omega)
  rw [h0] at hfin
  exact hfin
end Go.Proofs.Ytgncbhpmnjfhhaa.S
end
section
namespace Go.Proofs.Ytgncbhpmnjfhhaa.spanBlocks
open Go.ChangeShapes Go.WideShapes Go.ChangeAt Go.RowKit Go.Proofs.Ytgncbhpmnjfhhaa.S
set_option linter.unusedVariables false
theorem own : ownKnob Try.prog.godebug = none := by kernel_rfl
theorem laidOut : laidOutB Try.prog = true := by kernel_rfl
set_option maxRecDepth 100000 in
theorem lifted (os : Os) (started : os.Started) (H : Type) (enc : TypeId × Value → H) :
    ReturnsInHanded {} Try.checked os 7 .any (Rows.spanBlocksSpec.pre6 enc Try.prog Try.f7 Rows.spanBlocksRow.domain false) (Rows.spanBlocksSpec.post enc Try.prog Try.f7 false true false false) := by
  refine returnsInHanded_of_change_sized (C := Try.checked) own started (by kernel_rfl) Try.func7
    (ChangeSpec.witness6 (enc := enc) (C := Try.checked) false ⟨#[], #[.slice none 0 0, .int .i64 0], []⟩ 8 (by kernel_rfl) (by kernel_rfl) (by kernel_rfl) (by kernel_rfl)) ?_
  intro W base args ds gs before hval0 hW hcnd hsz0 _
  have hval : ∀ (j : Nat) t v, Try.f7.params[j]? = some t → args[j]? = some v → Value.okWide Try.prog W .any base t v := hval0
  have hW' := hW
  obtain ⟨p, q, hA0, hV, rfl, hfz, hnd⟩ := hW
  have hA : DataW.TrodAll enc Try.prog W 0 (fun _ => true) true Try.f7.params.toList args.toList ds p := hA0
  rw [Try.params7] at hA hval
  obtain ⟨v0, vs0, d0, ds0, p0, q0, hargs, rfl, rfl, h0, r0⟩ := trodAll_cons hA
  obtain ⟨v1, vs1, d1, ds1, p1, q1, rfl, rfl, rfl, h1, r1⟩ := trodAll_cons r0
  obtain ⟨rfl, rfl, rfl⟩ := trodAll_nil r1
  obtain rfl : args = #[v0, v1] := by cases args; simp_all
  obtain ⟨rfl, rfl⟩ := trodVars_none hV
  obtain ⟨a0, len0, cap0, rfl⟩ := okWide_slice Try.underlying22 (hval 0 22 v0 rfl rfl)
  have k0 := h0
  have lt0 : ∀ x ∈ p0, x.block < W.heap.size := by obtain ⟨m, hm⟩ := k0; exact DataW.trod_lt m _ _ _ hm
  obtain ⟨z0, e0, c0, l0, o0⟩ := open_spans h0
  subst e0
  obtain ⟨a1, rfl, rfl, rfl, w1⟩ := open_int Try.underlying3 (hval 1 3 v1 rfl rfl) h1
  refine (lamellalaw02_SpanBlocks.calls 100000 a0 cap0 z0 a1 true W c0 l0 (pureSpanBlocks z0 a1 o0 (wf64 w1))).mono fun e W' ⟨he, bel⟩ => ?_
  subst he
  exact ⟨_, rfl, _, _, _, [], _, [], hW', trodAll_mk1 (shut_bool Try.underlying4 _), (trodAll_cons_mk (Below.trod laidOut (by kernel_rfl) (of_decide_eq_true (by kernel_rfl)) k0 bel lt0) (trodAll_cons_mk (shut_int Try.underlying3 w1) trodAll_mk0)), rfl, bel.frame _, fun h => by cases h⟩
theorem over : Rows.spanBlocksRow.holds Try.pinned (OpenSpec.ofChange Rows.spanBlocksSpec) :=
  OpenClaim.holds_of_wide 7 Try.f7 rfl rfl rfl rfl rfl rfl rfl ⟨rfl, rfl, rfl, rfl, rfl⟩ rfl rfl rfl rfl rfl (by kernel_rfl) Try.func7 (by kernel_rfl)
    (of_decide_eq_true (by kernel_rfl)) (by unfold Func.isWrapper; first | (rw [if_pos (by decide +kernel)]; kernel_rfl) | (rw [if_neg (by decide +kernel)]; exact ⟨rfl, rfl⟩))
    (fun os started H enc _ => lifted os started H enc)
theorem proved : Rows.SpanBlocksSaid := over
end Go.Proofs.Ytgncbhpmnjfhhaa.spanBlocks
namespace Go.Proofs.Ytgncbhpmnjfhhaa
theorem spanBlocks_holds : Rows.SpanBlocksSaid := spanBlocks.proved
#print axioms spanBlocks_holds
end Go.Proofs.Ytgncbhpmnjfhhaa
end
