/- Sets, part 1 of 2: a part of the proof of spanSets_holds: what its walks and laws lean on. No condition. -/
import Derived.Test.YtgncbhpmnjfhhaaCore3
import Derived.Below
import Derived.Deep.Draws
import Derived.Deep.AppendLies
import Derived.Maps.AppendAt
import Derived.OwnWalk
import Derived.Laws.BytesArg
import Derived.Laws.MakeOwn
import Derived.Laws.OwnMore
import Derived.Deep.OwnRows
import Derived.Tactics
import Derived.Lib.ConvBytes
import Derived.Laws.Slices
import Derived.WalkKit
import Derived.KernelRfl
import Derived.RowKit3
import Derived.Deep.LoopGhost
import Derived.Deep.QuietTactic
import Derived.BigQuiet
import Derived.WideLaws
import Derived.Deep.DeepCutAuto
import Derived.Deep.CutBlock
import Derived.Deep.RegionHeld3
import Derived.Laws.Rows
import Derived.Lib.AppendStr
import Derived.ArgAppend
import Derived.Laws.IdiomCopy
import Derived.RowKit
import Derived.OrdersHeld
import Derived.Laws.BitsLemmas
import Derived.Laws.StructEq
import Derived.Test.YtgncbhpmnjfhhaaProg
import Derived.WalkSpells
import Derived.Shelf.SlGeneric
import Derived.Shelf.SlSortCmp.WholeK
import Derived.Shelf.SlSortCmp.NoneTotal
import Derived.Deep.RegionLaw
import Derived.Sort.WalkB12
import Derived.Lib.AppendZerosOnto
import Derived.Lib.AppendZeros
import Derived.Lib.Overlaps
import Derived.Shelf.Spec.SlicesInsert
import Derived.BigRegion
import Derived.Deep.RegionWith
import Derived.RangeFuncBox
import Derived.RangeFuncNested
import Derived.RangeFuncBound
import Derived.RangeFuncCalls
import Derived.RangeFuncLeaves
import Derived.RangeFuncFrom
import Derived.RangeFuncWrites
import Derived.OwnWalkIn
import Derived.TacticsInMore
import Derived.LoopNIn
import Derived.LoopIn
import Derived.Shelf.RegionOpen
import Derived.Shelf.Abstract
section
namespace Go.Proofs.Ytgncbhpmnjfhhaa.S
open Go.RowKit Go.Proofs.YtgncbhpmnjfhhaaW.PrintWords Go.Proofs.YtgncbhpmnjfhhaaW.PrintLast Go.Proofs.YtgncbhpmnjfhhaaW.PrintMore
attribute [local go_sem] max2_int min2_int max_two min_two max_three min_three max_four min_four
set_option linter.unusedVariables false
set_option linter.unusedSimpArgs false
theorem k30_heap : Kd.Heap k30 := Kd.heap_iso _ (Kd.heap_pair (Kd.heap_int .i64) (Kd.heap_int .i64))
end Go.Proofs.Ytgncbhpmnjfhhaa.S
end
section
namespace Go.Proofs.Ytgncbhpmnjfhhaa.S
set_option linter.unusedVariables false
def inS (b : Int) (s : S30) : Prop := s.f0 ≤ b ∧ b < s.f1
def memS (b : Int) (l : List S30) : Prop := ∃ s ∈ l, inS b s
def PlainL (l : List S30) : Prop := (∀ s ∈ l, s.f0 < s.f1) ∧ l.Pairwise (fun s t => s.f1 < t.f0)
theorem memS_nil (b : Int) : ¬ memS b [] := fun ⟨s, h, _⟩ => by cases h
theorem memS_cons (b : Int) (s : S30) (l : List S30) : memS b (s :: l) ↔ inS b s ∨ memS b l := by
  constructor
  · rintro ⟨t, ht, h⟩
    rcases List.mem_cons.1 ht with rfl | ht
    · exact .inl h
    · exact .inr ⟨t, ht, h⟩
  · rintro (h | ⟨t, ht, h⟩)
    · exact ⟨s, List.mem_cons_self, h⟩
    · exact ⟨t, List.mem_cons_of_mem _ ht, h⟩
theorem memS_append (b : Int) (l m : List S30) : memS b (l ++ m) ↔ memS b l ∨ memS b m := by
  constructor
  · rintro ⟨t, ht, h⟩
    rcases List.mem_append.1 ht with ht | ht
    · exact .inl ⟨t, ht, h⟩
    · exact .inr ⟨t, ht, h⟩
  · rintro (⟨t, ht, h⟩ | ⟨t, ht, h⟩)
    · exact ⟨t, List.mem_append_left _ ht, h⟩
    · exact ⟨t, List.mem_append_right _ ht, h⟩
theorem memS_one (b : Int) (s : S30) : memS b [s] ↔ inS b s := by rw [memS_cons]; simp [memS_nil]
theorem PlainL_nil : PlainL [] := ⟨fun s h => (by cases h), List.Pairwise.nil⟩
theorem PlainL_cons {s : S30} {l : List S30} : PlainL (s :: l) ↔ s.f0 < s.f1 ∧ (∀ t ∈ l, s.f1 < t.f0) ∧ PlainL l := by
  unfold PlainL
  rw [List.pairwise_cons]
  constructor
  · rintro ⟨h1, h2, h3⟩
    exact ⟨h1 s List.mem_cons_self, h2, fun t ht => h1 t (List.mem_cons_of_mem _ ht), h3⟩
  · rintro ⟨h1, h2, h3, h4⟩
    refine ⟨fun t ht => ?_, h2, h4⟩
    rcases List.mem_cons.1 ht with rfl | ht
    · exact h1
    · exact h3 t ht
theorem PlainL_snoc {l : List S30} {s : S30} : PlainL (l ++ [s]) ↔ PlainL l ∧ s.f0 < s.f1 ∧ ∀ t ∈ l, t.f1 < s.f0 := by
  unfold PlainL
  rw [List.pairwise_append]
  constructor
  · rintro ⟨h1, h2, _, h3⟩
    exact ⟨⟨fun t ht => h1 t (List.mem_append_left _ ht), h2⟩, h1 s (by simp), fun t ht => h3 t ht s (by simp)⟩
  · rintro ⟨⟨h1, h2⟩, h3, h4⟩
    refine ⟨fun t ht => ?_, h2, by simp, fun t ht u hu => ?_⟩
    · rcases List.mem_append.1 ht with ht | ht
      · exact h1 t ht
      · simp at ht; rw [ht]; exact h3
    · simp at hu; rw [hu]; exact h4 t ht
theorem plain_ext : ∀ {l m : List S30}, PlainL l → PlainL m → (∀ b, memS b l ↔ memS b m) → l = m
  | [], [], _, _, _ => rfl
  | [], t :: m, _, hm, h => by
    obtain ⟨h1, _, _⟩ := PlainL_cons.1 hm
    exact absurd ((h t.f0).2 ⟨t, List.mem_cons_self, Int.le_refl _, h1⟩) (memS_nil _)
  | s :: l, [], hl, _, h => by
    obtain ⟨h1, _, _⟩ := PlainL_cons.1 hl
    exact absurd ((h s.f0).1 ⟨s, List.mem_cons_self, Int.le_refl _, h1⟩) (memS_nil _)
  | s :: l, t :: m, hl, hm, h => by
    obtain ⟨a1, a2, a3⟩ := PlainL_cons.1 hl
    obtain ⟨b1, b2, b3⟩ := PlainL_cons.1 hm
    have lowl : ∀ b, memS b (s :: l) → s.f0 ≤ b := by
      rintro b ⟨u, hu, h1, h2⟩
      rcases List.mem_cons.1 hu with rfl | hu
      · exact h1
      · have := a2 u hu; omega
    have lowm : ∀ b, memS b (t :: m) → t.f0 ≤ b := by
      rintro b ⟨u, hu, h1, h2⟩
      rcases List.mem_cons.1 hu with rfl | hu
      · exact h1
      · have := b2 u hu; omega
    have e0 : s.f0 = t.f0 := by
      have h1 := lowm _ ((h s.f0).1 ⟨s, List.mem_cons_self, Int.le_refl _, a1⟩)
      have h2 := lowl _ ((h t.f0).2 ⟨t, List.mem_cons_self, Int.le_refl _, b1⟩)
      omega
    have outl : ¬ memS s.f1 (s :: l) := by
      rintro ⟨u, hu, h1, h2⟩
      rcases List.mem_cons.1 hu with rfl | hu
      · omega
      · have := a2 u hu; omega
    have outm : ¬ memS t.f1 (t :: m) := by
      rintro ⟨u, hu, h1, h2⟩
      rcases List.mem_cons.1 hu with rfl | hu
      · omega
      · have := b2 u hu; omega
    have e1 : s.f1 = t.f1 := by
      rcases Int.lt_trichotomy s.f1 t.f1 with hlt | he | hgt
      · exact absurd ((h s.f1).2 ⟨t, List.mem_cons_self, by omega, hlt⟩) outl
      · exact he
      · exact absurd ((h t.f1).1 ⟨s, List.mem_cons_self, by omega, hgt⟩) outm
    have es : s = t := S30.ext' e0 e1
    subst es
    have : l = m := plain_ext a3 b3 (fun b => by
      have hb := h b
      rw [memS_cons, memS_cons] at hb
      constructor
      · intro hm'
        rcases hb.1 (.inr hm') with hh | hh
        · obtain ⟨u, hu, h1, h2⟩ := hm'
          have := a2 u hu
          have := hh.2
          omega
        · exact hh
      · intro hm'
        rcases hb.2 (.inr hm') with hh | hh
        · obtain ⟨u, hu, h1, h2⟩ := hm'
          have := b2 u hu
          have := hh.2
          omega
        · exact hh)
    rw [this]
theorem lastS_snoc (l : List S30) (s : S30) : lastS (l ++ [s]) = s := by simp [lastS]
theorem set_last (l : List S30) (s t : S30) : (l ++ [s]).set ((l ++ [s]).length - 1) t = l ++ [t] := by simp
theorem snoc_of (l : List S30) (h : l.length ≠ 0) : ∃ o p, l = o ++ [p] := by
  rcases List.eq_nil_or_concat l with rfl | ⟨o, p, rfl⟩
  · exact absurd rfl h
  · exact ⟨o, p, by simp⟩
theorem mergeStep_ok {out : List S30} {s : S30} (hp : PlainL out) (hs : s.f0 < s.f1) (hle : ∀ t ∈ out, t.f0 ≤ s.f0) :
    PlainL (mergeStep out s) ∧ (∀ b, memS b (mergeStep out s) ↔ memS b out ∨ inS b s) ∧ (∀ t ∈ mergeStep out s, t.f0 ≤ s.f0) ∧ (mergeStep out s).length ≤ out.length + 1 := by
  unfold mergeStep
  split
  · rename_i h0
    obtain rfl := List.eq_nil_of_length_eq_zero h0
    refine ⟨?_, ?_, ?_, by simp⟩
    · rw [List.nil_append]; exact PlainL_cons.2 ⟨hs, fun t ht => (by cases ht), PlainL_nil⟩
    · intro b; rw [memS_append, memS_one]
    · intro t ht; simp at ht; rw [ht]; exact Int.le_refl _
  · rename_i h0
    obtain ⟨o, p, rfl⟩ := snoc_of out h0
    rw [lastS_snoc]
    obtain ⟨q1, q2, q3⟩ := PlainL_snoc.1 hp
    have hps : p.f0 ≤ s.f0 := hle p (by simp)
    split
    · rename_i hj
      rw [set_last]
      refine ⟨PlainL_snoc.2 ⟨q1, ?_, q3⟩, ?_, ?_, by simp⟩
      · show p.f0 < max p.f1 s.f1; omega
      · intro b
        rw [memS_append, memS_one, memS_append, memS_one]
        unfold inS
        constructor
        · rintro (h | ⟨h1, h2⟩)
          · exact .inl (.inl h)
          · have h2' : b < max p.f1 s.f1 := h2
            have h1' : p.f0 ≤ b := h1
            by_cases hb : b < p.f1
            · exact .inl (.inr ⟨h1', hb⟩)
            · exact .inr ⟨by omega, by omega⟩
        · rintro ((h | ⟨h1, h2⟩) | ⟨h1, h2⟩)
          · exact .inl h
          · exact .inr ⟨h1, (by show b < max p.f1 s.f1; omega)⟩
          · exact .inr ⟨(by show p.f0 ≤ b; omega), (by show b < max p.f1 s.f1; omega)⟩
      · intro t ht
        rcases List.mem_append.1 ht with ht | ht
        · exact hle t (List.mem_append_left _ ht)
        · simp at ht; rw [ht]; exact hps
    · rename_i hj
      refine ⟨PlainL_snoc.2 ⟨hp, hs, fun t ht => ?_⟩, ?_, ?_, by simp⟩
      · rcases List.mem_append.1 ht with ht | ht
        · have := q3 t ht; omega
        · simp at ht; rw [ht]; omega
      · intro b; rw [memS_append, memS_one]
      · intro t ht
        rcases List.mem_append.1 ht with ht | ht
        · exact hle t ht
        · simp at ht; rw [ht]; exact Int.le_refl _
def SortedS (l : List S30) : Prop := l.Pairwise (fun s t => s.f0 ≤ t.f0)
theorem merge_ok : ∀ (l out : List S30), PlainL out → (∀ s ∈ l, s.f0 < s.f1) → SortedS l → (∀ t ∈ out, ∀ s ∈ l, t.f0 ≤ s.f0) →
    PlainL (l.foldl mergeStep out) ∧ (∀ b, memS b (l.foldl mergeStep out) ↔ memS b out ∨ memS b l) ∧ (l.foldl mergeStep out).length ≤ out.length + l.length
  | [], out, hp, _, _, _ => ⟨hp, fun b => by simp [memS_nil], by simp⟩
  | s :: l, out, hp, hne, hs, hle => by
    obtain ⟨s1, s2⟩ := List.pairwise_cons.1 hs
    obtain ⟨h1, h2, h3, h4⟩ := mergeStep_ok hp (hne s List.mem_cons_self) (fun t ht => hle t ht s List.mem_cons_self)
    obtain ⟨k1, k2, k3⟩ := merge_ok l (mergeStep out s) h1 (fun t ht => hne t (List.mem_cons_of_mem _ ht)) s2 (fun t ht u hu => Int.le_trans (h3 t ht) (s1 u hu))
    refine ⟨k1, fun b => ?_, by rw [List.foldl_cons]; simp only [List.length_cons]; omega⟩
    rw [List.foldl_cons, k2, h2, memS_cons, or_assoc]
end Go.Proofs.Ytgncbhpmnjfhhaa.S
end
section
namespace Go.Proofs.Ytgncbhpmnjfhhaa.S
open Go.RowKit Go.Proofs.YtgncbhpmnjfhhaaW.PrintWords Go.Proofs.YtgncbhpmnjfhhaaW.PrintLast Go.Proofs.YtgncbhpmnjfhhaaW.PrintMore
set_option linter.unusedVariables false
set_option linter.unusedSimpArgs false
theorem wrap_in (x : Int) (h0 : -9223372036854775808 ≤ x) (h1 : x ≤ 9223372036854775807) : wrap64 x = x := by unfold wrap64; omega
theorem rd_nat (l : List S30) (i : Nat) : rd_T30 l (i : Int) = l.getD i z30 := by unfold rd_T30; rw [Int.toNat_natCast]
theorem getD_at (l : List S30) (i : Nat) (h : i < l.length) : l.getD i z30 = l[i] := by rw [List.getD_eq_getElem?_getD, List.getElem?_eq_getElem h]; rfl
theorem empty_f (s : S30) : span_empty.f s.f0 s.f1 = some (!neS s) := by
  unfold span_empty.f neS
  by_cases h : s.f0 < s.f1
  · simp [h]
  · simp [h]; omega
theorem del_loop : ∀ (m k : Nat) (l : List S30) (i j : Nat), l.length < 4611686018427387904 → i ≤ j → j ≤ l.length → l.length - j = m → m < k →
    api_Span_46.l0 k l (i : Int) (j : Int) = some (l.take i ++ (l.drop j).filter neS) := by
  intro m
  induction m with
  | zero =>
    intro k l i j hb hij hj hm hk
    obtain ⟨k, rfl⟩ : ∃ q, k = q + 1 := ⟨k - 1, by omega⟩
    have : j = l.length := by omega
    subst this
    simp only [api_Span_46.l0]
    rw [if_neg (by omega), if_pos (by omega), if_pos (by omega), Int.toNat_natCast]
    simp
  | succ m ih =>
    intro k l i j hb hij hj hm hk
    obtain ⟨k, rfl⟩ : ∃ q, k = q + 1 := ⟨k - 1, by omega⟩
    have hlt : j < l.length := by omega
    simp only [api_Span_46.l0]
    rw [if_pos (by omega), if_pos (by omega), rd_nat, getD_at l j hlt, empty_f, Option.bind_some]
    have hd : l.drop j = l[j] :: l.drop (j + 1) := List.drop_eq_getElem_cons hlt
    cases hn : neS l[j] with
    | false =>
      rw [if_pos (by rfl), wrap_in _ (by omega) (by omega)]
      have := ih k l i (j + 1) hb (by omega) (by omega) (by omega) (by omega)
      rw [show ((j : Int) + 1) = ((j + 1 : Nat) : Int) from rfl, this, hd, List.filter_cons, hn]
      rfl
    | true =>
      rw [if_neg (by decide), if_pos (by omega), if_pos (by omega), wrap_in _ (by omega) (by omega), wrap_in _ (by omega) (by omega), Int.toNat_natCast]
      have h := ih k (l.set i ⟨l[j].f0, l[j].f1⟩) (i + 1) (j + 1) (by simpa using hb) (by omega) (by rw [List.length_set]; omega) (by rw [List.length_set]; omega) (by omega)
      rw [show ((j : Int) + 1) = ((j + 1 : Nat) : Int) from rfl, show ((i : Int) + 1) = ((i + 1 : Nat) : Int) from rfl, h, hd, List.filter_cons, hn, if_pos rfl]
      congr 1
      have e1 : (l.set i ⟨l[j].f0, l[j].f1⟩).drop (j + 1) = l.drop (j + 1) := List.drop_set_of_lt (by omega)
      have e2 : (l.set i ⟨l[j].f0, l[j].f1⟩).take (i + 1) = l.take i ++ [l[j]] := by
        rw [List.take_succ_eq_append_getElem (by rw [List.length_set]; omega), List.take_set]
        rw [List.set_eq_of_length_le (by rw [List.length_take]; omega)]
        simp
      rw [e1, e2, List.append_assoc]
      rfl
theorem idx_loop : ∀ (m k : Nat) (l : List S30) (i : Nat), l.length < 4611686018427387904 → i ≤ l.length → l.length - i = m → m < k →
    (∀ s ∈ l.drop i, neS s = true) ∧ api_Span_66.l0 k l (l.length : Int) (i : Int) = some (-1) ∨
    ∃ t : Nat, i ≤ t ∧ t < l.length ∧ (∀ q, i ≤ q → q < t → neS (l.getD q z30) = true) ∧ neS (l.getD t z30) = false ∧ api_Span_66.l0 k l (l.length : Int) (i : Int) = some (t : Int) := by
  intro m
  induction m with
  | zero =>
    intro k l i hb hi hm hk
    obtain ⟨k, rfl⟩ : ∃ q, k = q + 1 := ⟨k - 1, by omega⟩
    left
    refine ⟨fun s hs => ?_, ?_⟩
    · rw [List.drop_eq_nil_of_le (by omega)] at hs; cases hs
    · simp only [api_Span_66.l0]
      rw [if_neg (by omega)]
  | succ m ih =>
    intro k l i hb hi hm hk
    obtain ⟨k, rfl⟩ : ∃ q, k = q + 1 := ⟨k - 1, by omega⟩
    have hlt : i < l.length := by omega
    simp only [api_Span_66.l0]
    rw [if_pos (by omega), if_pos (by omega), if_pos (by omega), rd_nat, getD_at l i hlt, empty_f, Option.bind_some]
    cases hn : neS l[i] with
    | false =>
      rw [if_pos (by rfl)]
      exact .inr ⟨i, Nat.le_refl _, hlt, fun q h1 h2 => by omega, by rw [getD_at l i hlt]; exact hn, rfl⟩
    | true =>
      rw [if_neg (by decide), wrap_in _ (by omega) (by omega)]
      rcases ih k l (i + 1) hb (by omega) (by omega) (by omega) with ⟨h1, h2⟩ | ⟨t, h1, h2, h3, h4, h5⟩
      · refine .inl ⟨fun s hs => ?_, h2⟩
        rw [List.drop_eq_getElem_cons hlt] at hs
        rcases List.mem_cons.1 hs with rfl | hs
        · exact hn
        · exact h1 s hs
      · refine .inr ⟨t, by omega, h2, fun q q1 q2 => ?_, h4, h5⟩
        by_cases e : q = i
        · rw [e, getD_at l i hlt]; exact hn
        · exact h3 q (by omega) q2
theorem del_spec (l : List S30) (a1 : Int) (hb : l.length < 4611686018427387904) : ∀ k, l.length < k → api_Span_46.f k l a1 = some (l.filter neS) := by
  intro k hk
  unfold api_Span_46.f api_Span_66.f
  rcases idx_loop l.length k l 0 hb (by omega) (by omega) hk with ⟨h1, h2⟩ | ⟨t, h1, h2, h3, h4, h5⟩
  · rw [show (0 : Int) = ((0 : Nat) : Int) from rfl, h2, Option.bind_some, if_pos rfl, List.filter_eq_self.2 (by simpa using h1)]
  · rw [show (0 : Int) = ((0 : Nat) : Int) from rfl, h5, Option.bind_some, if_neg (by omega), wrap_in _ (by omega) (by omega)]
    have := del_loop (l.length - (t + 1)) k l t (t + 1) hb (by omega) (by omega) rfl (by omega)
    rw [show ((t : Int) + 1) = ((t + 1 : Nat) : Int) from rfl, this]
    congr 1
    have e : l.filter neS = (l.take t).filter neS ++ (l.drop t).filter neS := by rw [← List.filter_append, List.take_append_drop]
    rw [e, List.drop_eq_getElem_cons h2, List.filter_cons]
    rw [getD_at l t h2] at h4
    rw [h4]
    have e2 : (l.take t).filter neS = l.take t := List.filter_eq_self.2 (fun s hs => by
      obtain ⟨q, hq, rfl⟩ := List.getElem_of_mem hs
      have hq' : q < t := by rw [List.length_take] at hq; omega
      have := h3 q (by omega) hq'
      rw [getD_at l q (by omega)] at this
      simpa using this)
    rw [e2]
    rfl
theorem mx_max (a b : Int) : mx a b = max a b := by unfold mx; omega
theorem merge_loop : ∀ (m k : Nat) (out l : List S30) (i : Nat), l.length < 4611686018427 → i ≤ l.length → out.length ≤ i → l.length - i = m → m < k →
    span_Norm.l0 k out l (l.length : Int) (i : Int) = some ((l.drop i).foldl mergeStep out) := by
  intro m
  induction m with
  | zero =>
    intro k out l i hb hi ho hm hk
    obtain ⟨k, rfl⟩ : ∃ q, k = q + 1 := ⟨k - 1, by omega⟩
    simp only [span_Norm.l0]
    rw [if_neg (by omega), List.drop_eq_nil_of_le (by omega)]
    rfl
  | succ m ih =>
    intro k out l i hb hi ho hm hk
    obtain ⟨k, rfl⟩ : ∃ q, k = q + 1 := ⟨k - 1, by omega⟩
    have hlt : i < l.length := by omega
    simp only [span_Norm.l0]
    rw [if_pos (by omega), if_pos (by omega), if_pos (by omega), rd_nat, getD_at l i hlt, wrap_in ((out.length : Int) - 1) (by omega) (by omega), wrap_in ((i : Int) + 1) (by omega) (by omega), List.drop_eq_getElem_cons hlt, List.foldl_cons]
    have hstep : ∀ o, o.length ≤ i + 1 → span_Norm.l0 k o l (l.length : Int) ((i : Int) + 1) = some ((l.drop (i + 1)).foldl mergeStep o) := fun o ho => ih k o l (i + 1) hb (by omega) ho (by omega) (by omega)
    by_cases h0 : out.length = 0
    · rw [if_neg (by omega), if_pos (by omega), hstep _ (by simp; omega)]
      unfold mergeStep
      rw [if_pos h0]
    · obtain ⟨q, hq⟩ : ∃ q, out.length = q + 1 := ⟨out.length - 1, by omega⟩
      have hqi : ((out.length : Int) - 1) = ((out.length - 1 : Nat) : Int) := by omega
      rw [if_pos (by omega), if_pos (by omega), if_pos (by omega), hqi, rd_nat, Int.toNat_natCast]
      by_cases hj : l[i].f0 ≤ (out.getD (out.length - 1) z30).f1
      · rw [if_pos hj, hstep _ (by rw [List.length_set]; omega), mx_max]
        unfold mergeStep
        rw [if_neg h0]
        unfold lastS
        rw [if_pos hj]
      · rw [if_neg hj, if_pos (by omega), hstep _ (by simp; omega)]
        unfold mergeStep
        rw [if_neg h0]
        unfold lastS
        rw [if_neg hj]
open Go.Sort in
theorem sort30_mem (l : List S30) (s : S30) : s ∈ sort30 l ↔ s ∈ l := by
  obtain ⟨⟨h1, _, h3⟩, _⟩ := sort30_sorts l
  have e : l.toArray.extract 0 l.toArray.size = l.toArray := by simp
  have e2 : (sort30 l).toArray.extract 0 l.toArray.size = (sort30 l).toArray := by
    have : (sort30 l).toArray.size = l.toArray.size := h1
    rw [← this]; simp
  rw [e, e2] at h3
  have := h3.mem_iff (a := s)
  simpa using this
open Go.Sort in
theorem sort30_sorted (l : List S30) : SortedS (sort30 l) := by
  obtain ⟨⟨h1, _, _⟩, h4⟩ := sort30_sorts l
  unfold SortedS
  rw [List.pairwise_iff_getElem]
  intro i j hi hj hij
  have hl := sort30_length l
  have h := h4 i j (Nat.zero_le _) hij (by simp; omega)
  rw [lt30, getElem!_pos (sort30 l).toArray j (by simpa using hj), getElem!_pos (sort30 l).toArray i (by simpa using hi)] at h
  simp at h
  exact h
theorem normL_plain (l : List S30) : PlainL (normL l) ∧ (∀ b, memS b (normL l) ↔ memS b l) ∧ (normL l).length ≤ l.length := by
  have hne : ∀ s ∈ sort30 (l.filter neS), s.f0 < s.f1 := fun s hs => by
    have := (List.mem_filter.1 ((sort30_mem _ s).1 hs)).2
    simpa [neS] using this
  obtain ⟨h1, h2, h3⟩ := merge_ok (sort30 (l.filter neS)) [] PlainL_nil hne (sort30_sorted _) (fun t ht => by cases ht)
  refine ⟨h1, fun b => ?_, ?_⟩
  · rw [normL, h2]
    constructor
    · rintro (h | ⟨s, hs, hb⟩)
      · exact absurd h (memS_nil _)
      · exact ⟨s, (List.mem_filter.1 ((sort30_mem _ s).1 hs)).1, hb⟩
    · rintro ⟨s, hs, hb⟩
      refine .inr ⟨s, (sort30_mem _ s).2 (List.mem_filter.2 ⟨hs, ?_⟩), hb⟩
      have := hb.1; have := hb.2
      simp [neS]; omega
  · rw [sort30_length] at h3
    have := List.length_filter_le neS l
    rw [normL]
    simp only [List.length_nil] at h3
    omega
theorem norm_spec (l : List S30) (hb : l.length < 4611686018427) : ∀ k, l.length < k → span_Norm.f k l = some (normL l) := by
  intro k hk
  unfold span_Norm.f api_Span_47.f
  rw [if_pos (by omega), Option.bind_some, del_spec l 48 (by omega) k hk, Option.bind_some]
  unfold api_Span_49.f
  have hf := List.length_filter_le neS l
  rw [if_pos (by omega), Option.bind_some]
  have := merge_loop (sort30 (l.filter neS)).length k [] (sort30 (l.filter neS)) 0 (by rw [sort30_length]; omega) (by omega) (by simp) (by omega) (by rw [sort30_length]; omega)
  rw [sort30_length] at this
  rw [show (0 : Int) = ((0 : Nat) : Int) from rfl, this]
  rfl
end Go.Proofs.Ytgncbhpmnjfhhaa.S
end
section
namespace Go.Proofs.Ytgncbhpmnjfhhaa.S
open Go.RowKit Go.Proofs.YtgncbhpmnjfhhaaW.PrintWords Go.Proofs.YtgncbhpmnjfhhaaW.PrintLast Go.Proofs.YtgncbhpmnjfhhaaW.PrintMore
set_option linter.unusedVariables false
set_option linter.unusedSimpArgs false
set_option maxHeartbeats 4000000 in
set_option maxRecDepth 100000 in
theorem api_Span_82.calls (y : Int) (h0 : 0 ≤ y) (hn : y < 8796093022208) (w : World) : Calls Try.prog 82 #[.slice none 0 0, .int .i64 y] w fun e w' => ∃ v, e = .returned v ∧ k30.R 30 w' w.heap.size (fun _ => True) v ([] : List S30) ∧ Below w.heap.size w w' := by
  have c1 : decide (y < 0) = false := decide_eq_false (by omega)
  have hw : IntKind.i64.wrap y = y := by rw [IntKind.wrap_i64]; omega
  have HB := Aside0.mk (Below.refl w.heap.size w)
  have HO := Aside0.mk (Kd.R_nil k30 30 w w.heap.size (fun _ => True))
  have H0 := Aside0.mk h0
  have HN := Aside0.mk hn
  by_cases hp : y > 0
  · have c2 : decide (y > 0) = true := decide_eq_true hp
    have c2' : decide (0 < y) = true := decide_eq_true hp
    clear h0 hn
    go_enter Try.func82, Try.ntmps82
    go_wp2_with (first
      | ((with_reducible refine gate_builtin (b := .append) (xs := #[.tmp 20, .tmp 21]) rfl ?_); at_builtin; refine Kd.R_append_zeros k30 (w0 := w) w.heap.size rfl (.tmp 20) (.tmp 21) 22 3 30 (.agg #[(.int .i64 0), (.int .i64 0)]) 16 rfl Try.underlying22 Try.underlying3 info30 rfl (by decide) (by omega) (.slice none 0 0) ([] : List S30) z30 y (fun _ => True) rfl rfl ?hz (fun _ _ => trivial) HO.out H0.out HB.out (Nat.le_refl _) ?hl ?_; (case hz => exact k30_mkM _ _ _ z30); (case hl => have := HN.out; simp only [List.length_nil]; omega); intro v1 w1 ho hb hg hat; obtain ⟨A1, c1, rfl⟩ := Kd.R_slice ho; have HO1 := Aside0.mk ho; have HB1 := Aside0.mk hb; clear ho hb hg hat))
    go_ret
    exact ⟨_, rfl, Kd.R_take (m := 0) HO1.out (Nat.zero_le _), HB1.out⟩
  · have c2 : decide (y > 0) = false := decide_eq_false hp
    have c2' : decide (0 < y) = false := decide_eq_false hp
    clear h0 hn
    go_enter Try.func82, Try.ntmps82
    go_wp2
    go_ret
    exact ⟨_, rfl, HO.out, HB.out⟩
def partOf (l0 l1 : List S30) (i : Nat) : List S30 := match i with | 0 => [] | 1 => l0 | _ => l0 ++ l1
set_option maxHeartbeats 8000000 in
set_option maxRecDepth 100000 in
theorem api_Span_65.calls (vb : Nat) (A0 : Option Addr) (c0 : Nat) (l0 : List S30) (A1 : Option Addr) (c1 : Nat) (l1 : List S30) (w : World) (hv : w.heap[vb]? = some (.cells #[.slice A0 l0.length c0, .slice A1 l1.length c1] 22 (0, 0)))
    (hr0 : Kd.C k30 w A0 l0.length l0) (hr1 : Kd.C k30 w A1 l1.length l1) (hl : l0.length + l1.length < 8796093022208) :
    Calls Try.prog 65 #[.slice (some ⟨vb, 0, none⟩) 2 2] w fun e w' => ∃ v, e = .returned v ∧ k30.R 30 w' w.heap.size (fun _ => True) v (l0 ++ l1) ∧ Below w.heap.size w w' := by
  have hu82 := Try.underlying82
  have HV := Aside0.mk hv
  have HR0 := Aside0.mk hr0
  have HR1 := Aside0.mk hr1
  have hcz0 : w.cell? ⟨vb, 0, none⟩ = some (.slice A0 l0.length c0) := (blk_cell hv 0).trans rfl
  have hcz1 : w.cell? ⟨vb, 1, none⟩ = some (.slice A1 l1.length c1) := (blk_cell hv 1).trans rfl
  obtain ⟨n0, hn0⟩ : ∃ n0 : Int, n0 = l0.length := ⟨_, rfl⟩
  obtain ⟨n1, hn1⟩ : ∃ n1 : Int, n1 = l1.length := ⟨_, rfl⟩
  obtain ⟨s1, hs1⟩ : ∃ s1 : Int, s1 = n0 + n1 := ⟨_, rfl⟩
  have hw0 : IntKind.i64.wrap ((l0.length : Int)) = n0 := by rw [IntKind.wrap_i64]; omega
  have hw1 : IntKind.i64.wrap (n0 + (l1.length : Int)) = s1 := by rw [IntKind.wrap_i64]; omega
  have d0 : decide (n0 < 0) = false := decide_eq_false (by omega)
  have d1 : decide (s1 < 0) = false := decide_eq_false (by omega)
  have HS := Aside0.mk (show 0 ≤ s1 ∧ s1 < 8796093022208 by omega)
  have HLL := Aside0.mk hl
  have HB := Aside0.mk (Below.refl w.heap.size w)
  clear hv hr0 hr1 hn0 hn1 hs1 hl
  go_enter Try.func65, Try.ntmps65
  go_wp2
  go_loopg [3, 11] 2 (fun kq v3 v11 w' => ∃ (i : Nat), v11 = .int .i64 (i : Int) ∧ Aside0 (kq + i = 2) ∧ v3 = .int .i64 (match i with | 0 => 0 | 1 => n0 | _ => s1) ∧ w = w')
  case atStart => exact ⟨0, rfl, ⟨rfl⟩, rfl, rfl⟩
  case round =>
    obtain ⟨i, rfl, HI, rfl, rfl⟩ := hrel
    obtain rfl | rfl | rfl : i = 0 ∨ i = 1 ∨ i = 2 := by have := HI.out; omega
    · go_wp2
      go_roundg 1
      case measure => have := HI.out; omega
      case rel => exact ⟨1, rfl, ⟨rfl⟩, by simp [hw0], rfl⟩
    · go_wp2
      go_roundg 0
      case measure => have := HI.out; omega
      case rel => exact ⟨2, rfl, ⟨rfl⟩, by simp [hw1], rfl⟩
    · go_wp2_with (go_at_call 82; refine (api_Span_82.calls s1 HS.out.1 HS.out.2 _).mono ?_; rintro e w2 ⟨v2, rfl, hr, hb⟩; have R2 := Aside0.mk hr; have B2 := Aside0.mk hb; obtain ⟨A2, c2, rfl⟩ := Kd.R_slice hr; clear hr hb)
      go_loopg [6, 27] 2 (fun kq v6 v27 w' => ∃ (i : Nat), v27 = .int .i64 (i : Int) ∧ Aside0 (kq + i = 2) ∧ Aside0 (k30.R 30 w' w.heap.size (fun _ => True) v6 (partOf l0 l1 i)) ∧ Aside0 (Below w.heap.size w w'))
      case atStart => exact ⟨0, rfl, ⟨rfl⟩, R2, B2⟩
      case round =>
        obtain ⟨i, rfl, HI2, HR, HBw⟩ := hrel
        obtain ⟨A6, c6, rfl⟩ := Kd.R_slice HR.out
        have hV := blk_below HV.out HBw.out
        clear hcz0 hcz1
        have hcz0 : wr.cell? ⟨vb, 0, none⟩ = some (.slice A0 l0.length c0) := (blk_cell hV 0).trans rfl
        have hcz1 : wr.cell? ⟨vb, 1, none⟩ = some (.slice A1 l1.length c1) := (blk_cell hV 1).trans rfl
        clear hV
        obtain rfl | rfl | rfl : i = 0 ∨ i = 1 ∨ i = 2 := by have := HI2.out; omega
        · go_wp2_with ((with_reducible refine gate_builtin (b := .append) (xs := #[.tmp 31, .tmp 32]) rfl ?_); at_builtin; refine Kd.R_append_rows k30 (w0 := w) w.heap.size rfl (.tmp 31) (.tmp 32) 22 30 (.agg #[(.int .i64 0), (.int .i64 0)]) 16 rfl Try.underlying22 info30 rfl (by decide) (by omega) _ (partOf l0 l1 0) l0 _ _ _ (fun _ => True) (fun _ => False) rfl rfl HR.out (Kd.C_below HR0.out HBw.out) (fun _ _ h => h) (fun _ h => h.elim) (fun _ _ => trivial) HBw.out HBw.out.size ?aL ?_; (case aL => have := HLL.out; simp only [partOf, List.length_nil]; omega); intro v5 w5 ho hb hg hat; have R5 := Aside0.mk ho; have B5 := Aside0.mk hb; clear ho hb hg hat)
          go_roundg 1
          case measure => have := HI2.out; omega
          case rel => exact ⟨1, rfl, ⟨rfl⟩, R5, B5⟩
        · go_wp2_with ((with_reducible refine gate_builtin (b := .append) (xs := #[.tmp 31, .tmp 32]) rfl ?_); at_builtin; refine Kd.R_append_rows k30 (w0 := w) w.heap.size rfl (.tmp 31) (.tmp 32) 22 30 (.agg #[(.int .i64 0), (.int .i64 0)]) 16 rfl Try.underlying22 info30 rfl (by decide) (by omega) _ (partOf l0 l1 1) l1 _ _ _ (fun _ => True) (fun _ => False) rfl rfl HR.out (Kd.C_below HR1.out HBw.out) (fun _ _ h => h) (fun _ h => h.elim) (fun _ _ => trivial) HBw.out HBw.out.size ?aL ?_; (case aL => have := HLL.out; simp only [partOf, List.length_nil]; omega); intro v5 w5 ho hb hg hat; have R5 := Aside0.mk ho; have B5 := Aside0.mk hb; clear ho hb hg hat)
          go_roundg 0
          case measure => have := HI2.out; omega
          case rel => exact ⟨2, rfl, ⟨rfl⟩, R5, B5⟩
        · go_wp2
          go_ret
          exact ⟨_, rfl, HR.out, HBw.out⟩
set_option maxHeartbeats 4000000 in
set_option maxRecDepth 100000 in
theorem span_Join.calls (A0 : Option Addr) (c0 : Nat) (l0 : List (S30)) (A1 : Option Addr) (c1 : Nat) (l1 : List (S30)) (r : List (S30)) (w : World) (hr0 : Kd.C k30 w A0 l0.length l0) (hc0 : l0.length ≤ c0) (hr1 : Kd.C k30 w A1 l1.length l1) (hc1 : l1.length ≤ c1) (h : span_Join.f l0 l1 = some r) :
    Calls Try.prog 44 #[.slice A0 l0.length c0, .slice A1 l1.length c1] w fun e w' => ∃ v0_ : Value, e = .returned v0_ ∧ Kd.R k30 30 w' w.heap.size (fun _ => True) v0_ r ∧ Below w.heap.size w w' := by
  unfold span_Join.f at h
  split at h
  · rename_i hlen
    injection h with h
    subst h
    have hu82 := Try.underlying82
    have HL := Aside0.mk hlen
    have HR0 := Aside0.mk hr0
    have HR1 := Aside0.mk hr1
    have hns0 := norm_spec (l0 ++ l1) (by rw [List.length_append]; omega) (l0.length + l1.length + 1) (by rw [List.length_append]; omega)
    obtain ⟨l, hl⟩ : ∃ l, l0 ++ l1 = l := ⟨_, rfl⟩
    rw [hl] at hns0
    rw [hl]
    have HE := Aside0.mk hl
    have hns := Aside0.mk hns0
    clear hl hns0
    clear hlen hr0 hr1 hc0 hc1
    go_enter Try.func44, Try.ntmps44
    go_wp2_with (first
      | (go_at_call 65; refine (api_Span_65.calls w.heap.size A0 c0 l0 A1 c1 l1 _ (blk_new w _) (Kd.C_alloc HR0.out _) (Kd.C_alloc HR1.out _) (by have := HL.out; omega)).mono ?_; rintro e w2 ⟨v2, rfl, hr, hb⟩; rw [HE.out] at hr; have R2 := Aside0.mk hr; have B2 := Aside0.mk (below_step (below_alloc (Below.refl w.heap.size w) _) hb); obtain ⟨A2, c2, rfl⟩ := Kd.R_slice hr; clear hr hb)
      | (go_at_call 18; refine (span_Norm.calls (l0.length + l1.length + 1) A2 c2 l (normL l) w2 (Kd.R_reads' R2.out).2.2 (Kd.R_reads' R2.out).2.1 hns.out).mono ?_; rintro e w3 ⟨v3, rfl, hr, hb⟩; have R3 := Aside0.mk (Kd.R_lower hr B2.out.size); have B3 := Aside0.mk (below_step B2.out hb); clear hr hb))
    go_ret
    exact ⟨_, rfl, R3.out, B3.out⟩
  · cases h
end Go.Proofs.Ytgncbhpmnjfhhaa.S
end
section
namespace Go.Proofs.Ytgncbhpmnjfhhaa.S
open Go.RowKit Go.Proofs.YtgncbhpmnjfhhaaW.PrintWords Go.Proofs.YtgncbhpmnjfhhaaW.PrintLast Go.Proofs.YtgncbhpmnjfhhaaW.PrintMore
attribute [local go_sem] max2_int min2_int max_two min_two max_three min_three max_four min_four
set_option linter.unusedVariables false
set_option linter.unusedSimpArgs false
def span_Meet.T5 : Bool × List (List Nat × List Nat) := (true, [([], []), ([], []), ([0, 1], [0, 1]), ([2], [2]), ([], []), ([], []), ([4, 5], [4, 5]), ([6], [6]), ([3, 7], [3, 7]), ([], []), ([9, 8, 8, 0, 1, 2, 3, 4, 5, 6, 7, 8, 9], [8, 9])])
theorem span_Meet.tab5 : rtab .any (opsOf Try.f42 5) = span_Meet.T5 := by kernel_rfl
theorem span_Meet.bits5 : waitsOk span_Meet.T5.2 span_Meet.B5 = true := by kernel_rfl
def span_Meet.T8 : Bool × List (List Nat × List Nat) := (true, [([], []), ([], []), ([0, 1], [0, 1]), ([2], [2]), ([3], [3]), ([], []), ([], []), ([5, 6], [5, 6]), ([7], [7]), ([8], [8]), ([4, 9], [4, 9])])
theorem span_Meet.tab8 : rtab .any (opsOf Try.f42 8) = span_Meet.T8 := by kernel_rfl
theorem span_Meet.bits8 : waitsOk span_Meet.T8.2 span_Meet.B8 = true := by kernel_rfl
set_option maxHeartbeats 8000000 in
set_option maxRecDepth 100000 in
theorem span_Meet.calls (k : Nat) (A0 : Option Addr) (c0 : Nat) (l0 : List (S30)) (A1 : Option Addr) (c1 : Nat) (l1 : List (S30)) (r : List (S30)) (w : World) (hr0 : Kd.C k30 w A0 l0.length l0) (hc0 : l0.length ≤ c0) (hr1 : Kd.C k30 w A1 l1.length l1) (hc1 : l1.length ≤ c1) (h : span_Meet.f k l0 l1 = some r) :
    Calls Try.prog 42 #[.slice A0 l0.length c0, .slice A1 l1.length c1] w fun e w' => ∃ v0_ : Value, e = .returned (v0_) ∧ Kd.R k30 30 w' w.heap.size (fun _ => True) v0_ r ∧ Below w.heap.size w w' := by
  have hu30 := Try.underlying30
  have HR0 := Aside0.mk hr0
  have HC0 := Aside0.mk hc0
  clear hr0 hc0
  have HR1 := Aside0.mk hr1
  have HC1 := Aside0.mk hc1
  clear hr1 hc1
  have HB := Aside0.mk (Below.refl w.heap.size w)
  have H : ((span_Norm.f k l0).bind fun t374 => ((span_Norm.f k l1).bind fun t377 => (span_Meet.l0 k t374 t377 ([] : List (S30)) 0 0))) = some r := h
  clear h
  replace H := Option.bind_eq_some_iff.mp H
  obtain ⟨t374, A30, H⟩ := H
  replace H : ((span_Norm.f k l1).bind fun t377 => (span_Meet.l0 k t374 t377 ([] : List (S30)) 0 0)) = some r := H
  have A3 := Aside0.mk A30
  clear A30
  replace H := Option.bind_eq_some_iff.mp H
  obtain ⟨t377, A40, H⟩ := H
  replace H : (span_Meet.l0 k t374 t377 ([] : List (S30)) 0 0) = some r := H
  have A4 := Aside0.mk A40
  clear A40
  have H' := Aside0.mk H
  clear H
  go_enter Try.func42, Try.ntmps42
  go_wp2_with (first | ((with_reducible refine gate_callee (f := 18) rfl ?_); refine goesL_ (some 10) rfl rfl Try.func18 (by kernel_rfl) rfl #[.slice A0 l0.length c0] rfl (by (try simp only [List.map_toArray, List.map_cons, List.map_nil]); first | done | rfl | (simp only [List.length_drop, List.length_take]; rfl)) ?_; (with_reducible refine (span_Norm.calls k _ _ l0 t374 _ ?side1 ?side2 A3.out).mono ?_); (case side1 => repeat (first | exact HR0.out | (with_reducible refine Kd.C_alloc ?_ _) | (with_reducible refine Kd.C_drewN ?_ _) | (with_reducible refine Kd.C_drew ?_))); (case side2 => exact HC0.out); rintro e w5 ⟨v375, rfl, ho0, hb⟩; refine ⟨_, rfl, ?_⟩; have n0_ := Aside0.mk (Kd.R_lower ho0 (below_size (by repeat (first | (with_reducible first | exact HB.out | apply below_alloc | apply pw_below_drewN | apply below_drew1) | exact HB.out)))); have n1_ := Aside0.mk (below_step (by repeat (first | (with_reducible first | exact HB.out | apply below_alloc | apply pw_below_drewN | apply below_drew1) | exact HB.out)) hb); clear HB; have HO376 := n0_; have HB := n1_; clear n0_ n1_; (try clear hb); (try clear hb2); (try clear hk); (try clear hi); (try clear ho0)) | ((with_reducible refine gate_callee (f := 18) rfl ?_); refine goesL_ (some 12) rfl rfl Try.func18 (by kernel_rfl) rfl #[.slice A1 l1.length c1] rfl (by (try simp only [List.map_toArray, List.map_cons, List.map_nil]); first | done | rfl | (simp only [List.length_drop, List.length_take]; rfl)) ?_; (with_reducible refine (span_Norm.calls k _ _ l1 t377 _ ?side1 ?side2 A4.out).mono ?_); (case side1 => repeat (first | exact (Kd.C_below HR1.out HB.out) | (with_reducible refine Kd.C_alloc ?_ _) | (with_reducible refine Kd.C_drewN ?_ _) | (with_reducible refine Kd.C_drew ?_))); (case side2 => exact HC1.out); rintro e w6 ⟨v378, rfl, ho0, hb⟩; refine ⟨_, rfl, ?_⟩; have n0_ := Aside0.mk (Kd.R_elder' (by (with_reducible repeat (first | apply Kd.R_alloc | apply Kd.R_drewN | apply Kd.R_drew)); exact HO376.out) (Kd.R_base ho0) hb); have n1_ := Aside0.mk (Kd.R_lower (Kd.R_new' ho0 (Kd.R_lt (by (with_reducible repeat (first | apply Kd.R_alloc | apply Kd.R_drewN | apply Kd.R_drew)); exact HO376.out))) (below_size (by repeat (first | (with_reducible first | exact HB.out | apply below_alloc | apply pw_below_drewN | apply below_drew1) | exact HB.out)))); have n2_ := Aside0.mk (below_step (by repeat (first | (with_reducible first | exact HB.out | apply below_alloc | apply pw_below_drewN | apply below_drew1) | exact HB.out)) hb); clear HO376; clear HB; have HO376 := n0_; have HO379 := n1_; have HB := n2_; clear n0_ n1_ n2_; (try clear hb); (try clear hb2); (try clear hk); (try clear hi); (try clear ho0)))
  go_loopg [5, 6, 7] k (fun kq v5 v6 v7 w' => ∃ (x5_1 : List (S30)) (x6_1 : Int) (x7_1 : Int), v6 = .int .i64 x6_1 ∧ v7 = .int .i64 x7_1 ∧ Aside0 (span_Meet.l0 kq t374 t377 x5_1 x6_1 x7_1 = some r) ∧ Aside0 (kq ≤ k) ∧ Aside0 (Kd.R k30 30 w' w.heap.size (fun k_ => some k_ ≠ (v378 : Value).ownBlock ∧ some k_ ≠ (v5 : Value).ownBlock) v375 t374) ∧ Aside0 (Kd.R k30 30 w' w.heap.size (fun k_ => some k_ ≠ (v375 : Value).ownBlock ∧ some k_ ≠ (v5 : Value).ownBlock) v378 t377) ∧ Aside0 (Kd.R k30 30 w' w.heap.size (fun k_ => some k_ ≠ (v375 : Value).ownBlock ∧ some k_ ≠ (v378 : Value).ownBlock) v5 x5_1) ∧ Aside0 (Below w.heap.size w w'))
  case atStart => exact ⟨(([] : List (S30))), (0), (0), (by first | rfl | (simp; done) | (simp [*]; done)), (by first | rfl | (simp; done) | (simp [*]; done)), H', ⟨Nat.le_refl _⟩, ⟨by (with_reducible repeat (first | apply Kd.R_alloc | apply Kd.R_drewN | apply Kd.R_drew)); exact Kd.R_mono HO376.out (fun _ hk => ⟨hk.2, (by simp [Value.ownBlock])⟩)⟩, ⟨by (with_reducible repeat (first | apply Kd.R_alloc | apply Kd.R_drewN | apply Kd.R_drew)); exact Kd.R_mono HO379.out (fun _ hk => ⟨hk.2, (by simp [Value.ownBlock])⟩)⟩, ⟨by first | exact Kd.R_nil _ _ _ _ _ | exact Kd.N_nil _ _ _ _ _ | exact Kd.V_nil _ _ _ _ _ | exact Kd.Q_nil _ _ _ _ _ | exact Kd.S_nil _ _ _ _ _⟩, ⟨by repeat (first | (with_reducible first | exact HB.out | apply below_alloc | apply pw_below_drewN | apply below_drew1) | exact HB.out)⟩⟩
  case round =>
    clear H'
    try clear c1
    try clear p2
    try clear c4
    obtain ⟨x5_1, x6_1, x7_1, rfl, rfl, HA, HK1, HO_0, HO_1, HO_5, HB⟩ := hrel
    cases gk with
    | zero => exact absurd HA.out (by simp [span_Meet.l0])
    | succ k1 =>
      have H := HA.out
      clear HA
      simp only [span_Meet.l0] at H
      have HC7 := Aside0.mk H
      clear H
      go_upto_region 4 with (fail)
      go_cut [22] (fun v22 wc => ∃ (kq : Nat) (x22_6 : Bool), v22 = .bool x22_6 ∧ Aside0 (span_Meet.j1 kq t374 t377 x5_1 x6_1 x7_1 x22_6 = some r) ∧ Aside0 (kq ≤ k1) ∧ Aside0 (Kd.R k30 30 wc w.heap.size (fun k_ => some k_ ≠ (v378 : Value).ownBlock ∧ some k_ ≠ (u5 : Value).ownBlock) v375 t374) ∧ Aside0 (Kd.R k30 30 wc w.heap.size (fun k_ => some k_ ≠ (v375 : Value).ownBlock ∧ some k_ ≠ (u5 : Value).ownBlock) v378 t377) ∧ Aside0 (Kd.R k30 30 wc w.heap.size (fun k_ => some k_ ≠ (v375 : Value).ownBlock ∧ some k_ ≠ (v378 : Value).ownBlock) u5 x5_1) ∧ Aside0 (Below w.heap.size w wc))
      case first =>
        have H := HC7.out
        clear HC7
        by_cases c8 : x6_1 < (t374.length : Int)
        · rw [if_pos c8] at H
          have c8b0 : decide (x6_1 < (t374.length : Int)) = true := decide_eq_true c8
          clear c8
          (first | rw [c8b0] | (simp only [i64_w, i32_w]; rw [c8b0]) | skip)
          have H' := Aside0.mk H
          clear H
          obtain ⟨Ao9, co9, eo9⟩ := Kd.R_slice HO_0.out
          subst eo9
          obtain ⟨Ao10, co10, eo10⟩ := Kd.R_slice HO_1.out
          subst eo10
          go_wp2
          go_meet
          case rel => exact ⟨_, (decide (x7_1 < (t377.length : Int))), (by first | rfl | (simp; done) | (simp [*]; done)), H', ⟨by have := HK1.out; first | omega | exact Nat.le_refl _⟩, ⟨by (with_reducible repeat (first | apply Kd.R_alloc | apply Kd.R_drewN | apply Kd.R_drew)); exact HO_0.out⟩, ⟨by (with_reducible repeat (first | apply Kd.R_alloc | apply Kd.R_drewN | apply Kd.R_drew)); exact HO_1.out⟩, ⟨by (with_reducible repeat (first | apply Kd.R_alloc | apply Kd.R_drewN | apply Kd.R_drew)); exact HO_5.out⟩, ⟨by repeat (first | (with_reducible first | exact HB.out | apply below_alloc | apply pw_below_drewN | apply below_drew1) | exact HB.out)⟩⟩
        · rw [if_neg c8] at H
          have c8b0 : decide (x6_1 < (t374.length : Int)) = false := decide_eq_false c8
          clear c8
          (first | rw [c8b0] | (simp only [i64_w, i32_w]; rw [c8b0]) | skip)
          have H' := Aside0.mk H
          clear H
          obtain ⟨Ao11, co11, eo11⟩ := Kd.R_slice HO_0.out
          subst eo11
          go_wp2
          go_meet
          case rel => exact ⟨_, (false), (by first | rfl | (simp; done) | (simp [*]; done)), H', ⟨by have := HK1.out; first | omega | exact Nat.le_refl _⟩, ⟨by (with_reducible repeat (first | apply Kd.R_alloc | apply Kd.R_drewN | apply Kd.R_drew)); exact HO_0.out⟩, ⟨by (with_reducible repeat (first | apply Kd.R_alloc | apply Kd.R_drewN | apply Kd.R_drew)); exact HO_1.out⟩, ⟨by (with_reducible repeat (first | apply Kd.R_alloc | apply Kd.R_drewN | apply Kd.R_drew)); exact HO_5.out⟩, ⟨by repeat (first | (with_reducible first | exact HB.out | apply below_alloc | apply pw_below_drewN | apply below_drew1) | exact HB.out)⟩⟩
      case rest =>
        clear HC7
        try clear c1
        try clear p2
        try clear c4
        try clear c8
        try clear c8b0
        try clear p2
        obtain ⟨kq, x22_6, rfl, HA, HJ6, HO_0, HO_1, HO_5, HB⟩ := hcut
        cases kq with
        | zero => exact absurd HA.out (by simp [span_Meet.j1])
        | succ kj6 =>
          have H := HA.out
          clear HA
          simp only [span_Meet.j1] at H
          by_cases c12 : x22_6 = true
          · subst c12
            have H1 : (if 0 ≤ x6_1 then (if x6_1 < (t374.length : Int) then (if 0 ≤ x7_1 then (if x7_1 < (t377.length : Int) then ((span_both.f ((rd_T30 t374 x6_1).f0) ((rd_T30 t374 x6_1).f1) ((rd_T30 t377 x7_1).f0) ((rd_T30 t377 x7_1).f1)).bind fun bt382 => ((span_empty.f bt382.1 bt382.2).bind fun t385 => (if t385 = true then (if ((rd_T30 t374 x6_1).f1) < ((rd_T30 t377 x7_1).f1) then (span_Meet.l0 kj6 t374 t377 x5_1 (wrap64 (x6_1 + 1)) x7_1) else (span_Meet.l0 kj6 t374 t377 x5_1 x6_1 (wrap64 (x7_1 + 1)))) else (if x5_1.length < 8796093022208 then ((some (x5_1 ++ [(⟨bt382.1, bt382.2⟩ : S30)] : List (S30))).bind fun y388 => (if ((rd_T30 t374 x6_1).f1) < ((rd_T30 t377 x7_1).f1) then (span_Meet.l0 kj6 t374 t377 y388 (wrap64 (x6_1 + 1)) x7_1) else (span_Meet.l0 kj6 t374 t377 y388 x6_1 (wrap64 (x7_1 + 1))))) else (none))))) else (none)) else (none)) else (none)) else (none)) = some r := by rw [if_pos rfl] at H; exact H
            clear H
            have H := H1
            clear H1
            by_cases c13 : 0 ≤ x6_1
            · rw [if_pos c13] at H
              have c13b0 : decide (0 ≤ x6_1) = true := decide_eq_true c13
              clear c13
              by_cases c14 : x6_1 < (t374.length : Int)
              · rw [if_pos c14] at H
                have c14b0 : decide (x6_1 < (t374.length : Int)) = true := decide_eq_true c14
                clear c14
                by_cases c15 : 0 ≤ x7_1
                · rw [if_pos c15] at H
                  have c15b0 : decide (0 ≤ x7_1) = true := decide_eq_true c15
                  clear c15
                  by_cases c16 : x7_1 < (t377.length : Int)
                  · rw [if_pos c16] at H
                    have c16b0 : decide (x7_1 < (t377.length : Int)) = true := decide_eq_true c16
                    clear c16
                    replace H := Option.bind_eq_some_iff.mp H
                    obtain ⟨⟨t382, t383⟩, A170, H⟩ := H
                    replace H : ((span_empty.f t382 t383).bind fun t385 => (if t385 = true then (if ((rd_T30 t374 x6_1).f1) < ((rd_T30 t377 x7_1).f1) then (span_Meet.l0 kj6 t374 t377 x5_1 (wrap64 (x6_1 + 1)) x7_1) else (span_Meet.l0 kj6 t374 t377 x5_1 x6_1 (wrap64 (x7_1 + 1)))) else (if x5_1.length < 8796093022208 then ((some (x5_1 ++ [(⟨t382, t383⟩ : S30)] : List (S30))).bind fun y388 => (if ((rd_T30 t374 x6_1).f1) < ((rd_T30 t377 x7_1).f1) then (span_Meet.l0 kj6 t374 t377 y388 (wrap64 (x6_1 + 1)) x7_1) else (span_Meet.l0 kj6 t374 t377 y388 x6_1 (wrap64 (x7_1 + 1))))) else (none)))) = some r := H
                    have A17 := Aside0.mk A170
                    clear A170
                    replace H := Option.bind_eq_some_iff.mp H
                    obtain ⟨t385, A180, H⟩ := H
                    replace H : (if t385 = true then (if ((rd_T30 t374 x6_1).f1) < ((rd_T30 t377 x7_1).f1) then (span_Meet.l0 kj6 t374 t377 x5_1 (wrap64 (x6_1 + 1)) x7_1) else (span_Meet.l0 kj6 t374 t377 x5_1 x6_1 (wrap64 (x7_1 + 1)))) else (if x5_1.length < 8796093022208 then ((some (x5_1 ++ [(⟨t382, t383⟩ : S30)] : List (S30))).bind fun y388 => (if ((rd_T30 t374 x6_1).f1) < ((rd_T30 t377 x7_1).f1) then (span_Meet.l0 kj6 t374 t377 y388 (wrap64 (x6_1 + 1)) x7_1) else (span_Meet.l0 kj6 t374 t377 y388 x6_1 (wrap64 (x7_1 + 1))))) else (none))) = some r := H
                    have A18 := Aside0.mk A180
                    clear A180
                    by_cases c19 : t385 = true
                    · subst c19
                      have H1 : (if ((rd_T30 t374 x6_1).f1) < ((rd_T30 t377 x7_1).f1) then (span_Meet.l0 kj6 t374 t377 x5_1 (wrap64 (x6_1 + 1)) x7_1) else (span_Meet.l0 kj6 t374 t377 x5_1 x6_1 (wrap64 (x7_1 + 1)))) = some r := by rw [if_pos rfl] at H; exact H
                      clear H
                      have H := H1
                      clear H1
                      by_cases c20 : ((rd_T30 t374 x6_1).f1) < ((rd_T30 t377 x7_1).f1)
                      · rw [if_pos c20] at H
                        have c20b0 : decide (((rd_T30 t374 x6_1).f1) < ((rd_T30 t377 x7_1).f1)) = true := decide_eq_true c20
                        clear c20
                        have H' := Aside0.mk H
                        clear H
                        try go_wp2
                        have n0_ := Aside0.mk (Kd.R_drew HO_0.out)
                        have n1_ := Aside0.mk (Kd.R_drew HO_1.out)
                        have n2_ := Aside0.mk (Kd.R_drew HO_5.out)
                        have n3_ := Aside0.mk (below_drew1 HB.out)
                        clear HO_0
                        clear HO_1
                        clear HO_5
                        clear HB
                        have HO_0 := n0_
                        have HO_1 := n1_
                        have HO_5 := n2_
                        have HB := n3_
                        clear n0_ n1_ n2_ n3_
                        obtain ⟨Ao22, co22, eo22⟩ := Kd.R_slice HO_0.out
                        (first | subst eo22 | (injection eo22 with f1_ f2_ f3_; have f4_ := f1_.symm; have f5_ := f3_.symm; clear f1_ f2_ f3_; subst f4_; subst f5_))
                        have p380 : 0 ≤ (x6_1 : Int) := of_decide_eq_true (by first | (with_reducible assumption) | assumption)
                        have q380 : x6_1 < (t374.length : Int) := of_decide_eq_true (by first | (with_reducible assumption) | assumption)
                        obtain ⟨ad380, e380, hx380_0, hx380_1⟩ := at_T30 (Kd.R_reads' HO_0.out).2.2 x6_1 p380 q380
                        cases e380
                        replace p380 := eq_true p380
                        replace q380 := eq_true q380
                        obtain ⟨Ao23, co23, eo23⟩ := Kd.R_slice HO_1.out
                        (first | subst eo23 | (injection eo23 with f1_ f2_ f3_; have f4_ := f1_.symm; have f5_ := f3_.symm; clear f1_ f2_ f3_; subst f4_; subst f5_))
                        have p381 : 0 ≤ (x7_1 : Int) := of_decide_eq_true (by first | (with_reducible assumption) | assumption)
                        have q381 : x7_1 < (t377.length : Int) := of_decide_eq_true (by first | (with_reducible assumption) | assumption)
                        obtain ⟨ad381, e381, hx381_0, hx381_1⟩ := at_T30 (Kd.R_reads' HO_1.out).2.2 x7_1 p381 q381
                        cases e381
                        replace p381 := eq_true p381
                        replace q381 := eq_true q381
                        refine start_ (n := 11) (S := fun w' => w'.cell? (ad380.add ((x6_1).toNat * 2)) = some (.int .i64 ((rd_T30 t374 x6_1).f0)) ∧ w'.cell? ⟨(ad380.add ((x6_1).toNat * 2)).block, (ad380.add ((x6_1).toNat * 2)).off + 1, none⟩ = some (.int .i64 ((rd_T30 t374 x6_1).f1)) ∧ w'.cell? (ad381.add ((x7_1).toNat * 2)) = some (.int .i64 ((rd_T30 t377 x7_1).f0)) ∧ w'.cell? ⟨(ad381.add ((x7_1).toNat * 2)).block, (ad381.add ((x7_1).toNat * 2)).off + 1, none⟩ = some (.int .i64 ((rd_T30 t377 x7_1).f1))) (ds := []) #[false, false, false, false, false, false, false, false, false, false, false] (by kernel_rfl) rfl rfl ⟨hx380_0, hx380_1, hx381_0, hx381_1⟩ (fun hHeld => ?_); refine with_tabW span_Meet.tab5 span_Meet.bits5 (fun HT_ HW_ => ?_)
                        generalize wc.drew = w21 at HO_0 HO_1 HO_5 HB hx380_0 hx380_1 hx381_0 hx381_1 hHeld ⊢
                        refine pure_ (i := 0) (N := some 23) (v := ?_) (a' := ?_) #[true, false, false, false, false, false, false, false, false, false, false] rfl rfl (any_of HT_.out (by kernel_rfl)) (fun _ _ _ h => h) (Or.inl ⟨by rfl, ?_⟩) ?_ ?_
                        rotate_left
                        · intro w'
                          go_simp
                          with_reducible rfl
                        rotate_left
                        · simp only [Act.put, List.setIfInBounds_toArray, List.set_cons_zero, List.set_cons_succ, i64_w, i32_w]
                          rfl
                        refine pure_ (i := 1) (N := some 24) (v := ?_) (a' := ?_) #[true, true, false, false, false, false, false, false, false, false, false] rfl rfl (any_of HT_.out (by kernel_rfl)) (fun _ _ _ h => h) (Or.inl ⟨by rfl, ?_⟩) ?_ ?_
                        rotate_left
                        · intro w'
                          go_simp
                          with_reducible rfl
                        rotate_left
                        · simp only [Act.put, List.setIfInBounds_toArray, List.set_cons_zero, List.set_cons_succ, i64_w, i32_w]
                          rfl
                        refine pure_ (i := 2) (N := some 25) (v := ?_) (a' := ?_) #[true, true, true, false, false, false, false, false, false, false, false] rfl rfl (any_of HT_.out (by kernel_rfl)) (fun _ _ _ h => h) (Or.inl ⟨by rfl, ?_⟩) ?_ ?_
                        rotate_left
                        · intro w'
                          go_simp
                          with_reducible rfl
                        rotate_left
                        · simp only [Act.put, List.setIfInBounds_toArray, List.set_cons_zero, List.set_cons_succ, i64_w, i32_w]
                          rfl
                        refine pure_ (i := 4) (N := some 27) (v := ?_) (a' := ?_) #[true, true, true, false, true, false, false, false, false, false, false] rfl rfl (any_of HT_.out (by kernel_rfl)) (fun _ _ _ h => h) (Or.inl ⟨by rfl, ?_⟩) ?_ ?_
                        rotate_left
                        · intro w'
                          go_simp
                          with_reducible rfl
                        rotate_left
                        · simp only [Act.put, List.setIfInBounds_toArray, List.set_cons_zero, List.set_cons_succ, i64_w, i32_w]
                          rfl
                        refine pure_ (i := 5) (N := some 28) (v := ?_) (a' := ?_) #[true, true, true, false, true, true, false, false, false, false, false] rfl rfl (any_of HT_.out (by kernel_rfl)) (fun _ _ _ h => h) (Or.inl ⟨by rfl, ?_⟩) ?_ ?_
                        rotate_left
                        · intro w'
                          go_simp
                          with_reducible rfl
                        rotate_left
                        · simp only [Act.put, List.setIfInBounds_toArray, List.set_cons_zero, List.set_cons_succ, i64_w, i32_w]
                          rfl
                        refine pure_ (i := 6) (N := some 29) (v := ?_) (a' := ?_) #[true, true, true, false, true, true, true, false, false, false, false] rfl rfl (any_of HT_.out (by kernel_rfl)) (fun _ _ _ h => h) (Or.inl ⟨by rfl, ?_⟩) ?_ ?_
                        rotate_left
                        · intro w'
                          go_simp
                          with_reducible rfl
                        rotate_left
                        · simp only [Act.put, List.setIfInBounds_toArray, List.set_cons_zero, List.set_cons_succ, i64_w, i32_w]
                          rfl
                        refine take_ (i := 3) (N := some 26) (v := ?_) (a' := ?_) #[true, true, true, true, true, true, true, false, false, false, false] rfl rfl (take_ofW HT_.out HW_.out (by kernel_rfl)) (fun _ _ _ h => h) (Or.inl ⟨by rfl, ?_⟩) hHeld ?_ ?_
                        rotate_left
                        · rintro w' ⟨s0, s1, s2, s3⟩
                          go_simp
                          with_reducible rfl
                        rotate_left
                        · simp only [Act.put, List.setIfInBounds_toArray, List.set_cons_zero, List.set_cons_succ, i64_w, i32_w]
                          rfl
                        refine take_ (i := 7) (N := some 30) (v := ?_) (a' := ?_) #[true, true, true, true, true, true, true, true, false, false, false] rfl rfl (take_ofW HT_.out HW_.out (by kernel_rfl)) (fun _ _ _ h => h) (Or.inl ⟨by rfl, ?_⟩) hHeld ?_ ?_
                        rotate_left
                        · rintro w' ⟨s0, s1, s2, s3⟩
                          go_simp
                          with_reducible rfl
                        rotate_left
                        · simp only [Act.put, List.setIfInBounds_toArray, List.set_cons_zero, List.set_cons_succ, i64_w, i32_w]
                          rfl
                        refine join_ (σ := Nat) 1 #[true, true, true, true, true, true, true, true, true, true, false] (fun s_ => [(31, .agg #[.int .i64 t382, .int .i64 t383]), (8, .pointer (some ⟨s_, 0, none⟩))]) (fun s_ w' => (w'.cell? (ad380.add ((x6_1).toNat * 2)) = some (.int .i64 ((rd_T30 t374 x6_1).f0)) ∧ w'.cell? ⟨(ad380.add ((x6_1).toNat * 2)).block, (ad380.add ((x6_1).toNat * 2)).off + 1, none⟩ = some (.int .i64 ((rd_T30 t374 x6_1).f1)) ∧ w'.cell? (ad381.add ((x7_1).toNat * 2)) = some (.int .i64 ((rd_T30 t377 x7_1).f0)) ∧ w'.cell? ⟨(ad381.add ((x7_1).toNat * 2)).block, (ad381.add ((x7_1).toNat * 2)).off + 1, none⟩ = some (.int .i64 ((rd_T30 t377 x7_1).f1))) ∧ (Kd.R k30 30 w' w.heap.size (fun k_ => some k_ ≠ (.slice (some ad381) t377.length co23 : Value).ownBlock ∧ some k_ ≠ (u5 : Value).ownBlock ∧ k_ ≠ s_) (.slice (some ad380) t374.length co22) t374) ∧ (Kd.R k30 30 w' w.heap.size (fun k_ => some k_ ≠ (.slice (some ad380) t374.length co22 : Value).ownBlock ∧ some k_ ≠ (u5 : Value).ownBlock ∧ k_ ≠ s_) (.slice (some ad381) t377.length co23) t377) ∧ (Kd.R k30 30 w' w.heap.size (fun k_ => some k_ ≠ (.slice (some ad380) t374.length co22 : Value).ownBlock ∧ some k_ ≠ (.slice (some ad381) t377.length co23 : Value).ownBlock ∧ k_ ≠ s_) u5 x5_1) ∧ (w'.heap[s_]? = some (.cells #[.int .i64 0, .int .i64 0] 30 (0, 0))) ∧ (w.heap.size ≤ s_) ∧ (w.heap.size ≤ s_) ∧ (Below w.heap.size w w')) ?_ ?_
                        rotate_left
                        · intro hCont
                          refine two_ (i := 8) (j := 9) (Ni := some 31) (Nj := some 8) #[true, true, true, true, true, true, true, true, true, false, false] #[true, true, true, true, true, true, true, true, false, true, false] rfl rfl rfl rfl (two_of HT_.out (by kernel_rfl)) (by decide) (by decide) (fun K hK => ?_) (fun K hK => ?_)
                          · skip
                            refine goes_ Try.func55 (by kernel_rfl) rfl #[.agg #[.int .i64 ((rd_T30 t374 x6_1).f0), .int .i64 ((rd_T30 t374 x6_1).f1)], .agg #[.int .i64 ((rd_T30 t377 x7_1).f0), .int .i64 ((rd_T30 t377 x7_1).f1)]] (by rfl) rfl rfl (by (try simp only [List.map_toArray, List.map_cons, List.map_nil]); first | done | rfl | (simp only [List.length_drop, List.length_take]; rfl)) ?_
                            with_reducible refine (span_both.calls ((rd_T30 t374 x6_1).f0) ((rd_T30 t374 x6_1).f1) ((rd_T30 t377 x7_1).f0) ((rd_T30 t377 x7_1).f1) t382 t383 _ A17.out).mono ?_
                            rintro e w24 ⟨rfl, hb⟩
                            have HS0_ := (hb.cell (World.block_lt_of_cell? _ _ (hHeld.1))).trans (hHeld.1)
                            have HS1_ := (hb.cell (World.block_lt_of_cell? _ _ (hHeld.2.1))).trans (hHeld.2.1)
                            have HS2_ := (hb.cell (World.block_lt_of_cell? _ _ (hHeld.2.2.1))).trans (hHeld.2.2.1)
                            have HS3_ := (hb.cell (World.block_lt_of_cell? _ _ (hHeld.2.2.2))).trans (hHeld.2.2.2)
                            refine ⟨_, rfl, ?_⟩
                            have n0_ := Aside0.mk (Kd.R_below (by (with_reducible repeat (first | apply Kd.R_alloc | apply Kd.R_drewN | apply Kd.R_drew)); exact HO_0.out) hb)
                            have n1_ := Aside0.mk (Kd.R_below (by (with_reducible repeat (first | apply Kd.R_alloc | apply Kd.R_drewN | apply Kd.R_drew)); exact HO_1.out) hb)
                            have n2_ := Aside0.mk (Kd.R_below (by (with_reducible repeat (first | apply Kd.R_alloc | apply Kd.R_drewN | apply Kd.R_drew)); exact HO_5.out) hb)
                            have n3_ := Aside0.mk (below_step (by repeat (first | (with_reducible first | exact HB.out | apply below_alloc | apply pw_below_drewN | apply below_drew1) | exact HB.out)) hb)
                            clear HO_0
                            clear HO_1
                            clear HO_5
                            clear HB
                            have HO_0 := n0_
                            have HO_1 := n1_
                            have HO_5 := n2_
                            have HB := n3_
                            clear n0_ n1_ n2_ n3_
                            (try clear hb)
                            (try clear hb2)
                            (try clear hk)
                            (try clear hi)
                            refine hK.out _ _ ⟨HS0_, HS1_, HS2_, HS3_⟩ (fun hHeld => ?_)
                            clear hK K
                            refine norm_ (a' := ?_) ?_ ?_
                            rotate_left
                            · show Act.put _ (some 31) _ = _
                              simp only [Act.put, List.setIfInBounds_toArray, List.set_cons_zero, List.set_cons_succ, i64_w, i32_w]
                              rfl
                            refine one_ (i := 9) (N := some 8) #[true, true, true, true, true, true, true, true, true, true, false] rfl rfl (one_of HT_.out (by kernel_rfl)) (by decide) (fun K hK => ?_)
                            refine box_step ?hg (N := 8) ?hd (cs := #[.int .i64 0, .int .i64 0]) (t := 30) ?hr ?_; (case hd => rfl); (case hg => rfl); (case hr => first | (go_simp; done) | (go_simp; rfl))
                            intro gb384 hg w25 hbox hb
                            have HS0_ := (hb.cell (World.block_lt_of_cell? _ _ (hHeld.1))).trans (hHeld.1)
                            have HS1_ := (hb.cell (World.block_lt_of_cell? _ _ (hHeld.2.1))).trans (hHeld.2.1)
                            have HS2_ := (hb.cell (World.block_lt_of_cell? _ _ (hHeld.2.2.1))).trans (hHeld.2.2.1)
                            have HS3_ := (hb.cell (World.block_lt_of_cell? _ _ (hHeld.2.2.2))).trans (hHeld.2.2.2)
                            have n0_ := Aside0.mk (Kd.R_below (Kd.R_elderB (by (with_reducible repeat (first | apply Kd.R_alloc | apply Kd.R_drewN | apply Kd.R_drew)); exact HO_0.out) gb384 (Nat.le_of_eq hg.symm)) hb)
                            have n1_ := Aside0.mk (Kd.R_below (Kd.R_elderB (by (with_reducible repeat (first | apply Kd.R_alloc | apply Kd.R_drewN | apply Kd.R_drew)); exact HO_1.out) gb384 (Nat.le_of_eq hg.symm)) hb)
                            have n2_ := Aside0.mk (Kd.R_below (Kd.R_elderB (by (with_reducible repeat (first | apply Kd.R_alloc | apply Kd.R_drewN | apply Kd.R_drew)); exact HO_5.out) gb384 (Nat.le_of_eq hg.symm)) hb)
                            have n3_ := Aside0.mk (below_step (by repeat (first | (with_reducible first | exact HB.out | apply below_alloc | apply pw_below_drewN | apply below_drew1) | exact HB.out)) hb)
                            have n4_ := Aside0.mk (hbox)
                            have n5_ := Aside0.mk ((by rw [hg]; exact (below_size (by repeat (first | (with_reducible first | exact HB.out | apply below_alloc | apply pw_below_drewN | apply below_drew1) | exact HB.out))) : w.heap.size ≤ gb384))
                            have n6_ := Aside0.mk ((by rw [hg]; exact (below_size (by repeat (first | (with_reducible first | exact HB.out | apply below_alloc | apply pw_below_drewN | apply below_drew1) | exact HB.out))) : w.heap.size ≤ gb384))
                            clear HO_0
                            clear HO_1
                            clear HO_5
                            clear HB
                            have HO_0 := n0_
                            have HO_1 := n1_
                            have HO_5 := n2_
                            have HB := n3_
                            have BK384 := n4_
                            have GW384 := n5_
                            have GE384 := n6_
                            clear n0_ n1_ n2_ n3_ n4_ n5_ n6_
                            clear hb hbox hg
                            refine hK.out _ _ ⟨HS0_, HS1_, HS2_, HS3_⟩ (fun hHeld => ?_)
                            clear hK K
                            refine norm_ (a' := ?_) ?_ ?_
                            rotate_left
                            · show Act.put _ (some 8) _ = _
                              simp only [Act.put, List.setIfInBounds_toArray, List.set_cons_zero, List.set_cons_succ, i64_w, i32_w]
                              rfl
                            exact norm_ (by simp only [putAll, Act.put, List.setIfInBounds_toArray, List.set_cons_zero, List.set_cons_succ]) (hCont (gb384) _ ⟨hHeld, (by (with_reducible repeat (first | apply Kd.R_alloc | apply Kd.R_drewN | apply Kd.R_drew)); exact Kd.R_mono HO_0.out (fun _ hk => ⟨hk.1.1, ⟨hk.1.2, hk.2⟩⟩)), (by (with_reducible repeat (first | apply Kd.R_alloc | apply Kd.R_drewN | apply Kd.R_drew)); exact Kd.R_mono HO_1.out (fun _ hk => ⟨hk.1.1, ⟨hk.1.2, hk.2⟩⟩)), (by (with_reducible repeat (first | apply Kd.R_alloc | apply Kd.R_drewN | apply Kd.R_drew)); exact Kd.R_mono HO_5.out (fun _ hk => ⟨hk.1.1, ⟨hk.1.2, hk.2⟩⟩)), (by (with_reducible repeat (first | refine blk_drewN ?_ _ | refine blk_drew ?_ | refine blk_alloc ?_ _)); exact BK384.out), GW384.out, GE384.out, (by repeat (first | (with_reducible first | exact HB.out | apply below_alloc | apply pw_below_drewN | apply below_drew1 | refine below_set ?_ GE384.out) | exact HB.out))⟩)
                          · skip
                            refine box_step ?hg (N := 8) ?hd (cs := #[.int .i64 0, .int .i64 0]) (t := 30) ?hr ?_; (case hd => rfl); (case hg => rfl); (case hr => first | (go_simp; done) | (go_simp; rfl))
                            intro gb384 hg w24 hbox hb
                            have HS0_ := (hb.cell (World.block_lt_of_cell? _ _ (hHeld.1))).trans (hHeld.1)
                            have HS1_ := (hb.cell (World.block_lt_of_cell? _ _ (hHeld.2.1))).trans (hHeld.2.1)
                            have HS2_ := (hb.cell (World.block_lt_of_cell? _ _ (hHeld.2.2.1))).trans (hHeld.2.2.1)
                            have HS3_ := (hb.cell (World.block_lt_of_cell? _ _ (hHeld.2.2.2))).trans (hHeld.2.2.2)
                            have n0_ := Aside0.mk (Kd.R_below (Kd.R_elderB (by (with_reducible repeat (first | apply Kd.R_alloc | apply Kd.R_drewN | apply Kd.R_drew)); exact HO_0.out) gb384 (Nat.le_of_eq hg.symm)) hb)
                            have n1_ := Aside0.mk (Kd.R_below (Kd.R_elderB (by (with_reducible repeat (first | apply Kd.R_alloc | apply Kd.R_drewN | apply Kd.R_drew)); exact HO_1.out) gb384 (Nat.le_of_eq hg.symm)) hb)
                            have n2_ := Aside0.mk (Kd.R_below (Kd.R_elderB (by (with_reducible repeat (first | apply Kd.R_alloc | apply Kd.R_drewN | apply Kd.R_drew)); exact HO_5.out) gb384 (Nat.le_of_eq hg.symm)) hb)
                            have n3_ := Aside0.mk (below_step (by repeat (first | (with_reducible first | exact HB.out | apply below_alloc | apply pw_below_drewN | apply below_drew1) | exact HB.out)) hb)
                            have n4_ := Aside0.mk (hbox)
                            have n5_ := Aside0.mk ((by rw [hg]; exact (below_size (by repeat (first | (with_reducible first | exact HB.out | apply below_alloc | apply pw_below_drewN | apply below_drew1) | exact HB.out))) : w.heap.size ≤ gb384))
                            have n6_ := Aside0.mk ((by rw [hg]; exact (below_size (by repeat (first | (with_reducible first | exact HB.out | apply below_alloc | apply pw_below_drewN | apply below_drew1) | exact HB.out))) : w.heap.size ≤ gb384))
                            clear HO_0
                            clear HO_1
                            clear HO_5
                            clear HB
                            have HO_0 := n0_
                            have HO_1 := n1_
                            have HO_5 := n2_
                            have HB := n3_
                            have BK384 := n4_
                            have GW384 := n5_
                            have GE384 := n6_
                            clear n0_ n1_ n2_ n3_ n4_ n5_ n6_
                            clear hb hbox hg
                            refine hK.out _ _ ⟨HS0_, HS1_, HS2_, HS3_⟩ (fun hHeld => ?_)
                            clear hK K
                            refine norm_ (a' := ?_) ?_ ?_
                            rotate_left
                            · show Act.put _ (some 8) _ = _
                              simp only [Act.put, List.setIfInBounds_toArray, List.set_cons_zero, List.set_cons_succ, i64_w, i32_w]
                              rfl
                            refine one_ (i := 8) (N := some 31) #[true, true, true, true, true, true, true, true, true, true, false] rfl rfl (one_of HT_.out (by kernel_rfl)) (by decide) (fun K hK => ?_)
                            refine goes_ Try.func55 (by kernel_rfl) rfl #[.agg #[.int .i64 ((rd_T30 t374 x6_1).f0), .int .i64 ((rd_T30 t374 x6_1).f1)], .agg #[.int .i64 ((rd_T30 t377 x7_1).f0), .int .i64 ((rd_T30 t377 x7_1).f1)]] (by rfl) rfl rfl (by (try simp only [List.map_toArray, List.map_cons, List.map_nil]); first | done | rfl | (simp only [List.length_drop, List.length_take]; rfl)) ?_
                            with_reducible refine (span_both.calls ((rd_T30 t374 x6_1).f0) ((rd_T30 t374 x6_1).f1) ((rd_T30 t377 x7_1).f0) ((rd_T30 t377 x7_1).f1) t382 t383 _ A17.out).mono ?_
                            rintro e w25 ⟨rfl, hb⟩
                            have HS0_ := (hb.cell (World.block_lt_of_cell? _ _ (hHeld.1))).trans (hHeld.1)
                            have HS1_ := (hb.cell (World.block_lt_of_cell? _ _ (hHeld.2.1))).trans (hHeld.2.1)
                            have HS2_ := (hb.cell (World.block_lt_of_cell? _ _ (hHeld.2.2.1))).trans (hHeld.2.2.1)
                            have HS3_ := (hb.cell (World.block_lt_of_cell? _ _ (hHeld.2.2.2))).trans (hHeld.2.2.2)
                            refine ⟨_, rfl, ?_⟩
                            have n0_ := Aside0.mk (Kd.R_below (by (with_reducible repeat (first | apply Kd.R_alloc | apply Kd.R_drewN | apply Kd.R_drew)); exact HO_0.out) hb)
                            have n1_ := Aside0.mk (Kd.R_below (by (with_reducible repeat (first | apply Kd.R_alloc | apply Kd.R_drewN | apply Kd.R_drew)); exact HO_1.out) hb)
                            have n2_ := Aside0.mk (Kd.R_below (by (with_reducible repeat (first | apply Kd.R_alloc | apply Kd.R_drewN | apply Kd.R_drew)); exact HO_5.out) hb)
                            have n3_ := Aside0.mk (blk_below (g := gb384) (o := .cells #[.int .i64 0, .int .i64 0] 30 (0, 0)) (by (with_reducible repeat (first | refine blk_drewN ?_ _ | refine blk_drew ?_ | refine blk_alloc ?_ _)); exact BK384.out) hb)
                            have n4_ := Aside0.mk (below_step (by repeat (first | (with_reducible first | exact HB.out | apply below_alloc | apply pw_below_drewN | apply below_drew1 | refine below_set ?_ GE384.out) | exact HB.out)) hb)
                            clear HO_0
                            clear HO_1
                            clear HO_5
                            clear BK384
                            clear HB
                            have HO_0 := n0_
                            have HO_1 := n1_
                            have HO_5 := n2_
                            have BK384 := n3_
                            have HB := n4_
                            clear n0_ n1_ n2_ n3_ n4_
                            (try clear hb)
                            (try clear hb2)
                            (try clear hk)
                            (try clear hi)
                            refine hK.out _ _ ⟨HS0_, HS1_, HS2_, HS3_⟩ (fun hHeld => ?_)
                            clear hK K
                            refine norm_ (a' := ?_) ?_ ?_
                            rotate_left
                            · show Act.put _ (some 31) _ = _
                              simp only [Act.put, List.setIfInBounds_toArray, List.set_cons_zero, List.set_cons_succ, i64_w, i32_w]
                              rfl
                            exact norm_ (by simp only [putAll, Act.put, List.setIfInBounds_toArray, List.set_cons_zero, List.set_cons_succ]) (hCont (gb384) _ ⟨hHeld, (by (with_reducible repeat (first | apply Kd.R_alloc | apply Kd.R_drewN | apply Kd.R_drew)); exact Kd.R_mono HO_0.out (fun _ hk => ⟨hk.1.1, ⟨hk.1.2, hk.2⟩⟩)), (by (with_reducible repeat (first | apply Kd.R_alloc | apply Kd.R_drewN | apply Kd.R_drew)); exact Kd.R_mono HO_1.out (fun _ hk => ⟨hk.1.1, ⟨hk.1.2, hk.2⟩⟩)), (by (with_reducible repeat (first | apply Kd.R_alloc | apply Kd.R_drewN | apply Kd.R_drew)); exact Kd.R_mono HO_5.out (fun _ hk => ⟨hk.1.1, ⟨hk.1.2, hk.2⟩⟩)), (by (with_reducible repeat (first | refine blk_drewN ?_ _ | refine blk_drew ?_ | refine blk_alloc ?_ _)); exact BK384.out), GW384.out, GE384.out, (by repeat (first | (with_reducible first | exact HB.out | apply below_alloc | apply pw_below_drewN | apply below_drew1 | refine below_set ?_ GE384.out) | exact HB.out))⟩)
                        rintro gb384 w26 ⟨hS_, h0_, h1_, h2_, h3_, h4_, h5_, h6_⟩
                        have n0_ : Aside0 (Kd.R k30 30 w26 w.heap.size (fun k_ => some k_ ≠ (.slice (some ad381) t377.length co23 : Value).ownBlock ∧ some k_ ≠ (u5 : Value).ownBlock ∧ k_ ≠ gb384) (.slice (some ad380) t374.length co22) t374) := ⟨h0_⟩
                        have n1_ : Aside0 (Kd.R k30 30 w26 w.heap.size (fun k_ => some k_ ≠ (.slice (some ad380) t374.length co22 : Value).ownBlock ∧ some k_ ≠ (u5 : Value).ownBlock ∧ k_ ≠ gb384) (.slice (some ad381) t377.length co23) t377) := ⟨h1_⟩
                        have n2_ : Aside0 (Kd.R k30 30 w26 w.heap.size (fun k_ => some k_ ≠ (.slice (some ad380) t374.length co22 : Value).ownBlock ∧ some k_ ≠ (.slice (some ad381) t377.length co23 : Value).ownBlock ∧ k_ ≠ gb384) u5 x5_1) := ⟨h2_⟩
                        have n3_ : Aside0 (w26.heap[gb384]? = some (.cells #[.int .i64 0, .int .i64 0] 30 (0, 0))) := ⟨h3_⟩
                        have n4_ : Aside0 (w.heap.size ≤ gb384) := ⟨h4_⟩
                        have n5_ : Aside0 (w.heap.size ≤ gb384) := ⟨h5_⟩
                        have n6_ : Aside0 (Below w.heap.size w w26) := ⟨h6_⟩
                        clear HO_0
                        clear HO_1
                        clear HO_5
                        clear HB
                        clear h0_ h1_ h2_ h3_ h4_ h5_ h6_
                        have HO_0 := n0_
                        have HO_1 := n1_
                        have HO_5 := n2_
                        have BK384 := n3_
                        have GW384 := n4_
                        have GE384 := n5_
                        have HB := n6_
                        clear n0_ n1_ n2_ n3_ n4_ n5_ n6_
                        have hHeld : w26.cell? (ad380.add ((x6_1).toNat * 2)) = some (.int .i64 ((rd_T30 t374 x6_1).f0)) ∧ w26.cell? ⟨(ad380.add ((x6_1).toNat * 2)).block, (ad380.add ((x6_1).toNat * 2)).off + 1, none⟩ = some (.int .i64 ((rd_T30 t374 x6_1).f1)) ∧ w26.cell? (ad381.add ((x7_1).toNat * 2)) = some (.int .i64 ((rd_T30 t377 x7_1).f0)) ∧ w26.cell? ⟨(ad381.add ((x7_1).toNat * 2)).block, (ad381.add ((x7_1).toNat * 2)).off + 1, none⟩ = some (.int .i64 ((rd_T30 t377 x7_1).f1)) := hS_
                        refine norm_ (a' := ?_) ?_ ?_
                        rotate_left
                        · simp only [putAll, Act.put, List.setIfInBounds_toArray, List.set_cons_zero, List.set_cons_succ]
                          rfl
                        refine one_ (i := 10) (N := none) #[true, true, true, true, true, true, true, true, true, true, true] rfl rfl (one_of HT_.out (by kernel_rfl)) (by decide) (fun K hK => ?_)
                        have hs27 : w26.cell? ⟨gb384, 0, none⟩ = some (.int .i64 0) := (blk_cell BK384.out 0).trans rfl
                        have hfs27 := blk_frozen BK384.out 0
                        have hs28 : w26.cell? ⟨gb384, 1, none⟩ = some (.int .i64 0) := (blk_cell BK384.out 1).trans rfl
                        have hfs28 := blk_frozen BK384.out 1
                        refine skip_ (w1 := ?_) (by rfl) rfl ?_ ?_
                        rotate_left
                        · go_simp
                          rfl
                        refine hK.out _ _ ⟨((cell_far (p := ⟨gb384, _, none⟩) (by first | exact Kd.own_blk (Kd.R_away HO_0.out (fun _ hk => hk.2.2)) | (rw [add_block]; exact Kd.own_blk (Kd.R_away HO_0.out (fun _ hk => hk.2.2))) | (show (Addr.add _ _).block ≠ _; rw [add_block]; exact Kd.own_blk (Kd.R_away HO_0.out (fun _ hk => hk.2.2))) | (dsimp only; exact Kd.own_blk (Kd.R_away HO_0.out (fun _ hk => hk.2.2)))) _).trans (((cell_far (p := ⟨gb384, _, none⟩) (by first | exact Kd.own_blk (Kd.R_away HO_0.out (fun _ hk => hk.2.2)) | (rw [add_block]; exact Kd.own_blk (Kd.R_away HO_0.out (fun _ hk => hk.2.2))) | (show (Addr.add _ _).block ≠ _; rw [add_block]; exact Kd.own_blk (Kd.R_away HO_0.out (fun _ hk => hk.2.2))) | (dsimp only; exact Kd.own_blk (Kd.R_away HO_0.out (fun _ hk => hk.2.2)))) _).trans (hHeld.1)))), ((cell_far (p := ⟨gb384, _, none⟩) (by first | exact Kd.own_blk (Kd.R_away HO_0.out (fun _ hk => hk.2.2)) | (rw [add_block]; exact Kd.own_blk (Kd.R_away HO_0.out (fun _ hk => hk.2.2))) | (show (Addr.add _ _).block ≠ _; rw [add_block]; exact Kd.own_blk (Kd.R_away HO_0.out (fun _ hk => hk.2.2))) | (dsimp only; exact Kd.own_blk (Kd.R_away HO_0.out (fun _ hk => hk.2.2)))) _).trans (((cell_far (p := ⟨gb384, _, none⟩) (by first | exact Kd.own_blk (Kd.R_away HO_0.out (fun _ hk => hk.2.2)) | (rw [add_block]; exact Kd.own_blk (Kd.R_away HO_0.out (fun _ hk => hk.2.2))) | (show (Addr.add _ _).block ≠ _; rw [add_block]; exact Kd.own_blk (Kd.R_away HO_0.out (fun _ hk => hk.2.2))) | (dsimp only; exact Kd.own_blk (Kd.R_away HO_0.out (fun _ hk => hk.2.2)))) _).trans (hHeld.2.1)))), ((cell_far (p := ⟨gb384, _, none⟩) (by first | exact Kd.own_blk (Kd.R_away HO_1.out (fun _ hk => hk.2.2)) | (rw [add_block]; exact Kd.own_blk (Kd.R_away HO_1.out (fun _ hk => hk.2.2))) | (show (Addr.add _ _).block ≠ _; rw [add_block]; exact Kd.own_blk (Kd.R_away HO_1.out (fun _ hk => hk.2.2))) | (dsimp only; exact Kd.own_blk (Kd.R_away HO_1.out (fun _ hk => hk.2.2)))) _).trans (((cell_far (p := ⟨gb384, _, none⟩) (by first | exact Kd.own_blk (Kd.R_away HO_1.out (fun _ hk => hk.2.2)) | (rw [add_block]; exact Kd.own_blk (Kd.R_away HO_1.out (fun _ hk => hk.2.2))) | (show (Addr.add _ _).block ≠ _; rw [add_block]; exact Kd.own_blk (Kd.R_away HO_1.out (fun _ hk => hk.2.2))) | (dsimp only; exact Kd.own_blk (Kd.R_away HO_1.out (fun _ hk => hk.2.2)))) _).trans (hHeld.2.2.1)))), ((cell_far (p := ⟨gb384, _, none⟩) (by first | exact Kd.own_blk (Kd.R_away HO_1.out (fun _ hk => hk.2.2)) | (rw [add_block]; exact Kd.own_blk (Kd.R_away HO_1.out (fun _ hk => hk.2.2))) | (show (Addr.add _ _).block ≠ _; rw [add_block]; exact Kd.own_blk (Kd.R_away HO_1.out (fun _ hk => hk.2.2))) | (dsimp only; exact Kd.own_blk (Kd.R_away HO_1.out (fun _ hk => hk.2.2)))) _).trans (((cell_far (p := ⟨gb384, _, none⟩) (by first | exact Kd.own_blk (Kd.R_away HO_1.out (fun _ hk => hk.2.2)) | (rw [add_block]; exact Kd.own_blk (Kd.R_away HO_1.out (fun _ hk => hk.2.2))) | (show (Addr.add _ _).block ≠ _; rw [add_block]; exact Kd.own_blk (Kd.R_away HO_1.out (fun _ hk => hk.2.2))) | (dsimp only; exact Kd.own_blk (Kd.R_away HO_1.out (fun _ hk => hk.2.2)))) _).trans (hHeld.2.2.2))))⟩ (fun hHeld => ?_)
                        clear hK K
                        refine done_ (done_of HT_.out (by kernel_rfl)) ?_
                        have hcz29_0 : w26.cell? ⟨gb384, 0, none⟩ = some (.int .i64 0) := (blk_cell BK384.out 0).trans rfl
                        have hcz29_1 : w26.cell? ⟨gb384, 1, none⟩ = some (.int .i64 0) := (blk_cell BK384.out 1).trans rfl
                        have hfz29_0 := blk_frozen BK384.out 0
                        have hfz29_1 := blk_frozen BK384.out 1
                        try go_wp2_with (first | ((with_reducible refine gate_callee (f := 48) rfl ?_); refine goesL_ (some 33) rfl rfl Try.func48 (by kernel_rfl) rfl #[.agg #[.int .i64 t382, .int .i64 t383]] rfl (by (try simp only [List.map_toArray, List.map_cons, List.map_nil]); first | done | rfl | (simp only [List.length_drop, List.length_take]; rfl)) ?_; (with_reducible refine (span_empty.calls t382 t383 true _ A18.out).mono ?_); rintro e w30 ⟨rfl, hb⟩; refine ⟨_, rfl, ?_⟩; have n0_ := Aside0.mk (Kd.R_below (by (with_reducible repeat (first | apply Kd.R_alloc | apply Kd.R_drewN | apply Kd.R_drew)); exact (Kd.R_mono (Kd.R_far (p := ⟨gb384, 1, none⟩) (Kd.R_far (p := ⟨gb384, 0, none⟩) (Kd.R_mono HO_0.out (fun k_ hk => (⟨hk, hk.2.2⟩ : _ ∧ k_ ≠ gb384))) (fun _ hk => hk.2) (.int .i64 t382)) (fun _ hk => hk.2) (.int .i64 t383)) (fun _ h_ => h_.1))) hb); have n1_ := Aside0.mk (Kd.R_below (by (with_reducible repeat (first | apply Kd.R_alloc | apply Kd.R_drewN | apply Kd.R_drew)); exact (Kd.R_mono (Kd.R_far (p := ⟨gb384, 1, none⟩) (Kd.R_far (p := ⟨gb384, 0, none⟩) (Kd.R_mono HO_1.out (fun k_ hk => (⟨hk, hk.2.2⟩ : _ ∧ k_ ≠ gb384))) (fun _ hk => hk.2) (.int .i64 t382)) (fun _ hk => hk.2) (.int .i64 t383)) (fun _ h_ => h_.1))) hb); have n2_ := Aside0.mk (Kd.R_below (by (with_reducible repeat (first | apply Kd.R_alloc | apply Kd.R_drewN | apply Kd.R_drew)); exact (Kd.R_mono (Kd.R_far (p := ⟨gb384, 1, none⟩) (Kd.R_far (p := ⟨gb384, 0, none⟩) (Kd.R_mono HO_5.out (fun k_ hk => (⟨hk, hk.2.2⟩ : _ ∧ k_ ≠ gb384))) (fun _ hk => hk.2) (.int .i64 t382)) (fun _ hk => hk.2) (.int .i64 t383)) (fun _ h_ => h_.1))) hb); have n3_ := Aside0.mk (blk_below (g := gb384) (o := .cells #[.int .i64 t382, .int .i64 t383] 30 (0, 0)) (by (with_reducible repeat (first | refine blk_drewN ?_ _ | refine blk_drew ?_ | refine blk_alloc ?_ _)); refine blk_put (cs := #[.int .i64 t382, .int .i64 0]) ?_ 1 _ rfl; (with_reducible repeat (first | refine blk_drewN ?_ _ | refine blk_drew ?_ | refine blk_alloc ?_ _)); refine blk_put (cs := #[.int .i64 0, .int .i64 0]) ?_ 0 _ rfl; (with_reducible repeat (first | refine blk_drewN ?_ _ | refine blk_drew ?_ | refine blk_alloc ?_ _)); exact BK384.out) hb); have n4_ := Aside0.mk (below_step (by repeat (first | (with_reducible first | exact HB.out | apply below_alloc | apply pw_below_drewN | apply below_drew1 | refine below_set ?_ GE384.out) | exact HB.out)) hb); clear HO_0; clear HO_1; clear HO_5; clear BK384; clear HB; have HO_0 := n0_; have HO_1 := n1_; have HO_5 := n2_; have BK384 := n3_; have HB := n4_; clear n0_ n1_ n2_ n3_ n4_; (try clear hb); (try clear hb2); (try clear hk); (try clear hi)))
                        have n0_ := Aside0.mk (Kd.R_drew HO_0.out)
                        have n1_ := Aside0.mk (Kd.R_drew HO_1.out)
                        have n2_ := Aside0.mk (Kd.R_drew HO_5.out)
                        have n3_ := Aside0.mk (blk_drew BK384.out)
                        have n4_ := Aside0.mk (below_drew1 HB.out)
                        clear HO_0
                        clear HO_1
                        clear HO_5
                        clear BK384
                        clear HB
                        have HO_0 := n0_
                        have HO_1 := n1_
                        have HO_5 := n2_
                        have BK384 := n3_
                        have HB := n4_
                        clear n0_ n1_ n2_ n3_ n4_
                        have p386 : 0 ≤ (x6_1 : Int) := of_decide_eq_true (by first | (with_reducible assumption) | assumption)
                        have q386 : x6_1 < (t374.length : Int) := of_decide_eq_true (by first | (with_reducible assumption) | assumption)
                        obtain ⟨ad386, e386, hx386_0, hx386_1⟩ := at_T30 (Kd.R_reads' HO_0.out).2.2 x6_1 p386 q386
                        obtain rfl : ad380 = ad386 := (by injection e386)
                        replace p386 := eq_true p386
                        replace q386 := eq_true q386
                        have p387 : 0 ≤ (x7_1 : Int) := of_decide_eq_true (by first | (with_reducible assumption) | assumption)
                        have q387 : x7_1 < (t377.length : Int) := of_decide_eq_true (by first | (with_reducible assumption) | assumption)
                        obtain ⟨ad387, e387, hx387_0, hx387_1⟩ := at_T30 (Kd.R_reads' HO_1.out).2.2 x7_1 p387 q387
                        obtain rfl : ad381 = ad387 := (by injection e387)
                        replace p387 := eq_true p387
                        replace q387 := eq_true q387
                        refine start_ (n := 11) (S := fun w' => w'.cell? (ad380.add ((x6_1).toNat * 2)) = some (.int .i64 ((rd_T30 t374 x6_1).f0)) ∧ w'.cell? ⟨(ad380.add ((x6_1).toNat * 2)).block, (ad380.add ((x6_1).toNat * 2)).off + 1, none⟩ = some (.int .i64 ((rd_T30 t374 x6_1).f1)) ∧ w'.cell? (ad381.add ((x7_1).toNat * 2)) = some (.int .i64 ((rd_T30 t377 x7_1).f0)) ∧ w'.cell? ⟨(ad381.add ((x7_1).toNat * 2)).block, (ad381.add ((x7_1).toNat * 2)).off + 1, none⟩ = some (.int .i64 ((rd_T30 t377 x7_1).f1))) (ds := []) #[false, false, false, false, false, false, false, false, false, false, false] (by kernel_rfl) rfl rfl ⟨hx386_0, hx386_1, hx387_0, hx387_1⟩ (fun hHeld => ?_); refine with_tabW span_Meet.tab8 span_Meet.bits8 (fun HT_ HW_ => ?_)
                        generalize w30.drew = w31 at HO_0 HO_1 HO_5 BK384 HB hx386_0 hx386_1 hx387_0 hx387_1 hHeld ⊢
                        refine pure_ (i := 0) (N := some 39) (v := ?_) (a' := ?_) #[true, false, false, false, false, false, false, false, false, false, false] rfl rfl (any_of HT_.out (by kernel_rfl)) (fun _ _ _ h => h) (Or.inl ⟨by rfl, ?_⟩) ?_ ?_
                        rotate_left
                        · intro w'
                          go_simp
                          with_reducible rfl
                        rotate_left
                        · simp only [Act.put, List.setIfInBounds_toArray, List.set_cons_zero, List.set_cons_succ, i64_w, i32_w]
                          rfl
                        refine pure_ (i := 1) (N := some 40) (v := ?_) (a' := ?_) #[true, true, false, false, false, false, false, false, false, false, false] rfl rfl (any_of HT_.out (by kernel_rfl)) (fun _ _ _ h => h) (Or.inl ⟨by rfl, ?_⟩) ?_ ?_
                        rotate_left
                        · intro w'
                          go_simp
                          with_reducible rfl
                        rotate_left
                        · simp only [Act.put, List.setIfInBounds_toArray, List.set_cons_zero, List.set_cons_succ, i64_w, i32_w]
                          rfl
                        refine pure_ (i := 2) (N := some 41) (v := ?_) (a' := ?_) #[true, true, true, false, false, false, false, false, false, false, false] rfl rfl (any_of HT_.out (by kernel_rfl)) (fun _ _ _ h => h) (Or.inl ⟨by rfl, ?_⟩) ?_ ?_
                        rotate_left
                        · intro w'
                          go_simp
                          with_reducible rfl
                        rotate_left
                        · simp only [Act.put, List.setIfInBounds_toArray, List.set_cons_zero, List.set_cons_succ, i64_w, i32_w]
                          rfl
                        refine pure_ (i := 3) (N := some 42) (v := ?_) (a' := ?_) #[true, true, true, true, false, false, false, false, false, false, false] rfl rfl (any_of HT_.out (by kernel_rfl)) (fun _ _ _ h => h) (Or.inl ⟨by rfl, ?_⟩) ?_ ?_
                        rotate_left
                        · intro w'
                          go_simp
                          with_reducible rfl
                        rotate_left
                        · simp only [Act.put, List.setIfInBounds_toArray, List.set_cons_zero, List.set_cons_succ, i64_w, i32_w]
                          rfl
                        refine pure_ (i := 5) (N := some 44) (v := ?_) (a' := ?_) #[true, true, true, true, false, true, false, false, false, false, false] rfl rfl (any_of HT_.out (by kernel_rfl)) (fun _ _ _ h => h) (Or.inl ⟨by rfl, ?_⟩) ?_ ?_
                        rotate_left
                        · intro w'
                          go_simp
                          with_reducible rfl
                        rotate_left
                        · simp only [Act.put, List.setIfInBounds_toArray, List.set_cons_zero, List.set_cons_succ, i64_w, i32_w]
                          rfl
                        refine pure_ (i := 6) (N := some 45) (v := ?_) (a' := ?_) #[true, true, true, true, false, true, true, false, false, false, false] rfl rfl (any_of HT_.out (by kernel_rfl)) (fun _ _ _ h => h) (Or.inl ⟨by rfl, ?_⟩) ?_ ?_
                        rotate_left
                        · intro w'
                          go_simp
                          with_reducible rfl
                        rotate_left
                        · simp only [Act.put, List.setIfInBounds_toArray, List.set_cons_zero, List.set_cons_succ, i64_w, i32_w]
                          rfl
                        refine pure_ (i := 7) (N := some 46) (v := ?_) (a' := ?_) #[true, true, true, true, false, true, true, true, false, false, false] rfl rfl (any_of HT_.out (by kernel_rfl)) (fun _ _ _ h => h) (Or.inl ⟨by rfl, ?_⟩) ?_ ?_
                        rotate_left
                        · intro w'
                          go_simp
                          with_reducible rfl
                        rotate_left
                        · simp only [Act.put, List.setIfInBounds_toArray, List.set_cons_zero, List.set_cons_succ, i64_w, i32_w]
                          rfl
                        refine pure_ (i := 8) (N := some 47) (v := ?_) (a' := ?_) #[true, true, true, true, false, true, true, true, true, false, false] rfl rfl (any_of HT_.out (by kernel_rfl)) (fun _ _ _ h => h) (Or.inl ⟨by rfl, ?_⟩) ?_ ?_
                        rotate_left
                        · intro w'
                          go_simp
                          with_reducible rfl
                        rotate_left
                        · simp only [Act.put, List.setIfInBounds_toArray, List.set_cons_zero, List.set_cons_succ, i64_w, i32_w]
                          rfl
                        refine take_ (i := 4) (N := some 43) (v := ?_) (a' := ?_) #[true, true, true, true, true, true, true, true, true, false, false] rfl rfl (take_ofW HT_.out HW_.out (by kernel_rfl)) (fun _ _ _ h => h) (Or.inl ⟨by rfl, ?_⟩) hHeld ?_ ?_
                        rotate_left
                        · rintro w' ⟨s0, s1, s2, s3⟩
                          go_simp
                          with_reducible rfl
                        rotate_left
                        · simp only [Act.put, List.setIfInBounds_toArray, List.set_cons_zero, List.set_cons_succ, i64_w, i32_w]
                          rfl
                        refine take_ (i := 9) (N := some 48) (v := ?_) (a' := ?_) #[true, true, true, true, true, true, true, true, true, true, false] rfl rfl (take_ofW HT_.out HW_.out (by kernel_rfl)) (fun _ _ _ h => h) (Or.inl ⟨by rfl, ?_⟩) hHeld ?_ ?_
                        rotate_left
                        · rintro w' ⟨s0, s1, s2, s3⟩
                          go_simp
                          with_reducible rfl
                        rotate_left
                        · simp only [Act.put, List.setIfInBounds_toArray, List.set_cons_zero, List.set_cons_succ, i64_w, i32_w]
                          rfl
                        refine pure_ (i := 10) (N := some 49) (v := ?_) (a' := ?_) #[true, true, true, true, true, true, true, true, true, true, true] rfl rfl (any_of HT_.out (by kernel_rfl)) (fun _ _ _ h => h) (Or.inl ⟨by rfl, ?_⟩) ?_ ?_
                        rotate_left
                        · intro w'
                          go_simp
                          with_reducible rfl
                        rotate_left
                        · simp only [Act.put, List.setIfInBounds_toArray, List.set_cons_zero, List.set_cons_succ, i64_w, i32_w]
                          rfl
                        refine done_ (done_of HT_.out (by kernel_rfl)) ?_
                        try go_wp2
                        go_roundg kj6
                        case measure => have := HK1.out; have := HJ6.out; omega
                        case rel => exact ⟨(x5_1), (wrap64 (x6_1 + 1)), (x7_1), (by first | rfl | (simp; done) | (simp [*]; done)), (by first | rfl | (simp; done) | (simp [*]; done)), H', ⟨by have := HK1.out; have := HJ6.out; omega⟩, ⟨by (with_reducible repeat (first | apply Kd.R_alloc | apply Kd.R_drewN | apply Kd.R_drew)); exact Kd.R_mono HO_0.out (fun _ hk => ⟨hk.1, hk.2.1⟩)⟩, ⟨by (with_reducible repeat (first | apply Kd.R_alloc | apply Kd.R_drewN | apply Kd.R_drew)); exact Kd.R_mono HO_1.out (fun _ hk => ⟨hk.1, hk.2.1⟩)⟩, ⟨by (with_reducible repeat (first | apply Kd.R_alloc | apply Kd.R_drewN | apply Kd.R_drew)); exact Kd.R_mono HO_5.out (fun _ hk => ⟨hk.1, hk.2.1⟩)⟩, ⟨by repeat (first | (with_reducible first | exact HB.out | apply below_alloc | apply pw_below_drewN | apply below_drew1 | refine below_set ?_ GE384.out) | exact HB.out)⟩⟩
                      · rw [if_neg c20] at H
                        have c20b0 : decide (((rd_T30 t374 x6_1).f1) < ((rd_T30 t377 x7_1).f1)) = false := decide_eq_false c20
                        clear c20
                        have H' := Aside0.mk H
                        clear H
                        try go_wp2
                        have n0_ := Aside0.mk (Kd.R_drew HO_0.out)
                        have n1_ := Aside0.mk (Kd.R_drew HO_1.out)
                        have n2_ := Aside0.mk (Kd.R_drew HO_5.out)
                        have n3_ := Aside0.mk (below_drew1 HB.out)
                        clear HO_0
                        clear HO_1
                        clear HO_5
                        clear HB
                        have HO_0 := n0_
                        have HO_1 := n1_
                        have HO_5 := n2_
                        have HB := n3_
                        clear n0_ n1_ n2_ n3_
                        obtain ⟨Ao33, co33, eo33⟩ := Kd.R_slice HO_0.out
                        (first | subst eo33 | (injection eo33 with f1_ f2_ f3_; have f4_ := f1_.symm; have f5_ := f3_.symm; clear f1_ f2_ f3_; subst f4_; subst f5_))
                        have p380 : 0 ≤ (x6_1 : Int) := of_decide_eq_true (by first | (with_reducible assumption) | assumption)
                        have q380 : x6_1 < (t374.length : Int) := of_decide_eq_true (by first | (with_reducible assumption) | assumption)
                        obtain ⟨ad380, e380, hx380_0, hx380_1⟩ := at_T30 (Kd.R_reads' HO_0.out).2.2 x6_1 p380 q380
                        cases e380
                        replace p380 := eq_true p380
                        replace q380 := eq_true q380
                        obtain ⟨Ao34, co34, eo34⟩ := Kd.R_slice HO_1.out
                        (first | subst eo34 | (injection eo34 with f1_ f2_ f3_; have f4_ := f1_.symm; have f5_ := f3_.symm; clear f1_ f2_ f3_; subst f4_; subst f5_))
                        have p381 : 0 ≤ (x7_1 : Int) := of_decide_eq_true (by first | (with_reducible assumption) | assumption)
                        have q381 : x7_1 < (t377.length : Int) := of_decide_eq_true (by first | (with_reducible assumption) | assumption)
                        obtain ⟨ad381, e381, hx381_0, hx381_1⟩ := at_T30 (Kd.R_reads' HO_1.out).2.2 x7_1 p381 q381
                        cases e381
                        replace p381 := eq_true p381
                        replace q381 := eq_true q381
                        refine start_ (n := 11) (S := fun w' => w'.cell? (ad380.add ((x6_1).toNat * 2)) = some (.int .i64 ((rd_T30 t374 x6_1).f0)) ∧ w'.cell? ⟨(ad380.add ((x6_1).toNat * 2)).block, (ad380.add ((x6_1).toNat * 2)).off + 1, none⟩ = some (.int .i64 ((rd_T30 t374 x6_1).f1)) ∧ w'.cell? (ad381.add ((x7_1).toNat * 2)) = some (.int .i64 ((rd_T30 t377 x7_1).f0)) ∧ w'.cell? ⟨(ad381.add ((x7_1).toNat * 2)).block, (ad381.add ((x7_1).toNat * 2)).off + 1, none⟩ = some (.int .i64 ((rd_T30 t377 x7_1).f1))) (ds := []) #[false, false, false, false, false, false, false, false, false, false, false] (by kernel_rfl) rfl rfl ⟨hx380_0, hx380_1, hx381_0, hx381_1⟩ (fun hHeld => ?_); refine with_tabW span_Meet.tab5 span_Meet.bits5 (fun HT_ HW_ => ?_)
                        generalize wc.drew = w32 at HO_0 HO_1 HO_5 HB hx380_0 hx380_1 hx381_0 hx381_1 hHeld ⊢
                        refine pure_ (i := 0) (N := some 23) (v := ?_) (a' := ?_) #[true, false, false, false, false, false, false, false, false, false, false] rfl rfl (any_of HT_.out (by kernel_rfl)) (fun _ _ _ h => h) (Or.inl ⟨by rfl, ?_⟩) ?_ ?_
                        rotate_left
                        · intro w'
                          go_simp
                          with_reducible rfl
                        rotate_left
                        · simp only [Act.put, List.setIfInBounds_toArray, List.set_cons_zero, List.set_cons_succ, i64_w, i32_w]
                          rfl
                        refine pure_ (i := 1) (N := some 24) (v := ?_) (a' := ?_) #[true, true, false, false, false, false, false, false, false, false, false] rfl rfl (any_of HT_.out (by kernel_rfl)) (fun _ _ _ h => h) (Or.inl ⟨by rfl, ?_⟩) ?_ ?_
                        rotate_left
                        · intro w'
                          go_simp
                          with_reducible rfl
                        rotate_left
                        · simp only [Act.put, List.setIfInBounds_toArray, List.set_cons_zero, List.set_cons_succ, i64_w, i32_w]
                          rfl
                        refine pure_ (i := 2) (N := some 25) (v := ?_) (a' := ?_) #[true, true, true, false, false, false, false, false, false, false, false] rfl rfl (any_of HT_.out (by kernel_rfl)) (fun _ _ _ h => h) (Or.inl ⟨by rfl, ?_⟩) ?_ ?_
                        rotate_left
                        · intro w'
                          go_simp
                          with_reducible rfl
                        rotate_left
                        · simp only [Act.put, List.setIfInBounds_toArray, List.set_cons_zero, List.set_cons_succ, i64_w, i32_w]
                          rfl
                        refine pure_ (i := 4) (N := some 27) (v := ?_) (a' := ?_) #[true, true, true, false, true, false, false, false, false, false, false] rfl rfl (any_of HT_.out (by kernel_rfl)) (fun _ _ _ h => h) (Or.inl ⟨by rfl, ?_⟩) ?_ ?_
                        rotate_left
                        · intro w'
                          go_simp
                          with_reducible rfl
                        rotate_left
                        · simp only [Act.put, List.setIfInBounds_toArray, List.set_cons_zero, List.set_cons_succ, i64_w, i32_w]
                          rfl
                        refine pure_ (i := 5) (N := some 28) (v := ?_) (a' := ?_) #[true, true, true, false, true, true, false, false, false, false, false] rfl rfl (any_of HT_.out (by kernel_rfl)) (fun _ _ _ h => h) (Or.inl ⟨by rfl, ?_⟩) ?_ ?_
                        rotate_left
                        · intro w'
                          go_simp
                          with_reducible rfl
                        rotate_left
                        · simp only [Act.put, List.setIfInBounds_toArray, List.set_cons_zero, List.set_cons_succ, i64_w, i32_w]
                          rfl
                        refine pure_ (i := 6) (N := some 29) (v := ?_) (a' := ?_) #[true, true, true, false, true, true, true, false, false, false, false] rfl rfl (any_of HT_.out (by kernel_rfl)) (fun _ _ _ h => h) (Or.inl ⟨by rfl, ?_⟩) ?_ ?_
                        rotate_left
                        · intro w'
                          go_simp
                          with_reducible rfl
                        rotate_left
                        · simp only [Act.put, List.setIfInBounds_toArray, List.set_cons_zero, List.set_cons_succ, i64_w, i32_w]
                          rfl
                        refine take_ (i := 3) (N := some 26) (v := ?_) (a' := ?_) #[true, true, true, true, true, true, true, false, false, false, false] rfl rfl (take_ofW HT_.out HW_.out (by kernel_rfl)) (fun _ _ _ h => h) (Or.inl ⟨by rfl, ?_⟩) hHeld ?_ ?_
                        rotate_left
                        · rintro w' ⟨s0, s1, s2, s3⟩
                          go_simp
                          with_reducible rfl
                        rotate_left
                        · simp only [Act.put, List.setIfInBounds_toArray, List.set_cons_zero, List.set_cons_succ, i64_w, i32_w]
                          rfl
                        refine take_ (i := 7) (N := some 30) (v := ?_) (a' := ?_) #[true, true, true, true, true, true, true, true, false, false, false] rfl rfl (take_ofW HT_.out HW_.out (by kernel_rfl)) (fun _ _ _ h => h) (Or.inl ⟨by rfl, ?_⟩) hHeld ?_ ?_
                        rotate_left
                        · rintro w' ⟨s0, s1, s2, s3⟩
                          go_simp
                          with_reducible rfl
                        rotate_left
                        · simp only [Act.put, List.setIfInBounds_toArray, List.set_cons_zero, List.set_cons_succ, i64_w, i32_w]
                          rfl
                        refine join_ (σ := Nat) 1 #[true, true, true, true, true, true, true, true, true, true, false] (fun s_ => [(31, .agg #[.int .i64 t382, .int .i64 t383]), (8, .pointer (some ⟨s_, 0, none⟩))]) (fun s_ w' => (w'.cell? (ad380.add ((x6_1).toNat * 2)) = some (.int .i64 ((rd_T30 t374 x6_1).f0)) ∧ w'.cell? ⟨(ad380.add ((x6_1).toNat * 2)).block, (ad380.add ((x6_1).toNat * 2)).off + 1, none⟩ = some (.int .i64 ((rd_T30 t374 x6_1).f1)) ∧ w'.cell? (ad381.add ((x7_1).toNat * 2)) = some (.int .i64 ((rd_T30 t377 x7_1).f0)) ∧ w'.cell? ⟨(ad381.add ((x7_1).toNat * 2)).block, (ad381.add ((x7_1).toNat * 2)).off + 1, none⟩ = some (.int .i64 ((rd_T30 t377 x7_1).f1))) ∧ (Kd.R k30 30 w' w.heap.size (fun k_ => some k_ ≠ (.slice (some ad381) t377.length co34 : Value).ownBlock ∧ some k_ ≠ (u5 : Value).ownBlock ∧ k_ ≠ s_) (.slice (some ad380) t374.length co33) t374) ∧ (Kd.R k30 30 w' w.heap.size (fun k_ => some k_ ≠ (.slice (some ad380) t374.length co33 : Value).ownBlock ∧ some k_ ≠ (u5 : Value).ownBlock ∧ k_ ≠ s_) (.slice (some ad381) t377.length co34) t377) ∧ (Kd.R k30 30 w' w.heap.size (fun k_ => some k_ ≠ (.slice (some ad380) t374.length co33 : Value).ownBlock ∧ some k_ ≠ (.slice (some ad381) t377.length co34 : Value).ownBlock ∧ k_ ≠ s_) u5 x5_1) ∧ (w'.heap[s_]? = some (.cells #[.int .i64 0, .int .i64 0] 30 (0, 0))) ∧ (w.heap.size ≤ s_) ∧ (w.heap.size ≤ s_) ∧ (Below w.heap.size w w')) ?_ ?_
                        rotate_left
                        · intro hCont
                          refine two_ (i := 8) (j := 9) (Ni := some 31) (Nj := some 8) #[true, true, true, true, true, true, true, true, true, false, false] #[true, true, true, true, true, true, true, true, false, true, false] rfl rfl rfl rfl (two_of HT_.out (by kernel_rfl)) (by decide) (by decide) (fun K hK => ?_) (fun K hK => ?_)
                          · skip
                            refine goes_ Try.func55 (by kernel_rfl) rfl #[.agg #[.int .i64 ((rd_T30 t374 x6_1).f0), .int .i64 ((rd_T30 t374 x6_1).f1)], .agg #[.int .i64 ((rd_T30 t377 x7_1).f0), .int .i64 ((rd_T30 t377 x7_1).f1)]] (by rfl) rfl rfl (by (try simp only [List.map_toArray, List.map_cons, List.map_nil]); first | done | rfl | (simp only [List.length_drop, List.length_take]; rfl)) ?_
                            with_reducible refine (span_both.calls ((rd_T30 t374 x6_1).f0) ((rd_T30 t374 x6_1).f1) ((rd_T30 t377 x7_1).f0) ((rd_T30 t377 x7_1).f1) t382 t383 _ A17.out).mono ?_
                            rintro e w35 ⟨rfl, hb⟩
                            have HS0_ := (hb.cell (World.block_lt_of_cell? _ _ (hHeld.1))).trans (hHeld.1)
                            have HS1_ := (hb.cell (World.block_lt_of_cell? _ _ (hHeld.2.1))).trans (hHeld.2.1)
                            have HS2_ := (hb.cell (World.block_lt_of_cell? _ _ (hHeld.2.2.1))).trans (hHeld.2.2.1)
                            have HS3_ := (hb.cell (World.block_lt_of_cell? _ _ (hHeld.2.2.2))).trans (hHeld.2.2.2)
                            refine ⟨_, rfl, ?_⟩
                            have n0_ := Aside0.mk (Kd.R_below (by (with_reducible repeat (first | apply Kd.R_alloc | apply Kd.R_drewN | apply Kd.R_drew)); exact HO_0.out) hb)
                            have n1_ := Aside0.mk (Kd.R_below (by (with_reducible repeat (first | apply Kd.R_alloc | apply Kd.R_drewN | apply Kd.R_drew)); exact HO_1.out) hb)
                            have n2_ := Aside0.mk (Kd.R_below (by (with_reducible repeat (first | apply Kd.R_alloc | apply Kd.R_drewN | apply Kd.R_drew)); exact HO_5.out) hb)
                            have n3_ := Aside0.mk (below_step (by repeat (first | (with_reducible first | exact HB.out | apply below_alloc | apply pw_below_drewN | apply below_drew1) | exact HB.out)) hb)
                            clear HO_0
                            clear HO_1
                            clear HO_5
                            clear HB
                            have HO_0 := n0_
                            have HO_1 := n1_
                            have HO_5 := n2_
                            have HB := n3_
                            clear n0_ n1_ n2_ n3_
                            (try clear hb)
                            (try clear hb2)
                            (try clear hk)
                            (try clear hi)
                            refine hK.out _ _ ⟨HS0_, HS1_, HS2_, HS3_⟩ (fun hHeld => ?_)
                            clear hK K
                            refine norm_ (a' := ?_) ?_ ?_
                            rotate_left
                            · show Act.put _ (some 31) _ = _
                              simp only [Act.put, List.setIfInBounds_toArray, List.set_cons_zero, List.set_cons_succ, i64_w, i32_w]
                              rfl
                            refine one_ (i := 9) (N := some 8) #[true, true, true, true, true, true, true, true, true, true, false] rfl rfl (one_of HT_.out (by kernel_rfl)) (by decide) (fun K hK => ?_)
                            refine box_step ?hg (N := 8) ?hd (cs := #[.int .i64 0, .int .i64 0]) (t := 30) ?hr ?_; (case hd => rfl); (case hg => rfl); (case hr => first | (go_simp; done) | (go_simp; rfl))
                            intro gb384 hg w36 hbox hb
                            have HS0_ := (hb.cell (World.block_lt_of_cell? _ _ (hHeld.1))).trans (hHeld.1)
                            have HS1_ := (hb.cell (World.block_lt_of_cell? _ _ (hHeld.2.1))).trans (hHeld.2.1)
                            have HS2_ := (hb.cell (World.block_lt_of_cell? _ _ (hHeld.2.2.1))).trans (hHeld.2.2.1)
                            have HS3_ := (hb.cell (World.block_lt_of_cell? _ _ (hHeld.2.2.2))).trans (hHeld.2.2.2)
                            have n0_ := Aside0.mk (Kd.R_below (Kd.R_elderB (by (with_reducible repeat (first | apply Kd.R_alloc | apply Kd.R_drewN | apply Kd.R_drew)); exact HO_0.out) gb384 (Nat.le_of_eq hg.symm)) hb)
                            have n1_ := Aside0.mk (Kd.R_below (Kd.R_elderB (by (with_reducible repeat (first | apply Kd.R_alloc | apply Kd.R_drewN | apply Kd.R_drew)); exact HO_1.out) gb384 (Nat.le_of_eq hg.symm)) hb)
                            have n2_ := Aside0.mk (Kd.R_below (Kd.R_elderB (by (with_reducible repeat (first | apply Kd.R_alloc | apply Kd.R_drewN | apply Kd.R_drew)); exact HO_5.out) gb384 (Nat.le_of_eq hg.symm)) hb)
                            have n3_ := Aside0.mk (below_step (by repeat (first | (with_reducible first | exact HB.out | apply below_alloc | apply pw_below_drewN | apply below_drew1) | exact HB.out)) hb)
                            have n4_ := Aside0.mk (hbox)
                            have n5_ := Aside0.mk ((by rw [hg]; exact (below_size (by repeat (first | (with_reducible first | exact HB.out | apply below_alloc | apply pw_below_drewN | apply below_drew1) | exact HB.out))) : w.heap.size ≤ gb384))
                            have n6_ := Aside0.mk ((by rw [hg]; exact (below_size (by repeat (first | (with_reducible first | exact HB.out | apply below_alloc | apply pw_below_drewN | apply below_drew1) | exact HB.out))) : w.heap.size ≤ gb384))
                            clear HO_0
                            clear HO_1
                            clear HO_5
                            clear HB
                            have HO_0 := n0_
                            have HO_1 := n1_
                            have HO_5 := n2_
                            have HB := n3_
                            have BK384 := n4_
                            have GW384 := n5_
                            have GE384 := n6_
                            clear n0_ n1_ n2_ n3_ n4_ n5_ n6_
                            clear hb hbox hg
                            refine hK.out _ _ ⟨HS0_, HS1_, HS2_, HS3_⟩ (fun hHeld => ?_)
                            clear hK K
                            refine norm_ (a' := ?_) ?_ ?_
                            rotate_left
                            · show Act.put _ (some 8) _ = _
                              simp only [Act.put, List.setIfInBounds_toArray, List.set_cons_zero, List.set_cons_succ, i64_w, i32_w]
                              rfl
                            exact norm_ (by simp only [putAll, Act.put, List.setIfInBounds_toArray, List.set_cons_zero, List.set_cons_succ]) (hCont (gb384) _ ⟨hHeld, (by (with_reducible repeat (first | apply Kd.R_alloc | apply Kd.R_drewN | apply Kd.R_drew)); exact Kd.R_mono HO_0.out (fun _ hk => ⟨hk.1.1, ⟨hk.1.2, hk.2⟩⟩)), (by (with_reducible repeat (first | apply Kd.R_alloc | apply Kd.R_drewN | apply Kd.R_drew)); exact Kd.R_mono HO_1.out (fun _ hk => ⟨hk.1.1, ⟨hk.1.2, hk.2⟩⟩)), (by (with_reducible repeat (first | apply Kd.R_alloc | apply Kd.R_drewN | apply Kd.R_drew)); exact Kd.R_mono HO_5.out (fun _ hk => ⟨hk.1.1, ⟨hk.1.2, hk.2⟩⟩)), (by (with_reducible repeat (first | refine blk_drewN ?_ _ | refine blk_drew ?_ | refine blk_alloc ?_ _)); exact BK384.out), GW384.out, GE384.out, (by repeat (first | (with_reducible first | exact HB.out | apply below_alloc | apply pw_below_drewN | apply below_drew1 | refine below_set ?_ GE384.out) | exact HB.out))⟩)
                          · skip
                            refine box_step ?hg (N := 8) ?hd (cs := #[.int .i64 0, .int .i64 0]) (t := 30) ?hr ?_; (case hd => rfl); (case hg => rfl); (case hr => first | (go_simp; done) | (go_simp; rfl))
                            intro gb384 hg w35 hbox hb
                            have HS0_ := (hb.cell (World.block_lt_of_cell? _ _ (hHeld.1))).trans (hHeld.1)
                            have HS1_ := (hb.cell (World.block_lt_of_cell? _ _ (hHeld.2.1))).trans (hHeld.2.1)
                            have HS2_ := (hb.cell (World.block_lt_of_cell? _ _ (hHeld.2.2.1))).trans (hHeld.2.2.1)
                            have HS3_ := (hb.cell (World.block_lt_of_cell? _ _ (hHeld.2.2.2))).trans (hHeld.2.2.2)
                            have n0_ := Aside0.mk (Kd.R_below (Kd.R_elderB (by (with_reducible repeat (first | apply Kd.R_alloc | apply Kd.R_drewN | apply Kd.R_drew)); exact HO_0.out) gb384 (Nat.le_of_eq hg.symm)) hb)
                            have n1_ := Aside0.mk (Kd.R_below (Kd.R_elderB (by (with_reducible repeat (first | apply Kd.R_alloc | apply Kd.R_drewN | apply Kd.R_drew)); exact HO_1.out) gb384 (Nat.le_of_eq hg.symm)) hb)
                            have n2_ := Aside0.mk (Kd.R_below (Kd.R_elderB (by (with_reducible repeat (first | apply Kd.R_alloc | apply Kd.R_drewN | apply Kd.R_drew)); exact HO_5.out) gb384 (Nat.le_of_eq hg.symm)) hb)
                            have n3_ := Aside0.mk (below_step (by repeat (first | (with_reducible first | exact HB.out | apply below_alloc | apply pw_below_drewN | apply below_drew1) | exact HB.out)) hb)
                            have n4_ := Aside0.mk (hbox)
                            have n5_ := Aside0.mk ((by rw [hg]; exact (below_size (by repeat (first | (with_reducible first | exact HB.out | apply below_alloc | apply pw_below_drewN | apply below_drew1) | exact HB.out))) : w.heap.size ≤ gb384))
                            have n6_ := Aside0.mk ((by rw [hg]; exact (below_size (by repeat (first | (with_reducible first | exact HB.out | apply below_alloc | apply pw_below_drewN | apply below_drew1) | exact HB.out))) : w.heap.size ≤ gb384))
                            clear HO_0
                            clear HO_1
                            clear HO_5
                            clear HB
                            have HO_0 := n0_
                            have HO_1 := n1_
                            have HO_5 := n2_
                            have HB := n3_
                            have BK384 := n4_
                            have GW384 := n5_
                            have GE384 := n6_
                            clear n0_ n1_ n2_ n3_ n4_ n5_ n6_
                            clear hb hbox hg
                            refine hK.out _ _ ⟨HS0_, HS1_, HS2_, HS3_⟩ (fun hHeld => ?_)
                            clear hK K
                            refine norm_ (a' := ?_) ?_ ?_
                            rotate_left
                            · show Act.put _ (some 8) _ = _
                              simp only [Act.put, List.setIfInBounds_toArray, List.set_cons_zero, List.set_cons_succ, i64_w, i32_w]
                              rfl
                            refine one_ (i := 8) (N := some 31) #[true, true, true, true, true, true, true, true, true, true, false] rfl rfl (one_of HT_.out (by kernel_rfl)) (by decide) (fun K hK => ?_)
                            refine goes_ Try.func55 (by kernel_rfl) rfl #[.agg #[.int .i64 ((rd_T30 t374 x6_1).f0), .int .i64 ((rd_T30 t374 x6_1).f1)], .agg #[.int .i64 ((rd_T30 t377 x7_1).f0), .int .i64 ((rd_T30 t377 x7_1).f1)]] (by rfl) rfl rfl (by (try simp only [List.map_toArray, List.map_cons, List.map_nil]); first | done | rfl | (simp only [List.length_drop, List.length_take]; rfl)) ?_
                            with_reducible refine (span_both.calls ((rd_T30 t374 x6_1).f0) ((rd_T30 t374 x6_1).f1) ((rd_T30 t377 x7_1).f0) ((rd_T30 t377 x7_1).f1) t382 t383 _ A17.out).mono ?_
                            rintro e w36 ⟨rfl, hb⟩
                            have HS0_ := (hb.cell (World.block_lt_of_cell? _ _ (hHeld.1))).trans (hHeld.1)
                            have HS1_ := (hb.cell (World.block_lt_of_cell? _ _ (hHeld.2.1))).trans (hHeld.2.1)
                            have HS2_ := (hb.cell (World.block_lt_of_cell? _ _ (hHeld.2.2.1))).trans (hHeld.2.2.1)
                            have HS3_ := (hb.cell (World.block_lt_of_cell? _ _ (hHeld.2.2.2))).trans (hHeld.2.2.2)
                            refine ⟨_, rfl, ?_⟩
                            have n0_ := Aside0.mk (Kd.R_below (by (with_reducible repeat (first | apply Kd.R_alloc | apply Kd.R_drewN | apply Kd.R_drew)); exact HO_0.out) hb)
                            have n1_ := Aside0.mk (Kd.R_below (by (with_reducible repeat (first | apply Kd.R_alloc | apply Kd.R_drewN | apply Kd.R_drew)); exact HO_1.out) hb)
                            have n2_ := Aside0.mk (Kd.R_below (by (with_reducible repeat (first | apply Kd.R_alloc | apply Kd.R_drewN | apply Kd.R_drew)); exact HO_5.out) hb)
                            have n3_ := Aside0.mk (blk_below (g := gb384) (o := .cells #[.int .i64 0, .int .i64 0] 30 (0, 0)) (by (with_reducible repeat (first | refine blk_drewN ?_ _ | refine blk_drew ?_ | refine blk_alloc ?_ _)); exact BK384.out) hb)
                            have n4_ := Aside0.mk (below_step (by repeat (first | (with_reducible first | exact HB.out | apply below_alloc | apply pw_below_drewN | apply below_drew1 | refine below_set ?_ GE384.out) | exact HB.out)) hb)
                            clear HO_0
                            clear HO_1
                            clear HO_5
                            clear BK384
                            clear HB
                            have HO_0 := n0_
                            have HO_1 := n1_
                            have HO_5 := n2_
                            have BK384 := n3_
                            have HB := n4_
                            clear n0_ n1_ n2_ n3_ n4_
                            (try clear hb)
                            (try clear hb2)
                            (try clear hk)
                            (try clear hi)
                            refine hK.out _ _ ⟨HS0_, HS1_, HS2_, HS3_⟩ (fun hHeld => ?_)
                            clear hK K
                            refine norm_ (a' := ?_) ?_ ?_
                            rotate_left
                            · show Act.put _ (some 31) _ = _
                              simp only [Act.put, List.setIfInBounds_toArray, List.set_cons_zero, List.set_cons_succ, i64_w, i32_w]
                              rfl
                            exact norm_ (by simp only [putAll, Act.put, List.setIfInBounds_toArray, List.set_cons_zero, List.set_cons_succ]) (hCont (gb384) _ ⟨hHeld, (by (with_reducible repeat (first | apply Kd.R_alloc | apply Kd.R_drewN | apply Kd.R_drew)); exact Kd.R_mono HO_0.out (fun _ hk => ⟨hk.1.1, ⟨hk.1.2, hk.2⟩⟩)), (by (with_reducible repeat (first | apply Kd.R_alloc | apply Kd.R_drewN | apply Kd.R_drew)); exact Kd.R_mono HO_1.out (fun _ hk => ⟨hk.1.1, ⟨hk.1.2, hk.2⟩⟩)), (by (with_reducible repeat (first | apply Kd.R_alloc | apply Kd.R_drewN | apply Kd.R_drew)); exact Kd.R_mono HO_5.out (fun _ hk => ⟨hk.1.1, ⟨hk.1.2, hk.2⟩⟩)), (by (with_reducible repeat (first | refine blk_drewN ?_ _ | refine blk_drew ?_ | refine blk_alloc ?_ _)); exact BK384.out), GW384.out, GE384.out, (by repeat (first | (with_reducible first | exact HB.out | apply below_alloc | apply pw_below_drewN | apply below_drew1 | refine below_set ?_ GE384.out) | exact HB.out))⟩)
                        rintro gb384 w37 ⟨hS_, h0_, h1_, h2_, h3_, h4_, h5_, h6_⟩
                        have n0_ : Aside0 (Kd.R k30 30 w37 w.heap.size (fun k_ => some k_ ≠ (.slice (some ad381) t377.length co34 : Value).ownBlock ∧ some k_ ≠ (u5 : Value).ownBlock ∧ k_ ≠ gb384) (.slice (some ad380) t374.length co33) t374) := ⟨h0_⟩
                        have n1_ : Aside0 (Kd.R k30 30 w37 w.heap.size (fun k_ => some k_ ≠ (.slice (some ad380) t374.length co33 : Value).ownBlock ∧ some k_ ≠ (u5 : Value).ownBlock ∧ k_ ≠ gb384) (.slice (some ad381) t377.length co34) t377) := ⟨h1_⟩
                        have n2_ : Aside0 (Kd.R k30 30 w37 w.heap.size (fun k_ => some k_ ≠ (.slice (some ad380) t374.length co33 : Value).ownBlock ∧ some k_ ≠ (.slice (some ad381) t377.length co34 : Value).ownBlock ∧ k_ ≠ gb384) u5 x5_1) := ⟨h2_⟩
                        have n3_ : Aside0 (w37.heap[gb384]? = some (.cells #[.int .i64 0, .int .i64 0] 30 (0, 0))) := ⟨h3_⟩
                        have n4_ : Aside0 (w.heap.size ≤ gb384) := ⟨h4_⟩
                        have n5_ : Aside0 (w.heap.size ≤ gb384) := ⟨h5_⟩
                        have n6_ : Aside0 (Below w.heap.size w w37) := ⟨h6_⟩
                        clear HO_0
                        clear HO_1
                        clear HO_5
                        clear HB
                        clear h0_ h1_ h2_ h3_ h4_ h5_ h6_
                        have HO_0 := n0_
                        have HO_1 := n1_
                        have HO_5 := n2_
                        have BK384 := n3_
                        have GW384 := n4_
                        have GE384 := n5_
                        have HB := n6_
                        clear n0_ n1_ n2_ n3_ n4_ n5_ n6_
                        have hHeld : w37.cell? (ad380.add ((x6_1).toNat * 2)) = some (.int .i64 ((rd_T30 t374 x6_1).f0)) ∧ w37.cell? ⟨(ad380.add ((x6_1).toNat * 2)).block, (ad380.add ((x6_1).toNat * 2)).off + 1, none⟩ = some (.int .i64 ((rd_T30 t374 x6_1).f1)) ∧ w37.cell? (ad381.add ((x7_1).toNat * 2)) = some (.int .i64 ((rd_T30 t377 x7_1).f0)) ∧ w37.cell? ⟨(ad381.add ((x7_1).toNat * 2)).block, (ad381.add ((x7_1).toNat * 2)).off + 1, none⟩ = some (.int .i64 ((rd_T30 t377 x7_1).f1)) := hS_
                        refine norm_ (a' := ?_) ?_ ?_
                        rotate_left
                        · simp only [putAll, Act.put, List.setIfInBounds_toArray, List.set_cons_zero, List.set_cons_succ]
                          rfl
                        refine one_ (i := 10) (N := none) #[true, true, true, true, true, true, true, true, true, true, true] rfl rfl (one_of HT_.out (by kernel_rfl)) (by decide) (fun K hK => ?_)
                        have hs38 : w37.cell? ⟨gb384, 0, none⟩ = some (.int .i64 0) := (blk_cell BK384.out 0).trans rfl
                        have hfs38 := blk_frozen BK384.out 0
                        have hs39 : w37.cell? ⟨gb384, 1, none⟩ = some (.int .i64 0) := (blk_cell BK384.out 1).trans rfl
                        have hfs39 := blk_frozen BK384.out 1
                        refine skip_ (w1 := ?_) (by rfl) rfl ?_ ?_
                        rotate_left
                        · go_simp
                          rfl
                        refine hK.out _ _ ⟨((cell_far (p := ⟨gb384, _, none⟩) (by first | exact Kd.own_blk (Kd.R_away HO_0.out (fun _ hk => hk.2.2)) | (rw [add_block]; exact Kd.own_blk (Kd.R_away HO_0.out (fun _ hk => hk.2.2))) | (show (Addr.add _ _).block ≠ _; rw [add_block]; exact Kd.own_blk (Kd.R_away HO_0.out (fun _ hk => hk.2.2))) | (dsimp only; exact Kd.own_blk (Kd.R_away HO_0.out (fun _ hk => hk.2.2)))) _).trans (((cell_far (p := ⟨gb384, _, none⟩) (by first | exact Kd.own_blk (Kd.R_away HO_0.out (fun _ hk => hk.2.2)) | (rw [add_block]; exact Kd.own_blk (Kd.R_away HO_0.out (fun _ hk => hk.2.2))) | (show (Addr.add _ _).block ≠ _; rw [add_block]; exact Kd.own_blk (Kd.R_away HO_0.out (fun _ hk => hk.2.2))) | (dsimp only; exact Kd.own_blk (Kd.R_away HO_0.out (fun _ hk => hk.2.2)))) _).trans (hHeld.1)))), ((cell_far (p := ⟨gb384, _, none⟩) (by first | exact Kd.own_blk (Kd.R_away HO_0.out (fun _ hk => hk.2.2)) | (rw [add_block]; exact Kd.own_blk (Kd.R_away HO_0.out (fun _ hk => hk.2.2))) | (show (Addr.add _ _).block ≠ _; rw [add_block]; exact Kd.own_blk (Kd.R_away HO_0.out (fun _ hk => hk.2.2))) | (dsimp only; exact Kd.own_blk (Kd.R_away HO_0.out (fun _ hk => hk.2.2)))) _).trans (((cell_far (p := ⟨gb384, _, none⟩) (by first | exact Kd.own_blk (Kd.R_away HO_0.out (fun _ hk => hk.2.2)) | (rw [add_block]; exact Kd.own_blk (Kd.R_away HO_0.out (fun _ hk => hk.2.2))) | (show (Addr.add _ _).block ≠ _; rw [add_block]; exact Kd.own_blk (Kd.R_away HO_0.out (fun _ hk => hk.2.2))) | (dsimp only; exact Kd.own_blk (Kd.R_away HO_0.out (fun _ hk => hk.2.2)))) _).trans (hHeld.2.1)))), ((cell_far (p := ⟨gb384, _, none⟩) (by first | exact Kd.own_blk (Kd.R_away HO_1.out (fun _ hk => hk.2.2)) | (rw [add_block]; exact Kd.own_blk (Kd.R_away HO_1.out (fun _ hk => hk.2.2))) | (show (Addr.add _ _).block ≠ _; rw [add_block]; exact Kd.own_blk (Kd.R_away HO_1.out (fun _ hk => hk.2.2))) | (dsimp only; exact Kd.own_blk (Kd.R_away HO_1.out (fun _ hk => hk.2.2)))) _).trans (((cell_far (p := ⟨gb384, _, none⟩) (by first | exact Kd.own_blk (Kd.R_away HO_1.out (fun _ hk => hk.2.2)) | (rw [add_block]; exact Kd.own_blk (Kd.R_away HO_1.out (fun _ hk => hk.2.2))) | (show (Addr.add _ _).block ≠ _; rw [add_block]; exact Kd.own_blk (Kd.R_away HO_1.out (fun _ hk => hk.2.2))) | (dsimp only; exact Kd.own_blk (Kd.R_away HO_1.out (fun _ hk => hk.2.2)))) _).trans (hHeld.2.2.1)))), ((cell_far (p := ⟨gb384, _, none⟩) (by first | exact Kd.own_blk (Kd.R_away HO_1.out (fun _ hk => hk.2.2)) | (rw [add_block]; exact Kd.own_blk (Kd.R_away HO_1.out (fun _ hk => hk.2.2))) | (show (Addr.add _ _).block ≠ _; rw [add_block]; exact Kd.own_blk (Kd.R_away HO_1.out (fun _ hk => hk.2.2))) | (dsimp only; exact Kd.own_blk (Kd.R_away HO_1.out (fun _ hk => hk.2.2)))) _).trans (((cell_far (p := ⟨gb384, _, none⟩) (by first | exact Kd.own_blk (Kd.R_away HO_1.out (fun _ hk => hk.2.2)) | (rw [add_block]; exact Kd.own_blk (Kd.R_away HO_1.out (fun _ hk => hk.2.2))) | (show (Addr.add _ _).block ≠ _; rw [add_block]; exact Kd.own_blk (Kd.R_away HO_1.out (fun _ hk => hk.2.2))) | (dsimp only; exact Kd.own_blk (Kd.R_away HO_1.out (fun _ hk => hk.2.2)))) _).trans (hHeld.2.2.2))))⟩ (fun hHeld => ?_)
                        clear hK K
                        refine done_ (done_of HT_.out (by kernel_rfl)) ?_
                        have hcz40_0 : w37.cell? ⟨gb384, 0, none⟩ = some (.int .i64 0) := (blk_cell BK384.out 0).trans rfl
                        have hcz40_1 : w37.cell? ⟨gb384, 1, none⟩ = some (.int .i64 0) := (blk_cell BK384.out 1).trans rfl
                        have hfz40_0 := blk_frozen BK384.out 0
                        have hfz40_1 := blk_frozen BK384.out 1
                        try go_wp2_with (first | ((with_reducible refine gate_callee (f := 48) rfl ?_); refine goesL_ (some 33) rfl rfl Try.func48 (by kernel_rfl) rfl #[.agg #[.int .i64 t382, .int .i64 t383]] rfl (by (try simp only [List.map_toArray, List.map_cons, List.map_nil]); first | done | rfl | (simp only [List.length_drop, List.length_take]; rfl)) ?_; (with_reducible refine (span_empty.calls t382 t383 true _ A18.out).mono ?_); rintro e w41 ⟨rfl, hb⟩; refine ⟨_, rfl, ?_⟩; have n0_ := Aside0.mk (Kd.R_below (by (with_reducible repeat (first | apply Kd.R_alloc | apply Kd.R_drewN | apply Kd.R_drew)); exact (Kd.R_mono (Kd.R_far (p := ⟨gb384, 1, none⟩) (Kd.R_far (p := ⟨gb384, 0, none⟩) (Kd.R_mono HO_0.out (fun k_ hk => (⟨hk, hk.2.2⟩ : _ ∧ k_ ≠ gb384))) (fun _ hk => hk.2) (.int .i64 t382)) (fun _ hk => hk.2) (.int .i64 t383)) (fun _ h_ => h_.1))) hb); have n1_ := Aside0.mk (Kd.R_below (by (with_reducible repeat (first | apply Kd.R_alloc | apply Kd.R_drewN | apply Kd.R_drew)); exact (Kd.R_mono (Kd.R_far (p := ⟨gb384, 1, none⟩) (Kd.R_far (p := ⟨gb384, 0, none⟩) (Kd.R_mono HO_1.out (fun k_ hk => (⟨hk, hk.2.2⟩ : _ ∧ k_ ≠ gb384))) (fun _ hk => hk.2) (.int .i64 t382)) (fun _ hk => hk.2) (.int .i64 t383)) (fun _ h_ => h_.1))) hb); have n2_ := Aside0.mk (Kd.R_below (by (with_reducible repeat (first | apply Kd.R_alloc | apply Kd.R_drewN | apply Kd.R_drew)); exact (Kd.R_mono (Kd.R_far (p := ⟨gb384, 1, none⟩) (Kd.R_far (p := ⟨gb384, 0, none⟩) (Kd.R_mono HO_5.out (fun k_ hk => (⟨hk, hk.2.2⟩ : _ ∧ k_ ≠ gb384))) (fun _ hk => hk.2) (.int .i64 t382)) (fun _ hk => hk.2) (.int .i64 t383)) (fun _ h_ => h_.1))) hb); have n3_ := Aside0.mk (blk_below (g := gb384) (o := .cells #[.int .i64 t382, .int .i64 t383] 30 (0, 0)) (by (with_reducible repeat (first | refine blk_drewN ?_ _ | refine blk_drew ?_ | refine blk_alloc ?_ _)); refine blk_put (cs := #[.int .i64 t382, .int .i64 0]) ?_ 1 _ rfl; (with_reducible repeat (first | refine blk_drewN ?_ _ | refine blk_drew ?_ | refine blk_alloc ?_ _)); refine blk_put (cs := #[.int .i64 0, .int .i64 0]) ?_ 0 _ rfl; (with_reducible repeat (first | refine blk_drewN ?_ _ | refine blk_drew ?_ | refine blk_alloc ?_ _)); exact BK384.out) hb); have n4_ := Aside0.mk (below_step (by repeat (first | (with_reducible first | exact HB.out | apply below_alloc | apply pw_below_drewN | apply below_drew1 | refine below_set ?_ GE384.out) | exact HB.out)) hb); clear HO_0; clear HO_1; clear HO_5; clear BK384; clear HB; have HO_0 := n0_; have HO_1 := n1_; have HO_5 := n2_; have BK384 := n3_; have HB := n4_; clear n0_ n1_ n2_ n3_ n4_; (try clear hb); (try clear hb2); (try clear hk); (try clear hi)))
                        have n0_ := Aside0.mk (Kd.R_drew HO_0.out)
                        have n1_ := Aside0.mk (Kd.R_drew HO_1.out)
                        have n2_ := Aside0.mk (Kd.R_drew HO_5.out)
                        have n3_ := Aside0.mk (blk_drew BK384.out)
                        have n4_ := Aside0.mk (below_drew1 HB.out)
                        clear HO_0
                        clear HO_1
                        clear HO_5
                        clear BK384
                        clear HB
                        have HO_0 := n0_
                        have HO_1 := n1_
                        have HO_5 := n2_
                        have BK384 := n3_
                        have HB := n4_
                        clear n0_ n1_ n2_ n3_ n4_
                        have p386 : 0 ≤ (x6_1 : Int) := of_decide_eq_true (by first | (with_reducible assumption) | assumption)
                        have q386 : x6_1 < (t374.length : Int) := of_decide_eq_true (by first | (with_reducible assumption) | assumption)
                        obtain ⟨ad386, e386, hx386_0, hx386_1⟩ := at_T30 (Kd.R_reads' HO_0.out).2.2 x6_1 p386 q386
                        obtain rfl : ad380 = ad386 := (by injection e386)
                        replace p386 := eq_true p386
                        replace q386 := eq_true q386
                        have p387 : 0 ≤ (x7_1 : Int) := of_decide_eq_true (by first | (with_reducible assumption) | assumption)
                        have q387 : x7_1 < (t377.length : Int) := of_decide_eq_true (by first | (with_reducible assumption) | assumption)
                        obtain ⟨ad387, e387, hx387_0, hx387_1⟩ := at_T30 (Kd.R_reads' HO_1.out).2.2 x7_1 p387 q387
                        obtain rfl : ad381 = ad387 := (by injection e387)
                        replace p387 := eq_true p387
                        replace q387 := eq_true q387
                        refine start_ (n := 11) (S := fun w' => w'.cell? (ad380.add ((x6_1).toNat * 2)) = some (.int .i64 ((rd_T30 t374 x6_1).f0)) ∧ w'.cell? ⟨(ad380.add ((x6_1).toNat * 2)).block, (ad380.add ((x6_1).toNat * 2)).off + 1, none⟩ = some (.int .i64 ((rd_T30 t374 x6_1).f1)) ∧ w'.cell? (ad381.add ((x7_1).toNat * 2)) = some (.int .i64 ((rd_T30 t377 x7_1).f0)) ∧ w'.cell? ⟨(ad381.add ((x7_1).toNat * 2)).block, (ad381.add ((x7_1).toNat * 2)).off + 1, none⟩ = some (.int .i64 ((rd_T30 t377 x7_1).f1))) (ds := []) #[false, false, false, false, false, false, false, false, false, false, false] (by kernel_rfl) rfl rfl ⟨hx386_0, hx386_1, hx387_0, hx387_1⟩ (fun hHeld => ?_); refine with_tabW span_Meet.tab8 span_Meet.bits8 (fun HT_ HW_ => ?_)
                        generalize w41.drew = w42 at HO_0 HO_1 HO_5 BK384 HB hx386_0 hx386_1 hx387_0 hx387_1 hHeld ⊢
                        refine pure_ (i := 0) (N := some 39) (v := ?_) (a' := ?_) #[true, false, false, false, false, false, false, false, false, false, false] rfl rfl (any_of HT_.out (by kernel_rfl)) (fun _ _ _ h => h) (Or.inl ⟨by rfl, ?_⟩) ?_ ?_
                        rotate_left
                        · intro w'
                          go_simp
                          with_reducible rfl
                        rotate_left
                        · simp only [Act.put, List.setIfInBounds_toArray, List.set_cons_zero, List.set_cons_succ, i64_w, i32_w]
                          rfl
                        refine pure_ (i := 1) (N := some 40) (v := ?_) (a' := ?_) #[true, true, false, false, false, false, false, false, false, false, false] rfl rfl (any_of HT_.out (by kernel_rfl)) (fun _ _ _ h => h) (Or.inl ⟨by rfl, ?_⟩) ?_ ?_
                        rotate_left
                        · intro w'
                          go_simp
                          with_reducible rfl
                        rotate_left
                        · simp only [Act.put, List.setIfInBounds_toArray, List.set_cons_zero, List.set_cons_succ, i64_w, i32_w]
                          rfl
                        refine pure_ (i := 2) (N := some 41) (v := ?_) (a' := ?_) #[true, true, true, false, false, false, false, false, false, false, false] rfl rfl (any_of HT_.out (by kernel_rfl)) (fun _ _ _ h => h) (Or.inl ⟨by rfl, ?_⟩) ?_ ?_
                        rotate_left
                        · intro w'
                          go_simp
                          with_reducible rfl
                        rotate_left
                        · simp only [Act.put, List.setIfInBounds_toArray, List.set_cons_zero, List.set_cons_succ, i64_w, i32_w]
                          rfl
                        refine pure_ (i := 3) (N := some 42) (v := ?_) (a' := ?_) #[true, true, true, true, false, false, false, false, false, false, false] rfl rfl (any_of HT_.out (by kernel_rfl)) (fun _ _ _ h => h) (Or.inl ⟨by rfl, ?_⟩) ?_ ?_
                        rotate_left
                        · intro w'
                          go_simp
                          with_reducible rfl
                        rotate_left
                        · simp only [Act.put, List.setIfInBounds_toArray, List.set_cons_zero, List.set_cons_succ, i64_w, i32_w]
                          rfl
                        refine pure_ (i := 5) (N := some 44) (v := ?_) (a' := ?_) #[true, true, true, true, false, true, false, false, false, false, false] rfl rfl (any_of HT_.out (by kernel_rfl)) (fun _ _ _ h => h) (Or.inl ⟨by rfl, ?_⟩) ?_ ?_
                        rotate_left
                        · intro w'
                          go_simp
                          with_reducible rfl
                        rotate_left
                        · simp only [Act.put, List.setIfInBounds_toArray, List.set_cons_zero, List.set_cons_succ, i64_w, i32_w]
                          rfl
                        refine pure_ (i := 6) (N := some 45) (v := ?_) (a' := ?_) #[true, true, true, true, false, true, true, false, false, false, false] rfl rfl (any_of HT_.out (by kernel_rfl)) (fun _ _ _ h => h) (Or.inl ⟨by rfl, ?_⟩) ?_ ?_
                        rotate_left
                        · intro w'
                          go_simp
                          with_reducible rfl
                        rotate_left
                        · simp only [Act.put, List.setIfInBounds_toArray, List.set_cons_zero, List.set_cons_succ, i64_w, i32_w]
                          rfl
                        refine pure_ (i := 7) (N := some 46) (v := ?_) (a' := ?_) #[true, true, true, true, false, true, true, true, false, false, false] rfl rfl (any_of HT_.out (by kernel_rfl)) (fun _ _ _ h => h) (Or.inl ⟨by rfl, ?_⟩) ?_ ?_
                        rotate_left
                        · intro w'
                          go_simp
                          with_reducible rfl
                        rotate_left
                        · simp only [Act.put, List.setIfInBounds_toArray, List.set_cons_zero, List.set_cons_succ, i64_w, i32_w]
                          rfl
                        refine pure_ (i := 8) (N := some 47) (v := ?_) (a' := ?_) #[true, true, true, true, false, true, true, true, true, false, false] rfl rfl (any_of HT_.out (by kernel_rfl)) (fun _ _ _ h => h) (Or.inl ⟨by rfl, ?_⟩) ?_ ?_
                        rotate_left
                        · intro w'
                          go_simp
                          with_reducible rfl
                        rotate_left
                        · simp only [Act.put, List.setIfInBounds_toArray, List.set_cons_zero, List.set_cons_succ, i64_w, i32_w]
                          rfl
                        refine take_ (i := 4) (N := some 43) (v := ?_) (a' := ?_) #[true, true, true, true, true, true, true, true, true, false, false] rfl rfl (take_ofW HT_.out HW_.out (by kernel_rfl)) (fun _ _ _ h => h) (Or.inl ⟨by rfl, ?_⟩) hHeld ?_ ?_
                        rotate_left
                        · rintro w' ⟨s0, s1, s2, s3⟩
                          go_simp
                          with_reducible rfl
                        rotate_left
                        · simp only [Act.put, List.setIfInBounds_toArray, List.set_cons_zero, List.set_cons_succ, i64_w, i32_w]
                          rfl
                        refine take_ (i := 9) (N := some 48) (v := ?_) (a' := ?_) #[true, true, true, true, true, true, true, true, true, true, false] rfl rfl (take_ofW HT_.out HW_.out (by kernel_rfl)) (fun _ _ _ h => h) (Or.inl ⟨by rfl, ?_⟩) hHeld ?_ ?_
                        rotate_left
                        · rintro w' ⟨s0, s1, s2, s3⟩
                          go_simp
                          with_reducible rfl
                        rotate_left
                        · simp only [Act.put, List.setIfInBounds_toArray, List.set_cons_zero, List.set_cons_succ, i64_w, i32_w]
                          rfl
                        refine pure_ (i := 10) (N := some 49) (v := ?_) (a' := ?_) #[true, true, true, true, true, true, true, true, true, true, true] rfl rfl (any_of HT_.out (by kernel_rfl)) (fun _ _ _ h => h) (Or.inl ⟨by rfl, ?_⟩) ?_ ?_
                        rotate_left
                        · intro w'
                          go_simp
                          with_reducible rfl
                        rotate_left
                        · simp only [Act.put, List.setIfInBounds_toArray, List.set_cons_zero, List.set_cons_succ, i64_w, i32_w]
                          rfl
                        refine done_ (done_of HT_.out (by kernel_rfl)) ?_
                        try go_wp2
                        go_roundg kj6
                        case measure => have := HK1.out; have := HJ6.out; omega
                        case rel => exact ⟨(x5_1), (x6_1), (wrap64 (x7_1 + 1)), (by first | rfl | (simp; done) | (simp [*]; done)), (by first | rfl | (simp; done) | (simp [*]; done)), H', ⟨by have := HK1.out; have := HJ6.out; omega⟩, ⟨by (with_reducible repeat (first | apply Kd.R_alloc | apply Kd.R_drewN | apply Kd.R_drew)); exact Kd.R_mono HO_0.out (fun _ hk => ⟨hk.1, hk.2.1⟩)⟩, ⟨by (with_reducible repeat (first | apply Kd.R_alloc | apply Kd.R_drewN | apply Kd.R_drew)); exact Kd.R_mono HO_1.out (fun _ hk => ⟨hk.1, hk.2.1⟩)⟩, ⟨by (with_reducible repeat (first | apply Kd.R_alloc | apply Kd.R_drewN | apply Kd.R_drew)); exact Kd.R_mono HO_5.out (fun _ hk => ⟨hk.1, hk.2.1⟩)⟩, ⟨by repeat (first | (with_reducible first | exact HB.out | apply below_alloc | apply pw_below_drewN | apply below_drew1 | refine below_set ?_ GE384.out) | exact HB.out)⟩⟩
                    · replace c19 := Bool.eq_false_iff.mpr c19
                      subst c19
                      have H1 : (if x5_1.length < 8796093022208 then ((some (x5_1 ++ [(⟨t382, t383⟩ : S30)] : List (S30))).bind fun y388 => (if ((rd_T30 t374 x6_1).f1) < ((rd_T30 t377 x7_1).f1) then (span_Meet.l0 kj6 t374 t377 y388 (wrap64 (x6_1 + 1)) x7_1) else (span_Meet.l0 kj6 t374 t377 y388 x6_1 (wrap64 (x7_1 + 1))))) else (none)) = some r := by rw [if_neg (show ¬ (false = true) by decide)] at H; exact H
                      clear H
                      have H := H1
                      clear H1
                      by_cases c43 : x5_1.length < 8796093022208
                      · rw [if_pos c43] at H
                        have LMc43 := Aside0.mk c43
                        clear c43
                        obtain ⟨y388, hy388⟩ : ∃ y_ : List (S30), y_ = (x5_1 ++ [(⟨t382, t383⟩ : S30)]) := ⟨_, rfl⟩
                        replace H : (if ((rd_T30 t374 x6_1).f1) < ((rd_T30 t377 x7_1).f1) then (span_Meet.l0 kj6 t374 t377 y388 (wrap64 (x6_1 + 1)) x7_1) else (span_Meet.l0 kj6 t374 t377 y388 x6_1 (wrap64 (x7_1 + 1)))) = some r := by first | (rw [hy388]; with_reducible exact H) | (have H2_ := (Option.bind_some _ _).symm.trans H; rw [hy388]; with_reducible exact H2_) | (have H2_ := (Option.bind_some _ _).symm.trans H; with_reducible exact H2_) | with_reducible exact H | (rw [hy388]; exact H) | exact H
                        have Ny388 := Aside0.mk hy388
                        clear hy388
                        by_cases c44 : ((rd_T30 t374 x6_1).f1) < ((rd_T30 t377 x7_1).f1)
                        · rw [if_pos c44] at H
                          have c44b0 : decide (((rd_T30 t374 x6_1).f1) < ((rd_T30 t377 x7_1).f1)) = true := decide_eq_true c44
                          clear c44
                          have H' := Aside0.mk H
                          clear H
                          try go_wp2
                          have n0_ := Aside0.mk (Kd.R_drew HO_0.out)
                          have n1_ := Aside0.mk (Kd.R_drew HO_1.out)
                          have n2_ := Aside0.mk (Kd.R_drew HO_5.out)
                          have n3_ := Aside0.mk (below_drew1 HB.out)
                          clear HO_0
                          clear HO_1
                          clear HO_5
                          clear HB
                          have HO_0 := n0_
                          have HO_1 := n1_
                          have HO_5 := n2_
                          have HB := n3_
                          clear n0_ n1_ n2_ n3_
                          obtain ⟨Ao46, co46, eo46⟩ := Kd.R_slice HO_0.out
                          (first | subst eo46 | (injection eo46 with f1_ f2_ f3_; have f4_ := f1_.symm; have f5_ := f3_.symm; clear f1_ f2_ f3_; subst f4_; subst f5_))
                          have p380 : 0 ≤ (x6_1 : Int) := of_decide_eq_true (by first | (with_reducible assumption) | assumption)
                          have q380 : x6_1 < (t374.length : Int) := of_decide_eq_true (by first | (with_reducible assumption) | assumption)
                          obtain ⟨ad380, e380, hx380_0, hx380_1⟩ := at_T30 (Kd.R_reads' HO_0.out).2.2 x6_1 p380 q380
                          cases e380
                          replace p380 := eq_true p380
                          replace q380 := eq_true q380
                          obtain ⟨Ao47, co47, eo47⟩ := Kd.R_slice HO_1.out
                          (first | subst eo47 | (injection eo47 with f1_ f2_ f3_; have f4_ := f1_.symm; have f5_ := f3_.symm; clear f1_ f2_ f3_; subst f4_; subst f5_))
                          have p381 : 0 ≤ (x7_1 : Int) := of_decide_eq_true (by first | (with_reducible assumption) | assumption)
                          have q381 : x7_1 < (t377.length : Int) := of_decide_eq_true (by first | (with_reducible assumption) | assumption)
                          obtain ⟨ad381, e381, hx381_0, hx381_1⟩ := at_T30 (Kd.R_reads' HO_1.out).2.2 x7_1 p381 q381
                          cases e381
                          replace p381 := eq_true p381
                          replace q381 := eq_true q381
                          refine start_ (n := 11) (S := fun w' => w'.cell? (ad380.add ((x6_1).toNat * 2)) = some (.int .i64 ((rd_T30 t374 x6_1).f0)) ∧ w'.cell? ⟨(ad380.add ((x6_1).toNat * 2)).block, (ad380.add ((x6_1).toNat * 2)).off + 1, none⟩ = some (.int .i64 ((rd_T30 t374 x6_1).f1)) ∧ w'.cell? (ad381.add ((x7_1).toNat * 2)) = some (.int .i64 ((rd_T30 t377 x7_1).f0)) ∧ w'.cell? ⟨(ad381.add ((x7_1).toNat * 2)).block, (ad381.add ((x7_1).toNat * 2)).off + 1, none⟩ = some (.int .i64 ((rd_T30 t377 x7_1).f1))) (ds := []) #[false, false, false, false, false, false, false, false, false, false, false] (by kernel_rfl) rfl rfl ⟨hx380_0, hx380_1, hx381_0, hx381_1⟩ (fun hHeld => ?_); refine with_tabW span_Meet.tab5 span_Meet.bits5 (fun HT_ HW_ => ?_)
                          generalize wc.drew = w45 at HO_0 HO_1 HO_5 HB hx380_0 hx380_1 hx381_0 hx381_1 hHeld ⊢
                          refine pure_ (i := 0) (N := some 23) (v := ?_) (a' := ?_) #[true, false, false, false, false, false, false, false, false, false, false] rfl rfl (any_of HT_.out (by kernel_rfl)) (fun _ _ _ h => h) (Or.inl ⟨by rfl, ?_⟩) ?_ ?_
                          rotate_left
                          · intro w'
                            go_simp
                            with_reducible rfl
                          rotate_left
                          · simp only [Act.put, List.setIfInBounds_toArray, List.set_cons_zero, List.set_cons_succ, i64_w, i32_w]
                            rfl
                          refine pure_ (i := 1) (N := some 24) (v := ?_) (a' := ?_) #[true, true, false, false, false, false, false, false, false, false, false] rfl rfl (any_of HT_.out (by kernel_rfl)) (fun _ _ _ h => h) (Or.inl ⟨by rfl, ?_⟩) ?_ ?_
                          rotate_left
                          · intro w'
                            go_simp
                            with_reducible rfl
                          rotate_left
                          · simp only [Act.put, List.setIfInBounds_toArray, List.set_cons_zero, List.set_cons_succ, i64_w, i32_w]
                            rfl
                          refine pure_ (i := 2) (N := some 25) (v := ?_) (a' := ?_) #[true, true, true, false, false, false, false, false, false, false, false] rfl rfl (any_of HT_.out (by kernel_rfl)) (fun _ _ _ h => h) (Or.inl ⟨by rfl, ?_⟩) ?_ ?_
                          rotate_left
                          · intro w'
                            go_simp
                            with_reducible rfl
                          rotate_left
                          · simp only [Act.put, List.setIfInBounds_toArray, List.set_cons_zero, List.set_cons_succ, i64_w, i32_w]
                            rfl
                          refine pure_ (i := 4) (N := some 27) (v := ?_) (a' := ?_) #[true, true, true, false, true, false, false, false, false, false, false] rfl rfl (any_of HT_.out (by kernel_rfl)) (fun _ _ _ h => h) (Or.inl ⟨by rfl, ?_⟩) ?_ ?_
                          rotate_left
                          · intro w'
                            go_simp
                            with_reducible rfl
                          rotate_left
                          · simp only [Act.put, List.setIfInBounds_toArray, List.set_cons_zero, List.set_cons_succ, i64_w, i32_w]
                            rfl
                          refine pure_ (i := 5) (N := some 28) (v := ?_) (a' := ?_) #[true, true, true, false, true, true, false, false, false, false, false] rfl rfl (any_of HT_.out (by kernel_rfl)) (fun _ _ _ h => h) (Or.inl ⟨by rfl, ?_⟩) ?_ ?_
                          rotate_left
                          · intro w'
                            go_simp
                            with_reducible rfl
                          rotate_left
                          · simp only [Act.put, List.setIfInBounds_toArray, List.set_cons_zero, List.set_cons_succ, i64_w, i32_w]
                            rfl
                          refine pure_ (i := 6) (N := some 29) (v := ?_) (a' := ?_) #[true, true, true, false, true, true, true, false, false, false, false] rfl rfl (any_of HT_.out (by kernel_rfl)) (fun _ _ _ h => h) (Or.inl ⟨by rfl, ?_⟩) ?_ ?_
                          rotate_left
                          · intro w'
                            go_simp
                            with_reducible rfl
                          rotate_left
                          · simp only [Act.put, List.setIfInBounds_toArray, List.set_cons_zero, List.set_cons_succ, i64_w, i32_w]
                            rfl
                          refine take_ (i := 3) (N := some 26) (v := ?_) (a' := ?_) #[true, true, true, true, true, true, true, false, false, false, false] rfl rfl (take_ofW HT_.out HW_.out (by kernel_rfl)) (fun _ _ _ h => h) (Or.inl ⟨by rfl, ?_⟩) hHeld ?_ ?_
                          rotate_left
                          · rintro w' ⟨s0, s1, s2, s3⟩
                            go_simp
                            with_reducible rfl
                          rotate_left
                          · simp only [Act.put, List.setIfInBounds_toArray, List.set_cons_zero, List.set_cons_succ, i64_w, i32_w]
                            rfl
                          refine take_ (i := 7) (N := some 30) (v := ?_) (a' := ?_) #[true, true, true, true, true, true, true, true, false, false, false] rfl rfl (take_ofW HT_.out HW_.out (by kernel_rfl)) (fun _ _ _ h => h) (Or.inl ⟨by rfl, ?_⟩) hHeld ?_ ?_
                          rotate_left
                          · rintro w' ⟨s0, s1, s2, s3⟩
                            go_simp
                            with_reducible rfl
                          rotate_left
                          · simp only [Act.put, List.setIfInBounds_toArray, List.set_cons_zero, List.set_cons_succ, i64_w, i32_w]
                            rfl
                          refine join_ (σ := Nat) 1 #[true, true, true, true, true, true, true, true, true, true, false] (fun s_ => [(31, .agg #[.int .i64 t382, .int .i64 t383]), (8, .pointer (some ⟨s_, 0, none⟩))]) (fun s_ w' => (w'.cell? (ad380.add ((x6_1).toNat * 2)) = some (.int .i64 ((rd_T30 t374 x6_1).f0)) ∧ w'.cell? ⟨(ad380.add ((x6_1).toNat * 2)).block, (ad380.add ((x6_1).toNat * 2)).off + 1, none⟩ = some (.int .i64 ((rd_T30 t374 x6_1).f1)) ∧ w'.cell? (ad381.add ((x7_1).toNat * 2)) = some (.int .i64 ((rd_T30 t377 x7_1).f0)) ∧ w'.cell? ⟨(ad381.add ((x7_1).toNat * 2)).block, (ad381.add ((x7_1).toNat * 2)).off + 1, none⟩ = some (.int .i64 ((rd_T30 t377 x7_1).f1))) ∧ (Kd.R k30 30 w' w.heap.size (fun k_ => some k_ ≠ (.slice (some ad381) t377.length co47 : Value).ownBlock ∧ some k_ ≠ (u5 : Value).ownBlock ∧ k_ ≠ s_) (.slice (some ad380) t374.length co46) t374) ∧ (Kd.R k30 30 w' w.heap.size (fun k_ => some k_ ≠ (.slice (some ad380) t374.length co46 : Value).ownBlock ∧ some k_ ≠ (u5 : Value).ownBlock ∧ k_ ≠ s_) (.slice (some ad381) t377.length co47) t377) ∧ (Kd.R k30 30 w' w.heap.size (fun k_ => some k_ ≠ (.slice (some ad380) t374.length co46 : Value).ownBlock ∧ some k_ ≠ (.slice (some ad381) t377.length co47 : Value).ownBlock ∧ k_ ≠ s_) u5 x5_1) ∧ (w'.heap[s_]? = some (.cells #[.int .i64 0, .int .i64 0] 30 (0, 0))) ∧ (w.heap.size ≤ s_) ∧ (w.heap.size ≤ s_) ∧ (Below w.heap.size w w')) ?_ ?_
                          rotate_left
                          · intro hCont
                            refine two_ (i := 8) (j := 9) (Ni := some 31) (Nj := some 8) #[true, true, true, true, true, true, true, true, true, false, false] #[true, true, true, true, true, true, true, true, false, true, false] rfl rfl rfl rfl (two_of HT_.out (by kernel_rfl)) (by decide) (by decide) (fun K hK => ?_) (fun K hK => ?_)
                            · skip
                              refine goes_ Try.func55 (by kernel_rfl) rfl #[.agg #[.int .i64 ((rd_T30 t374 x6_1).f0), .int .i64 ((rd_T30 t374 x6_1).f1)], .agg #[.int .i64 ((rd_T30 t377 x7_1).f0), .int .i64 ((rd_T30 t377 x7_1).f1)]] (by rfl) rfl rfl (by (try simp only [List.map_toArray, List.map_cons, List.map_nil]); first | done | rfl | (simp only [List.length_drop, List.length_take]; rfl)) ?_
                              with_reducible refine (span_both.calls ((rd_T30 t374 x6_1).f0) ((rd_T30 t374 x6_1).f1) ((rd_T30 t377 x7_1).f0) ((rd_T30 t377 x7_1).f1) t382 t383 _ A17.out).mono ?_
                              rintro e w48 ⟨rfl, hb⟩
                              have HS0_ := (hb.cell (World.block_lt_of_cell? _ _ (hHeld.1))).trans (hHeld.1)
                              have HS1_ := (hb.cell (World.block_lt_of_cell? _ _ (hHeld.2.1))).trans (hHeld.2.1)
                              have HS2_ := (hb.cell (World.block_lt_of_cell? _ _ (hHeld.2.2.1))).trans (hHeld.2.2.1)
                              have HS3_ := (hb.cell (World.block_lt_of_cell? _ _ (hHeld.2.2.2))).trans (hHeld.2.2.2)
                              refine ⟨_, rfl, ?_⟩
                              have n0_ := Aside0.mk (Kd.R_below (by (with_reducible repeat (first | apply Kd.R_alloc | apply Kd.R_drewN | apply Kd.R_drew)); exact HO_0.out) hb)
                              have n1_ := Aside0.mk (Kd.R_below (by (with_reducible repeat (first | apply Kd.R_alloc | apply Kd.R_drewN | apply Kd.R_drew)); exact HO_1.out) hb)
                              have n2_ := Aside0.mk (Kd.R_below (by (with_reducible repeat (first | apply Kd.R_alloc | apply Kd.R_drewN | apply Kd.R_drew)); exact HO_5.out) hb)
                              have n3_ := Aside0.mk (below_step (by repeat (first | (with_reducible first | exact HB.out | apply below_alloc | apply pw_below_drewN | apply below_drew1) | exact HB.out)) hb)
                              clear HO_0
                              clear HO_1
                              clear HO_5
                              clear HB
                              have HO_0 := n0_
                              have HO_1 := n1_
                              have HO_5 := n2_
                              have HB := n3_
                              clear n0_ n1_ n2_ n3_
                              (try clear hb)
                              (try clear hb2)
                              (try clear hk)
                              (try clear hi)
                              refine hK.out _ _ ⟨HS0_, HS1_, HS2_, HS3_⟩ (fun hHeld => ?_)
                              clear hK K
                              refine norm_ (a' := ?_) ?_ ?_
                              rotate_left
                              · show Act.put _ (some 31) _ = _
                                simp only [Act.put, List.setIfInBounds_toArray, List.set_cons_zero, List.set_cons_succ, i64_w, i32_w]
                                rfl
                              refine one_ (i := 9) (N := some 8) #[true, true, true, true, true, true, true, true, true, true, false] rfl rfl (one_of HT_.out (by kernel_rfl)) (by decide) (fun K hK => ?_)
                              refine box_step ?hg (N := 8) ?hd (cs := #[.int .i64 0, .int .i64 0]) (t := 30) ?hr ?_; (case hd => rfl); (case hg => rfl); (case hr => first | (go_simp; done) | (go_simp; rfl))
                              intro gb384 hg w49 hbox hb
                              have HS0_ := (hb.cell (World.block_lt_of_cell? _ _ (hHeld.1))).trans (hHeld.1)
                              have HS1_ := (hb.cell (World.block_lt_of_cell? _ _ (hHeld.2.1))).trans (hHeld.2.1)
                              have HS2_ := (hb.cell (World.block_lt_of_cell? _ _ (hHeld.2.2.1))).trans (hHeld.2.2.1)
                              have HS3_ := (hb.cell (World.block_lt_of_cell? _ _ (hHeld.2.2.2))).trans (hHeld.2.2.2)
                              have n0_ := Aside0.mk (Kd.R_below (Kd.R_elderB (by (with_reducible repeat (first | apply Kd.R_alloc | apply Kd.R_drewN | apply Kd.R_drew)); exact HO_0.out) gb384 (Nat.le_of_eq hg.symm)) hb)
                              have n1_ := Aside0.mk (Kd.R_below (Kd.R_elderB (by (with_reducible repeat (first | apply Kd.R_alloc | apply Kd.R_drewN | apply Kd.R_drew)); exact HO_1.out) gb384 (Nat.le_of_eq hg.symm)) hb)
                              have n2_ := Aside0.mk (Kd.R_below (Kd.R_elderB (by (with_reducible repeat (first | apply Kd.R_alloc | apply Kd.R_drewN | apply Kd.R_drew)); exact HO_5.out) gb384 (Nat.le_of_eq hg.symm)) hb)
                              have n3_ := Aside0.mk (below_step (by repeat (first | (with_reducible first | exact HB.out | apply below_alloc | apply pw_below_drewN | apply below_drew1) | exact HB.out)) hb)
                              have n4_ := Aside0.mk (hbox)
                              have n5_ := Aside0.mk ((by rw [hg]; exact (below_size (by repeat (first | (with_reducible first | exact HB.out | apply below_alloc | apply pw_below_drewN | apply below_drew1) | exact HB.out))) : w.heap.size ≤ gb384))
                              have n6_ := Aside0.mk ((by rw [hg]; exact (below_size (by repeat (first | (with_reducible first | exact HB.out | apply below_alloc | apply pw_below_drewN | apply below_drew1) | exact HB.out))) : w.heap.size ≤ gb384))
                              clear HO_0
                              clear HO_1
                              clear HO_5
                              clear HB
                              have HO_0 := n0_
                              have HO_1 := n1_
                              have HO_5 := n2_
                              have HB := n3_
                              have BK384 := n4_
                              have GW384 := n5_
                              have GE384 := n6_
                              clear n0_ n1_ n2_ n3_ n4_ n5_ n6_
                              clear hb hbox hg
                              refine hK.out _ _ ⟨HS0_, HS1_, HS2_, HS3_⟩ (fun hHeld => ?_)
                              clear hK K
                              refine norm_ (a' := ?_) ?_ ?_
                              rotate_left
                              · show Act.put _ (some 8) _ = _
                                simp only [Act.put, List.setIfInBounds_toArray, List.set_cons_zero, List.set_cons_succ, i64_w, i32_w]
                                rfl
                              exact norm_ (by simp only [putAll, Act.put, List.setIfInBounds_toArray, List.set_cons_zero, List.set_cons_succ]) (hCont (gb384) _ ⟨hHeld, (by (with_reducible repeat (first | apply Kd.R_alloc | apply Kd.R_drewN | apply Kd.R_drew)); exact Kd.R_mono HO_0.out (fun _ hk => ⟨hk.1.1, ⟨hk.1.2, hk.2⟩⟩)), (by (with_reducible repeat (first | apply Kd.R_alloc | apply Kd.R_drewN | apply Kd.R_drew)); exact Kd.R_mono HO_1.out (fun _ hk => ⟨hk.1.1, ⟨hk.1.2, hk.2⟩⟩)), (by (with_reducible repeat (first | apply Kd.R_alloc | apply Kd.R_drewN | apply Kd.R_drew)); exact Kd.R_mono HO_5.out (fun _ hk => ⟨hk.1.1, ⟨hk.1.2, hk.2⟩⟩)), (by (with_reducible repeat (first | refine blk_drewN ?_ _ | refine blk_drew ?_ | refine blk_alloc ?_ _)); exact BK384.out), GW384.out, GE384.out, (by repeat (first | (with_reducible first | exact HB.out | apply below_alloc | apply pw_below_drewN | apply below_drew1 | refine below_set ?_ GE384.out) | exact HB.out))⟩)
                            · skip
                              refine box_step ?hg (N := 8) ?hd (cs := #[.int .i64 0, .int .i64 0]) (t := 30) ?hr ?_; (case hd => rfl); (case hg => rfl); (case hr => first | (go_simp; done) | (go_simp; rfl))
                              intro gb384 hg w48 hbox hb
                              have HS0_ := (hb.cell (World.block_lt_of_cell? _ _ (hHeld.1))).trans (hHeld.1)
                              have HS1_ := (hb.cell (World.block_lt_of_cell? _ _ (hHeld.2.1))).trans (hHeld.2.1)
                              have HS2_ := (hb.cell (World.block_lt_of_cell? _ _ (hHeld.2.2.1))).trans (hHeld.2.2.1)
                              have HS3_ := (hb.cell (World.block_lt_of_cell? _ _ (hHeld.2.2.2))).trans (hHeld.2.2.2)
                              have n0_ := Aside0.mk (Kd.R_below (Kd.R_elderB (by (with_reducible repeat (first | apply Kd.R_alloc | apply Kd.R_drewN | apply Kd.R_drew)); exact HO_0.out) gb384 (Nat.le_of_eq hg.symm)) hb)
                              have n1_ := Aside0.mk (Kd.R_below (Kd.R_elderB (by (with_reducible repeat (first | apply Kd.R_alloc | apply Kd.R_drewN | apply Kd.R_drew)); exact HO_1.out) gb384 (Nat.le_of_eq hg.symm)) hb)
                              have n2_ := Aside0.mk (Kd.R_below (Kd.R_elderB (by (with_reducible repeat (first | apply Kd.R_alloc | apply Kd.R_drewN | apply Kd.R_drew)); exact HO_5.out) gb384 (Nat.le_of_eq hg.symm)) hb)
                              have n3_ := Aside0.mk (below_step (by repeat (first | (with_reducible first | exact HB.out | apply below_alloc | apply pw_below_drewN | apply below_drew1) | exact HB.out)) hb)
                              have n4_ := Aside0.mk (hbox)
                              have n5_ := Aside0.mk ((by rw [hg]; exact (below_size (by repeat (first | (with_reducible first | exact HB.out | apply below_alloc | apply pw_below_drewN | apply below_drew1) | exact HB.out))) : w.heap.size ≤ gb384))
                              have n6_ := Aside0.mk ((by rw [hg]; exact (below_size (by repeat (first | (with_reducible first | exact HB.out | apply below_alloc | apply pw_below_drewN | apply below_drew1) | exact HB.out))) : w.heap.size ≤ gb384))
                              clear HO_0
                              clear HO_1
                              clear HO_5
                              clear HB
                              have HO_0 := n0_
                              have HO_1 := n1_
                              have HO_5 := n2_
                              have HB := n3_
                              have BK384 := n4_
                              have GW384 := n5_
                              have GE384 := n6_
                              clear n0_ n1_ n2_ n3_ n4_ n5_ n6_
                              clear hb hbox hg
                              refine hK.out _ _ ⟨HS0_, HS1_, HS2_, HS3_⟩ (fun hHeld => ?_)
                              clear hK K
                              refine norm_ (a' := ?_) ?_ ?_
                              rotate_left
                              · show Act.put _ (some 8) _ = _
                                simp only [Act.put, List.setIfInBounds_toArray, List.set_cons_zero, List.set_cons_succ, i64_w, i32_w]
                                rfl
                              refine one_ (i := 8) (N := some 31) #[true, true, true, true, true, true, true, true, true, true, false] rfl rfl (one_of HT_.out (by kernel_rfl)) (by decide) (fun K hK => ?_)
                              refine goes_ Try.func55 (by kernel_rfl) rfl #[.agg #[.int .i64 ((rd_T30 t374 x6_1).f0), .int .i64 ((rd_T30 t374 x6_1).f1)], .agg #[.int .i64 ((rd_T30 t377 x7_1).f0), .int .i64 ((rd_T30 t377 x7_1).f1)]] (by rfl) rfl rfl (by (try simp only [List.map_toArray, List.map_cons, List.map_nil]); first | done | rfl | (simp only [List.length_drop, List.length_take]; rfl)) ?_
                              with_reducible refine (span_both.calls ((rd_T30 t374 x6_1).f0) ((rd_T30 t374 x6_1).f1) ((rd_T30 t377 x7_1).f0) ((rd_T30 t377 x7_1).f1) t382 t383 _ A17.out).mono ?_
                              rintro e w49 ⟨rfl, hb⟩
                              have HS0_ := (hb.cell (World.block_lt_of_cell? _ _ (hHeld.1))).trans (hHeld.1)
                              have HS1_ := (hb.cell (World.block_lt_of_cell? _ _ (hHeld.2.1))).trans (hHeld.2.1)
                              have HS2_ := (hb.cell (World.block_lt_of_cell? _ _ (hHeld.2.2.1))).trans (hHeld.2.2.1)
                              have HS3_ := (hb.cell (World.block_lt_of_cell? _ _ (hHeld.2.2.2))).trans (hHeld.2.2.2)
                              refine ⟨_, rfl, ?_⟩
                              have n0_ := Aside0.mk (Kd.R_below (by (with_reducible repeat (first | apply Kd.R_alloc | apply Kd.R_drewN | apply Kd.R_drew)); exact HO_0.out) hb)
                              have n1_ := Aside0.mk (Kd.R_below (by (with_reducible repeat (first | apply Kd.R_alloc | apply Kd.R_drewN | apply Kd.R_drew)); exact HO_1.out) hb)
                              have n2_ := Aside0.mk (Kd.R_below (by (with_reducible repeat (first | apply Kd.R_alloc | apply Kd.R_drewN | apply Kd.R_drew)); exact HO_5.out) hb)
                              have n3_ := Aside0.mk (blk_below (g := gb384) (o := .cells #[.int .i64 0, .int .i64 0] 30 (0, 0)) (by (with_reducible repeat (first | refine blk_drewN ?_ _ | refine blk_drew ?_ | refine blk_alloc ?_ _)); exact BK384.out) hb)
                              have n4_ := Aside0.mk (below_step (by repeat (first | (with_reducible first | exact HB.out | apply below_alloc | apply pw_below_drewN | apply below_drew1 | refine below_set ?_ GE384.out) | exact HB.out)) hb)
                              clear HO_0
                              clear HO_1
                              clear HO_5
                              clear BK384
                              clear HB
                              have HO_0 := n0_
                              have HO_1 := n1_
                              have HO_5 := n2_
                              have BK384 := n3_
                              have HB := n4_
                              clear n0_ n1_ n2_ n3_ n4_
                              (try clear hb)
                              (try clear hb2)
                              (try clear hk)
                              (try clear hi)
                              refine hK.out _ _ ⟨HS0_, HS1_, HS2_, HS3_⟩ (fun hHeld => ?_)
                              clear hK K
                              refine norm_ (a' := ?_) ?_ ?_
                              rotate_left
                              · show Act.put _ (some 31) _ = _
                                simp only [Act.put, List.setIfInBounds_toArray, List.set_cons_zero, List.set_cons_succ, i64_w, i32_w]
                                rfl
                              exact norm_ (by simp only [putAll, Act.put, List.setIfInBounds_toArray, List.set_cons_zero, List.set_cons_succ]) (hCont (gb384) _ ⟨hHeld, (by (with_reducible repeat (first | apply Kd.R_alloc | apply Kd.R_drewN | apply Kd.R_drew)); exact Kd.R_mono HO_0.out (fun _ hk => ⟨hk.1.1, ⟨hk.1.2, hk.2⟩⟩)), (by (with_reducible repeat (first | apply Kd.R_alloc | apply Kd.R_drewN | apply Kd.R_drew)); exact Kd.R_mono HO_1.out (fun _ hk => ⟨hk.1.1, ⟨hk.1.2, hk.2⟩⟩)), (by (with_reducible repeat (first | apply Kd.R_alloc | apply Kd.R_drewN | apply Kd.R_drew)); exact Kd.R_mono HO_5.out (fun _ hk => ⟨hk.1.1, ⟨hk.1.2, hk.2⟩⟩)), (by (with_reducible repeat (first | refine blk_drewN ?_ _ | refine blk_drew ?_ | refine blk_alloc ?_ _)); exact BK384.out), GW384.out, GE384.out, (by repeat (first | (with_reducible first | exact HB.out | apply below_alloc | apply pw_below_drewN | apply below_drew1 | refine below_set ?_ GE384.out) | exact HB.out))⟩)
                          rintro gb384 w50 ⟨hS_, h0_, h1_, h2_, h3_, h4_, h5_, h6_⟩
                          have n0_ : Aside0 (Kd.R k30 30 w50 w.heap.size (fun k_ => some k_ ≠ (.slice (some ad381) t377.length co47 : Value).ownBlock ∧ some k_ ≠ (u5 : Value).ownBlock ∧ k_ ≠ gb384) (.slice (some ad380) t374.length co46) t374) := ⟨h0_⟩
                          have n1_ : Aside0 (Kd.R k30 30 w50 w.heap.size (fun k_ => some k_ ≠ (.slice (some ad380) t374.length co46 : Value).ownBlock ∧ some k_ ≠ (u5 : Value).ownBlock ∧ k_ ≠ gb384) (.slice (some ad381) t377.length co47) t377) := ⟨h1_⟩
                          have n2_ : Aside0 (Kd.R k30 30 w50 w.heap.size (fun k_ => some k_ ≠ (.slice (some ad380) t374.length co46 : Value).ownBlock ∧ some k_ ≠ (.slice (some ad381) t377.length co47 : Value).ownBlock ∧ k_ ≠ gb384) u5 x5_1) := ⟨h2_⟩
                          have n3_ : Aside0 (w50.heap[gb384]? = some (.cells #[.int .i64 0, .int .i64 0] 30 (0, 0))) := ⟨h3_⟩
                          have n4_ : Aside0 (w.heap.size ≤ gb384) := ⟨h4_⟩
                          have n5_ : Aside0 (w.heap.size ≤ gb384) := ⟨h5_⟩
                          have n6_ : Aside0 (Below w.heap.size w w50) := ⟨h6_⟩
                          clear HO_0
                          clear HO_1
                          clear HO_5
                          clear HB
                          clear h0_ h1_ h2_ h3_ h4_ h5_ h6_
                          have HO_0 := n0_
                          have HO_1 := n1_
                          have HO_5 := n2_
                          have BK384 := n3_
                          have GW384 := n4_
                          have GE384 := n5_
                          have HB := n6_
                          clear n0_ n1_ n2_ n3_ n4_ n5_ n6_
                          have hHeld : w50.cell? (ad380.add ((x6_1).toNat * 2)) = some (.int .i64 ((rd_T30 t374 x6_1).f0)) ∧ w50.cell? ⟨(ad380.add ((x6_1).toNat * 2)).block, (ad380.add ((x6_1).toNat * 2)).off + 1, none⟩ = some (.int .i64 ((rd_T30 t374 x6_1).f1)) ∧ w50.cell? (ad381.add ((x7_1).toNat * 2)) = some (.int .i64 ((rd_T30 t377 x7_1).f0)) ∧ w50.cell? ⟨(ad381.add ((x7_1).toNat * 2)).block, (ad381.add ((x7_1).toNat * 2)).off + 1, none⟩ = some (.int .i64 ((rd_T30 t377 x7_1).f1)) := hS_
                          refine norm_ (a' := ?_) ?_ ?_
                          rotate_left
                          · simp only [putAll, Act.put, List.setIfInBounds_toArray, List.set_cons_zero, List.set_cons_succ]
                            rfl
                          refine one_ (i := 10) (N := none) #[true, true, true, true, true, true, true, true, true, true, true] rfl rfl (one_of HT_.out (by kernel_rfl)) (by decide) (fun K hK => ?_)
                          have hs51 : w50.cell? ⟨gb384, 0, none⟩ = some (.int .i64 0) := (blk_cell BK384.out 0).trans rfl
                          have hfs51 := blk_frozen BK384.out 0
                          have hs52 : w50.cell? ⟨gb384, 1, none⟩ = some (.int .i64 0) := (blk_cell BK384.out 1).trans rfl
                          have hfs52 := blk_frozen BK384.out 1
                          refine skip_ (w1 := ?_) (by rfl) rfl ?_ ?_
                          rotate_left
                          · go_simp
                            rfl
                          refine hK.out _ _ ⟨((cell_far (p := ⟨gb384, _, none⟩) (by first | exact Kd.own_blk (Kd.R_away HO_0.out (fun _ hk => hk.2.2)) | (rw [add_block]; exact Kd.own_blk (Kd.R_away HO_0.out (fun _ hk => hk.2.2))) | (show (Addr.add _ _).block ≠ _; rw [add_block]; exact Kd.own_blk (Kd.R_away HO_0.out (fun _ hk => hk.2.2))) | (dsimp only; exact Kd.own_blk (Kd.R_away HO_0.out (fun _ hk => hk.2.2)))) _).trans (((cell_far (p := ⟨gb384, _, none⟩) (by first | exact Kd.own_blk (Kd.R_away HO_0.out (fun _ hk => hk.2.2)) | (rw [add_block]; exact Kd.own_blk (Kd.R_away HO_0.out (fun _ hk => hk.2.2))) | (show (Addr.add _ _).block ≠ _; rw [add_block]; exact Kd.own_blk (Kd.R_away HO_0.out (fun _ hk => hk.2.2))) | (dsimp only; exact Kd.own_blk (Kd.R_away HO_0.out (fun _ hk => hk.2.2)))) _).trans (hHeld.1)))), ((cell_far (p := ⟨gb384, _, none⟩) (by first | exact Kd.own_blk (Kd.R_away HO_0.out (fun _ hk => hk.2.2)) | (rw [add_block]; exact Kd.own_blk (Kd.R_away HO_0.out (fun _ hk => hk.2.2))) | (show (Addr.add _ _).block ≠ _; rw [add_block]; exact Kd.own_blk (Kd.R_away HO_0.out (fun _ hk => hk.2.2))) | (dsimp only; exact Kd.own_blk (Kd.R_away HO_0.out (fun _ hk => hk.2.2)))) _).trans (((cell_far (p := ⟨gb384, _, none⟩) (by first | exact Kd.own_blk (Kd.R_away HO_0.out (fun _ hk => hk.2.2)) | (rw [add_block]; exact Kd.own_blk (Kd.R_away HO_0.out (fun _ hk => hk.2.2))) | (show (Addr.add _ _).block ≠ _; rw [add_block]; exact Kd.own_blk (Kd.R_away HO_0.out (fun _ hk => hk.2.2))) | (dsimp only; exact Kd.own_blk (Kd.R_away HO_0.out (fun _ hk => hk.2.2)))) _).trans (hHeld.2.1)))), ((cell_far (p := ⟨gb384, _, none⟩) (by first | exact Kd.own_blk (Kd.R_away HO_1.out (fun _ hk => hk.2.2)) | (rw [add_block]; exact Kd.own_blk (Kd.R_away HO_1.out (fun _ hk => hk.2.2))) | (show (Addr.add _ _).block ≠ _; rw [add_block]; exact Kd.own_blk (Kd.R_away HO_1.out (fun _ hk => hk.2.2))) | (dsimp only; exact Kd.own_blk (Kd.R_away HO_1.out (fun _ hk => hk.2.2)))) _).trans (((cell_far (p := ⟨gb384, _, none⟩) (by first | exact Kd.own_blk (Kd.R_away HO_1.out (fun _ hk => hk.2.2)) | (rw [add_block]; exact Kd.own_blk (Kd.R_away HO_1.out (fun _ hk => hk.2.2))) | (show (Addr.add _ _).block ≠ _; rw [add_block]; exact Kd.own_blk (Kd.R_away HO_1.out (fun _ hk => hk.2.2))) | (dsimp only; exact Kd.own_blk (Kd.R_away HO_1.out (fun _ hk => hk.2.2)))) _).trans (hHeld.2.2.1)))), ((cell_far (p := ⟨gb384, _, none⟩) (by first | exact Kd.own_blk (Kd.R_away HO_1.out (fun _ hk => hk.2.2)) | (rw [add_block]; exact Kd.own_blk (Kd.R_away HO_1.out (fun _ hk => hk.2.2))) | (show (Addr.add _ _).block ≠ _; rw [add_block]; exact Kd.own_blk (Kd.R_away HO_1.out (fun _ hk => hk.2.2))) | (dsimp only; exact Kd.own_blk (Kd.R_away HO_1.out (fun _ hk => hk.2.2)))) _).trans (((cell_far (p := ⟨gb384, _, none⟩) (by first | exact Kd.own_blk (Kd.R_away HO_1.out (fun _ hk => hk.2.2)) | (rw [add_block]; exact Kd.own_blk (Kd.R_away HO_1.out (fun _ hk => hk.2.2))) | (show (Addr.add _ _).block ≠ _; rw [add_block]; exact Kd.own_blk (Kd.R_away HO_1.out (fun _ hk => hk.2.2))) | (dsimp only; exact Kd.own_blk (Kd.R_away HO_1.out (fun _ hk => hk.2.2)))) _).trans (hHeld.2.2.2))))⟩ (fun hHeld => ?_)
                          clear hK K
                          refine done_ (done_of HT_.out (by kernel_rfl)) ?_
                          have hcz53_0 : w50.cell? ⟨gb384, 0, none⟩ = some (.int .i64 0) := (blk_cell BK384.out 0).trans rfl
                          have hcz53_1 : w50.cell? ⟨gb384, 1, none⟩ = some (.int .i64 0) := (blk_cell BK384.out 1).trans rfl
                          have hfz53_0 := blk_frozen BK384.out 0
                          have hfz53_1 := blk_frozen BK384.out 1
                          try go_wp2_with (first | ((with_reducible refine gate_callee (f := 48) rfl ?_); refine goesL_ (some 33) rfl rfl Try.func48 (by kernel_rfl) rfl #[.agg #[.int .i64 t382, .int .i64 t383]] rfl (by (try simp only [List.map_toArray, List.map_cons, List.map_nil]); first | done | rfl | (simp only [List.length_drop, List.length_take]; rfl)) ?_; (with_reducible refine (span_empty.calls t382 t383 false _ A18.out).mono ?_); rintro e w54 ⟨rfl, hb⟩; refine ⟨_, rfl, ?_⟩; have n0_ := Aside0.mk (Kd.R_below (by (with_reducible repeat (first | apply Kd.R_alloc | apply Kd.R_drewN | apply Kd.R_drew)); exact (Kd.R_mono (Kd.R_far (p := ⟨gb384, 1, none⟩) (Kd.R_far (p := ⟨gb384, 0, none⟩) (Kd.R_mono HO_0.out (fun k_ hk => (⟨hk, hk.2.2⟩ : _ ∧ k_ ≠ gb384))) (fun _ hk => hk.2) (.int .i64 t382)) (fun _ hk => hk.2) (.int .i64 t383)) (fun _ h_ => h_.1))) hb); have n1_ := Aside0.mk (Kd.R_below (by (with_reducible repeat (first | apply Kd.R_alloc | apply Kd.R_drewN | apply Kd.R_drew)); exact (Kd.R_mono (Kd.R_far (p := ⟨gb384, 1, none⟩) (Kd.R_far (p := ⟨gb384, 0, none⟩) (Kd.R_mono HO_1.out (fun k_ hk => (⟨hk, hk.2.2⟩ : _ ∧ k_ ≠ gb384))) (fun _ hk => hk.2) (.int .i64 t382)) (fun _ hk => hk.2) (.int .i64 t383)) (fun _ h_ => h_.1))) hb); have n2_ := Aside0.mk (Kd.R_below (by (with_reducible repeat (first | apply Kd.R_alloc | apply Kd.R_drewN | apply Kd.R_drew)); exact (Kd.R_mono (Kd.R_far (p := ⟨gb384, 1, none⟩) (Kd.R_far (p := ⟨gb384, 0, none⟩) (Kd.R_mono HO_5.out (fun k_ hk => (⟨hk, hk.2.2⟩ : _ ∧ k_ ≠ gb384))) (fun _ hk => hk.2) (.int .i64 t382)) (fun _ hk => hk.2) (.int .i64 t383)) (fun _ h_ => h_.1))) hb); have n3_ := Aside0.mk (blk_below (g := gb384) (o := .cells #[.int .i64 t382, .int .i64 t383] 30 (0, 0)) (by (with_reducible repeat (first | refine blk_drewN ?_ _ | refine blk_drew ?_ | refine blk_alloc ?_ _)); refine blk_put (cs := #[.int .i64 t382, .int .i64 0]) ?_ 1 _ rfl; (with_reducible repeat (first | refine blk_drewN ?_ _ | refine blk_drew ?_ | refine blk_alloc ?_ _)); refine blk_put (cs := #[.int .i64 0, .int .i64 0]) ?_ 0 _ rfl; (with_reducible repeat (first | refine blk_drewN ?_ _ | refine blk_drew ?_ | refine blk_alloc ?_ _)); exact BK384.out) hb); have n4_ := Aside0.mk (below_step (by repeat (first | (with_reducible first | exact HB.out | apply below_alloc | apply pw_below_drewN | apply below_drew1 | refine below_set ?_ GE384.out) | exact HB.out)) hb); clear HO_0; clear HO_1; clear HO_5; clear BK384; clear HB; have HO_0 := n0_; have HO_1 := n1_; have HO_5 := n2_; have BK384 := n3_; have HB := n4_; clear n0_ n1_ n2_ n3_ n4_; (try clear hb); (try clear hb2); (try clear hk); (try clear hi); have hcz55_0 : w54.cell? ⟨gb384, 0, none⟩ = some (.int .i64 t382) := (blk_cell BK384.out 0).trans rfl; have hcz55_1 : w54.cell? ⟨gb384, 1, none⟩ = some (.int .i64 t383) := (blk_cell BK384.out 1).trans rfl; have hfz55_0 := blk_frozen BK384.out 0; have hfz55_1 := blk_frozen BK384.out 1) | ((with_reducible refine gate_builtin (b := .append) (xs := #[.tmp 35, .tmp 37]) rfl ?_); (try (refine gate_guard (by rfl) ?_; dsimp only)); at_builtin; refine Kd.R_append k30 (w0 := w) w.heap.size rfl (.tmp 35) (.tmp 37) 22 30 (.agg #[(.int .i64 0), (.int .i64 0)]) 16 rfl Try.underlying22 info30 rfl (by decide) (by omega) u5 x5_1 (⟨t382, t383⟩ : S30) [.int .i64 t382, .int .i64 t383] (fun k_ => some k_ ≠ (.slice (some ad380) t374.length co46 : Value).ownBlock ∧ some k_ ≠ (.slice (some ad381) t377.length co47 : Value).ownBlock ∧ k_ ≠ gb384) (fun _ => False) rfl rfl ?aP (fun _ hk => hk.elim) ?aF ?aO ?aB ?aS ?aL ?_; (case aP => exact k30_mkM _ _ _ (⟨t382, t383⟩ : S30)); (case aB => exact (by repeat (first | (with_reducible first | exact HB.out | apply below_alloc | apply pw_below_drewN | apply below_drew1 | refine below_set ?_ GE384.out) | exact HB.out))); (case aF => exact (fun k_ hk => ⟨Kd.fresh' (Kd.R_lt (by (with_reducible repeat (first | apply Kd.R_alloc | apply Kd.R_drewN | apply Kd.R_drew)); exact HO_0.out)) k_ hk, Kd.fresh' (Kd.R_lt (by (with_reducible repeat (first | apply Kd.R_alloc | apply Kd.R_drewN | apply Kd.R_drew)); exact HO_1.out)) k_ hk, Kd.freshB (g := gb384) (o := .cells #[.int .i64 t382, .int .i64 t383] 30 (0, 0)) (by (with_reducible repeat (first | refine blk_drewN ?_ _ | refine blk_drew ?_ | refine blk_alloc ?_ _)); exact BK384.out) k_ hk⟩)); (case aO => exact (by (with_reducible repeat (first | apply Kd.R_alloc | apply Kd.R_drewN | apply Kd.R_drew)); exact HO_5.out)); (case aS => exact (below_size (by repeat (first | (with_reducible first | exact HB.out | apply below_alloc | apply pw_below_drewN | apply below_drew1 | refine below_set ?_ GE384.out) | exact HB.out)))); (case aL => have := LMc43.out; omega); intro v389 w56 ho hb hg hat; rw [← Ny388.out] at ho; have n0_ := Aside0.mk (Kd.R_after (ok := (fun k_ => some k_ ≠ (.slice (some ad381) t377.length co47 : Value).ownBlock ∧ k_ ≠ gb384)) (by (with_reducible repeat (first | apply Kd.R_alloc | apply Kd.R_drewN | apply Kd.R_drew)); exact Kd.R_mono HO_0.out (fun _ hk => ⟨⟨hk.1, hk.2.2⟩, hk.2.1⟩)) hg hat); have n1_ := Aside0.mk (Kd.R_after (ok := (fun k_ => some k_ ≠ (.slice (some ad380) t374.length co46 : Value).ownBlock ∧ k_ ≠ gb384)) (by (with_reducible repeat (first | apply Kd.R_alloc | apply Kd.R_drewN | apply Kd.R_drew)); exact Kd.R_mono HO_1.out (fun _ hk => ⟨⟨hk.1, hk.2.2⟩, hk.2.1⟩)) hg hat); have n2_ := Aside0.mk (blk_grown (g := gb384) (o := .cells #[.int .i64 t382, .int .i64 t383] 30 (0, 0)) (by (with_reducible repeat (first | refine blk_drewN ?_ _ | refine blk_drew ?_ | refine blk_alloc ?_ _)); exact BK384.out) hg (Kd.R_away HO_5.out (fun _ hk => hk.2.2))); have n3_ := Aside0.mk (hb); have n4_ := Aside0.mk (ho); clear HO_0; clear HO_1; clear BK384; clear HB; clear HO_5; have HO_0 := n0_; have HO_1 := n1_; have BK384 := n2_; have HB := n3_; have HO390 := n4_; clear n0_ n1_ n2_ n3_ n4_; clear ho hb hg hat))
                          have n0_ := Aside0.mk (Kd.R_drew HO_0.out)
                          have n1_ := Aside0.mk (Kd.R_drew HO_1.out)
                          have n2_ := Aside0.mk (Kd.R_drew HO390.out)
                          have n3_ := Aside0.mk (blk_drew BK384.out)
                          have n4_ := Aside0.mk (below_drew1 HB.out)
                          clear HO_0
                          clear HO_1
                          clear HO390
                          clear BK384
                          clear HB
                          have HO_0 := n0_
                          have HO_1 := n1_
                          have HO390 := n2_
                          have BK384 := n3_
                          have HB := n4_
                          clear n0_ n1_ n2_ n3_ n4_
                          have p391 : 0 ≤ (x6_1 : Int) := of_decide_eq_true (by first | (with_reducible assumption) | assumption)
                          have q391 : x6_1 < (t374.length : Int) := of_decide_eq_true (by first | (with_reducible assumption) | assumption)
                          obtain ⟨ad391, e391, hx391_0, hx391_1⟩ := at_T30 (Kd.R_reads' HO_0.out).2.2 x6_1 p391 q391
                          obtain rfl : ad380 = ad391 := (by injection e391)
                          replace p391 := eq_true p391
                          replace q391 := eq_true q391
                          have p392 : 0 ≤ (x7_1 : Int) := of_decide_eq_true (by first | (with_reducible assumption) | assumption)
                          have q392 : x7_1 < (t377.length : Int) := of_decide_eq_true (by first | (with_reducible assumption) | assumption)
                          obtain ⟨ad392, e392, hx392_0, hx392_1⟩ := at_T30 (Kd.R_reads' HO_1.out).2.2 x7_1 p392 q392
                          obtain rfl : ad381 = ad392 := (by injection e392)
                          replace p392 := eq_true p392
                          replace q392 := eq_true q392
                          refine start_ (n := 11) (S := fun w' => w'.cell? (ad380.add ((x6_1).toNat * 2)) = some (.int .i64 ((rd_T30 t374 x6_1).f0)) ∧ w'.cell? ⟨(ad380.add ((x6_1).toNat * 2)).block, (ad380.add ((x6_1).toNat * 2)).off + 1, none⟩ = some (.int .i64 ((rd_T30 t374 x6_1).f1)) ∧ w'.cell? (ad381.add ((x7_1).toNat * 2)) = some (.int .i64 ((rd_T30 t377 x7_1).f0)) ∧ w'.cell? ⟨(ad381.add ((x7_1).toNat * 2)).block, (ad381.add ((x7_1).toNat * 2)).off + 1, none⟩ = some (.int .i64 ((rd_T30 t377 x7_1).f1))) (ds := []) #[false, false, false, false, false, false, false, false, false, false, false] (by kernel_rfl) rfl rfl ⟨hx391_0, hx391_1, hx392_0, hx392_1⟩ (fun hHeld => ?_); refine with_tabW span_Meet.tab8 span_Meet.bits8 (fun HT_ HW_ => ?_)
                          generalize w56.drew = w57 at HO_0 HO_1 HO390 BK384 HB hx391_0 hx391_1 hx392_0 hx392_1 hHeld ⊢
                          refine pure_ (i := 0) (N := some 39) (v := ?_) (a' := ?_) #[true, false, false, false, false, false, false, false, false, false, false] rfl rfl (any_of HT_.out (by kernel_rfl)) (fun _ _ _ h => h) (Or.inl ⟨by rfl, ?_⟩) ?_ ?_
                          rotate_left
                          · intro w'
                            go_simp
                            with_reducible rfl
                          rotate_left
                          · simp only [Act.put, List.setIfInBounds_toArray, List.set_cons_zero, List.set_cons_succ, i64_w, i32_w]
                            rfl
                          refine pure_ (i := 1) (N := some 40) (v := ?_) (a' := ?_) #[true, true, false, false, false, false, false, false, false, false, false] rfl rfl (any_of HT_.out (by kernel_rfl)) (fun _ _ _ h => h) (Or.inl ⟨by rfl, ?_⟩) ?_ ?_
                          rotate_left
                          · intro w'
                            go_simp
                            with_reducible rfl
                          rotate_left
                          · simp only [Act.put, List.setIfInBounds_toArray, List.set_cons_zero, List.set_cons_succ, i64_w, i32_w]
                            rfl
                          refine pure_ (i := 2) (N := some 41) (v := ?_) (a' := ?_) #[true, true, true, false, false, false, false, false, false, false, false] rfl rfl (any_of HT_.out (by kernel_rfl)) (fun _ _ _ h => h) (Or.inl ⟨by rfl, ?_⟩) ?_ ?_
                          rotate_left
                          · intro w'
                            go_simp
                            with_reducible rfl
                          rotate_left
                          · simp only [Act.put, List.setIfInBounds_toArray, List.set_cons_zero, List.set_cons_succ, i64_w, i32_w]
                            rfl
                          refine pure_ (i := 3) (N := some 42) (v := ?_) (a' := ?_) #[true, true, true, true, false, false, false, false, false, false, false] rfl rfl (any_of HT_.out (by kernel_rfl)) (fun _ _ _ h => h) (Or.inl ⟨by rfl, ?_⟩) ?_ ?_
                          rotate_left
                          · intro w'
                            go_simp
                            with_reducible rfl
                          rotate_left
                          · simp only [Act.put, List.setIfInBounds_toArray, List.set_cons_zero, List.set_cons_succ, i64_w, i32_w]
                            rfl
                          refine pure_ (i := 5) (N := some 44) (v := ?_) (a' := ?_) #[true, true, true, true, false, true, false, false, false, false, false] rfl rfl (any_of HT_.out (by kernel_rfl)) (fun _ _ _ h => h) (Or.inl ⟨by rfl, ?_⟩) ?_ ?_
                          rotate_left
                          · intro w'
                            go_simp
                            with_reducible rfl
                          rotate_left
                          · simp only [Act.put, List.setIfInBounds_toArray, List.set_cons_zero, List.set_cons_succ, i64_w, i32_w]
                            rfl
                          refine pure_ (i := 6) (N := some 45) (v := ?_) (a' := ?_) #[true, true, true, true, false, true, true, false, false, false, false] rfl rfl (any_of HT_.out (by kernel_rfl)) (fun _ _ _ h => h) (Or.inl ⟨by rfl, ?_⟩) ?_ ?_
                          rotate_left
                          · intro w'
                            go_simp
                            with_reducible rfl
                          rotate_left
                          · simp only [Act.put, List.setIfInBounds_toArray, List.set_cons_zero, List.set_cons_succ, i64_w, i32_w]
                            rfl
                          refine pure_ (i := 7) (N := some 46) (v := ?_) (a' := ?_) #[true, true, true, true, false, true, true, true, false, false, false] rfl rfl (any_of HT_.out (by kernel_rfl)) (fun _ _ _ h => h) (Or.inl ⟨by rfl, ?_⟩) ?_ ?_
                          rotate_left
                          · intro w'
                            go_simp
                            with_reducible rfl
                          rotate_left
                          · simp only [Act.put, List.setIfInBounds_toArray, List.set_cons_zero, List.set_cons_succ, i64_w, i32_w]
                            rfl
                          refine pure_ (i := 8) (N := some 47) (v := ?_) (a' := ?_) #[true, true, true, true, false, true, true, true, true, false, false] rfl rfl (any_of HT_.out (by kernel_rfl)) (fun _ _ _ h => h) (Or.inl ⟨by rfl, ?_⟩) ?_ ?_
                          rotate_left
                          · intro w'
                            go_simp
                            with_reducible rfl
                          rotate_left
                          · simp only [Act.put, List.setIfInBounds_toArray, List.set_cons_zero, List.set_cons_succ, i64_w, i32_w]
                            rfl
                          refine take_ (i := 4) (N := some 43) (v := ?_) (a' := ?_) #[true, true, true, true, true, true, true, true, true, false, false] rfl rfl (take_ofW HT_.out HW_.out (by kernel_rfl)) (fun _ _ _ h => h) (Or.inl ⟨by rfl, ?_⟩) hHeld ?_ ?_
                          rotate_left
                          · rintro w' ⟨s0, s1, s2, s3⟩
                            go_simp
                            with_reducible rfl
                          rotate_left
                          · simp only [Act.put, List.setIfInBounds_toArray, List.set_cons_zero, List.set_cons_succ, i64_w, i32_w]
                            rfl
                          refine take_ (i := 9) (N := some 48) (v := ?_) (a' := ?_) #[true, true, true, true, true, true, true, true, true, true, false] rfl rfl (take_ofW HT_.out HW_.out (by kernel_rfl)) (fun _ _ _ h => h) (Or.inl ⟨by rfl, ?_⟩) hHeld ?_ ?_
                          rotate_left
                          · rintro w' ⟨s0, s1, s2, s3⟩
                            go_simp
                            with_reducible rfl
                          rotate_left
                          · simp only [Act.put, List.setIfInBounds_toArray, List.set_cons_zero, List.set_cons_succ, i64_w, i32_w]
                            rfl
                          refine pure_ (i := 10) (N := some 49) (v := ?_) (a' := ?_) #[true, true, true, true, true, true, true, true, true, true, true] rfl rfl (any_of HT_.out (by kernel_rfl)) (fun _ _ _ h => h) (Or.inl ⟨by rfl, ?_⟩) ?_ ?_
                          rotate_left
                          · intro w'
                            go_simp
                            with_reducible rfl
                          rotate_left
                          · simp only [Act.put, List.setIfInBounds_toArray, List.set_cons_zero, List.set_cons_succ, i64_w, i32_w]
                            rfl
                          refine done_ (done_of HT_.out (by kernel_rfl)) ?_
                          try go_wp2
                          go_roundg kj6
                          case measure => have := HK1.out; have := HJ6.out; omega
                          case rel => exact ⟨(y388), (wrap64 (x6_1 + 1)), (x7_1), (by first | rfl | (simp; done) | (simp [*]; done)), (by first | rfl | (simp; done) | (simp [*]; done)), H', ⟨by have := HK1.out; have := HJ6.out; omega⟩, ⟨by (with_reducible repeat (first | apply Kd.R_alloc | apply Kd.R_drewN | apply Kd.R_drew)); exact Kd.R_mono HO_0.out (fun _ hk => ⟨hk.1.1, hk.2⟩)⟩, ⟨by (with_reducible repeat (first | apply Kd.R_alloc | apply Kd.R_drewN | apply Kd.R_drew)); exact Kd.R_mono HO_1.out (fun _ hk => ⟨hk.1.1, hk.2⟩)⟩, ⟨by (with_reducible repeat (first | apply Kd.R_alloc | apply Kd.R_drewN | apply Kd.R_drew)); exact Kd.R_mono HO390.out (fun _ hk => ⟨hk.1, hk.2.1⟩)⟩, ⟨by repeat (first | (with_reducible first | exact HB.out | apply below_alloc | apply pw_below_drewN | apply below_drew1 | refine below_set ?_ GE384.out) | exact HB.out)⟩⟩
                        · rw [if_neg c44] at H
                          have c44b0 : decide (((rd_T30 t374 x6_1).f1) < ((rd_T30 t377 x7_1).f1)) = false := decide_eq_false c44
                          clear c44
                          have H' := Aside0.mk H
                          clear H
                          try go_wp2
                          have n0_ := Aside0.mk (Kd.R_drew HO_0.out)
                          have n1_ := Aside0.mk (Kd.R_drew HO_1.out)
                          have n2_ := Aside0.mk (Kd.R_drew HO_5.out)
                          have n3_ := Aside0.mk (below_drew1 HB.out)
                          clear HO_0
                          clear HO_1
                          clear HO_5
                          clear HB
                          have HO_0 := n0_
                          have HO_1 := n1_
                          have HO_5 := n2_
                          have HB := n3_
                          clear n0_ n1_ n2_ n3_
                          obtain ⟨Ao59, co59, eo59⟩ := Kd.R_slice HO_0.out
                          (first | subst eo59 | (injection eo59 with f1_ f2_ f3_; have f4_ := f1_.symm; have f5_ := f3_.symm; clear f1_ f2_ f3_; subst f4_; subst f5_))
                          have p380 : 0 ≤ (x6_1 : Int) := of_decide_eq_true (by first | (with_reducible assumption) | assumption)
                          have q380 : x6_1 < (t374.length : Int) := of_decide_eq_true (by first | (with_reducible assumption) | assumption)
                          obtain ⟨ad380, e380, hx380_0, hx380_1⟩ := at_T30 (Kd.R_reads' HO_0.out).2.2 x6_1 p380 q380
                          cases e380
                          replace p380 := eq_true p380
                          replace q380 := eq_true q380
                          obtain ⟨Ao60, co60, eo60⟩ := Kd.R_slice HO_1.out
                          (first | subst eo60 | (injection eo60 with f1_ f2_ f3_; have f4_ := f1_.symm; have f5_ := f3_.symm; clear f1_ f2_ f3_; subst f4_; subst f5_))
                          have p381 : 0 ≤ (x7_1 : Int) := of_decide_eq_true (by first | (with_reducible assumption) | assumption)
                          have q381 : x7_1 < (t377.length : Int) := of_decide_eq_true (by first | (with_reducible assumption) | assumption)
                          obtain ⟨ad381, e381, hx381_0, hx381_1⟩ := at_T30 (Kd.R_reads' HO_1.out).2.2 x7_1 p381 q381
                          cases e381
                          replace p381 := eq_true p381
                          replace q381 := eq_true q381
                          refine start_ (n := 11) (S := fun w' => w'.cell? (ad380.add ((x6_1).toNat * 2)) = some (.int .i64 ((rd_T30 t374 x6_1).f0)) ∧ w'.cell? ⟨(ad380.add ((x6_1).toNat * 2)).block, (ad380.add ((x6_1).toNat * 2)).off + 1, none⟩ = some (.int .i64 ((rd_T30 t374 x6_1).f1)) ∧ w'.cell? (ad381.add ((x7_1).toNat * 2)) = some (.int .i64 ((rd_T30 t377 x7_1).f0)) ∧ w'.cell? ⟨(ad381.add ((x7_1).toNat * 2)).block, (ad381.add ((x7_1).toNat * 2)).off + 1, none⟩ = some (.int .i64 ((rd_T30 t377 x7_1).f1))) (ds := []) #[false, false, false, false, false, false, false, false, false, false, false] (by kernel_rfl) rfl rfl ⟨hx380_0, hx380_1, hx381_0, hx381_1⟩ (fun hHeld => ?_); refine with_tabW span_Meet.tab5 span_Meet.bits5 (fun HT_ HW_ => ?_)
                          generalize wc.drew = w58 at HO_0 HO_1 HO_5 HB hx380_0 hx380_1 hx381_0 hx381_1 hHeld ⊢
                          refine pure_ (i := 0) (N := some 23) (v := ?_) (a' := ?_) #[true, false, false, false, false, false, false, false, false, false, false] rfl rfl (any_of HT_.out (by kernel_rfl)) (fun _ _ _ h => h) (Or.inl ⟨by rfl, ?_⟩) ?_ ?_
                          rotate_left
                          · intro w'
                            go_simp
                            with_reducible rfl
                          rotate_left
                          · simp only [Act.put, List.setIfInBounds_toArray, List.set_cons_zero, List.set_cons_succ, i64_w, i32_w]
                            rfl
                          refine pure_ (i := 1) (N := some 24) (v := ?_) (a' := ?_) #[true, true, false, false, false, false, false, false, false, false, false] rfl rfl (any_of HT_.out (by kernel_rfl)) (fun _ _ _ h => h) (Or.inl ⟨by rfl, ?_⟩) ?_ ?_
                          rotate_left
                          · intro w'
                            go_simp
                            with_reducible rfl
                          rotate_left
                          · simp only [Act.put, List.setIfInBounds_toArray, List.set_cons_zero, List.set_cons_succ, i64_w, i32_w]
                            rfl
                          refine pure_ (i := 2) (N := some 25) (v := ?_) (a' := ?_) #[true, true, true, false, false, false, false, false, false, false, false] rfl rfl (any_of HT_.out (by kernel_rfl)) (fun _ _ _ h => h) (Or.inl ⟨by rfl, ?_⟩) ?_ ?_
                          rotate_left
                          · intro w'
                            go_simp
                            with_reducible rfl
                          rotate_left
                          · simp only [Act.put, List.setIfInBounds_toArray, List.set_cons_zero, List.set_cons_succ, i64_w, i32_w]
                            rfl
                          refine pure_ (i := 4) (N := some 27) (v := ?_) (a' := ?_) #[true, true, true, false, true, false, false, false, false, false, false] rfl rfl (any_of HT_.out (by kernel_rfl)) (fun _ _ _ h => h) (Or.inl ⟨by rfl, ?_⟩) ?_ ?_
                          rotate_left
                          · intro w'
                            go_simp
                            with_reducible rfl
                          rotate_left
                          · simp only [Act.put, List.setIfInBounds_toArray, List.set_cons_zero, List.set_cons_succ, i64_w, i32_w]
                            rfl
                          refine pure_ (i := 5) (N := some 28) (v := ?_) (a' := ?_) #[true, true, true, false, true, true, false, false, false, false, false] rfl rfl (any_of HT_.out (by kernel_rfl)) (fun _ _ _ h => h) (Or.inl ⟨by rfl, ?_⟩) ?_ ?_
                          rotate_left
                          · intro w'
                            go_simp
                            with_reducible rfl
                          rotate_left
                          · simp only [Act.put, List.setIfInBounds_toArray, List.set_cons_zero, List.set_cons_succ, i64_w, i32_w]
                            rfl
                          refine pure_ (i := 6) (N := some 29) (v := ?_) (a' := ?_) #[true, true, true, false, true, true, true, false, false, false, false] rfl rfl (any_of HT_.out (by kernel_rfl)) (fun _ _ _ h => h) (Or.inl ⟨by rfl, ?_⟩) ?_ ?_
                          rotate_left
                          · intro w'
                            go_simp
                            with_reducible rfl
                          rotate_left
                          · simp only [Act.put, List.setIfInBounds_toArray, List.set_cons_zero, List.set_cons_succ, i64_w, i32_w]
                            rfl
                          refine take_ (i := 3) (N := some 26) (v := ?_) (a' := ?_) #[true, true, true, true, true, true, true, false, false, false, false] rfl rfl (take_ofW HT_.out HW_.out (by kernel_rfl)) (fun _ _ _ h => h) (Or.inl ⟨by rfl, ?_⟩) hHeld ?_ ?_
                          rotate_left
                          · rintro w' ⟨s0, s1, s2, s3⟩
                            go_simp
                            with_reducible rfl
                          rotate_left
                          · simp only [Act.put, List.setIfInBounds_toArray, List.set_cons_zero, List.set_cons_succ, i64_w, i32_w]
                            rfl
                          refine take_ (i := 7) (N := some 30) (v := ?_) (a' := ?_) #[true, true, true, true, true, true, true, true, false, false, false] rfl rfl (take_ofW HT_.out HW_.out (by kernel_rfl)) (fun _ _ _ h => h) (Or.inl ⟨by rfl, ?_⟩) hHeld ?_ ?_
                          rotate_left
                          · rintro w' ⟨s0, s1, s2, s3⟩
                            go_simp
                            with_reducible rfl
                          rotate_left
                          · simp only [Act.put, List.setIfInBounds_toArray, List.set_cons_zero, List.set_cons_succ, i64_w, i32_w]
                            rfl
                          refine join_ (σ := Nat) 1 #[true, true, true, true, true, true, true, true, true, true, false] (fun s_ => [(31, .agg #[.int .i64 t382, .int .i64 t383]), (8, .pointer (some ⟨s_, 0, none⟩))]) (fun s_ w' => (w'.cell? (ad380.add ((x6_1).toNat * 2)) = some (.int .i64 ((rd_T30 t374 x6_1).f0)) ∧ w'.cell? ⟨(ad380.add ((x6_1).toNat * 2)).block, (ad380.add ((x6_1).toNat * 2)).off + 1, none⟩ = some (.int .i64 ((rd_T30 t374 x6_1).f1)) ∧ w'.cell? (ad381.add ((x7_1).toNat * 2)) = some (.int .i64 ((rd_T30 t377 x7_1).f0)) ∧ w'.cell? ⟨(ad381.add ((x7_1).toNat * 2)).block, (ad381.add ((x7_1).toNat * 2)).off + 1, none⟩ = some (.int .i64 ((rd_T30 t377 x7_1).f1))) ∧ (Kd.R k30 30 w' w.heap.size (fun k_ => some k_ ≠ (.slice (some ad381) t377.length co60 : Value).ownBlock ∧ some k_ ≠ (u5 : Value).ownBlock ∧ k_ ≠ s_) (.slice (some ad380) t374.length co59) t374) ∧ (Kd.R k30 30 w' w.heap.size (fun k_ => some k_ ≠ (.slice (some ad380) t374.length co59 : Value).ownBlock ∧ some k_ ≠ (u5 : Value).ownBlock ∧ k_ ≠ s_) (.slice (some ad381) t377.length co60) t377) ∧ (Kd.R k30 30 w' w.heap.size (fun k_ => some k_ ≠ (.slice (some ad380) t374.length co59 : Value).ownBlock ∧ some k_ ≠ (.slice (some ad381) t377.length co60 : Value).ownBlock ∧ k_ ≠ s_) u5 x5_1) ∧ (w'.heap[s_]? = some (.cells #[.int .i64 0, .int .i64 0] 30 (0, 0))) ∧ (w.heap.size ≤ s_) ∧ (w.heap.size ≤ s_) ∧ (Below w.heap.size w w')) ?_ ?_
                          rotate_left
                          · intro hCont
                            refine two_ (i := 8) (j := 9) (Ni := some 31) (Nj := some 8) #[true, true, true, true, true, true, true, true, true, false, false] #[true, true, true, true, true, true, true, true, false, true, false] rfl rfl rfl rfl (two_of HT_.out (by kernel_rfl)) (by decide) (by decide) (fun K hK => ?_) (fun K hK => ?_)
                            · skip
                              refine goes_ Try.func55 (by kernel_rfl) rfl #[.agg #[.int .i64 ((rd_T30 t374 x6_1).f0), .int .i64 ((rd_T30 t374 x6_1).f1)], .agg #[.int .i64 ((rd_T30 t377 x7_1).f0), .int .i64 ((rd_T30 t377 x7_1).f1)]] (by rfl) rfl rfl (by (try simp only [List.map_toArray, List.map_cons, List.map_nil]); first | done | rfl | (simp only [List.length_drop, List.length_take]; rfl)) ?_
                              with_reducible refine (span_both.calls ((rd_T30 t374 x6_1).f0) ((rd_T30 t374 x6_1).f1) ((rd_T30 t377 x7_1).f0) ((rd_T30 t377 x7_1).f1) t382 t383 _ A17.out).mono ?_
                              rintro e w61 ⟨rfl, hb⟩
                              have HS0_ := (hb.cell (World.block_lt_of_cell? _ _ (hHeld.1))).trans (hHeld.1)
                              have HS1_ := (hb.cell (World.block_lt_of_cell? _ _ (hHeld.2.1))).trans (hHeld.2.1)
                              have HS2_ := (hb.cell (World.block_lt_of_cell? _ _ (hHeld.2.2.1))).trans (hHeld.2.2.1)
                              have HS3_ := (hb.cell (World.block_lt_of_cell? _ _ (hHeld.2.2.2))).trans (hHeld.2.2.2)
                              refine ⟨_, rfl, ?_⟩
                              have n0_ := Aside0.mk (Kd.R_below (by (with_reducible repeat (first | apply Kd.R_alloc | apply Kd.R_drewN | apply Kd.R_drew)); exact HO_0.out) hb)
                              have n1_ := Aside0.mk (Kd.R_below (by (with_reducible repeat (first | apply Kd.R_alloc | apply Kd.R_drewN | apply Kd.R_drew)); exact HO_1.out) hb)
                              have n2_ := Aside0.mk (Kd.R_below (by (with_reducible repeat (first | apply Kd.R_alloc | apply Kd.R_drewN | apply Kd.R_drew)); exact HO_5.out) hb)
                              have n3_ := Aside0.mk (below_step (by repeat (first | (with_reducible first | exact HB.out | apply below_alloc | apply pw_below_drewN | apply below_drew1) | exact HB.out)) hb)
                              clear HO_0
                              clear HO_1
                              clear HO_5
                              clear HB
                              have HO_0 := n0_
                              have HO_1 := n1_
                              have HO_5 := n2_
                              have HB := n3_
                              clear n0_ n1_ n2_ n3_
                              (try clear hb)
                              (try clear hb2)
                              (try clear hk)
                              (try clear hi)
                              refine hK.out _ _ ⟨HS0_, HS1_, HS2_, HS3_⟩ (fun hHeld => ?_)
                              clear hK K
                              refine norm_ (a' := ?_) ?_ ?_
                              rotate_left
                              · show Act.put _ (some 31) _ = _
                                simp only [Act.put, List.setIfInBounds_toArray, List.set_cons_zero, List.set_cons_succ, i64_w, i32_w]
                                rfl
                              refine one_ (i := 9) (N := some 8) #[true, true, true, true, true, true, true, true, true, true, false] rfl rfl (one_of HT_.out (by kernel_rfl)) (by decide) (fun K hK => ?_)
                              refine box_step ?hg (N := 8) ?hd (cs := #[.int .i64 0, .int .i64 0]) (t := 30) ?hr ?_; (case hd => rfl); (case hg => rfl); (case hr => first | (go_simp; done) | (go_simp; rfl))
                              intro gb384 hg w62 hbox hb
                              have HS0_ := (hb.cell (World.block_lt_of_cell? _ _ (hHeld.1))).trans (hHeld.1)
                              have HS1_ := (hb.cell (World.block_lt_of_cell? _ _ (hHeld.2.1))).trans (hHeld.2.1)
                              have HS2_ := (hb.cell (World.block_lt_of_cell? _ _ (hHeld.2.2.1))).trans (hHeld.2.2.1)
                              have HS3_ := (hb.cell (World.block_lt_of_cell? _ _ (hHeld.2.2.2))).trans (hHeld.2.2.2)
                              have n0_ := Aside0.mk (Kd.R_below (Kd.R_elderB (by (with_reducible repeat (first | apply Kd.R_alloc | apply Kd.R_drewN | apply Kd.R_drew)); exact HO_0.out) gb384 (Nat.le_of_eq hg.symm)) hb)
                              have n1_ := Aside0.mk (Kd.R_below (Kd.R_elderB (by (with_reducible repeat (first | apply Kd.R_alloc | apply Kd.R_drewN | apply Kd.R_drew)); exact HO_1.out) gb384 (Nat.le_of_eq hg.symm)) hb)
                              have n2_ := Aside0.mk (Kd.R_below (Kd.R_elderB (by (with_reducible repeat (first | apply Kd.R_alloc | apply Kd.R_drewN | apply Kd.R_drew)); exact HO_5.out) gb384 (Nat.le_of_eq hg.symm)) hb)
                              have n3_ := Aside0.mk (below_step (by repeat (first | (with_reducible first | exact HB.out | apply below_alloc | apply pw_below_drewN | apply below_drew1) | exact HB.out)) hb)
                              have n4_ := Aside0.mk (hbox)
                              have n5_ := Aside0.mk ((by rw [hg]; exact (below_size (by repeat (first | (with_reducible first | exact HB.out | apply below_alloc | apply pw_below_drewN | apply below_drew1) | exact HB.out))) : w.heap.size ≤ gb384))
                              have n6_ := Aside0.mk ((by rw [hg]; exact (below_size (by repeat (first | (with_reducible first | exact HB.out | apply below_alloc | apply pw_below_drewN | apply below_drew1) | exact HB.out))) : w.heap.size ≤ gb384))
                              clear HO_0
                              clear HO_1
                              clear HO_5
                              clear HB
                              have HO_0 := n0_
                              have HO_1 := n1_
                              have HO_5 := n2_
                              have HB := n3_
                              have BK384 := n4_
                              have GW384 := n5_
                              have GE384 := n6_
                              clear n0_ n1_ n2_ n3_ n4_ n5_ n6_
                              clear hb hbox hg
                              refine hK.out _ _ ⟨HS0_, HS1_, HS2_, HS3_⟩ (fun hHeld => ?_)
                              clear hK K
                              refine norm_ (a' := ?_) ?_ ?_
                              rotate_left
                              · show Act.put _ (some 8) _ = _
                                simp only [Act.put, List.setIfInBounds_toArray, List.set_cons_zero, List.set_cons_succ, i64_w, i32_w]
                                rfl
                              exact norm_ (by simp only [putAll, Act.put, List.setIfInBounds_toArray, List.set_cons_zero, List.set_cons_succ]) (hCont (gb384) _ ⟨hHeld, (by (with_reducible repeat (first | apply Kd.R_alloc | apply Kd.R_drewN | apply Kd.R_drew)); exact Kd.R_mono HO_0.out (fun _ hk => ⟨hk.1.1, ⟨hk.1.2, hk.2⟩⟩)), (by (with_reducible repeat (first | apply Kd.R_alloc | apply Kd.R_drewN | apply Kd.R_drew)); exact Kd.R_mono HO_1.out (fun _ hk => ⟨hk.1.1, ⟨hk.1.2, hk.2⟩⟩)), (by (with_reducible repeat (first | apply Kd.R_alloc | apply Kd.R_drewN | apply Kd.R_drew)); exact Kd.R_mono HO_5.out (fun _ hk => ⟨hk.1.1, ⟨hk.1.2, hk.2⟩⟩)), (by (with_reducible repeat (first | refine blk_drewN ?_ _ | refine blk_drew ?_ | refine blk_alloc ?_ _)); exact BK384.out), GW384.out, GE384.out, (by repeat (first | (with_reducible first | exact HB.out | apply below_alloc | apply pw_below_drewN | apply below_drew1 | refine below_set ?_ GE384.out) | exact HB.out))⟩)
                            · skip
                              refine box_step ?hg (N := 8) ?hd (cs := #[.int .i64 0, .int .i64 0]) (t := 30) ?hr ?_; (case hd => rfl); (case hg => rfl); (case hr => first | (go_simp; done) | (go_simp; rfl))
                              intro gb384 hg w61 hbox hb
                              have HS0_ := (hb.cell (World.block_lt_of_cell? _ _ (hHeld.1))).trans (hHeld.1)
                              have HS1_ := (hb.cell (World.block_lt_of_cell? _ _ (hHeld.2.1))).trans (hHeld.2.1)
                              have HS2_ := (hb.cell (World.block_lt_of_cell? _ _ (hHeld.2.2.1))).trans (hHeld.2.2.1)
                              have HS3_ := (hb.cell (World.block_lt_of_cell? _ _ (hHeld.2.2.2))).trans (hHeld.2.2.2)
                              have n0_ := Aside0.mk (Kd.R_below (Kd.R_elderB (by (with_reducible repeat (first | apply Kd.R_alloc | apply Kd.R_drewN | apply Kd.R_drew)); exact HO_0.out) gb384 (Nat.le_of_eq hg.symm)) hb)
                              have n1_ := Aside0.mk (Kd.R_below (Kd.R_elderB (by (with_reducible repeat (first | apply Kd.R_alloc | apply Kd.R_drewN | apply Kd.R_drew)); exact HO_1.out) gb384 (Nat.le_of_eq hg.symm)) hb)
                              have n2_ := Aside0.mk (Kd.R_below (Kd.R_elderB (by (with_reducible repeat (first | apply Kd.R_alloc | apply Kd.R_drewN | apply Kd.R_drew)); exact HO_5.out) gb384 (Nat.le_of_eq hg.symm)) hb)
                              have n3_ := Aside0.mk (below_step (by repeat (first | (with_reducible first | exact HB.out | apply below_alloc | apply pw_below_drewN | apply below_drew1) | exact HB.out)) hb)
                              have n4_ := Aside0.mk (hbox)
                              have n5_ := Aside0.mk ((by rw [hg]; exact (below_size (by repeat (first | (with_reducible first | exact HB.out | apply below_alloc | apply pw_below_drewN | apply below_drew1) | exact HB.out))) : w.heap.size ≤ gb384))
                              have n6_ := Aside0.mk ((by rw [hg]; exact (below_size (by repeat (first | (with_reducible first | exact HB.out | apply below_alloc | apply pw_below_drewN | apply below_drew1) | exact HB.out))) : w.heap.size ≤ gb384))
                              clear HO_0
                              clear HO_1
                              clear HO_5
                              clear HB
                              have HO_0 := n0_
                              have HO_1 := n1_
                              have HO_5 := n2_
                              have HB := n3_
                              have BK384 := n4_
                              have GW384 := n5_
                              have GE384 := n6_
                              clear n0_ n1_ n2_ n3_ n4_ n5_ n6_
                              clear hb hbox hg
                              refine hK.out _ _ ⟨HS0_, HS1_, HS2_, HS3_⟩ (fun hHeld => ?_)
                              clear hK K
                              refine norm_ (a' := ?_) ?_ ?_
                              rotate_left
                              · show Act.put _ (some 8) _ = _
                                simp only [Act.put, List.setIfInBounds_toArray, List.set_cons_zero, List.set_cons_succ, i64_w, i32_w]
                                rfl
                              refine one_ (i := 8) (N := some 31) #[true, true, true, true, true, true, true, true, true, true, false] rfl rfl (one_of HT_.out (by kernel_rfl)) (by decide) (fun K hK => ?_)
                              refine goes_ Try.func55 (by kernel_rfl) rfl #[.agg #[.int .i64 ((rd_T30 t374 x6_1).f0), .int .i64 ((rd_T30 t374 x6_1).f1)], .agg #[.int .i64 ((rd_T30 t377 x7_1).f0), .int .i64 ((rd_T30 t377 x7_1).f1)]] (by rfl) rfl rfl (by (try simp only [List.map_toArray, List.map_cons, List.map_nil]); first | done | rfl | (simp only [List.length_drop, List.length_take]; rfl)) ?_
                              with_reducible refine (span_both.calls ((rd_T30 t374 x6_1).f0) ((rd_T30 t374 x6_1).f1) ((rd_T30 t377 x7_1).f0) ((rd_T30 t377 x7_1).f1) t382 t383 _ A17.out).mono ?_
                              rintro e w62 ⟨rfl, hb⟩
                              have HS0_ := (hb.cell (World.block_lt_of_cell? _ _ (hHeld.1))).trans (hHeld.1)
                              have HS1_ := (hb.cell (World.block_lt_of_cell? _ _ (hHeld.2.1))).trans (hHeld.2.1)
                              have HS2_ := (hb.cell (World.block_lt_of_cell? _ _ (hHeld.2.2.1))).trans (hHeld.2.2.1)
                              have HS3_ := (hb.cell (World.block_lt_of_cell? _ _ (hHeld.2.2.2))).trans (hHeld.2.2.2)
                              refine ⟨_, rfl, ?_⟩
                              have n0_ := Aside0.mk (Kd.R_below (by (with_reducible repeat (first | apply Kd.R_alloc | apply Kd.R_drewN | apply Kd.R_drew)); exact HO_0.out) hb)
                              have n1_ := Aside0.mk (Kd.R_below (by (with_reducible repeat (first | apply Kd.R_alloc | apply Kd.R_drewN | apply Kd.R_drew)); exact HO_1.out) hb)
                              have n2_ := Aside0.mk (Kd.R_below (by (with_reducible repeat (first | apply Kd.R_alloc | apply Kd.R_drewN | apply Kd.R_drew)); exact HO_5.out) hb)
                              have n3_ := Aside0.mk (blk_below (g := gb384) (o := .cells #[.int .i64 0, .int .i64 0] 30 (0, 0)) (by (with_reducible repeat (first | refine blk_drewN ?_ _ | refine blk_drew ?_ | refine blk_alloc ?_ _)); exact BK384.out) hb)
                              have n4_ := Aside0.mk (below_step (by repeat (first | (with_reducible first | exact HB.out | apply below_alloc | apply pw_below_drewN | apply below_drew1 | refine below_set ?_ GE384.out) | exact HB.out)) hb)
                              clear HO_0
                              clear HO_1
                              clear HO_5
                              clear BK384
                              clear HB
                              have HO_0 := n0_
                              have HO_1 := n1_
                              have HO_5 := n2_
                              have BK384 := n3_
                              have HB := n4_
                              clear n0_ n1_ n2_ n3_ n4_
                              (try clear hb)
                              (try clear hb2)
                              (try clear hk)
                              (try clear hi)
                              refine hK.out _ _ ⟨HS0_, HS1_, HS2_, HS3_⟩ (fun hHeld => ?_)
                              clear hK K
                              refine norm_ (a' := ?_) ?_ ?_
                              rotate_left
                              · show Act.put _ (some 31) _ = _
                                simp only [Act.put, List.setIfInBounds_toArray, List.set_cons_zero, List.set_cons_succ, i64_w, i32_w]
                                rfl
                              exact norm_ (by simp only [putAll, Act.put, List.setIfInBounds_toArray, List.set_cons_zero, List.set_cons_succ]) (hCont (gb384) _ ⟨hHeld, (by (with_reducible repeat (first | apply Kd.R_alloc | apply Kd.R_drewN | apply Kd.R_drew)); exact Kd.R_mono HO_0.out (fun _ hk => ⟨hk.1.1, ⟨hk.1.2, hk.2⟩⟩)), (by (with_reducible repeat (first | apply Kd.R_alloc | apply Kd.R_drewN | apply Kd.R_drew)); exact Kd.R_mono HO_1.out (fun _ hk => ⟨hk.1.1, ⟨hk.1.2, hk.2⟩⟩)), (by (with_reducible repeat (first | apply Kd.R_alloc | apply Kd.R_drewN | apply Kd.R_drew)); exact Kd.R_mono HO_5.out (fun _ hk => ⟨hk.1.1, ⟨hk.1.2, hk.2⟩⟩)), (by (with_reducible repeat (first | refine blk_drewN ?_ _ | refine blk_drew ?_ | refine blk_alloc ?_ _)); exact BK384.out), GW384.out, GE384.out, (by repeat (first | (with_reducible first | exact HB.out | apply below_alloc | apply pw_below_drewN | apply below_drew1 | refine below_set ?_ GE384.out) | exact HB.out))⟩)
                          rintro gb384 w63 ⟨hS_, h0_, h1_, h2_, h3_, h4_, h5_, h6_⟩
                          have n0_ : Aside0 (Kd.R k30 30 w63 w.heap.size (fun k_ => some k_ ≠ (.slice (some ad381) t377.length co60 : Value).ownBlock ∧ some k_ ≠ (u5 : Value).ownBlock ∧ k_ ≠ gb384) (.slice (some ad380) t374.length co59) t374) := ⟨h0_⟩
                          have n1_ : Aside0 (Kd.R k30 30 w63 w.heap.size (fun k_ => some k_ ≠ (.slice (some ad380) t374.length co59 : Value).ownBlock ∧ some k_ ≠ (u5 : Value).ownBlock ∧ k_ ≠ gb384) (.slice (some ad381) t377.length co60) t377) := ⟨h1_⟩
                          have n2_ : Aside0 (Kd.R k30 30 w63 w.heap.size (fun k_ => some k_ ≠ (.slice (some ad380) t374.length co59 : Value).ownBlock ∧ some k_ ≠ (.slice (some ad381) t377.length co60 : Value).ownBlock ∧ k_ ≠ gb384) u5 x5_1) := ⟨h2_⟩
                          have n3_ : Aside0 (w63.heap[gb384]? = some (.cells #[.int .i64 0, .int .i64 0] 30 (0, 0))) := ⟨h3_⟩
                          have n4_ : Aside0 (w.heap.size ≤ gb384) := ⟨h4_⟩
                          have n5_ : Aside0 (w.heap.size ≤ gb384) := ⟨h5_⟩
                          have n6_ : Aside0 (Below w.heap.size w w63) := ⟨h6_⟩
                          clear HO_0
                          clear HO_1
                          clear HO_5
                          clear HB
                          clear h0_ h1_ h2_ h3_ h4_ h5_ h6_
                          have HO_0 := n0_
                          have HO_1 := n1_
                          have HO_5 := n2_
                          have BK384 := n3_
                          have GW384 := n4_
                          have GE384 := n5_
                          have HB := n6_
                          clear n0_ n1_ n2_ n3_ n4_ n5_ n6_
                          have hHeld : w63.cell? (ad380.add ((x6_1).toNat * 2)) = some (.int .i64 ((rd_T30 t374 x6_1).f0)) ∧ w63.cell? ⟨(ad380.add ((x6_1).toNat * 2)).block, (ad380.add ((x6_1).toNat * 2)).off + 1, none⟩ = some (.int .i64 ((rd_T30 t374 x6_1).f1)) ∧ w63.cell? (ad381.add ((x7_1).toNat * 2)) = some (.int .i64 ((rd_T30 t377 x7_1).f0)) ∧ w63.cell? ⟨(ad381.add ((x7_1).toNat * 2)).block, (ad381.add ((x7_1).toNat * 2)).off + 1, none⟩ = some (.int .i64 ((rd_T30 t377 x7_1).f1)) := hS_
                          refine norm_ (a' := ?_) ?_ ?_
                          rotate_left
                          · simp only [putAll, Act.put, List.setIfInBounds_toArray, List.set_cons_zero, List.set_cons_succ]
                            rfl
                          refine one_ (i := 10) (N := none) #[true, true, true, true, true, true, true, true, true, true, true] rfl rfl (one_of HT_.out (by kernel_rfl)) (by decide) (fun K hK => ?_)
                          have hs64 : w63.cell? ⟨gb384, 0, none⟩ = some (.int .i64 0) := (blk_cell BK384.out 0).trans rfl
                          have hfs64 := blk_frozen BK384.out 0
                          have hs65 : w63.cell? ⟨gb384, 1, none⟩ = some (.int .i64 0) := (blk_cell BK384.out 1).trans rfl
                          have hfs65 := blk_frozen BK384.out 1
                          refine skip_ (w1 := ?_) (by rfl) rfl ?_ ?_
                          rotate_left
                          · go_simp
                            rfl
                          refine hK.out _ _ ⟨((cell_far (p := ⟨gb384, _, none⟩) (by first | exact Kd.own_blk (Kd.R_away HO_0.out (fun _ hk => hk.2.2)) | (rw [add_block]; exact Kd.own_blk (Kd.R_away HO_0.out (fun _ hk => hk.2.2))) | (show (Addr.add _ _).block ≠ _; rw [add_block]; exact Kd.own_blk (Kd.R_away HO_0.out (fun _ hk => hk.2.2))) | (dsimp only; exact Kd.own_blk (Kd.R_away HO_0.out (fun _ hk => hk.2.2)))) _).trans (((cell_far (p := ⟨gb384, _, none⟩) (by first | exact Kd.own_blk (Kd.R_away HO_0.out (fun _ hk => hk.2.2)) | (rw [add_block]; exact Kd.own_blk (Kd.R_away HO_0.out (fun _ hk => hk.2.2))) | (show (Addr.add _ _).block ≠ _; rw [add_block]; exact Kd.own_blk (Kd.R_away HO_0.out (fun _ hk => hk.2.2))) | (dsimp only; exact Kd.own_blk (Kd.R_away HO_0.out (fun _ hk => hk.2.2)))) _).trans (hHeld.1)))), ((cell_far (p := ⟨gb384, _, none⟩) (by first | exact Kd.own_blk (Kd.R_away HO_0.out (fun _ hk => hk.2.2)) | (rw [add_block]; exact Kd.own_blk (Kd.R_away HO_0.out (fun _ hk => hk.2.2))) | (show (Addr.add _ _).block ≠ _; rw [add_block]; exact Kd.own_blk (Kd.R_away HO_0.out (fun _ hk => hk.2.2))) | (dsimp only; exact Kd.own_blk (Kd.R_away HO_0.out (fun _ hk => hk.2.2)))) _).trans (((cell_far (p := ⟨gb384, _, none⟩) (by first | exact Kd.own_blk (Kd.R_away HO_0.out (fun _ hk => hk.2.2)) | (rw [add_block]; exact Kd.own_blk (Kd.R_away HO_0.out (fun _ hk => hk.2.2))) | (show (Addr.add _ _).block ≠ _; rw [add_block]; exact Kd.own_blk (Kd.R_away HO_0.out (fun _ hk => hk.2.2))) | (dsimp only; exact Kd.own_blk (Kd.R_away HO_0.out (fun _ hk => hk.2.2)))) _).trans (hHeld.2.1)))), ((cell_far (p := ⟨gb384, _, none⟩) (by first | exact Kd.own_blk (Kd.R_away HO_1.out (fun _ hk => hk.2.2)) | (rw [add_block]; exact Kd.own_blk (Kd.R_away HO_1.out (fun _ hk => hk.2.2))) | (show (Addr.add _ _).block ≠ _; rw [add_block]; exact Kd.own_blk (Kd.R_away HO_1.out (fun _ hk => hk.2.2))) | (dsimp only; exact Kd.own_blk (Kd.R_away HO_1.out (fun _ hk => hk.2.2)))) _).trans (((cell_far (p := ⟨gb384, _, none⟩) (by first | exact Kd.own_blk (Kd.R_away HO_1.out (fun _ hk => hk.2.2)) | (rw [add_block]; exact Kd.own_blk (Kd.R_away HO_1.out (fun _ hk => hk.2.2))) | (show (Addr.add _ _).block ≠ _; rw [add_block]; exact Kd.own_blk (Kd.R_away HO_1.out (fun _ hk => hk.2.2))) | (dsimp only; exact Kd.own_blk (Kd.R_away HO_1.out (fun _ hk => hk.2.2)))) _).trans (hHeld.2.2.1)))), ((cell_far (p := ⟨gb384, _, none⟩) (by first | exact Kd.own_blk (Kd.R_away HO_1.out (fun _ hk => hk.2.2)) | (rw [add_block]; exact Kd.own_blk (Kd.R_away HO_1.out (fun _ hk => hk.2.2))) | (show (Addr.add _ _).block ≠ _; rw [add_block]; exact Kd.own_blk (Kd.R_away HO_1.out (fun _ hk => hk.2.2))) | (dsimp only; exact Kd.own_blk (Kd.R_away HO_1.out (fun _ hk => hk.2.2)))) _).trans (((cell_far (p := ⟨gb384, _, none⟩) (by first | exact Kd.own_blk (Kd.R_away HO_1.out (fun _ hk => hk.2.2)) | (rw [add_block]; exact Kd.own_blk (Kd.R_away HO_1.out (fun _ hk => hk.2.2))) | (show (Addr.add _ _).block ≠ _; rw [add_block]; exact Kd.own_blk (Kd.R_away HO_1.out (fun _ hk => hk.2.2))) | (dsimp only; exact Kd.own_blk (Kd.R_away HO_1.out (fun _ hk => hk.2.2)))) _).trans (hHeld.2.2.2))))⟩ (fun hHeld => ?_)
                          clear hK K
                          refine done_ (done_of HT_.out (by kernel_rfl)) ?_
                          have hcz66_0 : w63.cell? ⟨gb384, 0, none⟩ = some (.int .i64 0) := (blk_cell BK384.out 0).trans rfl
                          have hcz66_1 : w63.cell? ⟨gb384, 1, none⟩ = some (.int .i64 0) := (blk_cell BK384.out 1).trans rfl
                          have hfz66_0 := blk_frozen BK384.out 0
                          have hfz66_1 := blk_frozen BK384.out 1
                          try go_wp2_with (first | ((with_reducible refine gate_callee (f := 48) rfl ?_); refine goesL_ (some 33) rfl rfl Try.func48 (by kernel_rfl) rfl #[.agg #[.int .i64 t382, .int .i64 t383]] rfl (by (try simp only [List.map_toArray, List.map_cons, List.map_nil]); first | done | rfl | (simp only [List.length_drop, List.length_take]; rfl)) ?_; (with_reducible refine (span_empty.calls t382 t383 false _ A18.out).mono ?_); rintro e w67 ⟨rfl, hb⟩; refine ⟨_, rfl, ?_⟩; have n0_ := Aside0.mk (Kd.R_below (by (with_reducible repeat (first | apply Kd.R_alloc | apply Kd.R_drewN | apply Kd.R_drew)); exact (Kd.R_mono (Kd.R_far (p := ⟨gb384, 1, none⟩) (Kd.R_far (p := ⟨gb384, 0, none⟩) (Kd.R_mono HO_0.out (fun k_ hk => (⟨hk, hk.2.2⟩ : _ ∧ k_ ≠ gb384))) (fun _ hk => hk.2) (.int .i64 t382)) (fun _ hk => hk.2) (.int .i64 t383)) (fun _ h_ => h_.1))) hb); have n1_ := Aside0.mk (Kd.R_below (by (with_reducible repeat (first | apply Kd.R_alloc | apply Kd.R_drewN | apply Kd.R_drew)); exact (Kd.R_mono (Kd.R_far (p := ⟨gb384, 1, none⟩) (Kd.R_far (p := ⟨gb384, 0, none⟩) (Kd.R_mono HO_1.out (fun k_ hk => (⟨hk, hk.2.2⟩ : _ ∧ k_ ≠ gb384))) (fun _ hk => hk.2) (.int .i64 t382)) (fun _ hk => hk.2) (.int .i64 t383)) (fun _ h_ => h_.1))) hb); have n2_ := Aside0.mk (Kd.R_below (by (with_reducible repeat (first | apply Kd.R_alloc | apply Kd.R_drewN | apply Kd.R_drew)); exact (Kd.R_mono (Kd.R_far (p := ⟨gb384, 1, none⟩) (Kd.R_far (p := ⟨gb384, 0, none⟩) (Kd.R_mono HO_5.out (fun k_ hk => (⟨hk, hk.2.2⟩ : _ ∧ k_ ≠ gb384))) (fun _ hk => hk.2) (.int .i64 t382)) (fun _ hk => hk.2) (.int .i64 t383)) (fun _ h_ => h_.1))) hb); have n3_ := Aside0.mk (blk_below (g := gb384) (o := .cells #[.int .i64 t382, .int .i64 t383] 30 (0, 0)) (by (with_reducible repeat (first | refine blk_drewN ?_ _ | refine blk_drew ?_ | refine blk_alloc ?_ _)); refine blk_put (cs := #[.int .i64 t382, .int .i64 0]) ?_ 1 _ rfl; (with_reducible repeat (first | refine blk_drewN ?_ _ | refine blk_drew ?_ | refine blk_alloc ?_ _)); refine blk_put (cs := #[.int .i64 0, .int .i64 0]) ?_ 0 _ rfl; (with_reducible repeat (first | refine blk_drewN ?_ _ | refine blk_drew ?_ | refine blk_alloc ?_ _)); exact BK384.out) hb); have n4_ := Aside0.mk (below_step (by repeat (first | (with_reducible first | exact HB.out | apply below_alloc | apply pw_below_drewN | apply below_drew1 | refine below_set ?_ GE384.out) | exact HB.out)) hb); clear HO_0; clear HO_1; clear HO_5; clear BK384; clear HB; have HO_0 := n0_; have HO_1 := n1_; have HO_5 := n2_; have BK384 := n3_; have HB := n4_; clear n0_ n1_ n2_ n3_ n4_; (try clear hb); (try clear hb2); (try clear hk); (try clear hi); have hcz68_0 : w67.cell? ⟨gb384, 0, none⟩ = some (.int .i64 t382) := (blk_cell BK384.out 0).trans rfl; have hcz68_1 : w67.cell? ⟨gb384, 1, none⟩ = some (.int .i64 t383) := (blk_cell BK384.out 1).trans rfl; have hfz68_0 := blk_frozen BK384.out 0; have hfz68_1 := blk_frozen BK384.out 1) | ((with_reducible refine gate_builtin (b := .append) (xs := #[.tmp 35, .tmp 37]) rfl ?_); (try (refine gate_guard (by rfl) ?_; dsimp only)); at_builtin; refine Kd.R_append k30 (w0 := w) w.heap.size rfl (.tmp 35) (.tmp 37) 22 30 (.agg #[(.int .i64 0), (.int .i64 0)]) 16 rfl Try.underlying22 info30 rfl (by decide) (by omega) u5 x5_1 (⟨t382, t383⟩ : S30) [.int .i64 t382, .int .i64 t383] (fun k_ => some k_ ≠ (.slice (some ad380) t374.length co59 : Value).ownBlock ∧ some k_ ≠ (.slice (some ad381) t377.length co60 : Value).ownBlock ∧ k_ ≠ gb384) (fun _ => False) rfl rfl ?aP (fun _ hk => hk.elim) ?aF ?aO ?aB ?aS ?aL ?_; (case aP => exact k30_mkM _ _ _ (⟨t382, t383⟩ : S30)); (case aB => exact (by repeat (first | (with_reducible first | exact HB.out | apply below_alloc | apply pw_below_drewN | apply below_drew1 | refine below_set ?_ GE384.out) | exact HB.out))); (case aF => exact (fun k_ hk => ⟨Kd.fresh' (Kd.R_lt (by (with_reducible repeat (first | apply Kd.R_alloc | apply Kd.R_drewN | apply Kd.R_drew)); exact HO_0.out)) k_ hk, Kd.fresh' (Kd.R_lt (by (with_reducible repeat (first | apply Kd.R_alloc | apply Kd.R_drewN | apply Kd.R_drew)); exact HO_1.out)) k_ hk, Kd.freshB (g := gb384) (o := .cells #[.int .i64 t382, .int .i64 t383] 30 (0, 0)) (by (with_reducible repeat (first | refine blk_drewN ?_ _ | refine blk_drew ?_ | refine blk_alloc ?_ _)); exact BK384.out) k_ hk⟩)); (case aO => exact (by (with_reducible repeat (first | apply Kd.R_alloc | apply Kd.R_drewN | apply Kd.R_drew)); exact HO_5.out)); (case aS => exact (below_size (by repeat (first | (with_reducible first | exact HB.out | apply below_alloc | apply pw_below_drewN | apply below_drew1 | refine below_set ?_ GE384.out) | exact HB.out)))); (case aL => have := LMc43.out; omega); intro v389 w69 ho hb hg hat; rw [← Ny388.out] at ho; have n0_ := Aside0.mk (Kd.R_after (ok := (fun k_ => some k_ ≠ (.slice (some ad381) t377.length co60 : Value).ownBlock ∧ k_ ≠ gb384)) (by (with_reducible repeat (first | apply Kd.R_alloc | apply Kd.R_drewN | apply Kd.R_drew)); exact Kd.R_mono HO_0.out (fun _ hk => ⟨⟨hk.1, hk.2.2⟩, hk.2.1⟩)) hg hat); have n1_ := Aside0.mk (Kd.R_after (ok := (fun k_ => some k_ ≠ (.slice (some ad380) t374.length co59 : Value).ownBlock ∧ k_ ≠ gb384)) (by (with_reducible repeat (first | apply Kd.R_alloc | apply Kd.R_drewN | apply Kd.R_drew)); exact Kd.R_mono HO_1.out (fun _ hk => ⟨⟨hk.1, hk.2.2⟩, hk.2.1⟩)) hg hat); have n2_ := Aside0.mk (blk_grown (g := gb384) (o := .cells #[.int .i64 t382, .int .i64 t383] 30 (0, 0)) (by (with_reducible repeat (first | refine blk_drewN ?_ _ | refine blk_drew ?_ | refine blk_alloc ?_ _)); exact BK384.out) hg (Kd.R_away HO_5.out (fun _ hk => hk.2.2))); have n3_ := Aside0.mk (hb); have n4_ := Aside0.mk (ho); clear HO_0; clear HO_1; clear BK384; clear HB; clear HO_5; have HO_0 := n0_; have HO_1 := n1_; have BK384 := n2_; have HB := n3_; have HO390 := n4_; clear n0_ n1_ n2_ n3_ n4_; clear ho hb hg hat))
                          have n0_ := Aside0.mk (Kd.R_drew HO_0.out)
                          have n1_ := Aside0.mk (Kd.R_drew HO_1.out)
                          have n2_ := Aside0.mk (Kd.R_drew HO390.out)
                          have n3_ := Aside0.mk (blk_drew BK384.out)
                          have n4_ := Aside0.mk (below_drew1 HB.out)
                          clear HO_0
                          clear HO_1
                          clear HO390
                          clear BK384
                          clear HB
                          have HO_0 := n0_
                          have HO_1 := n1_
                          have HO390 := n2_
                          have BK384 := n3_
                          have HB := n4_
                          clear n0_ n1_ n2_ n3_ n4_
                          have p391 : 0 ≤ (x6_1 : Int) := of_decide_eq_true (by first | (with_reducible assumption) | assumption)
                          have q391 : x6_1 < (t374.length : Int) := of_decide_eq_true (by first | (with_reducible assumption) | assumption)
                          obtain ⟨ad391, e391, hx391_0, hx391_1⟩ := at_T30 (Kd.R_reads' HO_0.out).2.2 x6_1 p391 q391
                          obtain rfl : ad380 = ad391 := (by injection e391)
                          replace p391 := eq_true p391
                          replace q391 := eq_true q391
                          have p392 : 0 ≤ (x7_1 : Int) := of_decide_eq_true (by first | (with_reducible assumption) | assumption)
                          have q392 : x7_1 < (t377.length : Int) := of_decide_eq_true (by first | (with_reducible assumption) | assumption)
                          obtain ⟨ad392, e392, hx392_0, hx392_1⟩ := at_T30 (Kd.R_reads' HO_1.out).2.2 x7_1 p392 q392
                          obtain rfl : ad381 = ad392 := (by injection e392)
                          replace p392 := eq_true p392
                          replace q392 := eq_true q392
                          refine start_ (n := 11) (S := fun w' => w'.cell? (ad380.add ((x6_1).toNat * 2)) = some (.int .i64 ((rd_T30 t374 x6_1).f0)) ∧ w'.cell? ⟨(ad380.add ((x6_1).toNat * 2)).block, (ad380.add ((x6_1).toNat * 2)).off + 1, none⟩ = some (.int .i64 ((rd_T30 t374 x6_1).f1)) ∧ w'.cell? (ad381.add ((x7_1).toNat * 2)) = some (.int .i64 ((rd_T30 t377 x7_1).f0)) ∧ w'.cell? ⟨(ad381.add ((x7_1).toNat * 2)).block, (ad381.add ((x7_1).toNat * 2)).off + 1, none⟩ = some (.int .i64 ((rd_T30 t377 x7_1).f1))) (ds := []) #[false, false, false, false, false, false, false, false, false, false, false] (by kernel_rfl) rfl rfl ⟨hx391_0, hx391_1, hx392_0, hx392_1⟩ (fun hHeld => ?_); refine with_tabW span_Meet.tab8 span_Meet.bits8 (fun HT_ HW_ => ?_)
                          generalize w69.drew = w70 at HO_0 HO_1 HO390 BK384 HB hx391_0 hx391_1 hx392_0 hx392_1 hHeld ⊢
                          refine pure_ (i := 0) (N := some 39) (v := ?_) (a' := ?_) #[true, false, false, false, false, false, false, false, false, false, false] rfl rfl (any_of HT_.out (by kernel_rfl)) (fun _ _ _ h => h) (Or.inl ⟨by rfl, ?_⟩) ?_ ?_
                          rotate_left
                          · intro w'
                            go_simp
                            with_reducible rfl
                          rotate_left
                          · simp only [Act.put, List.setIfInBounds_toArray, List.set_cons_zero, List.set_cons_succ, i64_w, i32_w]
                            rfl
                          refine pure_ (i := 1) (N := some 40) (v := ?_) (a' := ?_) #[true, true, false, false, false, false, false, false, false, false, false] rfl rfl (any_of HT_.out (by kernel_rfl)) (fun _ _ _ h => h) (Or.inl ⟨by rfl, ?_⟩) ?_ ?_
                          rotate_left
                          · intro w'
                            go_simp
                            with_reducible rfl
                          rotate_left
                          · simp only [Act.put, List.setIfInBounds_toArray, List.set_cons_zero, List.set_cons_succ, i64_w, i32_w]
                            rfl
                          refine pure_ (i := 2) (N := some 41) (v := ?_) (a' := ?_) #[true, true, true, false, false, false, false, false, false, false, false] rfl rfl (any_of HT_.out (by kernel_rfl)) (fun _ _ _ h => h) (Or.inl ⟨by rfl, ?_⟩) ?_ ?_
                          rotate_left
                          · intro w'
                            go_simp
                            with_reducible rfl
                          rotate_left
                          · simp only [Act.put, List.setIfInBounds_toArray, List.set_cons_zero, List.set_cons_succ, i64_w, i32_w]
                            rfl
                          refine pure_ (i := 3) (N := some 42) (v := ?_) (a' := ?_) #[true, true, true, true, false, false, false, false, false, false, false] rfl rfl (any_of HT_.out (by kernel_rfl)) (fun _ _ _ h => h) (Or.inl ⟨by rfl, ?_⟩) ?_ ?_
                          rotate_left
                          · intro w'
                            go_simp
                            with_reducible rfl
                          rotate_left
                          · simp only [Act.put, List.setIfInBounds_toArray, List.set_cons_zero, List.set_cons_succ, i64_w, i32_w]
                            rfl
                          refine pure_ (i := 5) (N := some 44) (v := ?_) (a' := ?_) #[true, true, true, true, false, true, false, false, false, false, false] rfl rfl (any_of HT_.out (by kernel_rfl)) (fun _ _ _ h => h) (Or.inl ⟨by rfl, ?_⟩) ?_ ?_
                          rotate_left
                          · intro w'
                            go_simp
                            with_reducible rfl
                          rotate_left
                          · simp only [Act.put, List.setIfInBounds_toArray, List.set_cons_zero, List.set_cons_succ, i64_w, i32_w]
                            rfl
                          refine pure_ (i := 6) (N := some 45) (v := ?_) (a' := ?_) #[true, true, true, true, false, true, true, false, false, false, false] rfl rfl (any_of HT_.out (by kernel_rfl)) (fun _ _ _ h => h) (Or.inl ⟨by rfl, ?_⟩) ?_ ?_
                          rotate_left
                          · intro w'
                            go_simp
                            with_reducible rfl
                          rotate_left
                          · simp only [Act.put, List.setIfInBounds_toArray, List.set_cons_zero, List.set_cons_succ, i64_w, i32_w]
                            rfl
                          refine pure_ (i := 7) (N := some 46) (v := ?_) (a' := ?_) #[true, true, true, true, false, true, true, true, false, false, false] rfl rfl (any_of HT_.out (by kernel_rfl)) (fun _ _ _ h => h) (Or.inl ⟨by rfl, ?_⟩) ?_ ?_
                          rotate_left
                          · intro w'
                            go_simp
                            with_reducible rfl
                          rotate_left
                          · simp only [Act.put, List.setIfInBounds_toArray, List.set_cons_zero, List.set_cons_succ, i64_w, i32_w]
                            rfl
                          refine pure_ (i := 8) (N := some 47) (v := ?_) (a' := ?_) #[true, true, true, true, false, true, true, true, true, false, false] rfl rfl (any_of HT_.out (by kernel_rfl)) (fun _ _ _ h => h) (Or.inl ⟨by rfl, ?_⟩) ?_ ?_
                          rotate_left
                          · intro w'
                            go_simp
                            with_reducible rfl
                          rotate_left
                          · simp only [Act.put, List.setIfInBounds_toArray, List.set_cons_zero, List.set_cons_succ, i64_w, i32_w]
                            rfl
                          refine take_ (i := 4) (N := some 43) (v := ?_) (a' := ?_) #[true, true, true, true, true, true, true, true, true, false, false] rfl rfl (take_ofW HT_.out HW_.out (by kernel_rfl)) (fun _ _ _ h => h) (Or.inl ⟨by rfl, ?_⟩) hHeld ?_ ?_
                          rotate_left
                          · rintro w' ⟨s0, s1, s2, s3⟩
                            go_simp
                            with_reducible rfl
                          rotate_left
                          · simp only [Act.put, List.setIfInBounds_toArray, List.set_cons_zero, List.set_cons_succ, i64_w, i32_w]
                            rfl
                          refine take_ (i := 9) (N := some 48) (v := ?_) (a' := ?_) #[true, true, true, true, true, true, true, true, true, true, false] rfl rfl (take_ofW HT_.out HW_.out (by kernel_rfl)) (fun _ _ _ h => h) (Or.inl ⟨by rfl, ?_⟩) hHeld ?_ ?_
                          rotate_left
                          · rintro w' ⟨s0, s1, s2, s3⟩
                            go_simp
                            with_reducible rfl
                          rotate_left
                          · simp only [Act.put, List.setIfInBounds_toArray, List.set_cons_zero, List.set_cons_succ, i64_w, i32_w]
                            rfl
                          refine pure_ (i := 10) (N := some 49) (v := ?_) (a' := ?_) #[true, true, true, true, true, true, true, true, true, true, true] rfl rfl (any_of HT_.out (by kernel_rfl)) (fun _ _ _ h => h) (Or.inl ⟨by rfl, ?_⟩) ?_ ?_
                          rotate_left
                          · intro w'
                            go_simp
                            with_reducible rfl
                          rotate_left
                          · simp only [Act.put, List.setIfInBounds_toArray, List.set_cons_zero, List.set_cons_succ, i64_w, i32_w]
                            rfl
                          refine done_ (done_of HT_.out (by kernel_rfl)) ?_
                          try go_wp2
                          go_roundg kj6
                          case measure => have := HK1.out; have := HJ6.out; omega
                          case rel => exact ⟨(y388), (x6_1), (wrap64 (x7_1 + 1)), (by first | rfl | (simp; done) | (simp [*]; done)), (by first | rfl | (simp; done) | (simp [*]; done)), H', ⟨by have := HK1.out; have := HJ6.out; omega⟩, ⟨by (with_reducible repeat (first | apply Kd.R_alloc | apply Kd.R_drewN | apply Kd.R_drew)); exact Kd.R_mono HO_0.out (fun _ hk => ⟨hk.1.1, hk.2⟩)⟩, ⟨by (with_reducible repeat (first | apply Kd.R_alloc | apply Kd.R_drewN | apply Kd.R_drew)); exact Kd.R_mono HO_1.out (fun _ hk => ⟨hk.1.1, hk.2⟩)⟩, ⟨by (with_reducible repeat (first | apply Kd.R_alloc | apply Kd.R_drewN | apply Kd.R_drew)); exact Kd.R_mono HO390.out (fun _ hk => ⟨hk.1, hk.2.1⟩)⟩, ⟨by repeat (first | (with_reducible first | exact HB.out | apply below_alloc | apply pw_below_drewN | apply below_drew1 | refine below_set ?_ GE384.out) | exact HB.out)⟩⟩
                      · rw [if_neg c43] at H
                        exact absurd H (by simp)
                  · rw [if_neg c16] at H
                    exact absurd H (by simp)
                · rw [if_neg c15] at H
                  exact absurd H (by simp)
              · rw [if_neg c14] at H
                exact absurd H (by simp)
            · rw [if_neg c13] at H
              exact absurd H (by simp)
          · replace c12 := Bool.eq_false_iff.mpr c12
            subst c12
            have H1 : (some x5_1) = some r := by rw [if_neg (show ¬ (false = true) by decide)] at H; exact H
            clear H
            have H := H1
            clear H1
            obtain rfl := Option.some.inj H
            go_wp2
            go_ret
            exact ⟨_, by first | rfl | (simp [errW_none, errW_some] <;> rfl) | (simp [*, errW_none, errW_some] <;> rfl), by (with_reducible repeat (first | apply Kd.R_alloc | apply Kd.R_drewN | apply Kd.R_drew)); exact Kd.R_mono HO_5.out (fun _ hk => trivial), by repeat (first | (with_reducible first | exact HB.out | apply below_alloc | apply pw_below_drewN | apply below_drew1) | exact HB.out)⟩
end Go.Proofs.Ytgncbhpmnjfhhaa.S
end
section
namespace Go.Proofs.Ytgncbhpmnjfhhaa.S
open Go.RowKit Go.Proofs.YtgncbhpmnjfhhaaW.PrintWords Go.Proofs.YtgncbhpmnjfhhaaW.PrintLast Go.Proofs.YtgncbhpmnjfhhaaW.PrintMore
set_option linter.unusedVariables false
set_option linter.unusedSimpArgs false
structure RowAt (w : World) (A : Option Addr) (c : Nat) (l : List S30) : Prop where
  row : Kd.C k30 w A l.length l
  cap : l.length ≤ c
theorem RowAt.below {w w' : World} {A : Option Addr} {c : Nat} {l : List S30} (h : RowAt w A c l) (hb : Below w.heap.size w w') : RowAt w' A c l := ⟨Kd.C_below h.row hb, h.cap⟩
def GivesRow (w : World) (r : List S30) (e : Ending) (w' : World) : Prop := ∃ A c, e = .returned (.slice A r.length c) ∧ RowAt w' A c r ∧ Below w.heap.size w w'
def GivesBool (w : World) (r : Bool) (e : Ending) (w' : World) : Prop := e = .returned (.bool r) ∧ Below w.heap.size w w'
theorem gives_of {w w' : World} {r : List S30} {e : Ending} (h : ∃ v0_ : Value, e = .returned v0_ ∧ Kd.R k30 30 w' w.heap.size (fun _ => True) v0_ r ∧ Below w.heap.size w w') : GivesRow w r e w' := by
  obtain ⟨v, rfl, hr, hb⟩ := h
  obtain ⟨A, c, rfl⟩ := Kd.R_slice hr
  exact ⟨A, c, rfl, ⟨(Kd.R_reads' hr).2.2, (Kd.R_reads' hr).2.1⟩, hb⟩
section
variable {w : World} {A B : Option Addr} {c d : Nat} {l m r : List S30}
theorem cutC (h : RowAt w A c l) (hf : lamellalaw02_cut.f l = some r) : Calls Try.prog 17 #[.slice A l.length c] w (GivesRow w r) :=
  (lamellalaw02_cut.calls (fun k_ => k_ < w.heap.size) A c l r w (Kd.V_mk h.cap (Kd.F_below (Kd.C_F k30_heap h.row) (Below.refl _ _))) hf).mono fun e w' ⟨v, he, hv, hb⟩ => by
    subst he
    obtain ⟨A, c, rfl⟩ := Kd.V_slice hv
    exact ⟨A, c, rfl, ⟨(Kd.V_reads' hv).2.2, (Kd.V_reads' hv).2.1⟩, hb⟩
theorem normC (k : Nat) (h : RowAt w A c l) (hf : span_Norm.f k l = some r) : Calls Try.prog 18 #[.slice A l.length c] w (GivesRow w r) :=
  (span_Norm.calls k A c l r w h.row h.cap hf).mono fun _ _ => gives_of
theorem joinC (h : RowAt w A c l) (h' : RowAt w B d m) (hf : span_Join.f l m = some r) : Calls Try.prog 44 #[.slice A l.length c, .slice B m.length d] w (GivesRow w r) :=
  (span_Join.calls A c l B d m r w h.row h.cap h'.row h'.cap hf).mono fun _ _ => gives_of
theorem meetC (k : Nat) (h : RowAt w A c l) (h' : RowAt w B d m) (hf : span_Meet.f k l m = some r) : Calls Try.prog 42 #[.slice A l.length c, .slice B m.length d] w (GivesRow w r) :=
  (span_Meet.calls k A c l B d m r w h.row h.cap h'.row h'.cap hf).mono fun _ _ => gives_of
theorem cut23C (k : Nat) (h : RowAt w A c l) (h' : RowAt w B d m) (hf : span_Cut.f k l m = some r) : Calls Try.prog 23 #[.slice A l.length c, .slice B m.length d] w (GivesRow w r) :=
  (span_Cut.calls k A c l B d m r w h.row h.cap h'.row h'.cap hf).mono fun _ _ => gives_of
theorem sameC (k : Nat) (h : RowAt w A c l) (h' : RowAt w B d m) {b : Bool} (hf : lamellaref02_Same.f k l m = some b) : Calls Try.prog 19 #[.slice A l.length c, .slice B m.length d] w (GivesBool w b) :=
  (lamellaref02_Same.calls k A c l B d m b w h.row h.cap h'.row h'.cap hf).mono fun e w' ⟨he, ⟨⟨q, hq⟩⟩⟩ => ⟨he, by subst hq; exact pw_below_drewN (Below.refl _ _) q⟩
theorem livesC (w : World) : Calls Try.prog 22 #[] w (GivesBool w true) := (lamellalaw02_lives.calls true w rfl).mono fun _ _ h => h
end
end Go.Proofs.Ytgncbhpmnjfhhaa.S
end
section
namespace Go.Proofs.Ytgncbhpmnjfhhaa.S
open Go.RowKit Go.Proofs.YtgncbhpmnjfhhaaW.PrintWords Go.Proofs.YtgncbhpmnjfhhaaW.PrintLast Go.Proofs.YtgncbhpmnjfhhaaW.PrintMore
set_option linter.unusedVariables false
set_option linter.unusedSimpArgs false
structure SetsData (k : Nat) (l0 l1 l2 a b c bc o m1 m2 th d1 ab na : List S30) : Prop where
  E1 : lamellalaw02_cut.f l0 = some a
  E2 : lamellalaw02_cut.f l1 = some b
  E3 : lamellalaw02_cut.f l2 = some c
  JBC : span_Join.f b c = some bc
  MO : span_Meet.f k a bc = some o
  M1 : span_Meet.f k a b = some m1
  M2 : span_Meet.f k a c = some m2
  JO : span_Join.f m1 m2 = some o
  CT : span_Cut.f k a bc = some th
  CD : span_Cut.f k a b = some d1
  CF : span_Cut.f k d1 c = some th
  SO : lamellaref02_Same.f k o o = some true
  ST : lamellaref02_Same.f k th th = some true
  JAB : span_Join.f a b = some ab
  JBA : span_Join.f b a = some ab
  SAB : lamellaref02_Same.f k ab ab = some true
  MBA : span_Meet.f k b a = some m1
  SM : lamellaref02_Same.f k m1 m1 = some true
  JDM : span_Join.f d1 m1 = some na
  NA : span_Norm.f k a = some na
  SN : lamellaref02_Same.f k na na = some true
  NN : span_Norm.f k na = some na
set_option maxHeartbeats 16000000 in
set_option maxRecDepth 100000 in
theorem setsC (k : Nat) (l0 l1 l2 a b c bc o m1 m2 th d1 ab na : List S30) (D : SetsData k l0 l1 l2 a b c bc o m1 m2 th d1 ab na) (A0 : Option Addr) (c0 : Nat) (A1 : Option Addr) (c1 : Nat) (A2 : Option Addr) (c2 : Nat) (w : World) (h0 : RowAt w A0 c0 l0) (h1 : RowAt w A1 c1 l1) (h2 : RowAt w A2 c2 l2) :
    Calls Try.prog 14 #[.slice A0 l0.length c0, .slice A1 l1.length c1, .slice A2 l2.length c2] w (GivesBool w true) := by
  have Hx0 := Aside0.mk h0
  have Hx1 := Aside0.mk h1
  have Hx2 := Aside0.mk h2
  have HB := Aside0.mk (Below.refl w.heap.size w)
  have E1 := Aside0.mk D.E1
  have E2 := Aside0.mk D.E2
  have E3 := Aside0.mk D.E3
  have JBC := Aside0.mk D.JBC
  have MO := Aside0.mk D.MO
  have M1 := Aside0.mk D.M1
  have M2 := Aside0.mk D.M2
  have JO := Aside0.mk D.JO
  have CT := Aside0.mk D.CT
  have CD := Aside0.mk D.CD
  have CF := Aside0.mk D.CF
  have SO := Aside0.mk D.SO
  have ST := Aside0.mk D.ST
  have JAB := Aside0.mk D.JAB
  have JBA := Aside0.mk D.JBA
  have SAB := Aside0.mk D.SAB
  have MBA := Aside0.mk D.MBA
  have SM := Aside0.mk D.SM
  have JDM := Aside0.mk D.JDM
  have NA := Aside0.mk D.NA
  have SN := Aside0.mk D.SN
  have NN := Aside0.mk D.NN
  clear h0 h1 h2 D
  have tok0 : True := trivial
  go_enter Try.func14, Try.ntmps14
  go_wp2_with (first
    | (have _t := tok0; go_at_call 17; refine (cutC Hx0.out E1.out).mono ?_; rintro e_ w0_ ⟨Aa, ca, rfl, hR_, hb_⟩; have n_ := Aside0.mk (RowAt.below Hx1.out hb_); clear Hx1; have Hx1 := n_; clear n_; have n_ := Aside0.mk (RowAt.below Hx2.out hb_); clear Hx2; have Hx2 := n_; clear n_; clear Hx0; have Ha := Aside0.mk hR_; clear hR_; have n_ := Aside0.mk (below_step HB.out hb_); clear HB; have HB := n_; clear n_ hb_; clear _t tok0; have tok1 : True := trivial)
    | (have _t := tok1; go_at_call 17; refine (cutC Hx1.out E2.out).mono ?_; rintro e_ w1_ ⟨Ab, cb, rfl, hR_, hb_⟩; have n_ := Aside0.mk (RowAt.below Hx2.out hb_); clear Hx2; have Hx2 := n_; clear n_; have n_ := Aside0.mk (RowAt.below Ha.out hb_); clear Ha; have Ha := n_; clear n_; clear Hx1; have Hb := Aside0.mk hR_; clear hR_; have n_ := Aside0.mk (below_step HB.out hb_); clear HB; have HB := n_; clear n_ hb_; clear _t tok1; have tok2 : True := trivial)
    | (have _t := tok2; go_at_call 17; refine (cutC Hx2.out E3.out).mono ?_; rintro e_ w2_ ⟨Ac, cc, rfl, hR_, hb_⟩; have n_ := Aside0.mk (RowAt.below Ha.out hb_); clear Ha; have Ha := n_; clear n_; have n_ := Aside0.mk (RowAt.below Hb.out hb_); clear Hb; have Hb := n_; clear n_; clear Hx2; have Hc := Aside0.mk hR_; clear hR_; have n_ := Aside0.mk (below_step HB.out hb_); clear HB; have HB := n_; clear n_ hb_; clear _t tok2; have tok3 : True := trivial)
    | (have _t := tok3; go_at_call 44; refine (joinC Hb.out Hc.out JBC.out).mono ?_; rintro e_ w3_ ⟨Abc, cbc, rfl, hR_, hb_⟩; have n_ := Aside0.mk (RowAt.below Ha.out hb_); clear Ha; have Ha := n_; clear n_; have n_ := Aside0.mk (RowAt.below Hb.out hb_); clear Hb; have Hb := n_; clear n_; have n_ := Aside0.mk (RowAt.below Hc.out hb_); clear Hc; have Hc := n_; clear n_; have Hbc := Aside0.mk hR_; clear hR_; have n_ := Aside0.mk (below_step HB.out hb_); clear HB; have HB := n_; clear n_ hb_; clear _t tok3; have tok4 : True := trivial)
    | (have _t := tok4; go_at_call 42; refine (meetC k Ha.out Hbc.out MO.out).mono ?_; rintro e_ w4_ ⟨Aone, cone, rfl, hR_, hb_⟩; have n_ := Aside0.mk (RowAt.below Ha.out hb_); clear Ha; have Ha := n_; clear n_; have n_ := Aside0.mk (RowAt.below Hb.out hb_); clear Hb; have Hb := n_; clear n_; have n_ := Aside0.mk (RowAt.below Hc.out hb_); clear Hc; have Hc := n_; clear n_; clear Hbc; have Hone := Aside0.mk hR_; clear hR_; have n_ := Aside0.mk (below_step HB.out hb_); clear HB; have HB := n_; clear n_ hb_; clear _t tok4; have tok5 : True := trivial)
    | (have _t := tok5; go_at_call 42; refine (meetC k Ha.out Hb.out M1.out).mono ?_; rintro e_ w5_ ⟨Ap1, cp1, rfl, hR_, hb_⟩; have n_ := Aside0.mk (RowAt.below Ha.out hb_); clear Ha; have Ha := n_; clear n_; have n_ := Aside0.mk (RowAt.below Hb.out hb_); clear Hb; have Hb := n_; clear n_; have n_ := Aside0.mk (RowAt.below Hc.out hb_); clear Hc; have Hc := n_; clear n_; have n_ := Aside0.mk (RowAt.below Hone.out hb_); clear Hone; have Hone := n_; clear n_; have Hp1 := Aside0.mk hR_; clear hR_; have n_ := Aside0.mk (below_step HB.out hb_); clear HB; have HB := n_; clear n_ hb_; clear _t tok5; have tok6 : True := trivial)
    | (have _t := tok6; go_at_call 42; refine (meetC k Ha.out Hc.out M2.out).mono ?_; rintro e_ w6_ ⟨Ap2, cp2, rfl, hR_, hb_⟩; have n_ := Aside0.mk (RowAt.below Ha.out hb_); clear Ha; have Ha := n_; clear n_; have n_ := Aside0.mk (RowAt.below Hb.out hb_); clear Hb; have Hb := n_; clear n_; have n_ := Aside0.mk (RowAt.below Hc.out hb_); clear Hc; have Hc := n_; clear n_; have n_ := Aside0.mk (RowAt.below Hone.out hb_); clear Hone; have Hone := n_; clear n_; have n_ := Aside0.mk (RowAt.below Hp1.out hb_); clear Hp1; have Hp1 := n_; clear n_; have Hp2 := Aside0.mk hR_; clear hR_; have n_ := Aside0.mk (below_step HB.out hb_); clear HB; have HB := n_; clear n_ hb_; clear _t tok6; have tok7 : True := trivial)
    | (have _t := tok7; go_at_call 44; refine (joinC Hp1.out Hp2.out JO.out).mono ?_; rintro e_ w7_ ⟨Atwo, ctwo, rfl, hR_, hb_⟩; have n_ := Aside0.mk (RowAt.below Ha.out hb_); clear Ha; have Ha := n_; clear n_; have n_ := Aside0.mk (RowAt.below Hb.out hb_); clear Hb; have Hb := n_; clear n_; have n_ := Aside0.mk (RowAt.below Hc.out hb_); clear Hc; have Hc := n_; clear n_; have n_ := Aside0.mk (RowAt.below Hone.out hb_); clear Hone; have Hone := n_; clear n_; clear Hp1; clear Hp2; have Htwo := Aside0.mk hR_; clear hR_; have n_ := Aside0.mk (below_step HB.out hb_); clear HB; have HB := n_; clear n_ hb_; clear _t tok7; have tok8 : True := trivial)
    | (have _t := tok8; go_at_call 44; refine (joinC Hb.out Hc.out JBC.out).mono ?_; rintro e_ w8_ ⟨Abd, cbd, rfl, hR_, hb_⟩; have n_ := Aside0.mk (RowAt.below Ha.out hb_); clear Ha; have Ha := n_; clear n_; have n_ := Aside0.mk (RowAt.below Hb.out hb_); clear Hb; have Hb := n_; clear n_; have n_ := Aside0.mk (RowAt.below Hc.out hb_); clear Hc; have Hc := n_; clear n_; have n_ := Aside0.mk (RowAt.below Hone.out hb_); clear Hone; have Hone := n_; clear n_; have n_ := Aside0.mk (RowAt.below Htwo.out hb_); clear Htwo; have Htwo := n_; clear n_; have Hbd := Aside0.mk hR_; clear hR_; have n_ := Aside0.mk (below_step HB.out hb_); clear HB; have HB := n_; clear n_ hb_; clear _t tok8; have tok9 : True := trivial)
    | (have _t := tok9; go_at_call 23; refine (cut23C k Ha.out Hbd.out CT.out).mono ?_; rintro e_ w9_ ⟨Athree, cthree, rfl, hR_, hb_⟩; have n_ := Aside0.mk (RowAt.below Ha.out hb_); clear Ha; have Ha := n_; clear n_; have n_ := Aside0.mk (RowAt.below Hb.out hb_); clear Hb; have Hb := n_; clear n_; have n_ := Aside0.mk (RowAt.below Hc.out hb_); clear Hc; have Hc := n_; clear n_; have n_ := Aside0.mk (RowAt.below Hone.out hb_); clear Hone; have Hone := n_; clear n_; have n_ := Aside0.mk (RowAt.below Htwo.out hb_); clear Htwo; have Htwo := n_; clear n_; clear Hbd; have Hthree := Aside0.mk hR_; clear hR_; have n_ := Aside0.mk (below_step HB.out hb_); clear HB; have HB := n_; clear n_ hb_; clear _t tok9; have tok10 : True := trivial)
    | (have _t := tok10; go_at_call 23; refine (cut23C k Ha.out Hb.out CD.out).mono ?_; rintro e_ w10_ ⟨Aq1, cq1, rfl, hR_, hb_⟩; have n_ := Aside0.mk (RowAt.below Ha.out hb_); clear Ha; have Ha := n_; clear n_; have n_ := Aside0.mk (RowAt.below Hb.out hb_); clear Hb; have Hb := n_; clear n_; have n_ := Aside0.mk (RowAt.below Hc.out hb_); clear Hc; have Hc := n_; clear n_; have n_ := Aside0.mk (RowAt.below Hone.out hb_); clear Hone; have Hone := n_; clear n_; have n_ := Aside0.mk (RowAt.below Htwo.out hb_); clear Htwo; have Htwo := n_; clear n_; have n_ := Aside0.mk (RowAt.below Hthree.out hb_); clear Hthree; have Hthree := n_; clear n_; have Hq1 := Aside0.mk hR_; clear hR_; have n_ := Aside0.mk (below_step HB.out hb_); clear HB; have HB := n_; clear n_ hb_; clear _t tok10; have tok11 : True := trivial)
    | (have _t := tok11; go_at_call 23; refine (cut23C k Hq1.out Hc.out CF.out).mono ?_; rintro e_ w11_ ⟨Afour, cfour, rfl, hR_, hb_⟩; have n_ := Aside0.mk (RowAt.below Ha.out hb_); clear Ha; have Ha := n_; clear n_; have n_ := Aside0.mk (RowAt.below Hb.out hb_); clear Hb; have Hb := n_; clear n_; have n_ := Aside0.mk (RowAt.below Hone.out hb_); clear Hone; have Hone := n_; clear n_; have n_ := Aside0.mk (RowAt.below Htwo.out hb_); clear Htwo; have Htwo := n_; clear n_; have n_ := Aside0.mk (RowAt.below Hthree.out hb_); clear Hthree; have Hthree := n_; clear n_; clear Hc; clear Hq1; have Hfour := Aside0.mk hR_; clear hR_; have n_ := Aside0.mk (below_step HB.out hb_); clear HB; have HB := n_; clear n_ hb_; clear _t tok11; have tok12 : True := trivial)
    | (have _t := tok12; go_at_call 19; refine (sameC k Hone.out Htwo.out SO.out).mono ?_; rintro e_ w12_ ⟨rfl, hb_⟩; have n_ := Aside0.mk (RowAt.below Ha.out hb_); clear Ha; have Ha := n_; clear n_; have n_ := Aside0.mk (RowAt.below Hb.out hb_); clear Hb; have Hb := n_; clear n_; have n_ := Aside0.mk (RowAt.below Hthree.out hb_); clear Hthree; have Hthree := n_; clear n_; have n_ := Aside0.mk (RowAt.below Hfour.out hb_); clear Hfour; have Hfour := n_; clear n_; clear Hone; clear Htwo; have n_ := Aside0.mk (below_step HB.out hb_); clear HB; have HB := n_; clear n_ hb_; clear _t tok12; have tok13 : True := trivial)
    | (have _t := tok13; go_at_call 19; refine (sameC k Hthree.out Hfour.out ST.out).mono ?_; rintro e_ w13_ ⟨rfl, hb_⟩; have n_ := Aside0.mk (RowAt.below Ha.out hb_); clear Ha; have Ha := n_; clear n_; have n_ := Aside0.mk (RowAt.below Hb.out hb_); clear Hb; have Hb := n_; clear n_; clear Hthree; clear Hfour; have n_ := Aside0.mk (below_step HB.out hb_); clear HB; have HB := n_; clear n_ hb_; clear _t tok13; have tok14 : True := trivial)
    | (have _t := tok14; go_at_call 44; refine (joinC Ha.out Hb.out JAB.out).mono ?_; rintro e_ w14_ ⟨Aab, cab, rfl, hR_, hb_⟩; have n_ := Aside0.mk (RowAt.below Ha.out hb_); clear Ha; have Ha := n_; clear n_; have n_ := Aside0.mk (RowAt.below Hb.out hb_); clear Hb; have Hb := n_; clear n_; have Hab := Aside0.mk hR_; clear hR_; have n_ := Aside0.mk (below_step HB.out hb_); clear HB; have HB := n_; clear n_ hb_; clear _t tok14; have tok15 : True := trivial)
    | (have _t := tok15; go_at_call 44; refine (joinC Hb.out Ha.out JBA.out).mono ?_; rintro e_ w15_ ⟨Aba, cba, rfl, hR_, hb_⟩; have n_ := Aside0.mk (RowAt.below Ha.out hb_); clear Ha; have Ha := n_; clear n_; have n_ := Aside0.mk (RowAt.below Hb.out hb_); clear Hb; have Hb := n_; clear n_; have n_ := Aside0.mk (RowAt.below Hab.out hb_); clear Hab; have Hab := n_; clear n_; have Hba := Aside0.mk hR_; clear hR_; have n_ := Aside0.mk (below_step HB.out hb_); clear HB; have HB := n_; clear n_ hb_; clear _t tok15; have tok16 : True := trivial)
    | (have _t := tok16; go_at_call 19; refine (sameC k Hab.out Hba.out SAB.out).mono ?_; rintro e_ w16_ ⟨rfl, hb_⟩; have n_ := Aside0.mk (RowAt.below Ha.out hb_); clear Ha; have Ha := n_; clear n_; have n_ := Aside0.mk (RowAt.below Hb.out hb_); clear Hb; have Hb := n_; clear n_; clear Hab; clear Hba; have n_ := Aside0.mk (below_step HB.out hb_); clear HB; have HB := n_; clear n_ hb_; clear _t tok16; have tok17 : True := trivial)
    | (have _t := tok17; go_at_call 42; refine (meetC k Ha.out Hb.out M1.out).mono ?_; rintro e_ w17_ ⟨Ar1, cr1, rfl, hR_, hb_⟩; have n_ := Aside0.mk (RowAt.below Ha.out hb_); clear Ha; have Ha := n_; clear n_; have n_ := Aside0.mk (RowAt.below Hb.out hb_); clear Hb; have Hb := n_; clear n_; have Hr1 := Aside0.mk hR_; clear hR_; have n_ := Aside0.mk (below_step HB.out hb_); clear HB; have HB := n_; clear n_ hb_; clear _t tok17; have tok18 : True := trivial)
    | (have _t := tok18; go_at_call 42; refine (meetC k Hb.out Ha.out MBA.out).mono ?_; rintro e_ w18_ ⟨Ar2, cr2, rfl, hR_, hb_⟩; have n_ := Aside0.mk (RowAt.below Ha.out hb_); clear Ha; have Ha := n_; clear n_; have n_ := Aside0.mk (RowAt.below Hb.out hb_); clear Hb; have Hb := n_; clear n_; have n_ := Aside0.mk (RowAt.below Hr1.out hb_); clear Hr1; have Hr1 := n_; clear n_; have Hr2 := Aside0.mk hR_; clear hR_; have n_ := Aside0.mk (below_step HB.out hb_); clear HB; have HB := n_; clear n_ hb_; clear _t tok18; have tok19 : True := trivial)
    | (have _t := tok19; go_at_call 19; refine (sameC k Hr1.out Hr2.out SM.out).mono ?_; rintro e_ w19_ ⟨rfl, hb_⟩; have n_ := Aside0.mk (RowAt.below Ha.out hb_); clear Ha; have Ha := n_; clear n_; have n_ := Aside0.mk (RowAt.below Hb.out hb_); clear Hb; have Hb := n_; clear n_; clear Hr1; clear Hr2; have n_ := Aside0.mk (below_step HB.out hb_); clear HB; have HB := n_; clear n_ hb_; clear _t tok19; have tok20 : True := trivial)
    | (have _t := tok20; go_at_call 23; refine (cut23C k Ha.out Hb.out CD.out).mono ?_; rintro e_ w20_ ⟨As1, cs1, rfl, hR_, hb_⟩; have n_ := Aside0.mk (RowAt.below Ha.out hb_); clear Ha; have Ha := n_; clear n_; have n_ := Aside0.mk (RowAt.below Hb.out hb_); clear Hb; have Hb := n_; clear n_; have Hs1 := Aside0.mk hR_; clear hR_; have n_ := Aside0.mk (below_step HB.out hb_); clear HB; have HB := n_; clear n_ hb_; clear _t tok20; have tok21 : True := trivial)
    | (have _t := tok21; go_at_call 42; refine (meetC k Ha.out Hb.out M1.out).mono ?_; rintro e_ w21_ ⟨As2, cs2, rfl, hR_, hb_⟩; have n_ := Aside0.mk (RowAt.below Ha.out hb_); clear Ha; have Ha := n_; clear n_; have n_ := Aside0.mk (RowAt.below Hs1.out hb_); clear Hs1; have Hs1 := n_; clear n_; clear Hb; have Hs2 := Aside0.mk hR_; clear hR_; have n_ := Aside0.mk (below_step HB.out hb_); clear HB; have HB := n_; clear n_ hb_; clear _t tok21; have tok22 : True := trivial)
    | (have _t := tok22; go_at_call 44; refine (joinC Hs1.out Hs2.out JDM.out).mono ?_; rintro e_ w22_ ⟨As3, cs3, rfl, hR_, hb_⟩; have n_ := Aside0.mk (RowAt.below Ha.out hb_); clear Ha; have Ha := n_; clear n_; clear Hs1; clear Hs2; have Hs3 := Aside0.mk hR_; clear hR_; have n_ := Aside0.mk (below_step HB.out hb_); clear HB; have HB := n_; clear n_ hb_; clear _t tok22; have tok23 : True := trivial)
    | (have _t := tok23; go_at_call 18; refine (normC k Ha.out NA.out).mono ?_; rintro e_ w23_ ⟨As4, cs4, rfl, hR_, hb_⟩; have n_ := Aside0.mk (RowAt.below Ha.out hb_); clear Ha; have Ha := n_; clear n_; have n_ := Aside0.mk (RowAt.below Hs3.out hb_); clear Hs3; have Hs3 := n_; clear n_; have Hs4 := Aside0.mk hR_; clear hR_; have n_ := Aside0.mk (below_step HB.out hb_); clear HB; have HB := n_; clear n_ hb_; clear _t tok23; have tok24 : True := trivial)
    | (have _t := tok24; go_at_call 19; refine (sameC k Hs3.out Hs4.out SN.out).mono ?_; rintro e_ w24_ ⟨rfl, hb_⟩; have n_ := Aside0.mk (RowAt.below Ha.out hb_); clear Ha; have Ha := n_; clear n_; clear Hs3; clear Hs4; have n_ := Aside0.mk (below_step HB.out hb_); clear HB; have HB := n_; clear n_ hb_; clear _t tok24; have tok25 : True := trivial)
    | (have _t := tok25; go_at_call 18; refine (normC k Ha.out NA.out).mono ?_; rintro e_ w25_ ⟨At1, ct1, rfl, hR_, hb_⟩; have n_ := Aside0.mk (RowAt.below Ha.out hb_); clear Ha; have Ha := n_; clear n_; have Ht1 := Aside0.mk hR_; clear hR_; have n_ := Aside0.mk (below_step HB.out hb_); clear HB; have HB := n_; clear n_ hb_; clear _t tok25; have tok26 : True := trivial)
    | (have _t := tok26; go_at_call 18; refine (normC k Ht1.out NN.out).mono ?_; rintro e_ w26_ ⟨At2, ct2, rfl, hR_, hb_⟩; have n_ := Aside0.mk (RowAt.below Ha.out hb_); clear Ha; have Ha := n_; clear n_; clear Ht1; have Ht2 := Aside0.mk hR_; clear hR_; have n_ := Aside0.mk (below_step HB.out hb_); clear HB; have HB := n_; clear n_ hb_; clear _t tok26; have tok27 : True := trivial)
    | (have _t := tok27; go_at_call 18; refine (normC k Ha.out NA.out).mono ?_; rintro e_ w27_ ⟨At3, ct3, rfl, hR_, hb_⟩; have n_ := Aside0.mk (RowAt.below Ht2.out hb_); clear Ht2; have Ht2 := n_; clear n_; clear Ha; have Ht3 := Aside0.mk hR_; clear hR_; have n_ := Aside0.mk (below_step HB.out hb_); clear HB; have HB := n_; clear n_ hb_; clear _t tok27; have tok28 : True := trivial)
    | (have _t := tok28; go_at_call 19; refine (sameC k Ht2.out Ht3.out SN.out).mono ?_; rintro e_ w28_ ⟨rfl, hb_⟩; clear Ht2; clear Ht3; have n_ := Aside0.mk (below_step HB.out hb_); clear HB; have HB := n_; clear n_ hb_; clear _t tok28; have tok29 : True := trivial)
    | (have _t := tok29; go_at_call 22; refine (livesC _ ).mono ?_; rintro e_ w29_ ⟨rfl, hb_⟩; have n_ := Aside0.mk (below_step HB.out hb_); clear HB; have HB := n_; clear n_ hb_; clear _t tok29; have tok30 : True := trivial))
  go_ret
  exact ⟨rfl, HB.out⟩
end Go.Proofs.Ytgncbhpmnjfhhaa.S
end
section
namespace Go.Proofs.Ytgncbhpmnjfhhaa.S
open Go.RowKit Go.Proofs.YtgncbhpmnjfhhaaW.PrintWords Go.Proofs.YtgncbhpmnjfhhaaW.PrintLast Go.Proofs.YtgncbhpmnjfhhaaW.PrintMore
set_option linter.unusedVariables false
set_option linter.unusedSimpArgs false
def tailS (c0 c1 : Int) : List S30 := if c0 < c1 then [⟨c0, c1⟩] else []
def cutGo : List S30 → Int → Int → List S30
  | [], c0, c1 => tailS c0 c1
  | t :: bs, c0, c1 => if t.f0 < c1 then tailS c0 t.f0 ++ cutGo bs t.f1 c1 else tailS c0 c1
def cutAll : List S30 → List S30 → List S30
  | _, [] => []
  | bs, s :: a => cutGo (bs.dropWhile fun t => decide (t.f1 ≤ s.f0)) s.f0 s.f1 ++ cutAll (bs.dropWhile fun t => decide (t.f1 ≤ s.f0)) a
def cutL (a b : List S30) : List S30 := cutAll (normL b) (normL a)
theorem tailS_length (c0 c1 : Int) : (tailS c0 c1).length ≤ 1 := by unfold tailS; split <;> simp
theorem cutGo_length : ∀ (bs : List S30) (c0 c1 : Int), (cutGo bs c0 c1).length ≤ bs.length + 1
  | [], c0, c1 => by simp only [cutGo, List.length_nil]; have := tailS_length c0 c1; omega
  | t :: bs, c0, c1 => by
    simp only [cutGo]
    split
    · have := cutGo_length bs t.f1 c1
      have := tailS_length c0 t.f0
      rw [List.length_append, List.length_cons]; omega
    · have := tailS_length c0 c1
      rw [List.length_cons]; omega
theorem dropWhile_length {α : Type} (p : α → Bool) : ∀ (l : List α), (l.dropWhile p).length ≤ l.length
  | [] => by simp
  | x :: l => by
    rw [List.dropWhile_cons]
    split
    · have := dropWhile_length p l; rw [List.length_cons]; omega
    · exact Nat.le_refl _
theorem cutAll_length : ∀ (a bs : List S30), (cutAll bs a).length ≤ a.length * (bs.length + 1)
  | [], bs => by simp [cutAll]
  | s :: a, bs => by
    simp only [cutAll]
    have h1 := cutGo_length (bs.dropWhile fun t => decide (t.f1 ≤ s.f0)) s.f0 s.f1
    have h2 := cutAll_length a (bs.dropWhile fun t => decide (t.f1 ≤ s.f0))
    have h3 := dropWhile_length (fun t : S30 => decide (t.f1 ≤ s.f0)) bs
    have h4 : a.length * ((bs.dropWhile fun t => decide (t.f1 ≤ s.f0)).length + 1) ≤ a.length * (bs.length + 1) := Nat.mul_le_mul_left _ (by omega)
    rw [List.length_append, List.length_cons, Nat.succ_mul]
    omega
theorem memS_tail (x c0 c1 : Int) : memS x (tailS c0 c1) ↔ c0 ≤ x ∧ x < c1 := by
  unfold tailS
  split
  · rw [memS_one]; rfl
  · constructor
    · intro h; exact absurd h (memS_nil _)
    · intro h; omega
theorem tail_plain (c0 c1 : Int) : PlainL (tailS c0 c1) := by
  unfold tailS
  split
  · rename_i h; exact PlainL_cons.2 ⟨h, fun t ht => (by cases ht), PlainL_nil⟩
  · exact PlainL_nil
theorem tail_in (c0 c1 : Int) : ∀ u ∈ tailS c0 c1, u.f0 = c0 ∧ u.f1 = c1 := by
  unfold tailS
  split
  · intro u hu; simp at hu; rw [hu]; exact ⟨rfl, rfl⟩
  · intro u hu; cases hu
theorem PlainL_append {l m : List S30} (hl : PlainL l) (hm : PlainL m) (h : ∀ s ∈ l, ∀ t ∈ m, s.f1 < t.f0) : PlainL (l ++ m) := by
  refine ⟨fun s hs => ?_, List.pairwise_append.2 ⟨hl.2, hm.2, h⟩⟩
  rcases List.mem_append.1 hs with hs | hs
  · exact hl.1 s hs
  · exact hm.1 s hs
theorem cutGo_ok : ∀ (bs : List S30) (c0 c1 : Int), PlainL bs → (∀ t ∈ bs, c0 < t.f1) →
    PlainL (cutGo bs c0 c1) ∧ (∀ u ∈ cutGo bs c0 c1, c0 ≤ u.f0 ∧ u.f1 ≤ c1) ∧ ∀ x, memS x (cutGo bs c0 c1) ↔ (c0 ≤ x ∧ x < c1) ∧ ¬ memS x bs
  | [], c0, c1, _, _ => by
    refine ⟨tail_plain _ _, fun u hu => ?_, fun x => ?_⟩
    · obtain ⟨h1, h2⟩ := tail_in c0 c1 u hu; omega
    · show memS x (tailS c0 c1) ↔ _
      rw [memS_tail]
      exact ⟨fun h => ⟨h, memS_nil _⟩, fun h => h.1⟩
  | t :: bs, c0, c1, hp, hc => by
    obtain ⟨p1, p2, p3⟩ := PlainL_cons.1 hp
    have hct := hc t List.mem_cons_self
    simp only [cutGo]
    split
    · rename_i hlt
      obtain ⟨i1, i2, i3⟩ := cutGo_ok bs t.f1 c1 p3 (fun u hu => by have := p2 u hu; have := p3.1 u hu; omega)
      refine ⟨PlainL_append (tail_plain _ _) i1 (fun s hs u hu => ?_), fun u hu => ?_, fun x => ?_⟩
      · obtain ⟨h1, h2⟩ := tail_in c0 t.f0 s hs
        have := (i2 u hu).1
        omega
      · rcases List.mem_append.1 hu with hu | hu
        · obtain ⟨h1, h2⟩ := tail_in c0 t.f0 u hu; omega
        · have := i2 u hu; omega
      · rw [memS_append, memS_tail, i3, memS_cons]
        unfold inS
        constructor
        · rintro (⟨h1, h2⟩ | ⟨⟨h1, h2⟩, h3⟩)
          · refine ⟨⟨h1, by omega⟩, ?_⟩
            rintro (⟨h4, h5⟩ | ⟨u, hu, h4, h5⟩)
            · omega
            · have := p2 u hu; omega
          · refine ⟨⟨by omega, h2⟩, ?_⟩
            rintro (⟨h4, h5⟩ | h4)
            · omega
            · exact h3 h4
        · rintro ⟨⟨h1, h2⟩, h3⟩
          by_cases hx : x < t.f0
          · exact .inl ⟨h1, hx⟩
          · refine .inr ⟨⟨?_, h2⟩, fun h => h3 (.inr h)⟩
            by_cases hx2 : x < t.f1
            · exact absurd (.inl ⟨by omega, hx2⟩) h3
            · omega
    · rename_i hge
      refine ⟨tail_plain _ _, fun u hu => ?_, fun x => ?_⟩
      · obtain ⟨h1, h2⟩ := tail_in c0 c1 u hu; omega
      · rw [memS_tail, memS_cons]
        unfold inS
        constructor
        · rintro ⟨h1, h2⟩
          refine ⟨⟨h1, h2⟩, ?_⟩
          rintro (⟨h4, h5⟩ | ⟨u, hu, h4, h5⟩)
          · omega
          · have := p2 u hu; omega
        · exact fun h => h.1
theorem dropWhile_ok (c0 : Int) : ∀ (bs : List S30), PlainL bs → PlainL (bs.dropWhile fun t => decide (t.f1 ≤ c0)) ∧ (∀ t ∈ bs.dropWhile (fun t => decide (t.f1 ≤ c0)), c0 < t.f1) ∧
    (∀ t ∈ bs.dropWhile (fun t => decide (t.f1 ≤ c0)), t ∈ bs) ∧ ∀ x, c0 ≤ x → (memS x (bs.dropWhile fun t => decide (t.f1 ≤ c0)) ↔ memS x bs)
  | [], hp => ⟨hp, fun t ht => (by cases ht), fun t ht => ht, fun x _ => Iff.rfl⟩
  | t :: bs, hp => by
    obtain ⟨p1, p2, p3⟩ := PlainL_cons.1 hp
    rw [List.dropWhile_cons]
    split
    · rename_i h
      have h' : t.f1 ≤ c0 := of_decide_eq_true h
      obtain ⟨i1, i2, i3, i4⟩ := dropWhile_ok c0 bs p3
      refine ⟨i1, i2, fun u hu => List.mem_cons_of_mem _ (i3 u hu), fun x hx => ?_⟩
      rw [i4 x hx, memS_cons]
      constructor
      · exact .inr
      · rintro (⟨h1, h2⟩ | h)
        · omega
        · exact h
    · rename_i h
      have h' : ¬ t.f1 ≤ c0 := fun hh => h (decide_eq_true hh)
      refine ⟨hp, fun u hu => ?_, fun u hu => hu, fun x _ => Iff.rfl⟩
      rcases List.mem_cons.1 hu with rfl | hu
      · omega
      · have := p2 u hu; have := p3.1 u hu; omega
theorem cutAll_ok : ∀ (a bs : List S30), PlainL a → PlainL bs →
    PlainL (cutAll bs a) ∧ (∀ u ∈ cutAll bs a, ∃ s ∈ a, s.f0 ≤ u.f0 ∧ u.f1 ≤ s.f1) ∧ ∀ x, memS x (cutAll bs a) ↔ memS x a ∧ ¬ memS x bs
  | [], bs, _, _ => ⟨PlainL_nil, fun u hu => (by cases hu), fun x => ⟨fun h => absurd h (memS_nil _), fun h => absurd h.1 (memS_nil _)⟩⟩
  | s :: a, bs, ha, hb => by
    obtain ⟨p1, p2, p3⟩ := PlainL_cons.1 ha
    obtain ⟨d1, d2, d3, d4⟩ := dropWhile_ok s.f0 bs hb
    obtain ⟨c1, c2, c3⟩ := cutGo_ok _ s.f0 s.f1 d1 d2
    obtain ⟨i1, i2, i3⟩ := cutAll_ok a _ p3 d1
    simp only [cutAll]
    refine ⟨PlainL_append c1 i1 (fun u hu v hv => ?_), fun u hu => ?_, fun x => ?_⟩
    · have h1 := (c2 u hu).2
      obtain ⟨q, hq, h2, h3⟩ := i2 v hv
      have := p2 q hq
      omega
    · rcases List.mem_append.1 hu with hu | hu
      · exact ⟨s, List.mem_cons_self, c2 u hu⟩
      · obtain ⟨q, hq, h2⟩ := i2 u hu
        exact ⟨q, List.mem_cons_of_mem _ hq, h2⟩
    · rw [memS_append, c3, i3, memS_cons]
      unfold inS
      constructor
      · rintro (⟨⟨h1, h2⟩, h3⟩ | ⟨h1, h2⟩)
        · exact ⟨.inl ⟨h1, h2⟩, fun h => h3 ((d4 x h1).2 h)⟩
        · obtain ⟨q, hq, h4, h5⟩ := h1
          have := p2 q hq
          exact ⟨.inr ⟨q, hq, h4, h5⟩, fun h => h2 ((d4 x (by omega)).2 h)⟩
      · rintro ⟨h1 | h1, h2⟩
        · exact .inl ⟨h1, fun h => h2 ((d4 x h1.1).1 h)⟩
        · obtain ⟨q, hq, h4, h5⟩ := h1
          have := p2 q hq
          exact .inr ⟨⟨q, hq, h4, h5⟩, fun h => h2 ((d4 x (by omega)).1 h)⟩
theorem cutL_plain (a b : List S30) : PlainL (cutL a b) ∧ (∀ x, memS x (cutL a b) ↔ memS x a ∧ ¬ memS x b) ∧ (cutL a b).length ≤ a.length * (b.length + 1) := by
  obtain ⟨a1, a2, a3⟩ := normL_plain a
  obtain ⟨b1, b2, b3⟩ := normL_plain b
  obtain ⟨c1, _, c3⟩ := cutAll_ok (normL a) (normL b) a1 b1
  refine ⟨c1, fun x => by rw [cutL, c3, a2, b2], ?_⟩
  exact Nat.le_trans (cutAll_length _ _) (Nat.mul_le_mul a3 (by omega))
section
variable {b a : List S30} {la : Int} {r : List S30}
theorem cut_l2 (hb : b.length < 1000000) : ∀ (m k : Nat) (out : List S30) (kk j i c0 c1 : Int) (jn K : Nat), j = (jn : Int) → jn ≤ b.length → b.length - jn = m → out.length + (b.length - jn) < 8000000000000 →
    (∀ k, K ≤ k → span_Cut.l0 k b (out ++ cutGo (b.drop jn) c0 c1) kk a la (wrap64 (i + 1)) = some r) → K + 2 * m + 3 ≤ k → span_Cut.l2 k b out kk j a la i c0 c1 = some r := by
  intro m
  induction m with
  | zero =>
    intro k out kk j i c0 c1 jn K hj hjn hm ho h hk
    obtain ⟨k, rfl⟩ : ∃ q, k = q + 1 := ⟨k - 1, by omega⟩
    obtain ⟨k, rfl⟩ : ∃ q, k = q + 1 := ⟨k - 1, by omega⟩
    subst hj
    simp only [span_Cut.l2]
    rw [if_neg (by omega)]
    simp only [span_Cut.j4]
    rw [if_neg (by decide), show span_empty.f c0 c1 = some (decide (c0 ≥ c1)) from rfl, Option.bind_some]
    rw [List.drop_eq_nil_of_le (by omega)] at h
    simp only [cutGo, tailS] at h
    by_cases hc : c0 < c1
    · rw [if_pos hc] at h
      rw [if_neg (by simp; omega), if_pos (by omega)]
      exact h k (by omega)
    · rw [if_neg hc, List.append_nil] at h
      rw [if_pos (by simp; omega)]
      exact h k (by omega)
  | succ m ih =>
    intro k out kk j i c0 c1 jn K hj hjn hm ho h hk
    obtain ⟨k, rfl⟩ : ∃ q, k = q + 1 := ⟨k - 1, by omega⟩
    obtain ⟨k, rfl⟩ : ∃ q, k = q + 1 := ⟨k - 1, by omega⟩
    subst hj
    have hlt : jn < b.length := by omega
    simp only [span_Cut.l2]
    rw [if_pos (by omega), if_pos (by omega), rd_nat, getD_at b jn hlt]
    simp only [span_Cut.j4]
    rw [List.drop_eq_getElem_cons hlt] at h
    simp only [cutGo] at h
    by_cases hc : (b[jn]).f0 < c1
    · rw [if_pos hc] at h
      rw [if_pos (by simp [hc]), if_pos (by omega), if_pos (by omega), rd_nat, getD_at b jn hlt, wrap_in ((jn : Int) + 1) (by omega) (by omega)]
      simp only [tailS] at h
      by_cases hc2 : c0 < (b[jn]).f0
      · rw [if_pos hc2] at h
        rw [if_pos hc2, if_pos (by omega)]
        refine ih k _ kk _ i _ c1 (jn + 1) K rfl (by omega) (by omega) (by simp; omega) (fun q hq => ?_) (by omega)
        rw [List.append_assoc]
        exact h q hq
      · rw [if_neg hc2, List.nil_append] at h
        rw [if_neg hc2]
        exact ih k _ kk _ i _ c1 (jn + 1) K rfl (by omega) (by omega) (by omega) h (by omega)
    · rw [if_neg hc] at h
      rw [if_neg (by simpa using hc), show span_empty.f c0 c1 = some (decide (c0 ≥ c1)) from rfl, Option.bind_some]
      simp only [tailS] at h
      by_cases hc2 : c0 < c1
      · rw [if_pos hc2] at h
        rw [if_neg (by simp; omega), if_pos (by omega)]
        exact h k (by omega)
      · rw [if_neg hc2, List.append_nil] at h
        rw [if_pos (by simp; omega)]
        exact h k (by omega)
theorem cut_l1 (hb : b.length < 1000000) : ∀ (m k : Nat) (out : List S30) (i c0 c1 : Int) (kn K : Nat), kn ≤ b.length → b.length - kn = m →
    (∀ kn', kn' ≤ b.length → b.drop kn' = (b.drop kn).dropWhile (fun t => decide (t.f1 ≤ c0)) → ∀ k, K ≤ k → span_Cut.j2 k b out (kn' : Int) a la i c0 c1 = some r) → K + m + 1 ≤ k → span_Cut.l1 k b out (kn : Int) a la i c0 c1 = some r := by
  intro m
  induction m with
  | zero =>
    intro k out i c0 c1 kn K hkn hm h hk
    obtain ⟨k, rfl⟩ : ∃ q, k = q + 1 := ⟨k - 1, by omega⟩
    simp only [span_Cut.l1]
    rw [if_neg (by omega)]
    exact h kn hkn (by rw [List.drop_eq_nil_of_le (by omega)]; rfl) k (by omega)
  | succ m ih =>
    intro k out i c0 c1 kn K hkn hm h hk
    obtain ⟨k, rfl⟩ : ∃ q, k = q + 1 := ⟨k - 1, by omega⟩
    have hlt : kn < b.length := by omega
    simp only [span_Cut.l1]
    rw [if_pos (by omega), if_pos (by omega), rd_nat, getD_at b kn hlt]
    rw [List.drop_eq_getElem_cons hlt, List.dropWhile_cons] at h
    by_cases hc : (b[kn]).f1 ≤ c0
    · rw [if_pos (by simpa using hc)] at h
      rw [if_pos hc, wrap_in ((kn : Int) + 1) (by omega) (by omega)]
      exact ih k out i c0 c1 (kn + 1) K (by omega) (by omega) h (by omega)
    · rw [if_neg (by simpa using hc)] at h
      rw [if_neg hc]
      exact h kn hkn (List.drop_eq_getElem_cons hlt) k (by omega)
theorem cut_l0 (hb : b.length < 1000000) (ha : a.length < 1000000) : ∀ (m k : Nat) (out : List S30) (kn i : Nat), kn ≤ b.length → i ≤ a.length → a.length - i = m → out.length + m * (b.length + 1) < 8000000000000 → m * (3 * b.length + 8) + 1 ≤ k →
    span_Cut.l0 k b out (kn : Int) a (a.length : Int) (i : Int) = some (out ++ cutAll (b.drop kn) (a.drop i)) := by
  intro m
  induction m with
  | zero =>
    intro k out kn i hkn hi hm ho hk
    obtain ⟨k, rfl⟩ : ∃ q, k = q + 1 := ⟨k - 1, by omega⟩
    simp only [span_Cut.l0]
    rw [if_neg (by omega), List.drop_eq_nil_of_le (show a.length ≤ i by omega)]
    simp [cutAll]
  | succ m ih =>
    intro k out kn i hkn hi hm ho hk
    obtain ⟨k, rfl⟩ : ∃ q, k = q + 1 := ⟨k - 1, by omega⟩
    have hlt : i < a.length := by omega
    simp only [span_Cut.l0]
    rw [if_pos (by omega), if_pos (by omega), if_pos (by omega), rd_nat, getD_at a i hlt, List.drop_eq_getElem_cons hlt]
    simp only [cutAll]
    have hmul : (m + 1) * (3 * b.length + 8) = m * (3 * b.length + 8) + (3 * b.length + 8) := by rw [Nat.succ_mul]
    have hmul2 : (m + 1) * (b.length + 1) = m * (b.length + 1) + (b.length + 1) := by rw [Nat.succ_mul]
    refine cut_l1 hb (b.length - kn) k out _ _ _ kn (m * (3 * b.length + 8) + 1 + 2 * b.length + 3 + 1) hkn rfl (fun kn' hkn' hd q hq => ?_) (by omega)
    obtain ⟨q, rfl⟩ : ∃ z, q = z + 1 := ⟨q - 1, by omega⟩
    simp only [span_Cut.j2]
    refine cut_l2 hb (b.length - kn') q out _ _ _ _ _ kn' (m * (3 * b.length + 8) + 1) rfl hkn' rfl (by omega) (fun z hz => ?_) (by omega)
    rw [wrap_in ((i : Int) + 1) (by omega) (by omega)]
    have hl := cutGo_length (b.drop kn') (a[i]).f0 (a[i]).f1
    rw [List.length_drop] at hl
    have := ih z (out ++ cutGo (b.drop kn') (a[i]).f0 (a[i]).f1) kn' (i + 1) hkn' (by omega) (by omega) (by rw [List.length_append]; omega) hz
    rw [show ((i : Int) + 1) = ((i + 1 : Nat) : Int) from rfl, this, List.append_assoc, hd]
end
theorem cut_spec (a b : List S30) (ha : a.length < 1000000) (hb : b.length < 1000000) : ∀ k, a.length * (3 * b.length + 8) + a.length + b.length + 1 < k → span_Cut.f k a b = some (cutL a b) := by
  intro k hk
  unfold span_Cut.f
  obtain ⟨_, _, la⟩ := normL_plain a
  obtain ⟨_, _, lb⟩ := normL_plain b
  rw [norm_spec b (by omega) k (by omega), Option.bind_some, norm_spec a (by omega) k (by omega), Option.bind_some]
  have h1 : (normL a).length * (3 * (normL b).length + 8) ≤ a.length * (3 * b.length + 8) := Nat.mul_le_mul la (by omega)
  have h2 : (normL a).length * ((normL b).length + 1) ≤ 1000000 * 1000001 := Nat.mul_le_mul (by omega) (by omega)
  have := cut_l0 (b := normL b) (a := normL a) (by omega) (by omega) (normL a).length k [] 0 0 (by omega) (by omega) (by omega) (by simp only [List.length_nil]; omega) (by omega)
  rw [show (0 : Int) = ((0 : Nat) : Int) from rfl, this]
  rfl
end Go.Proofs.Ytgncbhpmnjfhhaa.S
end
