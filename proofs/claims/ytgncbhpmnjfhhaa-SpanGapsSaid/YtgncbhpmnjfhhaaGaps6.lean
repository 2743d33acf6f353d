/- Gaps hands back the blocks of a span that a row has not: whatever the input, the law returns true, and each argument reads behind the call as it did. No condition. -/
import Derived.Test.YtgncbhpmnjfhhaaGaps5
import Derived.Deep.Slices
import Derived.Lib.SmallJoins
import Derived.ChangeSame
import Derived.KernelRfl
import Derived.Test.YtgncbhpmnjfhhaaRows
import Derived.WalkKit
import Derived.ProofKit
import Derived.OpenShut
import Derived.ShutString
import Derived.ChangeOld
import Derived.Below
import Derived.SizedLaws
section
namespace Go.Proofs.Ytgncbhpmnjfhhaa.S
open Go.RowKit Go.Proofs.YtgncbhpmnjfhhaaW.PrintWords Go.Proofs.YtgncbhpmnjfhhaaW.PrintLast Go.Proofs.YtgncbhpmnjfhhaaW.PrintMore
set_option linter.unusedVariables false
set_option linter.unusedSimpArgs false
def tailS (c0 c1 : Int) : List S30 := if c0 < c1 then [⟨c0, c1⟩] else []
def cutGo : List S30 → Int → Int → List S30
  | [], c0, c1 => tailS c0 c1
  | t :: bs, c0, c1 => if t.f0 < c1 then tailS c0 t.f0 ++ cutGo bs t.f1 c1 else tailS c0 c1
def cutAll : List S30 → List S30 → List S30
  | _, [] => []
  | bs, s :: a => cutGo (bs.dropWhile fun t => decide (t.f1 ≤ s.f0)) s.f0 s.f1 ++ cutAll (bs.dropWhile fun t => decide (t.f1 ≤ s.f0)) a
def cutL (a b : List S30) : List S30 := cutAll (normL b) (normL a)
theorem tailS_length (c0 c1 : Int) : (tailS c0 c1).length ≤ 1 := by unfold tailS; split <;> simp
theorem cutGo_length : ∀ (bs : List S30) (c0 c1 : Int), (cutGo bs c0 c1).length ≤ bs.length + 1
  | [], c0, c1 => by simp only [cutGo, List.length_nil]; have := tailS_length c0 c1; omega
  | t :: bs, c0, c1 => by
    simp only [cutGo]
    split
    · have := cutGo_length bs t.f1 c1
      have := tailS_length c0 t.f0
      rw [List.length_append, List.length_cons]; omega
    · have := tailS_length c0 c1
      rw [List.length_cons]; omega
theorem dropWhile_length {α : Type} (p : α → Bool) : ∀ (l : List α), (l.dropWhile p).length ≤ l.length
  | [] => by simp
  | x :: l => by
    rw [List.dropWhile_cons]
    split
    · have := dropWhile_length p l; rw [List.length_cons]; omega
    · exact Nat.le_refl _
theorem cutAll_length : ∀ (a bs : List S30), (cutAll bs a).length ≤ a.length * (bs.length + 1)
  | [], bs => by simp [cutAll]
  | s :: a, bs => by
    simp only [cutAll]
    have h1 := cutGo_length (bs.dropWhile fun t => decide (t.f1 ≤ s.f0)) s.f0 s.f1
    have h2 := cutAll_length a (bs.dropWhile fun t => decide (t.f1 ≤ s.f0))
    have h3 := dropWhile_length (fun t : S30 => decide (t.f1 ≤ s.f0)) bs
    have h4 : a.length * ((bs.dropWhile fun t => decide (t.f1 ≤ s.f0)).length + 1) ≤ a.length * (bs.length + 1) := Nat.mul_le_mul_left _ (by omega)
    rw [List.length_append, List.length_cons, Nat.succ_mul]
    omega
theorem memS_tail (x c0 c1 : Int) : memS x (tailS c0 c1) ↔ c0 ≤ x ∧ x < c1 := by
  unfold tailS
  split
  · rw [memS_one]; rfl
  · constructor
    · intro h; exact absurd h (memS_nil _)
    · intro h; omega
theorem tail_plain (c0 c1 : Int) : PlainL (tailS c0 c1) := by
  unfold tailS
  split
  · rename_i h; exact PlainL_cons.2 ⟨h, fun t ht => (by cases ht), PlainL_nil⟩
  · exact PlainL_nil
theorem tail_in (c0 c1 : Int) : ∀ u ∈ tailS c0 c1, u.f0 = c0 ∧ u.f1 = c1 := by
  unfold tailS
  split
  · intro u hu; simp at hu; rw [hu]; exact ⟨rfl, rfl⟩
  · intro u hu; cases hu
theorem PlainL_append {l m : List S30} (hl : PlainL l) (hm : PlainL m) (h : ∀ s ∈ l, ∀ t ∈ m, s.f1 < t.f0) : PlainL (l ++ m) := by
  refine ⟨fun s hs => ?_, List.pairwise_append.2 ⟨hl.2, hm.2, h⟩⟩
  rcases List.mem_append.1 hs with hs | hs
  · exact hl.1 s hs
  · exact hm.1 s hs
theorem cutGo_ok : ∀ (bs : List S30) (c0 c1 : Int), PlainL bs → (∀ t ∈ bs, c0 < t.f1) →
    PlainL (cutGo bs c0 c1) ∧ (∀ u ∈ cutGo bs c0 c1, c0 ≤ u.f0 ∧ u.f1 ≤ c1) ∧ ∀ x, memS x (cutGo bs c0 c1) ↔ (c0 ≤ x ∧ x < c1) ∧ ¬ memS x bs
  | [], c0, c1, _, _ => by
    refine ⟨tail_plain _ _, fun u hu => ?_, fun x => ?_⟩
    · obtain ⟨h1, h2⟩ := tail_in c0 c1 u hu; omega
    · show memS x (tailS c0 c1) ↔ _
      rw [memS_tail]
      exact ⟨fun h => ⟨h, memS_nil _⟩, fun h => h.1⟩
  | t :: bs, c0, c1, hp, hc => by
    obtain ⟨p1, p2, p3⟩ := PlainL_cons.1 hp
    have hct := hc t List.mem_cons_self
    simp only [cutGo]
    split
    · rename_i hlt
      obtain ⟨i1, i2, i3⟩ := cutGo_ok bs t.f1 c1 p3 (fun u hu => by have := p2 u hu; have := p3.1 u hu; omega)
      refine ⟨PlainL_append (tail_plain _ _) i1 (fun s hs u hu => ?_), fun u hu => ?_, fun x => ?_⟩
      · obtain ⟨h1, h2⟩ := tail_in c0 t.f0 s hs
        have := (i2 u hu).1
        omega
      · rcases List.mem_append.1 hu with hu | hu
        · obtain ⟨h1, h2⟩ := tail_in c0 t.f0 u hu; omega
        · have := i2 u hu; omega
      · rw [memS_append, memS_tail, i3, memS_cons]
        unfold inS
        constructor
        · rintro (⟨h1, h2⟩ | ⟨⟨h1, h2⟩, h3⟩)
          · refine ⟨⟨h1, by omega⟩, ?_⟩
            rintro (⟨h4, h5⟩ | ⟨u, hu, h4, h5⟩)
            · omega
            · have := p2 u hu; omega
          · refine ⟨⟨by omega, h2⟩, ?_⟩
            rintro (⟨h4, h5⟩ | h4)
            · omega
            · exact h3 h4
        · rintro ⟨⟨h1, h2⟩, h3⟩
          by_cases hx : x < t.f0
          · exact .inl ⟨h1, hx⟩
          · refine .inr ⟨⟨?_, h2⟩, fun h => h3 (.inr h)⟩
            by_cases hx2 : x < t.f1
            · exact absurd (.inl ⟨by omega, hx2⟩) h3
            · omega
    · rename_i hge
      refine ⟨tail_plain _ _, fun u hu => ?_, fun x => ?_⟩
      · obtain ⟨h1, h2⟩ := tail_in c0 c1 u hu; omega
      · rw [memS_tail, memS_cons]
        unfold inS
        constructor
        · rintro ⟨h1, h2⟩
          refine ⟨⟨h1, h2⟩, ?_⟩
          rintro (⟨h4, h5⟩ | ⟨u, hu, h4, h5⟩)
          · omega
          · have := p2 u hu; omega
        · exact fun h => h.1
theorem dropWhile_ok (c0 : Int) : ∀ (bs : List S30), PlainL bs → PlainL (bs.dropWhile fun t => decide (t.f1 ≤ c0)) ∧ (∀ t ∈ bs.dropWhile (fun t => decide (t.f1 ≤ c0)), c0 < t.f1) ∧
    (∀ t ∈ bs.dropWhile (fun t => decide (t.f1 ≤ c0)), t ∈ bs) ∧ ∀ x, c0 ≤ x → (memS x (bs.dropWhile fun t => decide (t.f1 ≤ c0)) ↔ memS x bs)
  | [], hp => ⟨hp, fun t ht => (by cases ht), fun t ht => ht, fun x _ => Iff.rfl⟩
  | t :: bs, hp => by
    obtain ⟨p1, p2, p3⟩ := PlainL_cons.1 hp
    rw [List.dropWhile_cons]
    split
    · rename_i h
      have h' : t.f1 ≤ c0 := of_decide_eq_true h
      obtain ⟨i1, i2, i3, i4⟩ := dropWhile_ok c0 bs p3
      refine ⟨i1, i2, fun u hu => List.mem_cons_of_mem _ (i3 u hu), fun x hx => ?_⟩
      rw [i4 x hx, memS_cons]
      constructor
      · exact .inr
      · rintro (⟨h1, h2⟩ | h)
        · omega
        · exact h
    · rename_i h
      have h' : ¬ t.f1 ≤ c0 := fun hh => h (decide_eq_true hh)
      refine ⟨hp, fun u hu => ?_, fun u hu => hu, fun x _ => Iff.rfl⟩
      rcases List.mem_cons.1 hu with rfl | hu
      · omega
      · have := p2 u hu; have := p3.1 u hu; omega
theorem cutAll_ok : ∀ (a bs : List S30), PlainL a → PlainL bs →
    PlainL (cutAll bs a) ∧ (∀ u ∈ cutAll bs a, ∃ s ∈ a, s.f0 ≤ u.f0 ∧ u.f1 ≤ s.f1) ∧ ∀ x, memS x (cutAll bs a) ↔ memS x a ∧ ¬ memS x bs
  | [], bs, _, _ => ⟨PlainL_nil, fun u hu => (by cases hu), fun x => ⟨fun h => absurd h (memS_nil _), fun h => absurd h.1 (memS_nil _)⟩⟩
  | s :: a, bs, ha, hb => by
    obtain ⟨p1, p2, p3⟩ := PlainL_cons.1 ha
    obtain ⟨d1, d2, d3, d4⟩ := dropWhile_ok s.f0 bs hb
    obtain ⟨c1, c2, c3⟩ := cutGo_ok _ s.f0 s.f1 d1 d2
    obtain ⟨i1, i2, i3⟩ := cutAll_ok a _ p3 d1
    simp only [cutAll]
    refine ⟨PlainL_append c1 i1 (fun u hu v hv => ?_), fun u hu => ?_, fun x => ?_⟩
    · have h1 := (c2 u hu).2
      obtain ⟨q, hq, h2, h3⟩ := i2 v hv
      have := p2 q hq
      omega
    · rcases List.mem_append.1 hu with hu | hu
      · exact ⟨s, List.mem_cons_self, c2 u hu⟩
      · obtain ⟨q, hq, h2⟩ := i2 u hu
        exact ⟨q, List.mem_cons_of_mem _ hq, h2⟩
    · rw [memS_append, c3, i3, memS_cons]
      unfold inS
      constructor
      · rintro (⟨⟨h1, h2⟩, h3⟩ | ⟨h1, h2⟩)
        · exact ⟨.inl ⟨h1, h2⟩, fun h => h3 ((d4 x h1).2 h)⟩
        · obtain ⟨q, hq, h4, h5⟩ := h1
          have := p2 q hq
          exact ⟨.inr ⟨q, hq, h4, h5⟩, fun h => h2 ((d4 x (by omega)).2 h)⟩
      · rintro ⟨h1 | h1, h2⟩
        · exact .inl ⟨h1, fun h => h2 ((d4 x h1.1).1 h)⟩
        · obtain ⟨q, hq, h4, h5⟩ := h1
          have := p2 q hq
          exact .inr ⟨⟨q, hq, h4, h5⟩, fun h => h2 ((d4 x (by omega)).1 h)⟩
theorem cutL_plain (a b : List S30) : PlainL (cutL a b) ∧ (∀ x, memS x (cutL a b) ↔ memS x a ∧ ¬ memS x b) ∧ (cutL a b).length ≤ a.length * (b.length + 1) := by
  obtain ⟨a1, a2, a3⟩ := normL_plain a
  obtain ⟨b1, b2, b3⟩ := normL_plain b
  obtain ⟨c1, _, c3⟩ := cutAll_ok (normL a) (normL b) a1 b1
  refine ⟨c1, fun x => by rw [cutL, c3, a2, b2], ?_⟩
  exact Nat.le_trans (cutAll_length _ _) (Nat.mul_le_mul a3 (by omega))
section
variable {b a : List S30} {la : Int} {r : List S30}
theorem cut_l2 (hb : b.length < 1000000) : ∀ (m k : Nat) (out : List S30) (kk j i c0 c1 : Int) (jn K : Nat), j = (jn : Int) → jn ≤ b.length → b.length - jn = m → out.length + (b.length - jn) < 8000000000000 →
    (∀ k, K ≤ k → span_Cut.l0 k b (out ++ cutGo (b.drop jn) c0 c1) kk a la (wrap64 (i + 1)) = some r) → K + 2 * m + 3 ≤ k → span_Cut.l2 k b out kk j a la i c0 c1 = some r := by
  intro m
  induction m with
  | zero =>
    intro k out kk j i c0 c1 jn K hj hjn hm ho h hk
    obtain ⟨k, rfl⟩ : ∃ q, k = q + 1 := ⟨k - 1, by omega⟩
    obtain ⟨k, rfl⟩ : ∃ q, k = q + 1 := ⟨k - 1, by omega⟩
    subst hj
    simp only [span_Cut.l2]
    rw [if_neg (by omega)]
    simp only [span_Cut.j4]
    rw [if_neg (by decide), show span_empty.f c0 c1 = some (decide (c0 ≥ c1)) from rfl, Option.bind_some]
    rw [List.drop_eq_nil_of_le (by omega)] at h
    simp only [cutGo, tailS] at h
    by_cases hc : c0 < c1
    · rw [if_pos hc] at h
      rw [if_neg (by simp; omega), if_pos (by omega)]
      exact h k (by omega)
    · rw [if_neg hc, List.append_nil] at h
      rw [if_pos (by simp; omega)]
      exact h k (by omega)
  | succ m ih =>
    intro k out kk j i c0 c1 jn K hj hjn hm ho h hk
    obtain ⟨k, rfl⟩ : ∃ q, k = q + 1 := ⟨k - 1, by omega⟩
    obtain ⟨k, rfl⟩ : ∃ q, k = q + 1 := ⟨k - 1, by omega⟩
    subst hj
    have hlt : jn < b.length := by omega
    simp only [span_Cut.l2]
    rw [if_pos (by omega), if_pos (by omega), rd_nat, getD_at b jn hlt]
    simp only [span_Cut.j4]
    rw [List.drop_eq_getElem_cons hlt] at h
    simp only [cutGo] at h
    by_cases hc : (b[jn]).f0 < c1
    · rw [if_pos hc] at h
      rw [if_pos (by simp [hc]), if_pos (by omega), if_pos (by omega), rd_nat, getD_at b jn hlt, wrap_in ((jn : Int) + 1) (by omega) (by omega)]
      simp only [tailS] at h
      by_cases hc2 : c0 < (b[jn]).f0
      · rw [if_pos hc2] at h
        rw [if_pos hc2, if_pos (by omega)]
        refine ih k _ kk _ i _ c1 (jn + 1) K rfl (by omega) (by omega) (by simp; omega) (fun q hq => ?_) (by omega)
        rw [List.append_assoc]
        exact h q hq
      · rw [if_neg hc2, List.nil_append] at h
        rw [if_neg hc2]
        exact ih k _ kk _ i _ c1 (jn + 1) K rfl (by omega) (by omega) (by omega) h (by omega)
    · rw [if_neg hc] at h
      rw [if_neg (by simpa using hc), show span_empty.f c0 c1 = some (decide (c0 ≥ c1)) from rfl, Option.bind_some]
      simp only [tailS] at h
      by_cases hc2 : c0 < c1
      · rw [if_pos hc2] at h
        rw [if_neg (by simp; omega), if_pos (by omega)]
        exact h k (by omega)
      · rw [if_neg hc2, List.append_nil] at h
        rw [if_pos (by simp; omega)]
        exact h k (by omega)
theorem cut_l1 (hb : b.length < 1000000) : ∀ (m k : Nat) (out : List S30) (i c0 c1 : Int) (kn K : Nat), kn ≤ b.length → b.length - kn = m →
    (∀ kn', kn' ≤ b.length → b.drop kn' = (b.drop kn).dropWhile (fun t => decide (t.f1 ≤ c0)) → ∀ k, K ≤ k → span_Cut.j2 k b out (kn' : Int) a la i c0 c1 = some r) → K + m + 1 ≤ k → span_Cut.l1 k b out (kn : Int) a la i c0 c1 = some r := by
  intro m
  induction m with
  | zero =>
    intro k out i c0 c1 kn K hkn hm h hk
    obtain ⟨k, rfl⟩ : ∃ q, k = q + 1 := ⟨k - 1, by omega⟩
    simp only [span_Cut.l1]
    rw [if_neg (by omega)]
    exact h kn hkn (by rw [List.drop_eq_nil_of_le (by omega)]; rfl) k (by omega)
  | succ m ih =>
    intro k out i c0 c1 kn K hkn hm h hk
    obtain ⟨k, rfl⟩ : ∃ q, k = q + 1 := ⟨k - 1, by omega⟩
    have hlt : kn < b.length := by omega
    simp only [span_Cut.l1]
    rw [if_pos (by omega), if_pos (by omega), rd_nat, getD_at b kn hlt]
    rw [List.drop_eq_getElem_cons hlt, List.dropWhile_cons] at h
    by_cases hc : (b[kn]).f1 ≤ c0
    · rw [if_pos (by simpa using hc)] at h
      rw [if_pos hc, wrap_in ((kn : Int) + 1) (by omega) (by omega)]
      exact ih k out i c0 c1 (kn + 1) K (by omega) (by omega) h (by omega)
    · rw [if_neg (by simpa using hc)] at h
      rw [if_neg hc]
      exact h kn hkn (List.drop_eq_getElem_cons hlt) k (by omega)
theorem cut_l0 (hb : b.length < 1000000) (ha : a.length < 1000000) : ∀ (m k : Nat) (out : List S30) (kn i : Nat), kn ≤ b.length → i ≤ a.length → a.length - i = m → out.length + m * (b.length + 1) < 8000000000000 → m * (3 * b.length + 8) + 1 ≤ k →
    span_Cut.l0 k b out (kn : Int) a (a.length : Int) (i : Int) = some (out ++ cutAll (b.drop kn) (a.drop i)) := by
  intro m
  induction m with
  | zero =>
    intro k out kn i hkn hi hm ho hk
    obtain ⟨k, rfl⟩ : ∃ q, k = q + 1 := ⟨k - 1, by omega⟩
    simp only [span_Cut.l0]
    rw [if_neg (by omega), List.drop_eq_nil_of_le (show a.length ≤ i by omega)]
    simp [cutAll]
  | succ m ih =>
    intro k out kn i hkn hi hm ho hk
    obtain ⟨k, rfl⟩ : ∃ q, k = q + 1 := ⟨k - 1, by omega⟩
    have hlt : i < a.length := by omega
    simp only [span_Cut.l0]
    rw [if_pos (by omega), if_pos (by omega), if_pos (by omega), rd_nat, getD_at a i hlt, List.drop_eq_getElem_cons hlt]
    simp only [cutAll]
    have hmul : (m + 1) * (3 * b.length + 8) = m * (3 * b.length + 8) + (3 * b.length + 8) := by rw [Nat.succ_mul]
    have hmul2 : (m + 1) * (b.length + 1) = m * (b.length + 1) + (b.length + 1) := by rw [Nat.succ_mul]
    refine cut_l1 hb (b.length - kn) k out _ _ _ kn (m * (3 * b.length + 8) + 1 + 2 * b.length + 3 + 1) hkn rfl (fun kn' hkn' hd q hq => ?_) (by omega)
    obtain ⟨q, rfl⟩ : ∃ z, q = z + 1 := ⟨q - 1, by omega⟩
    simp only [span_Cut.j2]
    refine cut_l2 hb (b.length - kn') q out _ _ _ _ _ kn' (m * (3 * b.length + 8) + 1) rfl hkn' rfl (by omega) (fun z hz => ?_) (by omega)
    rw [wrap_in ((i : Int) + 1) (by omega) (by omega)]
    have hl := cutGo_length (b.drop kn') (a[i]).f0 (a[i]).f1
    rw [List.length_drop] at hl
    have := ih z (out ++ cutGo (b.drop kn') (a[i]).f0 (a[i]).f1) kn' (i + 1) hkn' (by omega) (by omega) (by rw [List.length_append]; omega) hz
    rw [show ((i : Int) + 1) = ((i + 1 : Nat) : Int) from rfl, this, List.append_assoc, hd]
end
theorem cut_spec (a b : List S30) (ha : a.length < 1000000) (hb : b.length < 1000000) : ∀ k, a.length * (3 * b.length + 8) + a.length + b.length + 1 < k → span_Cut.f k a b = some (cutL a b) := by
  intro k hk
  unfold span_Cut.f
  obtain ⟨_, _, la⟩ := normL_plain a
  obtain ⟨_, _, lb⟩ := normL_plain b
  rw [norm_spec b (by omega) k (by omega), Option.bind_some, norm_spec a (by omega) k (by omega), Option.bind_some]
  have h1 : (normL a).length * (3 * (normL b).length + 8) ≤ a.length * (3 * b.length + 8) := Nat.mul_le_mul la (by omega)
  have h2 : (normL a).length * ((normL b).length + 1) ≤ 1000000 * 1000001 := Nat.mul_le_mul (by omega) (by omega)
  have := cut_l0 (b := normL b) (a := normL a) (by omega) (by omega) (normL a).length k [] 0 0 (by omega) (by omega) (by omega) (by simp only [List.length_nil]; omega) (by omega)
  rw [show (0 : Int) = ((0 : Nat) : Int) from rfl, this]
  rfl
end Go.Proofs.Ytgncbhpmnjfhhaa.S
end
section
namespace Go.Proofs.Ytgncbhpmnjfhhaa.S
open Go.RowKit Go.Proofs.YtgncbhpmnjfhhaaW.PrintWords Go.Proofs.YtgncbhpmnjfhhaaW.PrintLast Go.Proofs.YtgncbhpmnjfhhaaW.PrintMore
set_option linter.unusedVariables false
set_option linter.unusedSimpArgs false
abbrev Rise (l : List Int) : Prop := l.Pairwise (· < ·)
def insGo (l0 : List Int) (n : Int) : List Int → Bool → List Int → List Int
  | [], laid, out => if laid = true then out else out ++ [n]
  | x :: r, laid, out => if x = n then l0 else if x > n then (if laid = true then insGo l0 n r laid (out ++ [x]) else insGo l0 n r true (out ++ [n] ++ [x])) else insGo l0 n r laid (out ++ [x])
def insL (l : List Int) (n : Int) : List Int := insGo l n l false []
theorem insGo_ok (l0 : List Int) (n : Int) : ∀ (rest pre : List Int) (laid : Bool) (out : List Int), l0 = pre ++ rest → Rise l0 → Rise out → (∀ x ∈ out, ∀ y ∈ rest, x < y) → out.length ≤ pre.length + (if laid then 1 else 0) →
    (laid = true → (∀ x, x ∈ out ↔ x = n ∨ x ∈ pre) ∧ ∀ y ∈ rest, n < y) → (laid = false → out = pre ∧ ∀ y ∈ pre, y < n) →
    Rise (insGo l0 n rest laid out) ∧ (∀ x, x ∈ insGo l0 n rest laid out ↔ x = n ∨ x ∈ l0) ∧ (insGo l0 n rest laid out).length ≤ l0.length + 1
  | [], pre, laid, out, he, hr, ho, hlt, hlen, h1, h2 => by
    rw [List.append_nil] at he
    subst he
    cases laid with
    | true =>
      simp only [insGo, if_true]
      exact ⟨ho, (h1 rfl).1, by simpa using hlen⟩
    | false =>
      obtain ⟨rfl, h3⟩ := h2 rfl
      simp only [insGo]
      rw [if_neg (by decide)]
      refine ⟨List.pairwise_append.2 ⟨ho, by simp, fun x hx y hy => ?_⟩, fun x => ?_, by simp⟩
      · simp at hy; rw [hy]; exact h3 x hx
      · simp [or_comm]
  | x :: r, pre, laid, out, he, hr, ho, hlt, hlen, h1, h2 => by
    have hr2 := hr
    rw [he] at hr2
    obtain ⟨r1, r2, r3⟩ := List.pairwise_append.1 hr2
    obtain ⟨r4, r5⟩ := List.pairwise_cons.1 r2
    have he2 : l0 = (pre ++ [x]) ++ r := by rw [he, List.append_assoc]; rfl
    simp only [insGo]
    by_cases hx : x = n
    · rw [if_pos hx]
      refine ⟨hr, fun y => ⟨.inr, ?_⟩, by omega⟩
      rintro (rfl | h)
      · rw [← hx, he]; simp
      · exact h
    · rw [if_neg hx]
      by_cases hg : x > n
      · rw [if_pos hg]
        cases laid with
        | true =>
          rw [if_pos rfl]
          obtain ⟨k1, k2⟩ := h1 rfl
          refine insGo_ok l0 n r (pre ++ [x]) true _ he2 hr (List.pairwise_append.2 ⟨ho, by simp, fun u hu y hy => ?_⟩) (fun u hu y hy => ?_) (by simp at hlen ⊢; omega) (fun _ => ⟨fun u => ?_, fun y hy => k2 y (List.mem_cons_of_mem _ hy)⟩) (fun h => by cases h)
          · simp at hy; rw [hy]; exact hlt u hu x List.mem_cons_self
          · rcases List.mem_append.1 hu with hu | hu
            · exact hlt u hu y (List.mem_cons_of_mem _ hy)
            · simp at hu; rw [hu]; exact r4 y hy
          · rw [List.mem_append, k1, List.mem_append, or_assoc]
        | false =>
          rw [if_neg (by decide)]
          obtain ⟨rfl, k2⟩ := h2 rfl
          refine insGo_ok l0 n r (out ++ [x]) true _ he2 hr ?_ (fun u hu y hy => ?_) (by simp) (fun _ => ⟨fun u => ?_, fun y hy => by have := r4 y hy; omega⟩) (fun h => by cases h)
          · refine List.pairwise_append.2 ⟨List.pairwise_append.2 ⟨ho, by simp, fun u hu y hy => ?_⟩, by simp, fun u hu y hy => ?_⟩
            · simp at hy; rw [hy]; exact k2 u hu
            · simp at hy; rw [hy]
              rcases List.mem_append.1 hu with hu | hu
              · exact hlt u hu x List.mem_cons_self
              · simp at hu; rw [hu]; exact hg
          · simp at hu
            rcases hu with hu | rfl | rfl
            · exact hlt u hu y (List.mem_cons_of_mem _ hy)
            · have := r4 y hy; omega
            · exact r4 y hy
          · simp
            constructor
            · rintro (h | h | h)
              · exact .inr (.inl h)
              · exact .inl h
              · exact .inr (.inr h)
            · rintro (h | h | h)
              · exact .inr (.inl h)
              · exact .inl h
              · exact .inr (.inr h)
      · rw [if_neg hg]
        have hxn : x < n := by omega
        cases laid with
        | true =>
          have := (h1 rfl).2 x List.mem_cons_self
          omega
        | false =>
          obtain ⟨rfl, k2⟩ := h2 rfl
          refine insGo_ok l0 n r (out ++ [x]) false _ he2 hr (List.pairwise_append.2 ⟨ho, by simp, fun u hu y hy => ?_⟩) (fun u hu y hy => ?_) (by simp) (fun h => by cases h) (fun _ => ⟨rfl, fun y hy => ?_⟩)
          · simp at hy; rw [hy]; exact hlt u hu x List.mem_cons_self
          · rcases List.mem_append.1 hu with hu | hu
            · exact hlt u hu y (List.mem_cons_of_mem _ hy)
            · simp at hu; rw [hu]; exact r4 y hy
          · rcases List.mem_append.1 hy with hy | hy
            · exact k2 y hy
            · simp at hy; rw [hy]; exact hxn
theorem insL_ok {l : List Int} (n : Int) (h : Rise l) : Rise (insL l n) ∧ (∀ x, x ∈ insL l n ↔ x = n ∨ x ∈ l) ∧ (insL l n).length ≤ l.length + 1 :=
  insGo_ok l n l [] false [] rfl h List.Pairwise.nil (fun x hx => by cases hx) (by simp) (fun h => by cases h) (fun _ => ⟨rfl, fun y hy => by cases hy⟩)
theorem rdI_nat (l : List Int) (i : Nat) (h : i < l.length) : rd l (i : Int) = l[i] := by unfold rd; rw [Int.toNat_natCast, List.getD_eq_getElem?_getD, List.getElem?_eq_getElem h]; rfl
theorem in_loop (l : List Int) (n : Int) (hb : l.length < 1000000000) : ∀ (m k : Nat) (out : List Int) (laid : Bool) (i : Nat), i ≤ l.length → l.length - i = m → out.length ≤ 2 * i + 1 → m < k →
    lamellaref02_in.l0 k l n out laid l (l.length : Int) (i : Int) = some (insGo l n (l.drop i) laid out) := by
  intro m
  induction m with
  | zero =>
    intro k out laid i hi hm ho hk
    obtain ⟨k, rfl⟩ : ∃ q, k = q + 1 := ⟨k - 1, by omega⟩
    simp only [lamellaref02_in.l0]
    rw [if_neg (by omega), List.drop_eq_nil_of_le (by omega)]
    simp only [insGo]
    cases laid with
    | true => rfl
    | false => rw [if_neg (by decide), if_pos (by omega), if_neg (by decide)]
  | succ m ih =>
    intro k out laid i hi hm ho hk
    obtain ⟨k, rfl⟩ : ∃ q, k = q + 1 := ⟨k - 1, by omega⟩
    have hlt : i < l.length := by omega
    simp only [lamellaref02_in.l0]
    rw [if_pos (by omega), if_pos (by omega), if_pos (by omega), rdI_nat l i hlt, wrap_in ((i : Int) + 1) (by omega) (by omega), List.drop_eq_getElem_cons hlt]
    simp only [insGo]
    have hI : ∀ (o : List Int) (ld : Bool), o.length ≤ 2 * (i + 1) + 1 → lamellaref02_in.l0 k l n o ld l (l.length : Int) ((i : Int) + 1) = some (insGo l n (l.drop (i + 1)) ld o) := fun o ld h => ih k o ld (i + 1) (by omega) (by omega) h (by omega)
    by_cases hx : l[i] = n
    · rw [if_pos hx, if_pos hx]
    · rw [if_neg hx, if_neg hx]
      by_cases hg : l[i] > n
      · rw [if_pos hg, if_pos hg]
        cases laid with
        | true => rw [if_pos rfl, if_pos rfl, if_pos (by omega), hI _ _ (by simp; omega)]
        | false => rw [if_neg (show ¬ (false = true) by decide), if_neg (show ¬ (false = true) by decide), if_pos (by omega), Option.bind_some, if_pos (by simp; omega), hI _ _ (by simp; omega)]
      · rw [if_neg hg, if_neg hg, if_pos (by omega), hI _ _ (by simp; omega)]
theorem in_spec (l : List Int) (n : Int) (hb : l.length < 1000000000) : ∀ k, l.length < k → lamellaref02_in.f k l n = some (insL l n) := fun k hk => in_loop l n hb l.length k [] false 0 (by omega) (by omega) (by simp) hk
def endStep (out : List Int) (s : S30) : List Int := if s.f0 < s.f1 then insL (insL out s.f0) s.f1 else out
theorem endStep_ok {out : List Int} (s : S30) (h : Rise out) : Rise (endStep out s) ∧ (∀ x, x ∈ endStep out s ↔ x ∈ out ∨ s.f0 < s.f1 ∧ (x = s.f0 ∨ x = s.f1)) ∧ (endStep out s).length ≤ out.length + 2 := by
  unfold endStep
  split
  · rename_i hs
    obtain ⟨a1, a2, a3⟩ := insL_ok s.f0 h
    obtain ⟨b1, b2, b3⟩ := insL_ok s.f1 a1
    refine ⟨b1, fun x => ?_, by omega⟩
    rw [b2, a2]
    constructor
    · rintro (h | h | h)
      · exact .inr ⟨hs, .inr h⟩
      · exact .inr ⟨hs, .inl h⟩
      · exact .inl h
    · rintro (h | ⟨_, h | h⟩)
      · exact .inr (.inr h)
      · exact .inr (.inl h)
      · exact .inl h
  · rename_i hs
    exact ⟨h, fun x => ⟨.inl, fun h => h.elim id (fun h => absurd h.1 hs)⟩, by omega⟩
theorem ends_ok : ∀ (l : List S30) (out : List Int), Rise out → Rise (l.foldl endStep out) ∧ (∀ x, x ∈ l.foldl endStep out ↔ x ∈ out ∨ ∃ s ∈ l, s.f0 < s.f1 ∧ (x = s.f0 ∨ x = s.f1)) ∧ (l.foldl endStep out).length ≤ out.length + 2 * l.length
  | [], out, h => ⟨h, fun x => ⟨.inl, fun h => h.elim id (fun ⟨s, hs, _⟩ => by cases hs)⟩, by simp⟩
  | s :: l, out, h => by
    obtain ⟨a1, a2, a3⟩ := endStep_ok s h
    obtain ⟨b1, b2, b3⟩ := ends_ok l _ a1
    refine ⟨b1, fun x => ?_, by rw [List.foldl_cons]; simp only [List.length_cons]; omega⟩
    rw [List.foldl_cons, b2, a2, or_assoc]
    constructor
    · rintro (h | h | ⟨t, ht, h⟩)
      · exact .inl h
      · exact .inr ⟨s, List.mem_cons_self, h⟩
      · exact .inr ⟨t, List.mem_cons_of_mem _ ht, h⟩
    · rintro (h | ⟨t, ht, h⟩)
      · exact .inl h
      · rcases List.mem_cons.1 ht with rfl | ht
        · exact .inr (.inl h)
        · exact .inr (.inr ⟨t, ht, h⟩)
def endsL (rows : List (List S30)) : List Int := rows.foldl (fun o l => l.foldl endStep o) []
section
variable {rows : List (List S30)} {r : List Int}
theorem ends_l1 (row : List S30) (hrow : row.length < 1000000) (la : Int) : ∀ (m k : Nat) (out : List Int) (i : Int) (jn K : Nat), Rise out → jn ≤ row.length → row.length - jn = m → out.length + 2 * m < 100000000 → (out.length + 2 * m) + 2 ≤ K →
    (∀ k, K ≤ k → lamellaref02_Ends.l0 k ((row.drop jn).foldl endStep out) rows la (wrap64 (i + 1)) = some r) → K + m + 1 ≤ k → lamellaref02_Ends.l1 k out rows la i row (row.length : Int) (jn : Int) = some r := by
  intro m
  induction m with
  | zero =>
    intro k out i jn K hri hjn hm ho hK h hk
    obtain ⟨k, rfl⟩ : ∃ q, k = q + 1 := ⟨k - 1, by omega⟩
    simp only [lamellaref02_Ends.l1]
    rw [if_neg (by omega)]
    rw [List.drop_eq_nil_of_le (by omega)] at h
    exact h k (by omega)
  | succ m ih =>
    intro k out i jn K hri hjn hm ho hK h hk
    obtain ⟨k, rfl⟩ : ∃ q, k = q + 1 := ⟨k - 1, by omega⟩
    have hlt : jn < row.length := by omega
    simp only [lamellaref02_Ends.l1]
    rw [if_pos (by omega), if_pos (by omega), if_pos (by omega), rd_nat, getD_at row jn hlt, wrap_in ((jn : Int) + 1) (by omega) (by omega)]
    rw [List.drop_eq_getElem_cons hlt, List.foldl_cons] at h
    obtain ⟨e1, _, e3⟩ := endStep_ok row[jn] hri
    unfold endStep at h e1 e3
    by_cases hs : (row[jn]).f0 < (row[jn]).f1
    · rw [if_pos hs] at h e1 e3
      obtain ⟨q1, _, q3⟩ := insL_ok (row[jn]).f0 hri
      rw [if_pos hs, in_spec _ _ (by omega) k (by omega), Option.bind_some, in_spec _ _ (by omega) k (by omega), Option.bind_some]
      exact ih k _ i (jn + 1) K e1 (by omega) (by omega) (by omega) (by omega) h (by omega)
    · rw [if_neg hs] at h
      rw [if_neg hs]
      exact ih k _ i (jn + 1) K hri (by omega) (by omega) (by omega) (by omega) h (by omega)
end
theorem ends_two (a b : List S30) (ha : a.length < 1000000) (hb : b.length < 1000000) : ∀ k, 5 * (a.length + b.length) + 20 < k → lamellaref02_Ends.f k [a, b] = some (endsL [a, b]) := by
  intro k hk
  unfold lamellaref02_Ends.f
  obtain ⟨k, rfl⟩ : ∃ q, k = q + 1 := ⟨k - 1, by omega⟩
  simp only [lamellaref02_Ends.l0]
  rw [if_pos (by simp), if_pos (by omega), if_pos (by simp), show rd_L2 [a, b] 0 = a from rfl]
  obtain ⟨a1, _, a3⟩ := ends_ok a [] List.Pairwise.nil
  simp only [List.length_nil, Nat.zero_add] at a3
  refine ends_l1 a ha _ a.length k [] 0 0 (2 * (a.length + b.length) + b.length + 10) List.Pairwise.nil (by omega) rfl (by simp; omega) (by simp; omega) (fun z hz => ?_) (by omega)
  obtain ⟨z, rfl⟩ : ∃ q, z = q + 1 := ⟨z - 1, by omega⟩
  rw [show wrap64 (0 + 1) = 1 from wrap_in _ (by omega) (by omega), List.drop_zero]
  simp only [lamellaref02_Ends.l0]
  rw [if_pos (by simp), if_pos (by omega), if_pos (by simp), show rd_L2 [a, b] 1 = b from rfl]
  refine ends_l1 b hb _ b.length z _ 1 0 (2 * (a.length + b.length) + 3) a1 (by omega) rfl (by omega) (by omega) (fun z hz => ?_) (by omega)
  obtain ⟨z, rfl⟩ : ∃ q, z = q + 1 := ⟨z - 1, by omega⟩
  rw [show wrap64 (1 + 1) = 2 from wrap_in _ (by omega) (by omega), List.drop_zero]
  simp only [lamellaref02_Ends.l0]
  rw [if_neg (by simp)]
  rfl
theorem endsL_ok (a b : List S30) : Rise (endsL [a, b]) ∧ (∀ x, x ∈ endsL [a, b] ↔ ∃ s ∈ a ++ b, s.f0 < s.f1 ∧ (x = s.f0 ∨ x = s.f1)) ∧ (endsL [a, b]).length ≤ 2 * (a.length + b.length) := by
  have e : endsL [a, b] = (a ++ b).foldl endStep [] := by simp [endsL, List.foldl_append]
  rw [e]
  obtain ⟨h1, h2, h3⟩ := ends_ok (a ++ b) [] List.Pairwise.nil
  refine ⟨h1, fun x => ?_, by simpa using h3⟩
  rw [h2]
  simp
def hasL (l : List S30) (x : Int) : Bool := l.any fun s => decide (s.f0 ≤ x) && decide (x < s.f1)
theorem hasL_iff (l : List S30) (x : Int) : hasL l x = true ↔ memS x l := by
  unfold hasL
  rw [List.any_eq_true]
  constructor
  · rintro ⟨s, hs, h⟩
    simp at h
    exact ⟨s, hs, h⟩
  · rintro ⟨s, hs, h⟩
    exact ⟨s, hs, by simp; exact h⟩
theorem has_loop (l : List S30) (x : Int) (hb : l.length < 1000000000) : ∀ (m k : Nat) (i : Nat), i ≤ l.length → l.length - i = m → m < k → lamellaref02_Has.l0 k x l (l.length : Int) (i : Int) = some (hasL (l.drop i) x) := by
  intro m
  induction m with
  | zero =>
    intro k i hi hm hk
    obtain ⟨k, rfl⟩ : ∃ q, k = q + 1 := ⟨k - 1, by omega⟩
    simp only [lamellaref02_Has.l0]
    rw [if_neg (by omega), List.drop_eq_nil_of_le (by omega)]
    rfl
  | succ m ih =>
    intro k i hi hm hk
    obtain ⟨k, rfl⟩ : ∃ q, k = q + 1 := ⟨k - 1, by omega⟩
    have hlt : i < l.length := by omega
    simp only [lamellaref02_Has.l0]
    rw [if_pos (by omega), if_pos (by omega), if_pos (by omega), rd_nat, getD_at l i hlt, wrap_in ((i : Int) + 1) (by omega) (by omega), List.drop_eq_getElem_cons hlt]
    have h := ih k (i + 1) (by omega) (by omega) (by omega)
    rw [show ((i + 1 : Nat) : Int) = (i : Int) + 1 from rfl] at h
    unfold hasL at h ⊢
    rw [List.any_cons]
    by_cases h1 : (l[i]).f0 ≤ x
    · rw [if_pos h1]
      by_cases h2 : x < (l[i]).f1
      · rw [if_pos h2]; simp [h1, h2]
      · rw [if_neg h2, h]; simp [h1, h2]
    · rw [if_neg h1, h]; simp [h1]
theorem has_spec (l : List S30) (x : Int) (hb : l.length < 1000000000) : ∀ k, l.length < k → lamellaref02_Has.f k l x = some (hasL l x) := fun k hk => has_loop l x hb l.length k 0 (by omega) (by omega) hk
end Go.Proofs.Ytgncbhpmnjfhhaa.S
end
section
namespace Go.Proofs.Ytgncbhpmnjfhhaa.S
open Go.RowKit Go.Proofs.YtgncbhpmnjfhhaaW.PrintWords Go.Proofs.YtgncbhpmnjfhhaaW.PrintLast Go.Proofs.YtgncbhpmnjfhhaaW.PrintMore
set_option linter.unusedVariables false
set_option linter.unusedSimpArgs false
def bstep (out : List S30) (e e' : Int) : List S30 :=
  if out.length = 0 then out ++ [⟨e, e'⟩] else if (lastS out).f1 = e then out.set (out.length - 1) ⟨(lastS out).f0, e'⟩ else out ++ [⟨e, e'⟩]
def buildGo : List Int → List Bool → List S30 → List S30
  | e :: e' :: es, kb :: ks, out => buildGo (e' :: es) ks (if kb = true then bstep out e e' else out)
  | _, _, out => out
theorem bstep_length (out : List S30) (e e' : Int) : (bstep out e e').length ≤ out.length + 1 := by
  unfold bstep; split
  · simp
  · split <;> simp
theorem bstep_ok {out : List S30} {e e' : Int} (hp : PlainL out) (he : e < e') (hle : ∀ t ∈ out, t.f1 ≤ e) :
    PlainL (bstep out e e') ∧ (∀ x, memS x (bstep out e e') ↔ memS x out ∨ (e ≤ x ∧ x < e')) ∧ ∀ t ∈ bstep out e e', t.f1 ≤ e' := by
  have hadd : (∀ t ∈ out, t.f1 < e) → PlainL (out ++ [⟨e, e'⟩]) ∧ (∀ x, memS x (out ++ [⟨e, e'⟩]) ↔ memS x out ∨ (e ≤ x ∧ x < e')) ∧ ∀ t ∈ out ++ [⟨e, e'⟩], t.f1 ≤ e' := by
    intro h
    refine ⟨PlainL_snoc.2 ⟨hp, he, h⟩, fun x => by rw [memS_append, memS_one]; rfl, fun t ht => ?_⟩
    rcases List.mem_append.1 ht with ht | ht
    · have := h t ht; omega
    · simp at ht; rw [ht]; exact Int.le_refl _
  unfold bstep
  split
  · rename_i h0
    obtain rfl := List.eq_nil_of_length_eq_zero h0
    exact hadd (fun t ht => by cases ht)
  · rename_i h0
    obtain ⟨o, p, rfl⟩ := snoc_of out h0
    rw [lastS_snoc]
    obtain ⟨q1, q2, q3⟩ := PlainL_snoc.1 hp
    have hpe : p.f1 ≤ e := hle p (by simp)
    split
    · rename_i hj
      rw [set_last]
      refine ⟨PlainL_snoc.2 ⟨q1, (by show p.f0 < e'; omega), q3⟩, fun x => ?_, fun t ht => ?_⟩
      · rw [memS_append, memS_one, memS_append, memS_one]
        unfold inS
        show _ ∨ (p.f0 ≤ x ∧ x < e') ↔ _
        constructor
        · rintro (h | ⟨h1, h2⟩)
          · exact .inl (.inl h)
          · by_cases hx : x < p.f1
            · exact .inl (.inr ⟨h1, hx⟩)
            · exact .inr ⟨by omega, h2⟩
        · rintro ((h | ⟨h1, h2⟩) | ⟨h1, h2⟩)
          · exact .inl h
          · exact .inr ⟨h1, by omega⟩
          · exact .inr ⟨by omega, h2⟩
      · rcases List.mem_append.1 ht with ht | ht
        · have := hle t (List.mem_append_left _ ht); omega
        · simp at ht; rw [ht]; exact Int.le_refl _
    · rename_i hj
      refine hadd (fun t ht => ?_)
      rcases List.mem_append.1 ht with ht | ht
      · have := q3 t ht; omega
      · simp at ht; rw [ht]; omega
def segMem (kp : Int → Bool) (x : Int) : List Int → Prop
  | e :: e' :: es => (kp e = true ∧ e ≤ x ∧ x < e') ∨ segMem kp x (e' :: es)
  | _ => False
theorem build_ok (kp : Int → Bool) : ∀ (E : List Int) (out : List S30), Rise E → PlainL out → (∀ e ∈ E.head?, ∀ t ∈ out, t.f1 ≤ e) →
    PlainL (buildGo E (E.map kp) out) ∧ ∀ x, memS x (buildGo E (E.map kp) out) ↔ memS x out ∨ segMem kp x E
  | [], out, _, hp, _ => ⟨hp, fun x => by simp [buildGo, segMem]⟩
  | [e], out, _, hp, _ => ⟨hp, fun x => by simp [buildGo, segMem]⟩
  | e :: e' :: es, out, hr, hp, hle => by
    obtain ⟨r1, r2⟩ := List.pairwise_cons.1 hr
    have hee : e < e' := r1 e' List.mem_cons_self
    have hle' : ∀ t ∈ out, t.f1 ≤ e := hle e rfl
    simp only [List.map_cons, buildGo]
    cases hk : kp e with
    | true =>
      rw [if_pos rfl]
      obtain ⟨b1, b2, b3⟩ := bstep_ok hp hee hle'
      obtain ⟨i1, i2⟩ := build_ok kp (e' :: es) (bstep out e e') r2 b1 (fun y hy => by simp at hy; rw [← hy]; exact b3)
      refine ⟨i1, fun x => ?_⟩
      have := i2 x
      rw [List.map_cons] at this
      rw [this, b2]
      simp only [segMem, hk, true_and, or_assoc]
    | false =>
      rw [if_neg (by decide)]
      obtain ⟨i1, i2⟩ := build_ok kp (e' :: es) out r2 hp (fun y hy t ht => by simp at hy; rw [← hy]; have := hle' t ht; omega)
      refine ⟨i1, fun x => ?_⟩
      have := i2 x
      rw [List.map_cons] at this
      rw [this]
      simp [segMem, hk]
theorem buildGo_length : ∀ (E : List Int) (ks : List Bool) (out : List S30), (buildGo E ks out).length ≤ out.length + E.length
  | [], _, out => by simp [buildGo]
  | [e], _, out => by simp [buildGo]
  | e :: e' :: es, [], out => by simp [buildGo]
  | e :: e' :: es, kb :: ks, out => by
    simp only [buildGo]
    have h := buildGo_length (e' :: es) ks (if kb = true then bstep out e e' else out)
    have h2 := bstep_length out e e'
    have h3 : (if kb = true then bstep out e e' else out).length ≤ out.length + 1 := by
      split
      · exact h2
      · omega
    simp only [List.length_cons] at h ⊢
    omega
theorem seg_iff (P : Int → Prop) (kp : Int → Bool) (x : Int) : ∀ (e : Int) (es : List Int), Rise (e :: es) →
    (∀ p a b q, e :: es = p ++ a :: b :: q → a ≤ x → x < b → (P x ↔ kp a = true)) → (segMem kp x (e :: es) ↔ P x ∧ e ≤ x ∧ ∃ y ∈ e :: es, x < y)
  | e, [], _, _ => by
    constructor
    · intro h; exact h.elim
    · rintro ⟨_, h1, y, hy, h2⟩
      simp at hy
      omega
  | e, e' :: es, hr, h => by
    obtain ⟨r1, r2⟩ := List.pairwise_cons.1 hr
    have ih := seg_iff P kp x e' es r2 (fun p a b q he => h (e :: p) a b q (by rw [he]; rfl))
    have hee := r1 e' List.mem_cons_self
    have h0 := h [] e e' es rfl
    simp only [segMem]
    rw [ih]
    constructor
    · rintro (⟨h1, h2, h3⟩ | ⟨h1, h2, y, hy, h3⟩)
      · exact ⟨(h0 h2 h3).2 h1, h2, e', by simp, h3⟩
      · exact ⟨h1, by omega, y, List.mem_cons_of_mem _ hy, h3⟩
    · rintro ⟨h1, h2, y, hy, h3⟩
      by_cases hx : x < e'
      · exact .inl ⟨(h0 h2 hx).1 h1, h2, hx⟩
      · refine .inr ⟨h1, by omega, y, ?_, h3⟩
        rcases List.mem_cons.1 hy with rfl | hy
        · omega
        · exact hy
theorem build_loop (E : List Int) (ks : List Bool) (hb : E.length < 1000000000) (hks : ks.length = E.length) : ∀ (m k : Nat) (out : List S30) (i : Nat), i ≤ E.length → E.length - i = m → out.length ≤ i → m < k →
    lamellaref02_Build.l0 k E ks out (i : Int) = some (buildGo (E.drop i) (ks.drop i) out) := by
  intro m
  induction m with
  | zero =>
    intro k out i hi hm ho hk
    obtain ⟨k, rfl⟩ : ∃ q, k = q + 1 := ⟨k - 1, by omega⟩
    simp only [lamellaref02_Build.l0]
    rw [wrap_in ((i : Int) + 1) (by omega) (by omega), if_neg (by omega), List.drop_eq_nil_of_le (show E.length ≤ i by omega)]
    simp [buildGo]
  | succ m ih =>
    intro k out i hi hm ho hk
    obtain ⟨k, rfl⟩ : ∃ q, k = q + 1 := ⟨k - 1, by omega⟩
    have hlt : i < E.length := by omega
    simp only [lamellaref02_Build.l0]
    rw [wrap_in ((i : Int) + 1) (by omega) (by omega)]
    by_cases h1 : i + 1 < E.length
    · rw [if_pos (by omega), if_pos (by omega), if_pos (by omega)]
      have hk1 : rdOf false ks (i : Int) = ks[i] := by unfold rdOf; rw [Int.toNat_natCast, List.getD_eq_getElem?_getD, List.getElem?_eq_getElem (by omega)]; rfl
      rw [hk1, List.drop_eq_getElem_cons hlt, List.drop_eq_getElem_cons h1, List.drop_eq_getElem_cons (show i < ks.length by omega)]
      simp only [buildGo]
      have hI : ∀ o : List S30, o.length ≤ i + 1 → lamellaref02_Build.l0 k E ks o ((i : Int) + 1) = some (buildGo (E.drop (i + 1)) (ks.drop (i + 1)) o) := fun o h => ih k o (i + 1) (by omega) (by omega) h (by omega)
      rw [List.drop_eq_getElem_cons h1] at hI
      have e1 : rd E (i : Int) = E[i] := rdI_nat E i hlt
      have e2 : rd E ((i : Int) + 1) = E[i + 1] := rdI_nat E (i + 1) h1
      cases hkb : ks[i] with
      | false =>
        rw [if_neg (by decide), if_neg (show ¬ (false = true) by decide)]
        exact hI out (by omega)
      | true =>
        rw [if_pos rfl, if_pos rfl, wrap_in ((out.length : Int) - 1) (by omega) (by omega)]
        unfold bstep
        by_cases h0 : out.length = 0
        · rw [if_pos h0, if_neg (by omega), if_pos (by omega), if_pos (by omega), if_pos (by omega), e1, e2]
          exact hI _ (by simp; omega)
        · have hqi : ((out.length : Int) - 1) = ((out.length - 1 : Nat) : Int) := by omega
          rw [if_neg h0, if_pos (by omega), if_pos (by omega), if_pos (by omega), if_pos (by omega), hqi, rd_nat, Int.toNat_natCast, e1, e2]
          unfold lastS
          by_cases hj : (out.getD (out.length - 1) z30).f1 = E[i]
          · rw [if_pos hj, if_pos hj, if_pos (by omega)]
            exact hI _ (by rw [List.length_set]; omega)
          · rw [if_neg hj, if_neg hj, if_pos (by omega), if_pos (by omega)]
            exact hI _ (by simp; omega)
    · rw [if_neg (by omega)]
      rw [List.drop_eq_getElem_cons hlt, List.drop_eq_nil_of_le (show E.length ≤ i + 1 by omega)]
      simp [buildGo]
theorem build_spec (E : List Int) (ks : List Bool) (hb : E.length < 1000000000) (hks : ks.length = E.length) : ∀ k, E.length < k → lamellaref02_Build.f k E ks = some (buildGo E ks []) := fun k hk => build_loop E ks hb hks E.length k [] 0 (by omega) (by omega) (by simp) hk
def kindB (kind : Int) (p q : Bool) : Bool := (decide (kind = 0) && (p || q)) || (decide (kind = 1) && (p && q)) || (decide (kind = 2) && (p && !q))
def ofL (a b : List S30) (kind : Int) : List S30 := buildGo (endsL [a, b]) ((endsL [a, b]).map fun x => kindB kind (hasL a x) (hasL b x)) []
theorem of_loop (a b : List S30) (kind : Int) (E : List Int) (ha : a.length < 1000000) (hb' : b.length < 1000000) (hb : E.length < 100000000) : ∀ (m k : Nat) (ks : List Bool) (i : Nat), i ≤ E.length → E.length - i = m → ks.length = i → m + a.length + b.length + E.length + 3 < k →
    lamellaref02_Of.l0 k a b kind E ks E (E.length : Int) (i : Int) = some (buildGo E (ks ++ (E.drop i).map fun x => kindB kind (hasL a x) (hasL b x)) []) := by
  intro m
  induction m with
  | zero =>
    intro k ks i hi hm hl hk
    obtain ⟨k, rfl⟩ : ∃ q, k = q + 1 := ⟨k - 1, by omega⟩
    simp only [lamellaref02_Of.l0]
    rw [if_neg (by omega), build_spec E ks (by omega) (by omega) k (by omega), Option.bind_some, List.drop_eq_nil_of_le (by omega)]
    simp
  | succ m ih =>
    intro k ks i hi hm hl hk
    obtain ⟨k, rfl⟩ : ∃ q, k = q + 1 := ⟨k - 1, by omega⟩
    have hlt : i < E.length := by omega
    simp only [lamellaref02_Of.l0]
    rw [if_pos (by omega), if_pos (by omega), if_pos (by omega), rdI_nat E i hlt, has_spec a _ (by omega) k (by omega), Option.bind_some, has_spec b _ (by omega) k (by omega), Option.bind_some, wrap_in ((i : Int) + 1) (by omega) (by omega), List.drop_eq_getElem_cons hlt, List.map_cons]
    have hI : ∀ kb : Bool, lamellaref02_Of.l0 k a b kind E (ks ++ [kb]) E (E.length : Int) ((i : Int) + 1) = some (buildGo E (ks ++ kb :: (E.drop (i + 1)).map fun x => kindB kind (hasL a x) (hasL b x)) []) := fun kb => by
      have := ih k (ks ++ [kb]) (i + 1) (by omega) (by omega) (by simp; omega) (by omega)
      rw [List.append_assoc] at this
      exact this
    have hlim : ks.length < 140737488355328 := by omega
    unfold kindB at hI ⊢
    simp only [if_pos hlim, hI]
    generalize hasL a E[i] = p
    generalize hasL b E[i] = q
    by_cases k0 : kind = 0
    · subst k0
      cases p <;> cases q <;> simp
    · by_cases k1 : kind = 1
      · subst k1
        cases p <;> cases q <;> simp
      · by_cases k2 : kind = 2
        · subst k2
          cases p <;> cases q <;> simp
        · cases p <;> cases q <;> simp [k0, k1, k2]
theorem of_spec (a b : List S30) (kind : Int) (ha : a.length < 1000000) (hb : b.length < 1000000) : ∀ k, 7 * (a.length + b.length) + 30 < k → lamellaref02_Of.f k a b kind = some (ofL a b kind) := by
  intro k hk
  unfold lamellaref02_Of.f
  obtain ⟨_, _, e3⟩ := endsL_ok a b
  rw [ends_two a b ha hb k (by omega), Option.bind_some]
  exact of_loop a b kind _ ha hb (by omega) (endsL [a, b]).length k [] 0 (by omega) (by omega) rfl (by omega)
def kindP (kind : Int) (p q : Prop) : Prop := (kind = 0 ∧ (p ∨ q)) ∨ (kind = 1 ∧ p ∧ q) ∨ (kind = 2 ∧ p ∧ ¬ q)
theorem kindB_iff (kind : Int) (a b : List S30) (x : Int) : kindB kind (hasL a x) (hasL b x) = true ↔ kindP kind (memS x a) (memS x b) := by
  rw [← hasL_iff, ← hasL_iff]
  unfold kindB kindP
  cases hasL a x <;> cases hasL b x <;> simp [and_comm]
theorem ofL_plain (a b : List S30) (kind : Int) : PlainL (ofL a b kind) ∧ (∀ x, memS x (ofL a b kind) ↔ kindP kind (memS x a) (memS x b)) ∧ (ofL a b kind).length ≤ 2 * (a.length + b.length) := by
  obtain ⟨e1, e2, e3⟩ := endsL_ok a b
  obtain ⟨b1, b2⟩ := build_ok (fun x => kindB kind (hasL a x) (hasL b x)) (endsL [a, b]) [] e1 PlainL_nil (fun y _ t ht => by cases ht)
  refine ⟨b1, fun x => ?_, ?_⟩
  · show memS x (buildGo _ _ _) ↔ _
    rw [b2]
    have hend : ∀ l, (∀ s ∈ l, s ∈ a ++ b) → memS x l → ∃ s ∈ a ++ b, s.f0 < s.f1 ∧ s.f0 ≤ x ∧ x < s.f1 := by
      rintro l hl ⟨s, hs, h1, h2⟩
      exact ⟨s, hl s hs, by omega, h1, h2⟩
    have hany : kindP kind (memS x a) (memS x b) → ∃ s ∈ a ++ b, s.f0 < s.f1 ∧ s.f0 ≤ x ∧ x < s.f1 := by
      rintro (⟨_, h | h⟩ | ⟨_, h, _⟩ | ⟨_, h, _⟩)
      · exact hend a (fun s hs => List.mem_append_left _ hs) h
      · exact hend b (fun s hs => List.mem_append_right _ hs) h
      · exact hend a (fun s hs => List.mem_append_left _ hs) h
      · exact hend a (fun s hs => List.mem_append_left _ hs) h
    have hin : ∀ s ∈ a ++ b, s.f0 < s.f1 → s.f0 ∈ endsL [a, b] ∧ s.f1 ∈ endsL [a, b] := fun s hs hne => ⟨(e2 _).2 ⟨s, hs, hne, .inl rfl⟩, (e2 _).2 ⟨s, hs, hne, .inr rfl⟩⟩
    cases hE : endsL [a, b] with
    | nil =>
      constructor
      · rintro (h | h)
        · exact absurd h (memS_nil _)
        · exact h.elim
      · intro h
        obtain ⟨s, hs, h1, _⟩ := hany h
        have := (hin s hs h1).1
        rw [hE] at this
        cases this
    | cons e es =>
      have hseg := seg_iff (fun y => kindP kind (memS y a) (memS y b)) (fun y => kindB kind (hasL a y) (hasL b y)) x e es (hE ▸ e1) (fun p u v q he hu hv => ?_)
      · rw [hseg]
        constructor
        · rintro (h | h)
          · exact absurd h (memS_nil _)
          · exact h.1
        · intro h
          obtain ⟨s, hs, h1, h2, h3⟩ := hany h
          obtain ⟨g1, g2⟩ := hin s hs h1
          rw [hE] at g1 g2
          refine .inr ⟨h, ?_, s.f1, g2, h3⟩
          have hr := hE ▸ e1
          rcases List.mem_cons.1 g1 with g | g
          · omega
          · have := (List.pairwise_cons.1 hr).1 _ g; omega
      ·
        have hr : Rise (p ++ u :: v :: q) := by rw [← he, ← hE]; exact e1
        obtain ⟨_, r2, r3⟩ := List.pairwise_append.1 hr
        have hgap : ∀ y ∈ endsL [a, b], y ≤ u ∨ v ≤ y := by
          intro y hy
          rw [hE, he] at hy
          rcases List.mem_append.1 hy with hy | hy
          · have := r3 y hy u List.mem_cons_self; omega
          · rcases List.mem_cons.1 hy with rfl | hy
            · exact .inl (Int.le_refl _)
            · rcases List.mem_cons.1 hy with rfl | hy
              · exact .inr (Int.le_refl _)
              · have := (List.pairwise_cons.1 (List.pairwise_cons.1 r2).2).1 y hy; omega
        have hsame : ∀ l, (∀ s ∈ l, s ∈ a ++ b) → (memS x l ↔ memS u l) := by
          intro l hl
          constructor
          · rintro ⟨s, hs, h1, h2⟩
            obtain ⟨g1, g2⟩ := hin s (hl s hs) (by omega)
            have c1 := hgap _ g1
            have c2 := hgap _ g2
            exact ⟨s, hs, by omega, by omega⟩
          · rintro ⟨s, hs, h1, h2⟩
            obtain ⟨g1, g2⟩ := hin s (hl s hs) (by omega)
            have c1 := hgap _ g1
            have c2 := hgap _ g2
            exact ⟨s, hs, by omega, by omega⟩
        rw [kindB_iff]
        show kindP kind (memS x a) (memS x b) ↔ _
        rw [hsame a (fun s hs => List.mem_append_left _ hs), hsame b (fun s hs => List.mem_append_right _ hs)]
  · have := buildGo_length (endsL [a, b]) ((endsL [a, b]).map fun x => kindB kind (hasL a x) (hasL b x)) []
    simp only [List.length_nil] at this
    exact Nat.le_trans this (by omega)
theorem same_loop (l : List S30) (hb : l.length < 1000000000) : ∀ (m k : Nat) (i : Nat), i ≤ l.length → l.length - i = m → m < k → lamellaref02_Same.l0 k l l (l.length : Int) (i : Int) = some true := by
  intro m
  induction m with
  | zero =>
    intro k i hi hm hk
    obtain ⟨k, rfl⟩ : ∃ q, k = q + 1 := ⟨k - 1, by omega⟩
    simp only [lamellaref02_Same.l0]
    rw [if_neg (by omega)]
  | succ m ih =>
    intro k i hi hm hk
    obtain ⟨k, rfl⟩ : ∃ q, k = q + 1 := ⟨k - 1, by omega⟩
    simp only [lamellaref02_Same.l0]
    rw [if_pos (by omega), if_pos (by omega), if_pos (by omega), if_pos (by omega), if_neg (by simp), wrap_in ((i : Int) + 1) (by omega) (by omega)]
    exact ih k (i + 1) (by omega) (by omega) (by omega)
theorem same_spec (l : List S30) (hb : l.length < 1000000000) : ∀ k, l.length < k → lamellaref02_Same.f k l l = some true := by
  intro k hk
  unfold lamellaref02_Same.f
  rw [if_pos rfl]
  exact same_loop l hb l.length k 0 (by omega) (by omega) hk
end Go.Proofs.Ytgncbhpmnjfhhaa.S
end
section
namespace Go.Proofs.Ytgncbhpmnjfhhaa.S
open Go.RowKit Go.Proofs.YtgncbhpmnjfhhaaW.PrintWords
set_option linter.unusedVariables false
theorem cut60 (l : List S30) : lamellalaw02_cut.f l = some (l.take 60) := by
  unfold lamellalaw02_cut.f
  split
  · rw [if_pos (by omega)]
  · rw [List.take_of_length_le (by omega)]
theorem cut60_len (l : List S30) : (l.take 60).length ≤ 60 := by rw [List.length_take]; omega
theorem lives_f : lamellalaw02_lives.f = some true := rfl
theorem cut_of (a b : List S30) : cutL a b = ofL a b 2 :=
  plain_ext (cutL_plain a b).1 (ofL_plain a b 2).1 (fun x => by rw [(cutL_plain a b).2.1, (ofL_plain a b 2).2.1]; simp [kindP])
theorem pureGaps (l0 : List S30) (x y : Int) : lamellalaw02_SpanGaps.f 100000 l0 x y = some true := by
  unfold lamellalaw02_SpanGaps.f span_Gaps.f
  rw [cut60, Option.bind_some]
  have h := cut60_len l0
  generalize l0.take 60 = b at h
  obtain ⟨n1, n2, n3⟩ := cutL_plain [⟨x, y⟩] b
  simp only [List.length_cons, List.length_nil, Nat.zero_add, Nat.one_mul] at n3
  rw [cut_spec [⟨x, y⟩] b (by simp) (by omega) _ (by simp; omega), Option.bind_some, Option.bind_some, of_spec [⟨x, y⟩] b 2 (by simp) (by omega) _ (by simp; omega), Option.bind_some, ← cut_of, same_spec _ (by omega) _ (by omega), Option.bind_some, if_pos rfl, lives_f, Option.bind_some]
end Go.Proofs.Ytgncbhpmnjfhhaa.S
end
section
namespace Go.Proofs.Ytgncbhpmnjfhhaa.S
open Go.RowKit Go.ChangeShapes Go.WideShapes Go.Deep Go.Joins Go.Proofs.YtgncbhpmnjfhhaaW.PrintWords
set_option linter.unusedVariables false
instance inhS30Row : Inhabited S30 := ⟨⟨0, 0⟩⟩
def okS (s : S30) : Prop := (-9223372036854775808 ≤ s.f0 ∧ s.f0 ≤ 9223372036854775807) ∧ (-9223372036854775808 ≤ s.f1 ∧ s.f1 ≤ 9223372036854775807)
theorem wf64 {n : Int} (h : (Lit.int .i64 n).wf = true) : -9223372036854775808 ≤ n ∧ n ≤ 9223372036854775807 := by
  simp [Lit.wf] at h
  exact h
theorem cells2 : Try.prog.cellsOf 30 = 2 := by kernel_rfl
theorem cells1 : Try.prog.cellsOf 3 = 1 := by kernel_rfl
section
variable {H : Type} {enc : TypeId × Value → H} {W : World} {base : Nat} {spare : Nat → Bool} {held : Bool}
theorem open_span_cells {fuel : Nat} {cs : List Value} {x : DataW H × List MemPlace} (h : DataW.trod enc Try.prog W base spare held fuel 30 cs = some x) : ∃ p : S30, cs = enc30 p ∧ okS p := by
  obtain ⟨xs, n, _, _, hl, hxl, hf⟩ := DataW.trod_struct Try.underlying30 h
  rw [cells2] at hl
  obtain ⟨u, v, rfl⟩ : ∃ u v, cs = [u, v] := by
    rcases cs with _ | ⟨u, _ | ⟨v, _ | ⟨z, cs⟩⟩⟩
    · simp at hl
    · simp at hl
    · exact ⟨u, v, rfl⟩
    · simp at hl
  have hx0 : xs[0]? = some (xs[0]'(by rw [hxl]; decide)) := List.getElem?_eq_getElem _
  have hx1 : xs[1]? = some (xs[1]'(by rw [hxl]; decide)) := List.getElem?_eq_getElem _
  have h0 : DataW.trod enc Try.prog W base spare held n 3 (List.take (Try.prog.cellsOf 3) (List.drop 0 [u, v])) = _ := (hf 0 _ rfl).trans hx0
  have h1 : DataW.trod enc Try.prog W base spare held n 3 (List.take (Try.prog.cellsOf 3) (List.drop 1 [u, v])) = _ := (hf 1 _ rfl).trans hx1
  obtain ⟨a, ha, _, wa⟩ := DataW.trod_int Try.underlying3 h0
  obtain ⟨b, hb, _, wb⟩ := DataW.trod_int Try.underlying3 h1
  rw [cells1] at ha hb
  simp at ha hb
  exact ⟨⟨a, b⟩, by simp [enc30, ha, hb], wf64 wa, wf64 wb⟩
theorem open_spans {a : Option Addr} {len cap : Nat} {d : DataW H} {p : List MemPlace} (h : DataW.Trod enc Try.prog W base spare held 22 (.slice a len cap) d p) :
    ∃ zs : List S30, zs.length = len ∧ k30.C W a len zs ∧ len ≤ cap ∧ ∀ s ∈ zs, okS s := by
  obtain ⟨fuel, hf⟩ := h
  rcases open_slice Try.underlying22 hf with ⟨hcs, _⟩ | ⟨x, l, c, m, n, D, Pl, hcs, _, hl, hm, hmm, _, hi⟩
  · simp [Value.cells] at hcs
    obtain ⟨rfl, rfl, rfl⟩ := hcs
    exact ⟨[], rfl, C30.2 ⟨rfl, by decide, fun h => absurd h (by decide)⟩, Nat.le_refl _, fun s hs => by cases hs⟩
  · simp [Value.cells] at hcs
    obtain ⟨rfl, rfl, rfl⟩ := hcs
    have hlm : len ≤ m := by rw [hmm]; split <;> omega
    have hp : ∀ i, i < len → ∃ p : S30, (W.cell? (x.add (i * 2)) = some (.int .i64 p.f0) ∧ W.cell? (x.add (i * 2 + 1)) = some (.int .i64 p.f1)) ∧ okS p := fun i hi' => by
      obtain ⟨cs', hc, ht⟩ := hi i (by omega)
      obtain ⟨p, rfl, ho⟩ := open_span_cells ht
      rw [cells2] at hc
      obtain ⟨_, _, hat⟩ := World.cells?_some hc
      have e0 := hat 0 (by decide)
      have e1 := hat 1 (by decide)
      rw [Go.Deep.add_add] at e0 e1
      exact ⟨p, ⟨e0, e1⟩, ho⟩
    obtain ⟨f, hfp⟩ := choose_lt hp
    have hlen : ((List.range len).map f).length = len := by simp
    refine ⟨(List.range len).map f, hlen, ⟨hlen, by unfold maxLen at hm; omega, fun _ => ⟨x, rfl, fun j p hj => ⟨enc30 p, rfl, k30_mk _ _, fun i u hu => ?_⟩⟩⟩, hl, fun s hs => ?_⟩
    · have hjl : j < len := by have := (List.getElem?_eq_some_iff.1 hj).1; simpa using this
      have hpj : f j = p := by simpa [hjl] using hj
      subst hpj
      obtain ⟨⟨e0, e1⟩, _⟩ := hfp j hjl
      match i with
      | 0 => simp [enc30] at hu; rw [← hu]; exact e0
      | 1 => simp [enc30] at hu; rw [← hu]; exact e1
      | i + 2 => simp [enc30] at hu
    · obtain ⟨i, hi', rfl⟩ := List.mem_map.1 hs
      exact (hfp i (List.mem_range.1 hi')).2
set_option maxRecDepth 100000 in
theorem open_span {r : Reach} {b0 : Nat} {v : Value} {d : DataW H} {p : List MemPlace} (hv : Value.okWide Try.prog W r b0 30 v) (h : DataW.Trod enc Try.prog W base spare held 30 v d p) :
    ∃ s : S30, v = .agg #[.int .i64 s.f0, .int .i64 s.f1] ∧ d = .agg [.lit (.int .i64 s.f0), .lit (.int .i64 s.f1)] ∧ p = [] ∧ okS s := by
  obtain ⟨v0, v1, y0, y1, n, rfl, rfl, rfl, h0, h1⟩ := open_agg2 Try.underlying30 (by kernel_rfl) cells2 hv h
  obtain ⟨a, ha, rfl, wa⟩ := DataW.trod_int Try.underlying3 h0
  obtain ⟨b, hb, rfl, wb⟩ := DataW.trod_int Try.underlying3 h1
  injection ha with ha
  injection hb with hb
  subst ha hb
  exact ⟨⟨a, b⟩, rfl, rfl, rfl, wf64 wa, wf64 wb⟩
theorem wf64_mk {n : Int} (h : -9223372036854775808 ≤ n ∧ n ≤ 9223372036854775807) : (Lit.int .i64 n).wf = true := by
  simp [Lit.wf]
  exact h
set_option maxRecDepth 100000 in
theorem shut_span {s : S30} (o : okS s) : DataW.Trod enc Try.prog W base spare held 30 (.agg #[.int .i64 s.f0, .int .i64 s.f1]) (.agg [.lit (.int .i64 s.f0), .lit (.int .i64 s.f1)]) [] :=
  shut_agg2 Try.underlying30 (by kernel_rfl) cells2 (y0 := (.lit (.int .i64 s.f0), [])) (y1 := (.lit (.int .i64 s.f1), [])) ⟨1, trod_int_mk 0 Try.underlying3 (wf64_mk o.1)⟩ ⟨1, trod_int_mk 0 Try.underlying3 (wf64_mk o.2)⟩
end
end Go.Proofs.Ytgncbhpmnjfhhaa.S
end
section
namespace Go.Proofs.Ytgncbhpmnjfhhaa.spanGaps
open Go.ChangeShapes Go.WideShapes Go.ChangeAt Go.RowKit Go.Proofs.Ytgncbhpmnjfhhaa.S
set_option linter.unusedVariables false
theorem own : ownKnob Try.prog.godebug = none := by kernel_rfl
theorem laidOut : laidOutB Try.prog = true := by kernel_rfl
set_option maxRecDepth 100000 in
theorem lifted (os : Os) (started : os.Started) (H : Type) (enc : TypeId × Value → H) :
    ReturnsInHanded {} Try.checked os 5 .any (Rows.spanGapsSpec.pre6 enc Try.prog Try.f5 Rows.spanGapsRow.domain false) (Rows.spanGapsSpec.post enc Try.prog Try.f5 false true false false) := by
  refine returnsInHanded_of_change_sized (C := Try.checked) own started (by kernel_rfl) Try.func5
    (ChangeSpec.witness6 (enc := enc) (C := Try.checked) false ⟨#[], #[.slice none 0 0, .agg #[.int .i64 0, .int .i64 0]], []⟩ 8 (by kernel_rfl) (by kernel_rfl) (by kernel_rfl) (by kernel_rfl)) ?_
  intro W base args ds gs before hval0 hW hcnd hsz0 _
  have hval : ∀ (j : Nat) t v, Try.f5.params[j]? = some t → args[j]? = some v → Value.okWide Try.prog W .any base t v := hval0
  have hW' := hW
  obtain ⟨p, q, hA0, hV, rfl, hfz, hnd⟩ := hW
  have hA : DataW.TrodAll enc Try.prog W 0 (fun _ => true) true Try.f5.params.toList args.toList ds p := hA0
  rw [Try.params5] at hA hval
  obtain ⟨v0, vs0, d0, ds0, p0, q0, hargs, rfl, rfl, h0, r0⟩ := trodAll_cons hA
  obtain ⟨v1, vs1, d1, ds1, p1, q1, rfl, rfl, rfl, h1, r1⟩ := trodAll_cons r0
  obtain ⟨rfl, rfl, rfl⟩ := trodAll_nil r1
  obtain rfl : args = #[v0, v1] := by cases args; simp_all
  obtain ⟨rfl, rfl⟩ := trodVars_none hV
  obtain ⟨a0, len0, cap0, rfl⟩ := okWide_slice Try.underlying22 (hval 0 22 v0 rfl rfl)
  have k0 := h0
  have lt0 : ∀ x ∈ p0, x.block < W.heap.size := by obtain ⟨m, hm⟩ := k0; exact DataW.trod_lt m _ _ _ hm
  obtain ⟨z0, e0, c0, l0, o0⟩ := open_spans h0
  subst e0
  obtain ⟨s1, rfl, rfl, rfl, o1⟩ := open_span (hval 1 30 v1 rfl rfl) h1
  refine (lamellalaw02_SpanGaps.calls 100000 a0 cap0 z0 s1.f0 s1.f1 true W c0 l0 (pureGaps z0 s1.f0 s1.f1 )).mono fun e W' ⟨he, bel⟩ => ?_
  subst he
  exact ⟨_, rfl, _, _, _, [], _, [], hW', trodAll_mk1 (shut_bool Try.underlying4 _), (trodAll_cons_mk (Below.trod laidOut (by kernel_rfl) (of_decide_eq_true (by kernel_rfl)) k0 bel lt0) (trodAll_cons_mk (Go.Proofs.Ytgncbhpmnjfhhaa.S.shut_span o1) trodAll_mk0)), rfl, bel.frame _, fun h => by cases h⟩
theorem over : Rows.spanGapsRow.holds Try.pinned (OpenSpec.ofChange Rows.spanGapsSpec) :=
  OpenClaim.holds_of_wide 5 Try.f5 rfl rfl rfl rfl rfl rfl rfl ⟨rfl, rfl, rfl, rfl, rfl⟩ rfl rfl rfl rfl rfl (by kernel_rfl) Try.func5 (by kernel_rfl)
    (of_decide_eq_true (by kernel_rfl)) (by unfold Func.isWrapper; first | (rw [if_pos (by decide +kernel)]; kernel_rfl) | (rw [if_neg (by decide +kernel)]; exact ⟨rfl, rfl⟩))
    (fun os started H enc _ => lifted os started H enc)
theorem proved : Rows.SpanGapsSaid := over
end Go.Proofs.Ytgncbhpmnjfhhaa.spanGaps
namespace Go.Proofs.Ytgncbhpmnjfhhaa
theorem spanGaps_holds : Rows.SpanGapsSaid := spanGaps.proved
#print axioms spanGaps_holds
end Go.Proofs.Ytgncbhpmnjfhhaa
end
