/- SpanSets: whatever the input, the law returns true, and each argument reads behind the call as it did. No condition. -/
import Derived.Test.YtgncbhpmnjfhhaaSets0
import Derived.Deep.Slices
import Derived.Lib.SmallJoins
import Derived.ChangeSame
import Derived.KernelRfl
import Derived.Test.YtgncbhpmnjfhhaaRows
import Derived.WalkKit
import Derived.ProofKit
import Derived.OpenShut
import Derived.ShutString
import Derived.ChangeOld
import Derived.Below
import Derived.SizedLaws
section
namespace Go.Proofs.Ytgncbhpmnjfhhaa.S
open Go.RowKit Go.Proofs.YtgncbhpmnjfhhaaW.PrintWords Go.Proofs.YtgncbhpmnjfhhaaW.PrintLast Go.Proofs.YtgncbhpmnjfhhaaW.PrintMore
set_option linter.unusedVariables false
set_option linter.unusedSimpArgs false
def bothS (s t : S30) : S30 := ⟨max s.f0 t.f0, min s.f1 t.f1⟩
def oneS (s : S30) : List S30 := if s.f0 < s.f1 then [s] else []
def meetGo : Nat → List S30 → List S30 → List S30
  | 0, _, _ => []
  | n + 1, s :: a, t :: b => oneS (bothS s t) ++ (if s.f1 < t.f1 then meetGo n a (t :: b) else meetGo n (s :: a) b)
  | n + 1, [], _ => []
  | n + 1, _ :: _, [] => []
theorem meetGo_length : ∀ (n : Nat) (a b : List S30), (meetGo n a b).length ≤ n
  | 0, _, _ => by simp [meetGo]
  | n + 1, s :: a, t :: b => by
    simp only [meetGo]
    have h : (oneS (bothS s t)).length ≤ 1 := by unfold oneS; split <;> simp
    rw [List.length_append]
    split
    · have := meetGo_length n a (t :: b); omega
    · have := meetGo_length n (s :: a) b; omega
  | n + 1, [], _ => by simp [meetGo]
  | n + 1, _ :: _, [] => by simp [meetGo]
theorem memS_oneS (x : Int) (s : S30) : memS x (oneS s) ↔ inS x s := by
  unfold oneS
  split
  · rw [memS_one]
  · constructor
    · intro h; exact absurd h (memS_nil _)
    · intro h; have := h.1; have := h.2; omega
theorem inS_both (x : Int) (s t : S30) : inS x (bothS s t) ↔ inS x s ∧ inS x t := by
  unfold inS bothS
  show max s.f0 t.f0 ≤ x ∧ x < min s.f1 t.f1 ↔ _
  omega
theorem PlainL_appendM {l m : List S30} (hl : PlainL l) (hm : PlainL m) (h : ∀ s ∈ l, ∀ t ∈ m, s.f1 < t.f0) : PlainL (l ++ m) := by
  refine ⟨fun s hs => ?_, List.pairwise_append.2 ⟨hl.2, hm.2, h⟩⟩
  rcases List.mem_append.1 hs with hs | hs
  · exact hl.1 s hs
  · exact hm.1 s hs
theorem oneS_plain (s : S30) : PlainL (oneS s) := by
  unfold oneS
  split
  · rename_i h; exact PlainL_cons.2 ⟨h, fun t ht => (by cases ht), PlainL_nil⟩
  · exact PlainL_nil
theorem meetGo_ok : ∀ (n : Nat) (a b : List S30), PlainL a → PlainL b → a.length + b.length ≤ n →
    PlainL (meetGo n a b) ∧ (∀ u ∈ meetGo n a b, (∃ s ∈ a, s.f0 ≤ u.f0) ∧ ∃ t ∈ b, t.f0 ≤ u.f0) ∧ ∀ x, memS x (meetGo n a b) ↔ memS x a ∧ memS x b
  | 0, a, b, _, _, hn => by
    obtain rfl := List.eq_nil_of_length_eq_zero (show a.length = 0 by omega)
    exact ⟨PlainL_nil, fun u hu => (by cases hu), fun x => ⟨fun h => absurd h (memS_nil _), fun h => absurd h.1 (memS_nil _)⟩⟩
  | n + 1, [], b, _, _, _ => ⟨PlainL_nil, fun u hu => (by cases hu), fun x => ⟨fun h => absurd h (memS_nil _), fun h => absurd h.1 (memS_nil _)⟩⟩
  | n + 1, s :: a, [], _, _, _ => ⟨PlainL_nil, fun u hu => (by cases hu), fun x => ⟨fun h => absurd h (memS_nil _), fun h => absurd h.2 (memS_nil _)⟩⟩
  | n + 1, s :: a, t :: b, ha, hb, hn => by
    obtain ⟨p1, p2, p3⟩ := PlainL_cons.1 ha
    obtain ⟨q1, q2, q3⟩ := PlainL_cons.1 hb
    simp only [List.length_cons] at hn
    simp only [meetGo]
    by_cases hc : s.f1 < t.f1
    · rw [if_pos hc]
      obtain ⟨i1, i2, i3⟩ := meetGo_ok n a (t :: b) p3 hb (by simp only [List.length_cons]; omega)
      refine ⟨PlainL_appendM (oneS_plain _) i1 (fun u hu v hv => ?_), fun u hu => ?_, fun x => ?_⟩
      · have hu1 : u = bothS s t := by
          unfold oneS at hu; split at hu
          · simpa using hu
          · cases hu
        obtain ⟨⟨z, hz, h1⟩, _⟩ := i2 v hv
        have := p2 z hz
        have e : u.f1 = min s.f1 t.f1 := by rw [hu1]; rfl
        omega
      · rcases List.mem_append.1 hu with hu | hu
        · have hu1 : u = bothS s t := by
            unfold oneS at hu; split at hu
            · simpa using hu
            · cases hu
          have e : u.f0 = max s.f0 t.f0 := by rw [hu1]; rfl
          exact ⟨⟨s, List.mem_cons_self, by omega⟩, ⟨t, List.mem_cons_self, by omega⟩⟩
        · obtain ⟨⟨z, hz, h1⟩, h2⟩ := i2 u hu
          exact ⟨⟨z, List.mem_cons_of_mem _ hz, h1⟩, h2⟩
      · rw [memS_append, memS_oneS, inS_both, i3, memS_cons x s a]
        constructor
        · rintro (⟨h1, h2⟩ | ⟨h1, h2⟩)
          · exact ⟨.inl h1, (memS_cons _ _ _).2 (.inl h2)⟩
          · exact ⟨.inr h1, h2⟩
        · rintro ⟨h1 | h1, h2⟩
          · rcases (memS_cons _ _ _).1 h2 with h3 | ⟨z, hz, h3, h4⟩
            · exact .inl ⟨h1, h3⟩
            · have := q2 z hz
              have := h1.2
              omega
          · exact .inr ⟨h1, h2⟩
    · rw [if_neg hc]
      obtain ⟨i1, i2, i3⟩ := meetGo_ok n (s :: a) b ha q3 (by simp only [List.length_cons]; omega)
      refine ⟨PlainL_appendM (oneS_plain _) i1 (fun u hu v hv => ?_), fun u hu => ?_, fun x => ?_⟩
      · have hu1 : u = bothS s t := by
          unfold oneS at hu; split at hu
          · simpa using hu
          · cases hu
        obtain ⟨_, ⟨z, hz, h1⟩⟩ := i2 v hv
        have := q2 z hz
        have e : u.f1 = min s.f1 t.f1 := by rw [hu1]; rfl
        omega
      · rcases List.mem_append.1 hu with hu | hu
        · have hu1 : u = bothS s t := by
            unfold oneS at hu; split at hu
            · simpa using hu
            · cases hu
          have e : u.f0 = max s.f0 t.f0 := by rw [hu1]; rfl
          exact ⟨⟨s, List.mem_cons_self, by omega⟩, ⟨t, List.mem_cons_self, by omega⟩⟩
        · obtain ⟨h2, ⟨z, hz, h1⟩⟩ := i2 u hu
          exact ⟨h2, ⟨z, List.mem_cons_of_mem _ hz, h1⟩⟩
      · rw [memS_append, memS_oneS, inS_both, i3, memS_cons x t b]
        constructor
        · rintro (⟨h1, h2⟩ | ⟨h1, h2⟩)
          · exact ⟨(memS_cons _ _ _).2 (.inl h1), .inl h2⟩
          · exact ⟨h1, .inr h2⟩
        · rintro ⟨h1, h2 | h2⟩
          · rcases (memS_cons _ _ _).1 h1 with h3 | ⟨z, hz, h3, h4⟩
            · exact .inl ⟨h3, h2⟩
            · have := p2 z hz
              have := h2.2
              omega
          · exact .inr ⟨h1, h2⟩
def meetL (a b : List S30) : List S30 := meetGo ((normL a).length + (normL b).length) (normL a) (normL b)
theorem meetL_plain (a b : List S30) : PlainL (meetL a b) ∧ (∀ x, memS x (meetL a b) ↔ memS x a ∧ memS x b) ∧ (meetL a b).length ≤ a.length + b.length := by
  obtain ⟨a1, a2, a3⟩ := normL_plain a
  obtain ⟨b1, b2, b3⟩ := normL_plain b
  obtain ⟨c1, _, c3⟩ := meetGo_ok _ (normL a) (normL b) a1 b1 (Nat.le_refl _)
  refine ⟨c1, fun x => by rw [meetL, c3, a2, b2], ?_⟩
  exact Nat.le_trans (meetGo_length _ _ _) (by omega)
theorem mn_min (a b : Int) : mn a b = min a b := by unfold mn; omega
theorem both_f (s t : S30) : span_both.f s.f0 s.f1 t.f0 t.f1 = some ((bothS s t).f0, (bothS s t).f1) := by
  unfold span_both.f bothS
  rw [mx_max, mn_min]
section
variable {a b : List S30}
theorem meet_loop (ha : a.length < 1000000) (hb : b.length < 1000000) : ∀ (m k : Nat) (out : List S30) (i j : Nat), i ≤ a.length → j ≤ b.length → (a.length - i) + (b.length - j) = m → out.length + m < 8000000000000 → 2 * m + 2 ≤ k →
    span_Meet.l0 k a b out (i : Int) (j : Int) = some (out ++ meetGo m (a.drop i) (b.drop j)) := by
  intro m
  induction m with
  | zero =>
    intro k out i j hi hj hm ho hk
    obtain ⟨k, rfl⟩ : ∃ q, k = q + 1 := ⟨k - 1, by omega⟩
    obtain ⟨k, rfl⟩ : ∃ q, k = q + 1 := ⟨k - 1, by omega⟩
    simp only [span_Meet.l0]
    rw [if_neg (by omega)]
    simp only [span_Meet.j1]
    rw [if_neg (by decide)]
    simp [meetGo]
  | succ m ih =>
    intro k out i j hi hj hm ho hk
    obtain ⟨k, rfl⟩ : ∃ q, k = q + 1 := ⟨k - 1, by omega⟩
    obtain ⟨k, rfl⟩ : ∃ q, k = q + 1 := ⟨k - 1, by omega⟩
    simp only [span_Meet.l0]
    by_cases hia : i < a.length
    · rw [if_pos (by omega)]
      by_cases hjb : j < b.length
      · simp only [span_Meet.j1]
        rw [if_pos (by simp; omega), if_pos (by omega), if_pos (by omega), if_pos (by omega), if_pos (by omega), rd_nat, rd_nat, getD_at a i hia, getD_at b j hjb, both_f, Option.bind_some]
        simp only
        rw [empty_f, Option.bind_some, List.drop_eq_getElem_cons hia, List.drop_eq_getElem_cons hjb]
        simp only [meetGo]
        rw [wrap_in ((i : Int) + 1) (by omega) (by omega), wrap_in ((j : Int) + 1) (by omega) (by omega)]
        have hA : ∀ o : List S30, o.length ≤ out.length + 1 → span_Meet.l0 k a b o ((i : Int) + 1) (j : Int) = some (o ++ meetGo m (a.drop (i + 1)) (b.drop j)) := fun o h => ih k o (i + 1) j (by omega) hj (by omega) (by omega) (by omega)
        have hB : ∀ o : List S30, o.length ≤ out.length + 1 → span_Meet.l0 k a b o (i : Int) ((j : Int) + 1) = some (o ++ meetGo m (a.drop i) (b.drop (j + 1))) := fun o h => ih k o i (j + 1) hi (by omega) (by omega) (by omega) (by omega)
        rw [List.drop_eq_getElem_cons hjb] at hA
        rw [List.drop_eq_getElem_cons hia] at hB
        unfold oneS neS
        by_cases hne : (bothS a[i] b[j]).f0 < (bothS a[i] b[j]).f1
        · rw [if_pos hne, if_neg (by simp [hne]), if_pos (by omega), Option.bind_some]
          have ee : (⟨(bothS a[i] b[j]).f0, (bothS a[i] b[j]).f1⟩ : S30) = bothS a[i] b[j] := rfl
          rw [ee]
          by_cases hc : (a[i]).f1 < (b[j]).f1
          · rw [if_pos hc, if_pos hc, hA _ (by simp), List.append_assoc]
          · rw [if_neg hc, if_neg hc, hB _ (by simp), List.append_assoc]
        · rw [if_neg hne, if_pos (by simp [hne]), List.nil_append]
          by_cases hc : (a[i]).f1 < (b[j]).f1
          · rw [if_pos hc, if_pos hc, hA _ (by omega)]
          · rw [if_neg hc, if_neg hc, hB _ (by omega)]
      · simp only [span_Meet.j1]
        rw [if_neg (by simp; omega), List.drop_eq_nil_of_le (show b.length ≤ j by omega), List.drop_eq_getElem_cons hia]
        simp [meetGo]
    · rw [if_neg (by omega)]
      simp only [span_Meet.j1]
      rw [if_neg (by decide), List.drop_eq_nil_of_le (show a.length ≤ i by omega)]
      simp [meetGo]
end
theorem meet_spec (a b : List S30) (ha : a.length < 1000000) (hb : b.length < 1000000) : ∀ k, 2 * (a.length + b.length) + 2 < k → span_Meet.f k a b = some (meetL a b) := by
  intro k hk
  unfold span_Meet.f
  obtain ⟨_, _, la⟩ := normL_plain a
  obtain ⟨_, _, lb⟩ := normL_plain b
  rw [norm_spec a (by omega) k (by omega), Option.bind_some, norm_spec b (by omega) k (by omega), Option.bind_some]
  have := meet_loop (a := normL a) (b := normL b) (by omega) (by omega) ((normL a).length + (normL b).length) k [] 0 0 (by omega) (by omega) (by omega) (by simp only [List.length_nil]; omega) (by omega)
  rw [show (0 : Int) = ((0 : Nat) : Int) from rfl, this]
  rfl
end Go.Proofs.Ytgncbhpmnjfhhaa.S
end
section
namespace Go.Proofs.Ytgncbhpmnjfhhaa.S
open Go.RowKit Go.Proofs.YtgncbhpmnjfhhaaW.PrintWords Go.Proofs.YtgncbhpmnjfhhaaW.PrintLast Go.Proofs.YtgncbhpmnjfhhaaW.PrintMore
set_option linter.unusedVariables false
set_option linter.unusedSimpArgs false
theorem same_loop (l : List S30) (hb : l.length < 1000000000) : ∀ (m k : Nat) (i : Nat), i ≤ l.length → l.length - i = m → m < k → lamellaref02_Same.l0 k l l (l.length : Int) (i : Int) = some true := by
  intro m
  induction m with
  | zero =>
    intro k i hi hm hk
    obtain ⟨k, rfl⟩ : ∃ q, k = q + 1 := ⟨k - 1, by omega⟩
    simp only [lamellaref02_Same.l0]
    rw [if_neg (by omega)]
  | succ m ih =>
    intro k i hi hm hk
    obtain ⟨k, rfl⟩ : ∃ q, k = q + 1 := ⟨k - 1, by omega⟩
    simp only [lamellaref02_Same.l0]
    rw [if_pos (by omega), if_pos (by omega), if_pos (by omega), if_pos (by omega), if_neg (by simp), wrap_in ((i : Int) + 1) (by omega) (by omega)]
    exact ih k (i + 1) (by omega) (by omega) (by omega)
theorem same_spec (l : List S30) (hb : l.length < 1000000000) : ∀ k, l.length < k → lamellaref02_Same.f k l l = some true := by
  intro k hk
  unfold lamellaref02_Same.f
  rw [if_pos rfl]
  exact same_loop l hb l.length k 0 (by omega) (by omega) hk
end Go.Proofs.Ytgncbhpmnjfhhaa.S
end
section
namespace Go.Proofs.Ytgncbhpmnjfhhaa.S
open Go.RowKit Go.Proofs.YtgncbhpmnjfhhaaW.PrintWords
set_option linter.unusedVariables false
theorem cut60 (l : List S30) : lamellalaw02_cut.f l = some (l.take 60) := by
  unfold lamellalaw02_cut.f
  split
  · rw [if_pos (by omega)]
  · rw [List.take_of_length_le (by omega)]
theorem cut60_len (l : List S30) : (l.take 60).length ≤ 60 := by rw [List.length_take]; omega
end Go.Proofs.Ytgncbhpmnjfhhaa.S
end
section
namespace Go.Proofs.Ytgncbhpmnjfhhaa.S
open Go.RowKit Go.Proofs.YtgncbhpmnjfhhaaW.PrintWords
set_option linter.unusedVariables false
def joinL (a b : List S30) : List S30 := normL (a ++ b)
theorem joinL_plain (a b : List S30) : PlainL (joinL a b) ∧ (∀ x, memS x (joinL a b) ↔ memS x a ∨ memS x b) ∧ (joinL a b).length ≤ a.length + b.length := by
  obtain ⟨n1, n2, n3⟩ := normL_plain (a ++ b)
  exact ⟨n1, fun x => (n2 x).trans (memS_append x a b), by rw [List.length_append] at n3; exact n3⟩
theorem joinL_spec (a b : List S30) (h : a.length + b.length < 1000000) : span_Join.f a b = some (joinL a b) := if_pos (by omega)
theorem meet_join (a b c : List S30) : joinL (meetL a b) (meetL a c) = meetL a (joinL b c) :=
  plain_ext (joinL_plain _ _).1 (meetL_plain _ _).1 fun x => by
    rw [(joinL_plain _ _).2.1, (meetL_plain _ _).2.1, (meetL_plain _ _).2.1, (meetL_plain _ _).2.1, (joinL_plain _ _).2.1, and_or_left]
theorem cut_join (a b c : List S30) : cutL (cutL a b) c = cutL a (joinL b c) :=
  plain_ext (cutL_plain _ _).1 (cutL_plain _ _).1 fun x => by
    rw [(cutL_plain _ _).2.1, (cutL_plain _ _).2.1, (cutL_plain _ _).2.1, (joinL_plain _ _).2.1, not_or, and_assoc]
theorem join_comm (a b : List S30) : joinL b a = joinL a b :=
  plain_ext (joinL_plain _ _).1 (joinL_plain _ _).1 fun x => by rw [(joinL_plain _ _).2.1, (joinL_plain _ _).2.1, or_comm]
theorem meet_comm (a b : List S30) : meetL b a = meetL a b :=
  plain_ext (meetL_plain _ _).1 (meetL_plain _ _).1 fun x => by rw [(meetL_plain _ _).2.1, (meetL_plain _ _).2.1, and_comm]
theorem join_cut_meet (a b : List S30) : joinL (cutL a b) (meetL a b) = normL a :=
  plain_ext (joinL_plain _ _).1 (normL_plain _).1 fun x => by
    rw [(joinL_plain _ _).2.1, (cutL_plain _ _).2.1, (meetL_plain _ _).2.1, (normL_plain _).2.1]
    constructor
    · rintro (h | h) <;> exact h.1
    · intro h
      by_cases hb : memS x b
      · exact .inr ⟨h, hb⟩
      · exact .inl ⟨h, hb⟩
theorem norm_norm (a : List S30) : normL (normL a) = normL a := plain_ext (normL_plain _).1 (normL_plain _).1 fun x => by rw [(normL_plain _).2.1]
theorem mul_le3 {x y u v : Nat} (h1 : x ≤ u) (h2 : y ≤ v) : x * (3 * y + 8) ≤ u * (3 * v + 8) := Nat.mul_le_mul h1 (by omega)
theorem mul_le1 {x y u v : Nat} (h1 : x ≤ u) (h2 : y ≤ v) : x * (y + 1) ≤ u * (v + 1) := Nat.mul_le_mul h1 (by omega)
theorem pureSets (l0 l1 l2 : List S30) : SetsData 2000000 l0 l1 l2 (l0.take 60) (l1.take 60) (l2.take 60) (joinL (l1.take 60) (l2.take 60)) (meetL (l0.take 60) (joinL (l1.take 60) (l2.take 60))) (meetL (l0.take 60) (l1.take 60)) (meetL (l0.take 60) (l2.take 60))
    (cutL (l0.take 60) (joinL (l1.take 60) (l2.take 60))) (cutL (l0.take 60) (l1.take 60)) (joinL (l0.take 60) (l1.take 60)) (normL (l0.take 60)) := by
  have e0 := cut60 l0
  have e1 := cut60 l1
  have e2 := cut60 l2
  have h0 := cut60_len l0
  have h1 := cut60_len l1
  have h2 := cut60_len l2
  generalize l0.take 60 = a at *
  generalize l1.take 60 = b at *
  generalize l2.take 60 = c at *
  have nbc := (joinL_plain b c).2.2
  have nab := (joinL_plain a b).2.2
  have nm1 := (meetL_plain a b).2.2
  have nm2 := (meetL_plain a c).2.2
  have nmo := (meetL_plain a (joinL b c)).2.2
  have nd1 := (cutL_plain a b).2.2
  have nth := (cutL_plain a (joinL b c)).2.2
  have nna := (normL_plain a).2.2
  have k1 := mul_le1 h0 h1
  have k2 := mul_le1 h0 (show (joinL b c).length ≤ 120 by omega)
  have k3 := mul_le3 h0 h1
  have k4 := mul_le3 h0 (show (joinL b c).length ≤ 120 by omega)
  have k5 := mul_le3 (show (cutL a b).length ≤ 3660 by omega) h2
  exact {
    E1 := e0, E2 := e1, E3 := e2, JBC := joinL_spec b c (by omega), MO := meet_spec a (joinL b c) (by omega) (by omega) _ (by omega), M1 := meet_spec a b (by omega) (by omega) _ (by omega), M2 := meet_spec a c (by omega) (by omega) _ (by omega)
    JO := by rw [joinL_spec _ _ (by omega), meet_join]
    CT := cut_spec a (joinL b c) (by omega) (by omega) _ (by omega), CD := cut_spec a b (by omega) (by omega) _ (by omega)
    CF := by rw [cut_spec (cutL a b) c (by omega) (by omega) _ (by omega), cut_join]
    SO := same_spec _ (by omega) _ (by omega), ST := same_spec _ (by omega) _ (by omega), JAB := joinL_spec a b (by omega)
    JBA := by rw [joinL_spec b a (by omega), join_comm]
    SAB := same_spec _ (by omega) _ (by omega)
    MBA := by rw [meet_spec b a (by omega) (by omega) _ (by omega), meet_comm]
    SM := same_spec _ (by omega) _ (by omega)
    JDM := by rw [joinL_spec _ _ (by omega), join_cut_meet]
    NA := norm_spec a (by omega) _ (by omega), SN := same_spec _ (by omega) _ (by omega)
    NN := by rw [norm_spec (normL a) (by omega) _ (by omega), norm_norm] }
theorem setsAll (A0 : Option Addr) (c0 : Nat) (l0 : List S30) (A1 : Option Addr) (c1 : Nat) (l1 : List S30) (A2 : Option Addr) (c2 : Nat) (l2 : List S30) (w : World) (hr0 : Kd.C k30 w A0 l0.length l0) (hc0 : l0.length ≤ c0) (hr1 : Kd.C k30 w A1 l1.length l1) (hc1 : l1.length ≤ c1) (hr2 : Kd.C k30 w A2 l2.length l2) (hc2 : l2.length ≤ c2) :
    Calls Try.prog 14 #[.slice A0 l0.length c0, .slice A1 l1.length c1, .slice A2 l2.length c2] w fun e w' => e = .returned (.bool true) ∧ Below w.heap.size w w' :=
  setsC _ _ _ _ _ _ _ _ _ _ _ _ _ _ _ (pureSets l0 l1 l2) A0 c0 A1 c1 A2 c2 w ⟨hr0, hc0⟩ ⟨hr1, hc1⟩ ⟨hr2, hc2⟩
end Go.Proofs.Ytgncbhpmnjfhhaa.S
end
section
namespace Go.Proofs.Ytgncbhpmnjfhhaa.spanSets
open Go.ChangeShapes Go.WideShapes Go.ChangeAt Go.RowKit Go.Proofs.Ytgncbhpmnjfhhaa.S
set_option linter.unusedVariables false
theorem own : ownKnob Try.prog.godebug = none := by kernel_rfl
theorem laidOut : laidOutB Try.prog = true := by kernel_rfl
set_option maxRecDepth 100000 in
theorem lifted (os : Os) (started : os.Started) (H : Type) (enc : TypeId × Value → H) :
    ReturnsInHanded {} Try.checked os 14 .any (Rows.spanSetsSpec.pre6 enc Try.prog Try.f14 Rows.spanSetsRow.domain false) (Rows.spanSetsSpec.post enc Try.prog Try.f14 false true false false) := by
  refine returnsInHanded_of_change_sized (C := Try.checked) own started (by kernel_rfl) Try.func14
    (ChangeSpec.witness6 (enc := enc) (C := Try.checked) false ⟨#[], #[.slice none 0 0, .slice none 0 0, .slice none 0 0], []⟩ 8 (by kernel_rfl) (by kernel_rfl) (by kernel_rfl) (by kernel_rfl)) ?_
  intro W base args ds gs before hval0 hW hcnd hsz0 _
  have hval : ∀ (j : Nat) t v, Try.f14.params[j]? = some t → args[j]? = some v → Value.okWide Try.prog W .any base t v := hval0
  have hW' := hW
  obtain ⟨p, q, hA0, hV, rfl, hfz, hnd⟩ := hW
  have hA : DataW.TrodAll enc Try.prog W 0 (fun _ => true) true Try.f14.params.toList args.toList ds p := hA0
  rw [Try.params14] at hA hval
  obtain ⟨v0, vs0, d0, ds0, p0, q0, hargs, rfl, rfl, h0, r0⟩ := trodAll_cons hA
  obtain ⟨v1, vs1, d1, ds1, p1, q1, rfl, rfl, rfl, h1, r1⟩ := trodAll_cons r0
  obtain ⟨v2, vs2, d2, ds2, p2, q2, rfl, rfl, rfl, h2, r2⟩ := trodAll_cons r1
  obtain ⟨rfl, rfl, rfl⟩ := trodAll_nil r2
  obtain rfl : args = #[v0, v1, v2] := by cases args; simp_all
  obtain ⟨rfl, rfl⟩ := trodVars_none hV
  obtain ⟨a0, len0, cap0, rfl⟩ := okWide_slice Try.underlying22 (hval 0 22 v0 rfl rfl)
  have k0 := h0
  have lt0 : ∀ x ∈ p0, x.block < W.heap.size := by obtain ⟨m, hm⟩ := k0; exact DataW.trod_lt m _ _ _ hm
  obtain ⟨z0, e0, c0, l0, o0⟩ := open_spans h0
  subst e0
  obtain ⟨a1, len1, cap1, rfl⟩ := okWide_slice Try.underlying22 (hval 1 22 v1 rfl rfl)
  have k1 := h1
  have lt1 : ∀ x ∈ p1, x.block < W.heap.size := by obtain ⟨m, hm⟩ := k1; exact DataW.trod_lt m _ _ _ hm
  obtain ⟨z1, e1, c1, l1, o1⟩ := open_spans h1
  subst e1
  obtain ⟨a2, len2, cap2, rfl⟩ := okWide_slice Try.underlying22 (hval 2 22 v2 rfl rfl)
  have k2 := h2
  have lt2 : ∀ x ∈ p2, x.block < W.heap.size := by obtain ⟨m, hm⟩ := k2; exact DataW.trod_lt m _ _ _ hm
  obtain ⟨z2, e2, c2, l2, o2⟩ := open_spans h2
  subst e2
  refine (setsAll a0 cap0 z0 a1 cap1 z1 a2 cap2 z2 W c0 l0 c1 l1 c2 l2 ).mono fun e W' ⟨he, bel⟩ => ?_
  subst he
  exact ⟨_, rfl, _, _, _, [], _, [], hW', trodAll_mk1 (shut_bool Try.underlying4 _), (trodAll_cons_mk (Below.trod laidOut (by kernel_rfl) (of_decide_eq_true (by kernel_rfl)) k0 bel lt0) (trodAll_cons_mk (Below.trod laidOut (by kernel_rfl) (of_decide_eq_true (by kernel_rfl)) k1 bel lt1) (trodAll_cons_mk (Below.trod laidOut (by kernel_rfl) (of_decide_eq_true (by kernel_rfl)) k2 bel lt2) trodAll_mk0))), rfl, bel.frame _, fun h => by cases h⟩
theorem over : Rows.spanSetsRow.holds Try.pinned (OpenSpec.ofChange Rows.spanSetsSpec) :=
  OpenClaim.holds_of_wide 14 Try.f14 rfl rfl rfl rfl rfl rfl rfl ⟨rfl, rfl, rfl, rfl, rfl⟩ rfl rfl rfl rfl rfl (by kernel_rfl) Try.func14 (by kernel_rfl)
    (of_decide_eq_true (by kernel_rfl)) (by unfold Func.isWrapper; first | (rw [if_pos (by decide +kernel)]; kernel_rfl) | (rw [if_neg (by decide +kernel)]; exact ⟨rfl, rfl⟩))
    (fun os started H enc _ => lifted os started H enc)
theorem proved : Rows.SpanSetsSaid := over
end Go.Proofs.Ytgncbhpmnjfhhaa.spanSets
namespace Go.Proofs.Ytgncbhpmnjfhhaa
theorem spanSets_holds : Rows.SpanSetsSaid := spanSets.proved
#print axioms spanSets_holds
end Go.Proofs.Ytgncbhpmnjfhhaa
end
