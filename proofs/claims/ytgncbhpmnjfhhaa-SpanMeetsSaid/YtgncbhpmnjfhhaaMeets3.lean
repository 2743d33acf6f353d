/- Meet hands back the blocks of both rows: whatever the input, the law returns true, and each argument reads behind the call as it did. No condition. -/
import Derived.Test.YtgncbhpmnjfhhaaMeets2
import Derived.Deep.Slices
import Derived.Lib.SmallJoins
import Derived.ChangeSame
import Derived.KernelRfl
import Derived.Test.YtgncbhpmnjfhhaaRows
import Derived.WalkKit
import Derived.ProofKit
import Derived.OpenShut
import Derived.ShutString
import Derived.ChangeOld
import Derived.Below
import Derived.SizedLaws
section
namespace Go.Proofs.Ytgncbhpmnjfhhaa.S
open Go.RowKit Go.Proofs.YtgncbhpmnjfhhaaW.PrintWords Go.Proofs.YtgncbhpmnjfhhaaW.PrintLast Go.Proofs.YtgncbhpmnjfhhaaW.PrintMore
set_option linter.unusedVariables false
set_option linter.unusedSimpArgs false
def bstep (out : List S30) (e e' : Int) : List S30 :=
  if out.length = 0 then out ++ [⟨e, e'⟩] else if (lastS out).f1 = e then out.set (out.length - 1) ⟨(lastS out).f0, e'⟩ else out ++ [⟨e, e'⟩]
def buildGo : List Int → List Bool → List S30 → List S30
  | e :: e' :: es, kb :: ks, out => buildGo (e' :: es) ks (if kb = true then bstep out e e' else out)
  | _, _, out => out
theorem bstep_length (out : List S30) (e e' : Int) : (bstep out e e').length ≤ out.length + 1 := by
  unfold bstep; split
  · simp
  · split <;> simp
theorem bstep_ok {out : List S30} {e e' : Int} (hp : PlainL out) (he : e < e') (hle : ∀ t ∈ out, t.f1 ≤ e) :
    PlainL (bstep out e e') ∧ (∀ x, memS x (bstep out e e') ↔ memS x out ∨ (e ≤ x ∧ x < e')) ∧ ∀ t ∈ bstep out e e', t.f1 ≤ e' := by
  have hadd : (∀ t ∈ out, t.f1 < e) → PlainL (out ++ [⟨e, e'⟩]) ∧ (∀ x, memS x (out ++ [⟨e, e'⟩]) ↔ memS x out ∨ (e ≤ x ∧ x < e')) ∧ ∀ t ∈ out ++ [⟨e, e'⟩], t.f1 ≤ e' := by
    intro h
    refine ⟨PlainL_snoc.2 ⟨hp, he, h⟩, fun x => by rw [memS_append, memS_one]; rfl, fun t ht => ?_⟩
    rcases List.mem_append.1 ht with ht | ht
    · have := h t ht; omega
    · simp at ht; rw [ht]; exact Int.le_refl _
  unfold bstep
  split
  · rename_i h0
    obtain rfl := List.eq_nil_of_length_eq_zero h0
    exact hadd (fun t ht => by cases ht)
  · rename_i h0
    obtain ⟨o, p, rfl⟩ := snoc_of out h0
    rw [lastS_snoc]
    obtain ⟨q1, q2, q3⟩ := PlainL_snoc.1 hp
    have hpe : p.f1 ≤ e := hle p (by simp)
    split
    · rename_i hj
      rw [set_last]
      refine ⟨PlainL_snoc.2 ⟨q1, (by show p.f0 < e'; omega), q3⟩, fun x => ?_, fun t ht => ?_⟩
      · rw [memS_append, memS_one, memS_append, memS_one]
        unfold inS
        show _ ∨ (p.f0 ≤ x ∧ x < e') ↔ _
        constructor
        · rintro (h | ⟨h1, h2⟩)
          · exact .inl (.inl h)
          · by_cases hx : x < p.f1
            · exact .inl (.inr ⟨h1, hx⟩)
            · exact .inr ⟨by omega, h2⟩
        · rintro ((h | ⟨h1, h2⟩) | ⟨h1, h2⟩)
          · exact .inl h
          · exact .inr ⟨h1, by omega⟩
          · exact .inr ⟨by omega, h2⟩
      · rcases List.mem_append.1 ht with ht | ht
        · have := hle t (List.mem_append_left _ ht); omega
        · simp at ht; rw [ht]; exact Int.le_refl _
    · rename_i hj
      refine hadd (fun t ht => ?_)
      rcases List.mem_append.1 ht with ht | ht
      · have := q3 t ht; omega
      · simp at ht; rw [ht]; omega
def segMem (kp : Int → Bool) (x : Int) : List Int → Prop
  | e :: e' :: es => (kp e = true ∧ e ≤ x ∧ x < e') ∨ segMem kp x (e' :: es)
  | _ => False
theorem build_ok (kp : Int → Bool) : ∀ (E : List Int) (out : List S30), Rise E → PlainL out → (∀ e ∈ E.head?, ∀ t ∈ out, t.f1 ≤ e) →
    PlainL (buildGo E (E.map kp) out) ∧ ∀ x, memS x (buildGo E (E.map kp) out) ↔ memS x out ∨ segMem kp x E
  | [], out, _, hp, _ => ⟨hp, fun x => by simp [buildGo, segMem]⟩
  | [e], out, _, hp, _ => ⟨hp, fun x => by simp [buildGo, segMem]⟩
  | e :: e' :: es, out, hr, hp, hle => by
    obtain ⟨r1, r2⟩ := List.pairwise_cons.1 hr
    have hee : e < e' := r1 e' List.mem_cons_self
    have hle' : ∀ t ∈ out, t.f1 ≤ e := hle e rfl
    simp only [List.map_cons, buildGo]
    cases hk : kp e with
    | true =>
      rw [if_pos rfl]
      obtain ⟨b1, b2, b3⟩ := bstep_ok hp hee hle'
      obtain ⟨i1, i2⟩ := build_ok kp (e' :: es) (bstep out e e') r2 b1 (fun y hy => by simp at hy; rw [← hy]; exact b3)
      refine ⟨i1, fun x => ?_⟩
      have := i2 x
      rw [List.map_cons] at this
      rw [this, b2]
      simp only [segMem, hk, true_and, or_assoc]
    | false =>
      rw [if_neg (by decide)]
      obtain ⟨i1, i2⟩ := build_ok kp (e' :: es) out r2 hp (fun y hy t ht => by simp at hy; rw [← hy]; have := hle' t ht; omega)
      refine ⟨i1, fun x => ?_⟩
      have := i2 x
      rw [List.map_cons] at this
      rw [this]
      simp [segMem, hk]
theorem buildGo_length : ∀ (E : List Int) (ks : List Bool) (out : List S30), (buildGo E ks out).length ≤ out.length + E.length
  | [], _, out => by simp [buildGo]
  | [e], _, out => by simp [buildGo]
  | e :: e' :: es, [], out => by simp [buildGo]
  | e :: e' :: es, kb :: ks, out => by
    simp only [buildGo]
    have h := buildGo_length (e' :: es) ks (if kb = true then bstep out e e' else out)
    have h2 := bstep_length out e e'
    have h3 : (if kb = true then bstep out e e' else out).length ≤ out.length + 1 := by
      split
      · exact h2
      · omega
    simp only [List.length_cons] at h ⊢
    omega
theorem seg_iff (P : Int → Prop) (kp : Int → Bool) (x : Int) : ∀ (e : Int) (es : List Int), Rise (e :: es) →
    (∀ p a b q, e :: es = p ++ a :: b :: q → a ≤ x → x < b → (P x ↔ kp a = true)) → (segMem kp x (e :: es) ↔ P x ∧ e ≤ x ∧ ∃ y ∈ e :: es, x < y)
  | e, [], _, _ => by
    constructor
    · intro h; exact h.elim
    · rintro ⟨_, h1, y, hy, h2⟩
      simp at hy
      omega
  | e, e' :: es, hr, h => by
    obtain ⟨r1, r2⟩ := List.pairwise_cons.1 hr
    have ih := seg_iff P kp x e' es r2 (fun p a b q he => h (e :: p) a b q (by rw [he]; rfl))
    have hee := r1 e' List.mem_cons_self
    have h0 := h [] e e' es rfl
    simp only [segMem]
    rw [ih]
    constructor
    · rintro (⟨h1, h2, h3⟩ | ⟨h1, h2, y, hy, h3⟩)
      · exact ⟨(h0 h2 h3).2 h1, h2, e', by simp, h3⟩
      · exact ⟨h1, by omega, y, List.mem_cons_of_mem _ hy, h3⟩
    · rintro ⟨h1, h2, y, hy, h3⟩
      by_cases hx : x < e'
      · exact .inl ⟨(h0 h2 hx).1 h1, h2, hx⟩
      · refine .inr ⟨h1, by omega, y, ?_, h3⟩
        rcases List.mem_cons.1 hy with rfl | hy
        · omega
        · exact hy
theorem build_loop (E : List Int) (ks : List Bool) (hb : E.length < 1000000000) (hks : ks.length = E.length) : ∀ (m k : Nat) (out : List S30) (i : Nat), i ≤ E.length → E.length - i = m → out.length ≤ i → m < k →
    lamellaref02_Build.l0 k E ks out (i : Int) = some (buildGo (E.drop i) (ks.drop i) out) := by
  intro m
  induction m with
  | zero =>
    intro k out i hi hm ho hk
    obtain ⟨k, rfl⟩ : ∃ q, k = q + 1 := ⟨k - 1, by omega⟩
    simp only [lamellaref02_Build.l0]
    rw [wrap_in ((i : Int) + 1) (by omega) (by omega), if_neg (by omega), List.drop_eq_nil_of_le (show E.length ≤ i by omega)]
    simp [buildGo]
  | succ m ih =>
    intro k out i hi hm ho hk
    obtain ⟨k, rfl⟩ : ∃ q, k = q + 1 := ⟨k - 1, by omega⟩
    have hlt : i < E.length := by omega
    simp only [lamellaref02_Build.l0]
    rw [wrap_in ((i : Int) + 1) (by omega) (by omega)]
    by_cases h1 : i + 1 < E.length
    · rw [if_pos (by omega), if_pos (by omega), if_pos (by omega)]
      have hk1 : rdOf false ks (i : Int) = ks[i] := by unfold rdOf; rw [Int.toNat_natCast, List.getD_eq_getElem?_getD, List.getElem?_eq_getElem (by omega)]; rfl
      rw [hk1, List.drop_eq_getElem_cons hlt, List.drop_eq_getElem_cons h1, List.drop_eq_getElem_cons (show i < ks.length by omega)]
      simp only [buildGo]
      have hI : ∀ o : List S30, o.length ≤ i + 1 → lamellaref02_Build.l0 k E ks o ((i : Int) + 1) = some (buildGo (E.drop (i + 1)) (ks.drop (i + 1)) o) := fun o h => ih k o (i + 1) (by omega) (by omega) h (by omega)
      rw [List.drop_eq_getElem_cons h1] at hI
      have e1 : rd E (i : Int) = E[i] := rdI_nat E i hlt
      have e2 : rd E ((i : Int) + 1) = E[i + 1] := rdI_nat E (i + 1) h1
      cases hkb : ks[i] with
      | false =>
        rw [if_neg (by decide), if_neg (show ¬ (false = true) by decide)]
        exact hI out (by omega)
      | true =>
        rw [if_pos rfl, if_pos rfl, wrap_in ((out.length : Int) - 1) (by omega) (by omega)]
        unfold bstep
        by_cases h0 : out.length = 0
        · rw [if_pos h0, if_neg (by omega), if_pos (by omega), if_pos (by omega), if_pos (by omega), e1, e2]
          exact hI _ (by simp; omega)
        · have hqi : ((out.length : Int) - 1) = ((out.length - 1 : Nat) : Int) := by omega
          rw [if_neg h0, if_pos (by omega), if_pos (by omega), if_pos (by omega), if_pos (by omega), hqi, rd_nat, Int.toNat_natCast, e1, e2]
          unfold lastS
          by_cases hj : (out.getD (out.length - 1) z30).f1 = E[i]
          · rw [if_pos hj, if_pos hj, if_pos (by omega)]
            exact hI _ (by rw [List.length_set]; omega)
          · rw [if_neg hj, if_neg hj, if_pos (by omega), if_pos (by omega)]
            exact hI _ (by simp; omega)
    · rw [if_neg (by omega)]
      rw [List.drop_eq_getElem_cons hlt, List.drop_eq_nil_of_le (show E.length ≤ i + 1 by omega)]
      simp [buildGo]
theorem build_spec (E : List Int) (ks : List Bool) (hb : E.length < 1000000000) (hks : ks.length = E.length) : ∀ k, E.length < k → lamellaref02_Build.f k E ks = some (buildGo E ks []) := fun k hk => build_loop E ks hb hks E.length k [] 0 (by omega) (by omega) (by simp) hk
def kindB (kind : Int) (p q : Bool) : Bool := (decide (kind = 0) && (p || q)) || (decide (kind = 1) && (p && q)) || (decide (kind = 2) && (p && !q))
def ofL (a b : List S30) (kind : Int) : List S30 := buildGo (endsL [a, b]) ((endsL [a, b]).map fun x => kindB kind (hasL a x) (hasL b x)) []
theorem of_loop (a b : List S30) (kind : Int) (E : List Int) (ha : a.length < 1000000) (hb' : b.length < 1000000) (hb : E.length < 100000000) : ∀ (m k : Nat) (ks : List Bool) (i : Nat), i ≤ E.length → E.length - i = m → ks.length = i → m + a.length + b.length + E.length + 3 < k →
    lamellaref02_Of.l0 k a b kind E ks E (E.length : Int) (i : Int) = some (buildGo E (ks ++ (E.drop i).map fun x => kindB kind (hasL a x) (hasL b x)) []) := by
  intro m
  induction m with
  | zero =>
    intro k ks i hi hm hl hk
    obtain ⟨k, rfl⟩ : ∃ q, k = q + 1 := ⟨k - 1, by omega⟩
    simp only [lamellaref02_Of.l0]
    rw [if_neg (by omega), build_spec E ks (by omega) (by omega) k (by omega), Option.bind_some, List.drop_eq_nil_of_le (by omega)]
    simp
  | succ m ih =>
    intro k ks i hi hm hl hk
    obtain ⟨k, rfl⟩ : ∃ q, k = q + 1 := ⟨k - 1, by omega⟩
    have hlt : i < E.length := by omega
    simp only [lamellaref02_Of.l0]
    rw [if_pos (by omega), if_pos (by omega), if_pos (by omega), rdI_nat E i hlt, has_spec a _ (by omega) k (by omega), Option.bind_some, has_spec b _ (by omega) k (by omega), Option.bind_some, wrap_in ((i : Int) + 1) (by omega) (by omega), List.drop_eq_getElem_cons hlt, List.map_cons]
    have hI : ∀ kb : Bool, lamellaref02_Of.l0 k a b kind E (ks ++ [kb]) E (E.length : Int) ((i : Int) + 1) = some (buildGo E (ks ++ kb :: (E.drop (i + 1)).map fun x => kindB kind (hasL a x) (hasL b x)) []) := fun kb => by
      have := ih k (ks ++ [kb]) (i + 1) (by omega) (by omega) (by simp; omega) (by omega)
      rw [List.append_assoc] at this
      exact this
    have hlim : ks.length < 140737488355328 := by omega
    unfold kindB at hI ⊢
    simp only [if_pos hlim, hI]
    generalize hasL a E[i] = p
    generalize hasL b E[i] = q
    by_cases k0 : kind = 0
    · subst k0
      cases p <;> cases q <;> simp
    · by_cases k1 : kind = 1
      · subst k1
        cases p <;> cases q <;> simp
      · by_cases k2 : kind = 2
        · subst k2
          cases p <;> cases q <;> simp
        · cases p <;> cases q <;> simp [k0, k1, k2]
theorem of_spec (a b : List S30) (kind : Int) (ha : a.length < 1000000) (hb : b.length < 1000000) : ∀ k, 7 * (a.length + b.length) + 30 < k → lamellaref02_Of.f k a b kind = some (ofL a b kind) := by
  intro k hk
  unfold lamellaref02_Of.f
  obtain ⟨_, _, e3⟩ := endsL_ok a b
  rw [ends_two a b ha hb k (by omega), Option.bind_some]
  exact of_loop a b kind _ ha hb (by omega) (endsL [a, b]).length k [] 0 (by omega) (by omega) rfl (by omega)
def kindP (kind : Int) (p q : Prop) : Prop := (kind = 0 ∧ (p ∨ q)) ∨ (kind = 1 ∧ p ∧ q) ∨ (kind = 2 ∧ p ∧ ¬ q)
theorem kindB_iff (kind : Int) (a b : List S30) (x : Int) : kindB kind (hasL a x) (hasL b x) = true ↔ kindP kind (memS x a) (memS x b) := by
  rw [← hasL_iff, ← hasL_iff]
  unfold kindB kindP
  cases hasL a x <;> cases hasL b x <;> simp [and_comm]
theorem ofL_plain (a b : List S30) (kind : Int) : PlainL (ofL a b kind) ∧ (∀ x, memS x (ofL a b kind) ↔ kindP kind (memS x a) (memS x b)) ∧ (ofL a b kind).length ≤ 2 * (a.length + b.length) := by
  obtain ⟨e1, e2, e3⟩ := endsL_ok a b
  obtain ⟨b1, b2⟩ := build_ok (fun x => kindB kind (hasL a x) (hasL b x)) (endsL [a, b]) [] e1 PlainL_nil (fun y _ t ht => by cases ht)
  refine ⟨b1, fun x => ?_, ?_⟩
  · show memS x (buildGo _ _ _) ↔ _
    rw [b2]
    have hend : ∀ l, (∀ s ∈ l, s ∈ a ++ b) → memS x l → ∃ s ∈ a ++ b, s.f0 < s.f1 ∧ s.f0 ≤ x ∧ x < s.f1 := by
      rintro l hl ⟨s, hs, h1, h2⟩
      exact ⟨s, hl s hs, by omega, h1, h2⟩
    have hany : kindP kind (memS x a) (memS x b) → ∃ s ∈ a ++ b, s.f0 < s.f1 ∧ s.f0 ≤ x ∧ x < s.f1 := by
      rintro (⟨_, h | h⟩ | ⟨_, h, _⟩ | ⟨_, h, _⟩)
      · exact hend a (fun s hs => List.mem_append_left _ hs) h
      · exact hend b (fun s hs => List.mem_append_right _ hs) h
      · exact hend a (fun s hs => List.mem_append_left _ hs) h
      · exact hend a (fun s hs => List.mem_append_left _ hs) h
    have hin : ∀ s ∈ a ++ b, s.f0 < s.f1 → s.f0 ∈ endsL [a, b] ∧ s.f1 ∈ endsL [a, b] := fun s hs hne => ⟨(e2 _).2 ⟨s, hs, hne, .inl rfl⟩, (e2 _).2 ⟨s, hs, hne, .inr rfl⟩⟩
    cases hE : endsL [a, b] with
    | nil =>
      constructor
      · rintro (h | h)
        · exact absurd h (memS_nil _)
        · exact h.elim
      · intro h
        obtain ⟨s, hs, h1, _⟩ := hany h
        have := (hin s hs h1).1
        rw [hE] at this
        cases this
    | cons e es =>
      have hseg := seg_iff (fun y => kindP kind (memS y a) (memS y b)) (fun y => kindB kind (hasL a y) (hasL b y)) x e es (hE ▸ e1) (fun p u v q he hu hv => ?_)
      · rw [hseg]
        constructor
        · rintro (h | h)
          · exact absurd h (memS_nil _)
          · exact h.1
        · intro h
          obtain ⟨s, hs, h1, h2, h3⟩ := hany h
          obtain ⟨g1, g2⟩ := hin s hs h1
          rw [hE] at g1 g2
          refine .inr ⟨h, ?_, s.f1, g2, h3⟩
          have hr := hE ▸ e1
          rcases List.mem_cons.1 g1 with g | g
          · omega
          · have := (List.pairwise_cons.1 hr).1 _ g; omega
      ·
        have hr : Rise (p ++ u :: v :: q) := by rw [← he, ← hE]; exact e1
        obtain ⟨_, r2, r3⟩ := List.pairwise_append.1 hr
        have hgap : ∀ y ∈ endsL [a, b], y ≤ u ∨ v ≤ y := by
          intro y hy
          rw [hE, he] at hy
          rcases List.mem_append.1 hy with hy | hy
          · have := r3 y hy u List.mem_cons_self; omega
          · rcases List.mem_cons.1 hy with rfl | hy
            · exact .inl (Int.le_refl _)
            · rcases List.mem_cons.1 hy with rfl | hy
              · exact .inr (Int.le_refl _)
              · have := (List.pairwise_cons.1 (List.pairwise_cons.1 r2).2).1 y hy; omega
        have hsame : ∀ l, (∀ s ∈ l, s ∈ a ++ b) → (memS x l ↔ memS u l) := by
          intro l hl
          constructor
          · rintro ⟨s, hs, h1, h2⟩
            obtain ⟨g1, g2⟩ := hin s (hl s hs) (by omega)
            have c1 := hgap _ g1
            have c2 := hgap _ g2
            exact ⟨s, hs, by omega, by omega⟩
          · rintro ⟨s, hs, h1, h2⟩
            obtain ⟨g1, g2⟩ := hin s (hl s hs) (by omega)
            have c1 := hgap _ g1
            have c2 := hgap _ g2
            exact ⟨s, hs, by omega, by omega⟩
        rw [kindB_iff]
        show kindP kind (memS x a) (memS x b) ↔ _
        rw [hsame a (fun s hs => List.mem_append_left _ hs), hsame b (fun s hs => List.mem_append_right _ hs)]
  · have := buildGo_length (endsL [a, b]) ((endsL [a, b]).map fun x => kindB kind (hasL a x) (hasL b x)) []
    simp only [List.length_nil] at this
    exact Nat.le_trans this (by omega)
theorem same_loop (l : List S30) (hb : l.length < 1000000000) : ∀ (m k : Nat) (i : Nat), i ≤ l.length → l.length - i = m → m < k → lamellaref02_Same.l0 k l l (l.length : Int) (i : Int) = some true := by
  intro m
  induction m with
  | zero =>
    intro k i hi hm hk
    obtain ⟨k, rfl⟩ : ∃ q, k = q + 1 := ⟨k - 1, by omega⟩
    simp only [lamellaref02_Same.l0]
    rw [if_neg (by omega)]
  | succ m ih =>
    intro k i hi hm hk
    obtain ⟨k, rfl⟩ : ∃ q, k = q + 1 := ⟨k - 1, by omega⟩
    simp only [lamellaref02_Same.l0]
    rw [if_pos (by omega), if_pos (by omega), if_pos (by omega), if_pos (by omega), if_neg (by simp), wrap_in ((i : Int) + 1) (by omega) (by omega)]
    exact ih k (i + 1) (by omega) (by omega) (by omega)
theorem same_spec (l : List S30) (hb : l.length < 1000000000) : ∀ k, l.length < k → lamellaref02_Same.f k l l = some true := by
  intro k hk
  unfold lamellaref02_Same.f
  rw [if_pos rfl]
  exact same_loop l hb l.length k 0 (by omega) (by omega) hk
end Go.Proofs.Ytgncbhpmnjfhhaa.S
end
section
namespace Go.Proofs.Ytgncbhpmnjfhhaa.S
open Go.RowKit Go.Proofs.YtgncbhpmnjfhhaaW.PrintWords
set_option linter.unusedVariables false
theorem cut60 (l : List S30) : lamellalaw02_cut.f l = some (l.take 60) := by
  unfold lamellalaw02_cut.f
  split
  · rw [if_pos (by omega)]
  · rw [List.take_of_length_le (by omega)]
theorem cut60_len (l : List S30) : (l.take 60).length ≤ 60 := by rw [List.length_take]; omega
theorem lives_f : lamellalaw02_lives.f = some true := rfl
theorem meet_of (a b : List S30) : meetL a b = ofL a b 1 :=
  plain_ext (meetL_plain a b).1 (ofL_plain a b 1).1 (fun x => by rw [(meetL_plain a b).2.1, (ofL_plain a b 1).2.1]; simp [kindP])
theorem pureMeets (l0 l1 : List S30) : lamellalaw02_SpanMeets.f 100000 l0 l1 = some true := by
  unfold lamellalaw02_SpanMeets.f
  rw [cut60, Option.bind_some, cut60, Option.bind_some]
  have h := cut60_len l0
  generalize l0.take 60 = a at h
  have h2 := cut60_len l1
  generalize l1.take 60 = b at h2
  obtain ⟨n1, n2, n3⟩ := meetL_plain a b
  rw [meet_spec a b (by omega) (by omega) _ (by omega), Option.bind_some, of_spec a b 1 (by omega) (by omega) _ (by omega), Option.bind_some, ← meet_of, same_spec _ (by omega) _ (by omega), Option.bind_some, if_pos rfl, lives_f, Option.bind_some]
end Go.Proofs.Ytgncbhpmnjfhhaa.S
end
section
namespace Go.Proofs.Ytgncbhpmnjfhhaa.spanMeets
open Go.ChangeShapes Go.WideShapes Go.ChangeAt Go.RowKit Go.Proofs.Ytgncbhpmnjfhhaa.S
set_option linter.unusedVariables false
theorem own : ownKnob Try.prog.godebug = none := by kernel_rfl
theorem laidOut : laidOutB Try.prog = true := by kernel_rfl
set_option maxRecDepth 100000 in
theorem lifted (os : Os) (started : os.Started) (H : Type) (enc : TypeId × Value → H) :
    ReturnsInHanded {} Try.checked os 11 .any (Rows.spanMeetsSpec.pre6 enc Try.prog Try.f11 Rows.spanMeetsRow.domain false) (Rows.spanMeetsSpec.post enc Try.prog Try.f11 false true false false) := by
  refine returnsInHanded_of_change_sized (C := Try.checked) own started (by kernel_rfl) Try.func11
    (ChangeSpec.witness6 (enc := enc) (C := Try.checked) false ⟨#[], #[.slice none 0 0, .slice none 0 0], []⟩ 8 (by kernel_rfl) (by kernel_rfl) (by kernel_rfl) (by kernel_rfl)) ?_
  intro W base args ds gs before hval0 hW hcnd hsz0 _
  have hval : ∀ (j : Nat) t v, Try.f11.params[j]? = some t → args[j]? = some v → Value.okWide Try.prog W .any base t v := hval0
  have hW' := hW
  obtain ⟨p, q, hA0, hV, rfl, hfz, hnd⟩ := hW
  have hA : DataW.TrodAll enc Try.prog W 0 (fun _ => true) true Try.f11.params.toList args.toList ds p := hA0
  rw [Try.params11] at hA hval
  obtain ⟨v0, vs0, d0, ds0, p0, q0, hargs, rfl, rfl, h0, r0⟩ := trodAll_cons hA
  obtain ⟨v1, vs1, d1, ds1, p1, q1, rfl, rfl, rfl, h1, r1⟩ := trodAll_cons r0
  obtain ⟨rfl, rfl, rfl⟩ := trodAll_nil r1
  obtain rfl : args = #[v0, v1] := by cases args; simp_all
  obtain ⟨rfl, rfl⟩ := trodVars_none hV
  obtain ⟨a0, len0, cap0, rfl⟩ := okWide_slice Try.underlying22 (hval 0 22 v0 rfl rfl)
  have k0 := h0
  have lt0 : ∀ x ∈ p0, x.block < W.heap.size := by obtain ⟨m, hm⟩ := k0; exact DataW.trod_lt m _ _ _ hm
  obtain ⟨z0, e0, c0, l0, o0⟩ := open_spans h0
  subst e0
  obtain ⟨a1, len1, cap1, rfl⟩ := okWide_slice Try.underlying22 (hval 1 22 v1 rfl rfl)
  have k1 := h1
  have lt1 : ∀ x ∈ p1, x.block < W.heap.size := by obtain ⟨m, hm⟩ := k1; exact DataW.trod_lt m _ _ _ hm
  obtain ⟨z1, e1, c1, l1, o1⟩ := open_spans h1
  subst e1
  refine (lamellalaw02_SpanMeets.calls 100000 a0 cap0 z0 a1 cap1 z1 true W c0 l0 c1 l1 (pureMeets z0 z1 )).mono fun e W' ⟨he, bel⟩ => ?_
  subst he
  exact ⟨_, rfl, _, _, _, [], _, [], hW', trodAll_mk1 (shut_bool Try.underlying4 _), (trodAll_cons_mk (Below.trod laidOut (by kernel_rfl) (of_decide_eq_true (by kernel_rfl)) k0 bel lt0) (trodAll_cons_mk (Below.trod laidOut (by kernel_rfl) (of_decide_eq_true (by kernel_rfl)) k1 bel lt1) trodAll_mk0)), rfl, bel.frame _, fun h => by cases h⟩
theorem over : Rows.spanMeetsRow.holds Try.pinned (OpenSpec.ofChange Rows.spanMeetsSpec) :=
  OpenClaim.holds_of_wide 11 Try.f11 rfl rfl rfl rfl rfl rfl rfl ⟨rfl, rfl, rfl, rfl, rfl⟩ rfl rfl rfl rfl rfl (by kernel_rfl) Try.func11 (by kernel_rfl)
    (of_decide_eq_true (by kernel_rfl)) (by unfold Func.isWrapper; first | (rw [if_pos (by decide +kernel)]; kernel_rfl) | (rw [if_neg (by decide +kernel)]; exact ⟨rfl, rfl⟩))
    (fun os started H enc _ => lifted os started H enc)
theorem proved : Rows.SpanMeetsSaid := over
end Go.Proofs.Ytgncbhpmnjfhhaa.spanMeets
namespace Go.Proofs.Ytgncbhpmnjfhhaa
theorem spanMeets_holds : Rows.SpanMeetsSaid := spanMeets.proved
#print axioms spanMeets_holds
end Go.Proofs.Ytgncbhpmnjfhhaa
end
