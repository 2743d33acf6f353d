/- SpanTexts: whatever the input, the law returns true, and each argument reads behind the call as it did. No condition. -/
import Derived.Test.YtgncbhpmnjfhhaaTexts2
import Derived.Laws.IdiomStrings
import Derived.Deep.Slices
import Derived.Lib.SmallJoins
import Derived.ChangeSame
import Derived.KernelRfl
import Derived.Test.YtgncbhpmnjfhhaaRows
import Derived.WalkKit
import Derived.ProofKit
import Derived.OpenShut
import Derived.ShutString
import Derived.ChangeOld
import Derived.Below
import Derived.SizedLaws
section
namespace Go.Proofs.Ytgncbhpmnjfhhaa.S
open Go.RowKit Go.Shelf Go.Proofs.YtgncbhpmnjfhhaaW.PrintWords Go.Proofs.YtgncbhpmnjfhhaaW.PrintLast Go.Proofs.YtgncbhpmnjfhhaaW.PrintMore
set_option linter.unusedVariables false
set_option linter.unusedSimpArgs false
attribute [local go_sem] Oper.semAt_some
structure TS (w : World) (l : List Op47) (k : Nat) (W : World) : Prop where
  m : MapAt (Av2 (w.heap.size + 1) (w.heap.size + 1 + 1)) (w.heap.size + 1) (w.alloc (.cells #[.bool false] 4)).heap.size W (texZ (l.take k))
  s : SapAt (Av2 (w.heap.size + 1) (w.heap.size + 1 + 1)) (w.heap.size + 1 + 1) (w.alloc (.cells #[.bool false] 4)).heap.size W (mapZ txt (texZ (l.take k)))
  b : Below (w.alloc (.cells #[.bool false] 4)).heap.size (w.alloc (.cells #[.bool false] 4)) W
  k : k ≤ 60
  lt : w.heap.size + 1 + 1 < W.heap.size
theorem TS.below {w W W' : World} {l : List Op47} {k : Nat} (h : TS w l k W) (hb : Below W.heap.size W W') : TS w l k W' := ⟨h.m.below hb, h.s.below hb, below_step h.b hb, h.k, Nat.lt_of_lt_of_le h.lt hb.size⟩
theorem TS.below0 {w W : World} {l : List Op47} {k : Nat} (h : TS w l k W) : Below w.heap.size w W := below_step (below_alloc (Below.refl _ _) _) h.b
theorem TS.start (w : World) (l : List Op47) : TS w l 0 (((w.alloc (.cells #[.bool false] 4)).alloc (.cells #[.slice none 0 0, .slice none 0 0] 41)).alloc (.cells #[.slice none 0 0, .slice none 0 0] 66)) := by
  have h1 : ∀ base, base ≤ (w.alloc (.cells #[.bool false] 4)).heap.size → MapI (w.heap.size + 1) base (fun _ => False) ((w.alloc (.cells #[.bool false] 4)).alloc (.cells #[.slice none 0 0, .slice none 0 0] 41)) [] := fun base hb => by
    have := MapI.new (w.alloc (.cells #[.bool false] 4)) base hb (fun _ => False)
    rwa [World.size_alloc] at this
  have h2 : ∀ base, base ≤ (w.alloc (.cells #[.bool false] 4)).heap.size → MapS (w.heap.size + 1 + 1) base (fun _ => False) (((w.alloc (.cells #[.bool false] 4)).alloc (.cells #[.slice none 0 0, .slice none 0 0] 41)).alloc (.cells #[.slice none 0 0, .slice none 0 0] 66)) [] := fun base hb => by
    have := MapS.new ((w.alloc (.cells #[.bool false] 4)).alloc (.cells #[.slice none 0 0, .slice none 0 0] 41)) base (by rw [World.size_alloc]; omega) (fun _ => False)
    rwa [World.size_alloc, World.size_alloc] at this
  refine ⟨⟨_, fun _ h => h.elim, (h1 _ (Nat.le_refl _)).below (below_alloc (Below.refl _ _) _)⟩, ⟨_, fun _ h => h.elim, h2 _ (Nat.le_refl _)⟩, below_alloc (below_alloc (Below.refl _ _) _) _, by omega, by simp⟩
theorem TS.own {w W W' : World} {l : List Op47} {k : Nat} {row : Option Nat} {B : Nat} (hB : (w.alloc (.cells #[.bool false] 4)).heap.size ≤ B) (h : TS w l k W) (hg : W.grownBy W' row) (hr : ∀ r, row = some r → B ≤ r ∧ ∃ o : Obj, W.heap[r]? = some o ∧ o.isCells = false) : TS w l k W' := by
  have hr' := fun r e => (hr r e).2
  exact ⟨h.m.own hg hr', h.s.own hg hr', ownFrom_below (β := Unit) (Nat.le_refl _) hB () W W' row h.b hg hr, h.k, Nat.lt_of_lt_of_le h.lt hg.size⟩
theorem TS.res {w W : World} {l : List Op47} {k : Nat} (h : TS w l k W) : Boxed W w.heap.size 4 (.bool false) := blk_below (blk_new w _) h.b
theorem get_tex (l : List Op47) (p : S30 × Int) (h : p ∈ texZ l) : getZS (mapZ txt (texZ l)) p.1.f0 = (txt p.2, true) :=
  ((getZ_iffS (mapZ_plain txt_inj (texZ_ok l).1 (texZ_vals l)) p.1.f0).1 (txt p.2)).2 ((mapZ_has txt _ _ _).2 ⟨p.2, ⟨p, h, ⟨Int.le_refl _, (texZ_ok l).1.1 p h⟩, rfl⟩, rfl⟩)
theorem tex_small (l : List Op47) (k : Nat) (h : k ≤ 60) : (texZ (l.take k)).length < 1000000 ∧ (mapZ txt (texZ (l.take k))).length < 1000000 := by
  have := (texZ_ok (l.take k)).2
  rw [mapZ_len]
  rw [List.length_take] at *
  omega
theorem results_box10 {W : World} {g : Nat} {tmps : Array Value} (ht : tmps.getD 2 undef = .pointer (some ⟨g, 0, none⟩)) (hc : Boxed W g 4 (.bool true)) : (results Try.f10 tmps).run Try.prog W = .ok (.bool true) W := by
  have hp' : tmps[2]?.getD undef = .pointer (some ⟨g, 0, none⟩) := by simpa using ht
  have hres : Try.f10.results = #[.cell 2 4] := by kernel_rfl
  have hc0 := hc.cell
  have hu4 := Try.underlying4
  simp only [results, hres]
  simp [hp', asAddr]
  go_simp
theorem txtConv {W : World} {B : Nat} {v : Int} (h : W.heap[B]? = some (.cells #[.int .u8 (v % 256), .int .u8 (v / 256 % 256)] 5 (0, 0))) : (convert 67 9 (.slice (some ⟨B, 0, none⟩) 2 2)).run Try.prog W = .ok (.string (txt v)) W := by
  refine run_convert_bytes_back (P := Try.prog) W 67 9 5 ⟨B, 0, none⟩ 2 (txtL v) Try.underlying67 Try.underlying5 Try.underlying9 (fun j hj => ?_)
  match j, hj with
  | 0, _ =>
    have := (blk_cell h 0).trans rfl
    rw [Addr.add_lit]
    refine this.trans ?_
    show some (Value.int .u8 (v % 256)) = some (Value.int .u8 ((UInt8.ofNat (v % 256).toNat).toNat : Int))
    rw [txtL_byte]
  | 1, _ =>
    have := (blk_cell h 1).trans rfl
    rw [Addr.add_lit]
    refine this.trans ?_
    show some (Value.int .u8 (v / 256 % 256)) = some (Value.int .u8 ((UInt8.ofNat (v / 256 % 256).toNat).toNat : Int))
    rw [txtL_byte]
  | j + 2, hj =>
    have : j + 2 < 2 := hj
    omega
set_option maxHeartbeats 16000000 in
set_option maxRecDepth 100000 in
theorem textsLaw (A : Option Addr) (c : Nat) (l : List Op47) (w : World) (h : OpsAt w A c l) :
    Calls Try.prog 10 #[.slice A l.length c] w (GivesBool w true) := by
  have hu47 := Try.underlying47
  have hu46 := Try.underlying46
  have hu66 := Try.underlying66
  have hu41 := Try.underlying41
  have hu30 := Try.underlying30
  have HO := Aside0.mk h
  have hfn : ∀ (w : World) (b : Value), (binOp .eql 56 (.func (.func 60) #[] #[b]) .nilFunc).run Try.prog w = .ok (.bool false) w := fun w b => by kernel_rfl
  clear h
  refine (callsIn_wide (n := 3)).1 ?_
  refine callsIn_of_wp_marks Try.func10 rfl trivial ?_ rfl
  simp only [Try.ntmps10, List.size_toArray, List.length_cons, List.length_nil, Nat.reduceAdd, Nat.reduceSub, Array.replicate_succ, Array.replicate_zero, List.push_toArray, List.append_toArray, List.nil_append, List.cons_append]
  gi_wp2
  have HM0 := Aside0.mk (TS.start w l)
  obtain ⟨W3, hW3⟩ : ∃ W3, (((w.alloc (.cells #[.bool false] 4)).alloc (.cells #[.slice none 0 0, .slice none 0 0] 41)).alloc (.cells #[.slice none 0 0, .slice none 0 0] 66)) = W3 := ⟨_, rfl⟩
  rw [hW3] at HM0 ⊢
  clear hW3
  gi_loopw [15] (fun i wr => ∃ k : Nat, i = .int .i64 (k : Int) ∧ Aside0 (k ≤ l.length) ∧ Aside0 (TS w l k wr)) (fun i _ => l.length - (intOf i).toNat)
  case atStart => exact ⟨0, rfl, ⟨Nat.zero_le _⟩, HM0⟩
  case round =>
    clear HM0
    rename_i K aK
    have rest : ∀ (v5 v6 v7 v15 v16 v17 v18 v19 v20 v21 v22 v23 v24 v25 v26 v27 v28 v29 v30 v31 v32 v33 v34 v35 v36 v37 v38 v39 v40 v41 v42 v43 v44 v45 v46 v47 v48 v49 : Value) (W : World) (k : Nat), TS w l k W → K { tmps := List.toArray ((.slice A l.length c : Value) :: undef :: (.pointer (some ⟨w.heap.size, 0, none⟩) : Value) :: (.pointer (some ⟨w.heap.size + 1, 0, none⟩) : Value) :: (.pointer (some ⟨w.heap.size + 1 + 1, 0, none⟩) : Value) :: v5 :: v6 :: v7 :: undef :: undef :: undef :: undef :: undef :: (.slice A l.length c : Value) :: (.int .i64 (l.length : Int) : Value) :: v15 :: v16 :: v17 :: v18 :: v19 :: v20 :: v21 :: v22 :: v23 :: v24 :: v25 :: v26 :: v27 :: v28 :: v29 :: v30 :: v31 :: v32 :: v33 :: v34 :: v35 :: v36 :: v37 :: v38 :: v39 :: v40 :: v41 :: v42 :: v43 :: v44 :: v45 :: v46 :: v47 :: v48 :: v49 :: undef :: undef :: undef :: undef :: undef :: undef :: undef :: undef :: undef :: undef :: undef :: undef :: undef :: undef :: undef :: undef :: undef :: undef :: undef :: undef :: undef :: undef :: undef :: undef :: undef :: undef :: undef :: undef :: undef :: []), defers := [] } W := by
      clear hrel HO
      intro v5 v6 v7 v15 v16 v17 v18 v19 v20 v21 v22 v23 v24 v25 v26 v27 v28 v29 v30 v31 v32 v33 v34 v35 v36 v37 v38 v39 v40 v41 v42 v43 v44 v45 v46 v47 v48 v49 W k hM
      apply aK
      clear aK
      have HM := Aside0.mk hM
      have HSM := Aside0.mk (tex_small l k hM.k)
      clear hM
      have tok0 : True := trivial
      gi_wp2_with (first
        | (have _t := tok0; refine ⟨trivial, ?_⟩; gi_at_call 36; refine (callsIn_wide.2 (lenA _ _ _ _ HM.out.m HSM.out.1)).mono ?_; rintro e w1 ⟨rfl, hb⟩; have n_ := Aside0.mk (HM.out.below hb); clear HM hb; have HM := n_; clear n_ tok0 _t; have tok1 : True := trivial)
        | (have _t := tok1; refine ⟨trivial, ?_⟩; gi_at_call 40; refine (callsIn_wide.2 (lenAS _ _ _ _ HM.out.s HSM.out.2)).mono ?_; rw [mapZ_len]; rintro e w2 ⟨rfl, hb⟩; have n_ := Aside0.mk (HM.out.below hb); clear HM hb; have HM := n_; clear n_ tok1 _t; have tok2 : True := trivial)
        | (have _t := tok2; refine ⟨trivial, ?_⟩; gi_at_call 35; refine (callsIn_wide.2 (eachI.calls (some ⟨w.heap.size + 1, 0, none⟩) _)).mono ?_; rintro e w3 ⟨rfl, rfl⟩; clear tok2 _t; have tok3 : True := trivial))
      clear tok3
      have hci := (HM.out).below (below_alloc (Below.refl _ _) (.cells #[.pointer (some ⟨w.heap.size + 1, 0, none⟩)] 61))
      have hBs := (newCell w2 (.pointer (some ⟨w.heap.size + 1, 0, none⟩)) 61).1
      obtain ⟨gB, hgB⟩ : ∃ gB, w2.heap.size = gB := ⟨_, rfl⟩
      obtain ⟨W4, hW4⟩ : ∃ W4, w2.alloc (.cells #[.pointer (some ⟨w.heap.size + 1, 0, none⟩)] 61) = W4 := ⟨_, rfl⟩
      have HZ4 := Aside0.mk (show W4.heap.size = gB + 1 by rw [← hW4]; simp [hgB])
      rw [hW4] at hci hBs ⊢
      rw [hgB] at hBs ⊢
      clear hW4
      have HLO := Aside0.mk (show w.heap.size + 1 + 1 < gB by rw [← hgB]; exact HM.out.lt)
      clear hgB
      obtain ⟨z, hz⟩ : ∃ z, texZ (l.take k) = z := ⟨_, rfl⟩
      have HZ := Aside0.mk hz
      have HZ1 := Aside0.mk (show z.length < 1000000 by rw [← hz]; exact HSM.out.1)
      have hsz4 : W4.heap.size = gB + 1 := HZ4.out
      have hgm := hci.m
      rw [hz] at hgm
      clear hz
      refine name_act (P := fun a => Code.wpIn Fence.wide 3 Try.prog _ _ a _) _ ?_
      intro a ha
      refine wpIn_rangeFunc_ownH rfl (by omega) (gf := 60) (lb := #[.pointer (some ⟨gB, 0, none⟩)]) (by rw [ha]; rfl) trivial (enters_of Try.func60 (by kernel_rfl) rfl)
        (eachI.stops 2 (by omega) gB (some ⟨w.heap.size + 1, 0, none⟩) (ls z) (vs z) (fun _ k => False) W4 hBs (by
          obtain ⟨ok, _, hm⟩ := hgm
          exact .inr ⟨_, _, ok, rfl, hm⟩) (fun W2 hb k hk => hk.elim) (fun _ _ _ _ _ _ h => h) (by rw [ls_len, vs_len]) (by have := HZ1.out; rw [ls_len]; omega)) KpO.trans (fun W y o o' _ h hc _ => KpO.putObj (fun _ _ _ _ h => h) W y o o' h hc) (Below.refl _ _) (fun _ => rfl)
        (fun pre W => TS w l k W) (fun _ pre _ => ¬ pre <+: (ls z).zip (vs z))
        (fun s W W' row h hg hr => TS.own (by rw [World.size_alloc]; have := HLO.out; omega) h hg hr) (fun _ _ _ _ _ hs _ _ => hs) hci
        (fun x a' W => ∃ Bx, W.heap[Bx]? = some (Obj.cells #[.int .i64 x.1.f0, .int .i64 x.1.f1] 30 (0, 0)) ∧ a' = { tmps := (((a.tmps.setIfInBounds 57 (.agg #[.int .i64 x.1.f0, .int .i64 x.1.f1])).setIfInBounds 58 (.int .i64 x.2)).setIfInBounds 9 (.pointer (some ⟨Bx, 0, none⟩))).setIfInBounds 10 (.int .i64 x.2), defers := [] })
        (fun x a' s W W' row h hg hr => by
          obtain ⟨Bx, h1, h2⟩ := h
          exact ⟨Bx, blk_own h1 hg (fun r e => (hr r e).2), h2⟩) ?assign ?body ?done ?stop
      case assign =>
        intro y pre x W K hI hK
        subst ha
        unfold encE
        gi_wp2
        refine hK _ _ ((KeepsOthers.alloc _ _).from _) (KpO.of_below (below_alloc (Below.refl _ _) _) (fun _ _ h => h)) (TS.below hI (below_alloc (Below.refl _ _) _)) ⟨W.heap.size, blk_new _ _, ?_⟩
        rfl
      case stop =>
        rintro D c pre W _ h1 h2 _
        exact absurd h1 h2
      case body =>
        rintro y pre x a' W hy ⟨r_, hr_⟩ hI ⟨Bx, hBx, rfl⟩ hlt
        subst ha
        have hb0 : W.cell? ⟨Bx, 0, none⟩ = some (.int .i64 x.1.f0) := (blk_cell hBx 0).trans rfl
        obtain ⟨r, is, hr⟩ : ∃ r is, getZS (mapZ txt (texZ (l.take k))) x.1.f0 = (r, is) := ⟨_, _, rfl⟩
        have HNP := Aside0.mk (show (r, is) ≠ (txt x.2, true) → ¬ pre ++ [x] <+: (ls z).zip (vs z) from fun hx h => by
          rw [zip_ls_vs] at h
          obtain ⟨s, hs⟩ := h
          have hm : x ∈ texZ (l.take k) := by rw [HZ.out, ← hs]; simp
          exact hx (by rw [← hr]; exact get_tex _ _ hm))
        have HR := Aside0.mk hr
        have HI := Aside0.mk hI
        have HLW := Aside0.mk (show w.heap.size < W4.heap.size by have := HZ4.out; have := HLO.out; omega)
        clear hI hlt hBx hr hr_ hci hBs hsz4 hgm
        simp only [List.setIfInBounds_toArray, List.set_cons_zero, List.set_cons_succ]
        have tok0 : True := trivial
        cases is with
        | false =>
          have hnp := Aside0.mk (HNP.out (fun e => by cases (Prod.mk.inj e).2))
          gi_wp2_with (have _t := tok0; refine ⟨trivial, ?_⟩; gi_at_call 41; refine (CallsIn.inRound y (callsIn_wide.2 (getAS _ _ _ x.1.f0 W HI.out.s HSM.out.2 HR.out))).mono ?_; rintro e w5 ⟨rfl, hb⟩; have HB5 := Aside0.mk hb; have HI5 := Aside0.mk (HI.out.below hb); have hr0 := HI5.out.res.cell; have hr1 := HI5.out.res.frozen; clear hb _t tok0; have tok1 : True := trivial)
          have hkp := (Kept.of_below HB5.out (fun k => k = w.heap.size)).setCell (p := ⟨w.heap.size, 0, none⟩) (.inl rfl) (.bool false)
          exact ⟨KeepsFrom.of_kept (S := fun k => k = w.heap.size) hkp (fun k h => by have := HLW.out; omega), hnp.out⟩
        | true =>
          by_cases hrx : r = txt x.2
          · have ce : (r.toList == (txt x.2).toList) = true := by rw [hrx]; simp
            have cn : (r.toList != (txt x.2).toList) = false := by simp only [bne, ce]; rfl
            clear hrx
            gi_wp2_with (have _t := tok0; refine ⟨trivial, ?_⟩; gi_at_call 41; refine (CallsIn.inRound y (callsIn_wide.2 (getAS _ _ _ x.1.f0 W HI.out.s HSM.out.2 HR.out))).mono ?_; rintro e w5 ⟨rfl, hb⟩; have HB5 := Aside0.mk hb; have HI5 := Aside0.mk (HI.out.below hb); have hcv : (convert 67 9 (.slice (some ⟨w5.heap.size, 0, none⟩) 2 2)).run Try.prog (w5.alloc (.cells #[.int .u8 (x.2 % 256), .int .u8 (x.2 / 256 % 256)] 5)) = .ok (.string (txt x.2)) (w5.alloc (.cells #[.int .u8 (x.2 % 256), .int .u8 (x.2 / 256 % 256)] 5)) := txtConv (blk_new w5 _); have hr0 := (HI5.out.below (below_alloc (Below.refl _ _) (.cells #[.int .u8 (x.2 % 256), .int .u8 (x.2 / 256 % 256)] 5))).res.cell; have hr1 := (HI5.out.below (below_alloc (Below.refl _ _) (.cells #[.int .u8 (x.2 % 256), .int .u8 (x.2 / 256 % 256)] 5))).res.frozen; clear hb _t tok0; have tok1 : True := trivial)
            have hbb := below_step HB5.out (below_alloc (Below.refl _ _) (.cells #[.int .u8 (x.2 % 256), .int .u8 (x.2 / 256 % 256)] 5))
            exact ⟨KeepsFrom.of_kept (S := fun _ => False) (Kept.of_below hbb _) (fun k h => h.elim), KpO.of_below hbb (fun _ _ h => h), HI.out.below hbb⟩
          · have ce : (r.toList == (txt x.2).toList) = false := by
              simp only [beq_eq_false_iff_ne]
              exact fun e => hrx (toListB e)
            have cn : (r.toList != (txt x.2).toList) = true := by simp only [bne, ce]; rfl
            have hnp := Aside0.mk (HNP.out (fun e => hrx (Prod.mk.inj e).1))
            clear hrx
            gi_wp2_with (have _t := tok0; refine ⟨trivial, ?_⟩; gi_at_call 41; refine (CallsIn.inRound y (callsIn_wide.2 (getAS _ _ _ x.1.f0 W HI.out.s HSM.out.2 HR.out))).mono ?_; rintro e w5 ⟨rfl, hb⟩; have HB5 := Aside0.mk hb; have HI5 := Aside0.mk (HI.out.below hb); have hcv : (convert 67 9 (.slice (some ⟨w5.heap.size, 0, none⟩) 2 2)).run Try.prog (w5.alloc (.cells #[.int .u8 (x.2 % 256), .int .u8 (x.2 / 256 % 256)] 5)) = .ok (.string (txt x.2)) (w5.alloc (.cells #[.int .u8 (x.2 % 256), .int .u8 (x.2 / 256 % 256)] 5)) := txtConv (blk_new w5 _); have hr0 := (HI5.out.below (below_alloc (Below.refl _ _) (.cells #[.int .u8 (x.2 % 256), .int .u8 (x.2 / 256 % 256)] 5))).res.cell; have hr1 := (HI5.out.below (below_alloc (Below.refl _ _) (.cells #[.int .u8 (x.2 % 256), .int .u8 (x.2 / 256 % 256)] 5))).res.frozen; clear hb _t tok0; have tok1 : True := trivial)
            have hbb := below_step HB5.out (below_alloc (Below.refl _ _) (.cells #[.int .u8 (x.2 % 256), .int .u8 (x.2 / 256 % 256)] 5))
            have hkp := (Kept.of_below hbb (fun k => k = w.heap.size)).setCell (p := ⟨w.heap.size, 0, none⟩) (.inl rfl) (.bool false)
            exact ⟨KeepsFrom.of_kept (S := fun k => k = w.heap.size) hkp (fun k h => by have := HLW.out; omega), hnp.out⟩
      case done =>
        rintro D xs W hD rfl hI hK
        subst ha
        have HD := Aside0.mk (show W4.heap.size ≤ D from hD)
        have HI := Aside0.mk hI
        have HK := Aside0.mk hK
        have hr0 := HI.out.res.cell
        have hr1 := HI.out.res.frozen
        clear hI hK hci hBs hsz4 hgm hD
        have tok0 : True := trivial
        gi_wp2_with (have _t := tok0; refine ⟨trivial, ?_⟩; gi_at_call 22; refine (callsIn_wide.2 (livesC _)).mono ?_; rintro e u6 ⟨rfl, hb⟩; have n_ := Aside0.mk (HI.out.below hb); have m_ := Aside0.mk (blk_below HK.out hb); clear hb HI HK; have HI := n_; have HK := m_; clear n_ m_ hr0 hr1; have hr0 := HI.out.res.cell; have hr1 := HI.out.res.frozen; clear _t tok0; have tok1 : True := trivial)
        have hDn : D ≠ w.heap.size := by have := HD.out; have := HLO.out; have := HZ4.out; omega
        have hk1 : Kept u6 (u6.setCell ⟨w.heap.size, 0, none⟩ (.bool true)) (fun k => k = w.heap.size) := (Kept.refl u6 (fun k => k = w.heap.size)).setCell (p := ⟨w.heap.size, 0, none⟩) (.inl rfl) _
        have hD1 := blk_kept HK.out hk1 hDn
        refine ⟨by simp, .inl ⟨_, _, rfl, run_takeDeferred hD1, ?_⟩⟩
        refine ⟨.bool true, results_box10 rfl ((World.putObj_heap_other hDn.symm).trans (HI.out.res.set (.bool true))), rfl, ?_⟩
        exact (below_set (below_step (below_alloc (Below.refl _ _) _) HI.out.b) (Nat.le_refl _)).trans (belowK_b (w := w) (Nat.le_refl _) _ D _ (.deferred none) (by have := HD.out; have := HLO.out; have := HZ4.out; omega) hD1 rfl rfl)
    clear aK
    have REST := Aside0.mk rest
    clear rest
    obtain ⟨k, rfl, HK, HM⟩ := hrel
    obtain ⟨x, hx⟩ : ∃ x : Int, x = (k : Int) := ⟨_, rfl⟩
    rw [← hx]
    have HX := Aside0.mk hx
    have HLEN := Aside0.mk HO.out.len
    by_cases hlt : k < l.length
    · have p0 : 0 ≤ x := by omega
      have q0 : x < (l.length : Int) := by omega
      obtain ⟨ad, e4, hx0, hx1, hx2, hx3⟩ := (HO.out.below HM.out.below0).at k hlt x hx
      have c1 : decide (x < (l.length : Int)) = true := decide_eq_true q0
      have hw : IntKind.i64.wrap (x + 1) = x + 1 := by have := HLEN.out; rw [IntKind.wrap_i64]; omega
      have HE := Aside0.mk e4
      obtain ⟨q, hq⟩ : ∃ q, q = l[k] := ⟨_, rfl⟩
      rw [← hq] at hx0 hx1 hx2 hx3
      have HQ := Aside0.mk (take_snoc l k q (by rw [hq]; exact List.getElem?_eq_getElem hlt))
      subst e4
      clear hq hx
      by_cases h60 : k < 60
      · have c2 : decide (x ≥ 60) = false := decide_eq_false (by have := HX.out; omega)
        have H60 := Aside0.mk h60
        clear hlt h60 REST
        have HSM := Aside0.mk (tex_small l k HM.out.k)
        have hcv : ∀ o : Obj, (convert 67 9 (.slice (some ⟨wr.heap.size + 1, 0, none⟩) 2 2)).run Try.prog ((wr.alloc o).alloc (.cells #[.int .u8 (q.v % 256), .int .u8 (q.v / 256 % 256)] 5)) = .ok (.string (txt q.v)) ((wr.alloc o).alloc (.cells #[.int .u8 (q.v % 256), .int .u8 (q.v / 256 % 256)] 5)) := fun o => by
          have := blk_new (wr.alloc o) (.cells #[.int .u8 (q.v % 256), .int .u8 (q.v / 256 % 256)] 5)
          rw [World.size_alloc] at this
          exact txtConv this
        have ha16 := i64_and65535 q.v
        have HMa := Aside0.mk (fun o o2 => (HM.out.below (below_alloc (Below.refl _ _) o)).below (below_alloc (Below.refl _ _) o2))
        have HBX := Aside0.mk (fun o2 => blk_below (blk_new wr (.cells #[.int .i64 q.s.f0, .int .i64 q.s.f1, .int .i64 q.v, .bool q.d] 47)) (below_alloc (Below.refl _ _) o2))
        have HGL := Aside0.mk HM.out.lt
        obtain ⟨d, hd⟩ : ∃ d, q.d = d := ⟨_, rfl⟩
        have HOP := Aside0.mk (show op16 q = if d then none else some (q.v % 65536) by rw [← hd]; rfl)
        have HST := Aside0.mk (show stepZ (mapZ txt (texZ (l.take k))) q.s (if d then none else some (txt q.v)) = mapZ txt (texZ (l.take k ++ [q])) by rw [← hd]; exact texZ_step (l.take k) q)
        rw [hd] at hx3 HBX
        clear hd
        have tok0 : True := trivial
        cases d
        all_goals
          gi_wp2_with (first
            | (have _t := tok0; refine ⟨trivial, ?_⟩; gi_at_call 30; refine (callsIn_wide.2 (putA (w.heap.size + 1) _ q.s (q.v % 65536) _ _ (HMa.out _ _).b (by simp) (HMa.out _ _).m (fun k hk => by have := (HMa.out (.cells #[.int .i64 q.s.f0, .int .i64 q.s.f1, .int .i64 q.v, .bool false] 47) (.cells #[.int .u8 (q.v % 256), .int .u8 (q.v / 256 % 256)] 5)).lt; rcases hk with rfl | rfl <;> omega) HSM.out.1)).mono ?_; rintro e w2 ⟨rfl, hb, hm, hk⟩; have HB2 := Aside0.mk hb; have HM2 := Aside0.mk hm; have HS2 := Aside0.mk ((HMa.out _ _).s.kept hk (fun k h => .inl h) (by omega)); have HSZ := Aside0.mk (Nat.lt_of_lt_of_le (HMa.out _ _).lt hk.1); have hb2 := blk_kept (HBX.out _) hk (by have := HGL.out; omega); have hc20 := (blk_cell hb2 0).trans rfl; have hc21 := (blk_cell hb2 1).trans rfl; have hc22 := (blk_cell hb2 2).trans rfl; have hc23 := (blk_cell hb2 3).trans rfl; clear hb hm hk hb2 tok0 _t hx0 hx1 hx2 hx3; have tok1 : True := trivial)
            | (have _t := tok0; refine ⟨trivial, ?_⟩; gi_at_call 29; refine (callsIn_wide.2 (dropA (w.heap.size + 1) _ q.s _ _ (HMa.out _ _).b (by simp) (HMa.out _ _).m (fun k hk => by have := (HMa.out (.cells #[.int .i64 q.s.f0, .int .i64 q.s.f1, .int .i64 q.v, .bool true] 47) (.cells #[.int .u8 (q.v % 256), .int .u8 (q.v / 256 % 256)] 5)).lt; rcases hk with rfl | rfl <;> omega) HSM.out.1)).mono ?_; rintro e w2 ⟨rfl, hb, hm, hk⟩; have HB2 := Aside0.mk hb; have HM2 := Aside0.mk hm; have HS2 := Aside0.mk ((HMa.out _ _).s.kept hk (fun k h => .inl h) (by omega)); have HSZ := Aside0.mk (Nat.lt_of_lt_of_le (HMa.out _ _).lt hk.1); have hb2 := blk_kept (HBX.out _) hk (by have := HGL.out; omega); have hc20 := (blk_cell hb2 0).trans rfl; have hc21 := (blk_cell hb2 1).trans rfl; have hc22 := (blk_cell hb2 2).trans rfl; have hc23 := (blk_cell hb2 3).trans rfl; clear hb hm hk hb2 tok0 _t hx0 hx1 hx2 hx3; have tok1 : True := trivial)
            | (have _t := tok1; refine ⟨trivial, ?_⟩; gi_at_call 39; refine (callsIn_wide.2 (putAS (w.heap.size + 1 + 1) _ q.s (txt q.v) _ _ HB2.out (by rw [World.size_alloc]; omega) HS2.out (fun k hk => by have := HSZ.out; rcases hk with rfl | rfl <;> omega) HSM.out.2)).mono ?_; rintro e w3 ⟨rfl, hb, hm, hk⟩; have HB3 := Aside0.mk hb; have HS3 := Aside0.mk hm; have HM3 := Aside0.mk (HM2.out.kept hk (fun k h => .inr h) (by omega)); have HL3 := Aside0.mk (Nat.lt_of_lt_of_le HSZ.out hk.1); clear hb hm hk tok1 _t; have tok2 : True := trivial)
            | (have _t := tok1; refine ⟨trivial, ?_⟩; gi_at_call 38; refine (callsIn_wide.2 (dropAS (w.heap.size + 1 + 1) _ q.s _ _ HB2.out (by rw [World.size_alloc]; omega) HS2.out (fun k hk => by have := HSZ.out; rcases hk with rfl | rfl <;> omega) HSM.out.2)).mono ?_; rintro e w3 ⟨rfl, hb, hm, hk⟩; have HB3 := Aside0.mk hb; have HS3 := Aside0.mk hm; have HM3 := Aside0.mk (HM2.out.kept hk (fun k h => .inr h) (by omega)); have HL3 := Aside0.mk (Nat.lt_of_lt_of_le HSZ.out hk.1); clear hb hm hk tok1 _t; have tok2 : True := trivial))
          go_roundw
          case measure => have := HX.out; have := of_decide_eq_true c1; simp [intOf]; omega
          case rel =>
            refine ⟨k + 1, by have := HX.out; simp; omega, ⟨by have := HX.out; have := of_decide_eq_true c1; omega⟩, ⟨⟨?_, ?_, HB3.out, by have := H60.out; omega, HL3.out⟩⟩⟩
            · rw [HQ.out, texZ_snoc, HOP.out]
              exact HM3.out
            · rw [HQ.out, ← HST.out]
              exact HS3.out
      · have c2 : decide (x ≥ 60) = true := decide_eq_true (by have := HX.out; omega)
        clear hlt h60
        gi_wp2
        exact REST.out _ _ _ _ _ _ _ _ _ _ _ _ _ _ _ _ _ _ _ _ _ _ _ _ _ _ _ _ _ _ _ _ _ _ _ _ _ _ _ k (HM.out.below (below_alloc (Below.refl _ _) _))
    · have c1 : decide (x < (l.length : Int)) = false := decide_eq_false (by omega)
      clear hlt hx
      gi_wp2
      exact REST.out _ _ _ _ _ _ _ _ _ _ _ _ _ _ _ _ _ _ _ _ _ _ _ _ _ _ _ _ _ _ _ _ _ _ _ _ _ _ _ k HM.out
end Go.Proofs.Ytgncbhpmnjfhhaa.S
end
section
namespace Go.Proofs.Ytgncbhpmnjfhhaa.S
open Go.RowKit Go.ChangeShapes Go.WideShapes Go.Deep Go.Joins Go.Proofs.YtgncbhpmnjfhhaaW.PrintWords
set_option linter.unusedVariables false
instance inhOp47Row : Inhabited Op47 := ⟨⟨⟨0, 0⟩, 0, false⟩⟩
def okO (o : Op47) : Prop := okS o.s ∧ (-9223372036854775808 ≤ o.v ∧ o.v ≤ 9223372036854775807)
theorem cells47n : Try.prog.cellsOf 47 = 4 := by kernel_rfl
theorem cells4b : Try.prog.cellsOf 4 = 1 := by kernel_rfl
theorem four_cells (cs : List Value) (h : cs.length = 4) : ∃ a b c d, cs = [a, b, c, d] := by
  rcases cs with _ | ⟨a, _ | ⟨b, _ | ⟨c, _ | ⟨d, _ | ⟨e, cs⟩⟩⟩⟩⟩
  · simp at h
  · simp at h
  · simp at h
  · simp at h
  · exact ⟨a, b, c, d, rfl⟩
  · simp at h
section
variable {H : Type} {enc : TypeId × Value → H} {W : World} {base : Nat} {spare : Nat → Bool} {held : Bool}
theorem open_op_cells {fuel : Nat} {cs : List Value} {x : DataW H × List MemPlace} (h : DataW.trod enc Try.prog W base spare held fuel 47 cs = some x) : ∃ o : Op47, cs = cells47 o ∧ okO o := by
  obtain ⟨xs, n, _, _, hl, hxl, hf⟩ := DataW.trod_struct Try.underlying47 h
  rw [cells47n] at hl
  obtain ⟨u0, u1, u2, u3, rfl⟩ := four_cells cs hl
  have hx0 : xs[0]? = some (xs[0]'(by rw [hxl]; decide)) := List.getElem?_eq_getElem _
  have hx1 : xs[1]? = some (xs[1]'(by rw [hxl]; decide)) := List.getElem?_eq_getElem _
  have hx2 : xs[2]? = some (xs[2]'(by rw [hxl]; decide)) := List.getElem?_eq_getElem _
  have h0 : DataW.trod enc Try.prog W base spare held n 30 (List.take (Try.prog.cellsOf 30) (List.drop 0 [u0, u1, u2, u3])) = _ := (hf 0 _ rfl).trans hx0
  have h1 : DataW.trod enc Try.prog W base spare held n 3 (List.take (Try.prog.cellsOf 3) (List.drop 2 [u0, u1, u2, u3])) = _ := (hf 1 _ rfl).trans hx1
  have h2 : DataW.trod enc Try.prog W base spare held n 4 (List.take (Try.prog.cellsOf 4) (List.drop 3 [u0, u1, u2, u3])) = _ := (hf 2 _ rfl).trans hx2
  rw [cells2] at h0
  obtain ⟨s, hs, os⟩ := open_span_cells h0
  obtain ⟨b, hb, _, wb⟩ := DataW.trod_int Try.underlying3 h1
  obtain ⟨d, hd, _⟩ := DataW.trod_bool Try.underlying4 h2
  rw [cells1] at hb
  rw [cells4b] at hd
  simp [enc30] at hs hb hd
  obtain ⟨rfl, rfl⟩ := hs
  subst hb hd
  exact ⟨⟨s, b, d⟩, rfl, os, wf64 wb⟩
theorem open_ops {a : Option Addr} {len cap : Nat} {d : DataW H} {p : List MemPlace} (h : DataW.Trod enc Try.prog W base spare held 39 (.slice a len cap) d p) :
    ∃ zs : List Op47, zs.length = len ∧ OpsAt W a cap zs ∧ ∀ o ∈ zs, okO o := by
  obtain ⟨fuel, hf⟩ := h
  rcases open_slice Try.underlying39 hf with ⟨hcs, _⟩ | ⟨x, l, c, m, n, D, Pl, hcs, _, hl, hm, hmm, _, hi⟩
  · simp [Value.cells] at hcs
    obtain ⟨rfl, rfl, rfl⟩ := hcs
    exact ⟨[], rfl, ⟨Nat.le_refl _, by decide, fun h => absurd h (by decide)⟩, fun s hs => by cases hs⟩
  · simp [Value.cells] at hcs
    obtain ⟨rfl, rfl, rfl⟩ := hcs
    have hlm : len ≤ m := by rw [hmm]; split <;> omega
    have hp : ∀ i, i < len → ∃ o : Op47, (∀ j u, (cells47 o)[j]? = some u → W.cell? (x.add (i * 4 + j)) = some u) ∧ okO o := fun i hi' => by
      obtain ⟨cs', hc, ht⟩ := hi i (by omega)
      obtain ⟨o, rfl, ho⟩ := open_op_cells ht
      rw [cells47n] at hc
      obtain ⟨_, _, hat⟩ := World.cells?_some hc
      refine ⟨o, fun j u hu => ?_, ho⟩
      have hj : j < 4 := (List.getElem?_eq_some_iff.1 hu).1
      have e := hat j hj
      rw [Go.Deep.add_add] at e
      exact e.trans hu
    obtain ⟨f, hfp⟩ := choose_lt hp
    have hlen : ((List.range len).map f).length = len := by simp
    refine ⟨(List.range len).map f, hlen, ⟨by rw [hlen]; exact hl, by rw [hlen]; unfold maxLen at hm; omega, fun _ => ⟨x, rfl, fun i o ho j u hu => ?_⟩⟩, fun o ho => ?_⟩
    · have hil : i < len := by have := (List.getElem?_eq_some_iff.1 ho).1; simpa using this
      have hpi : f i = o := by simpa [hil] using ho
      subst hpi
      exact (hfp i hil).1 j u hu
    · obtain ⟨i, hi', rfl⟩ := List.mem_map.1 ho
      exact (hfp i (List.mem_range.1 hi')).2
end
end Go.Proofs.Ytgncbhpmnjfhhaa.S
end
section
namespace Go.Proofs.Ytgncbhpmnjfhhaa.S
open Go.RowKit Go.Proofs.YtgncbhpmnjfhhaaW.PrintWords
theorem textsAll (A : Option Addr) (c : Nat) (l : List Op47) (w : World) (h : OpsAt w A c l) :
    Calls Try.prog 10 #[.slice A l.length c] w fun e w' => e = .returned (.bool true) ∧ Below w.heap.size w w' :=
  textsLaw A c l w h
end Go.Proofs.Ytgncbhpmnjfhhaa.S
end
section
namespace Go.Proofs.Ytgncbhpmnjfhhaa.spanTexts
open Go.ChangeShapes Go.WideShapes Go.ChangeAt Go.RowKit Go.Proofs.Ytgncbhpmnjfhhaa.S
set_option linter.unusedVariables false
theorem own : ownKnob Try.prog.godebug = none := by kernel_rfl
theorem laidOut : laidOutB Try.prog = true := by kernel_rfl
set_option maxRecDepth 100000 in
theorem lifted (os : Os) (started : os.Started) (H : Type) (enc : TypeId × Value → H) :
    ReturnsInHanded {} Try.checked os 10 .any (Rows.spanTextsSpec.pre6 enc Try.prog Try.f10 Rows.spanTextsRow.domain false) (Rows.spanTextsSpec.post enc Try.prog Try.f10 false true false false) := by
  refine returnsInHanded_of_change_sized (C := Try.checked) own started (by kernel_rfl) Try.func10
    (ChangeSpec.witness6 (enc := enc) (C := Try.checked) false ⟨#[], #[.slice none 0 0], []⟩ 8 (by kernel_rfl) (by kernel_rfl) (by kernel_rfl) (by kernel_rfl)) ?_
  intro W base args ds gs before hval0 hW hcnd hsz0 _
  have hval : ∀ (j : Nat) t v, Try.f10.params[j]? = some t → args[j]? = some v → Value.okWide Try.prog W .any base t v := hval0
  have hW' := hW
  obtain ⟨p, q, hA0, hV, rfl, hfz, hnd⟩ := hW
  have hA : DataW.TrodAll enc Try.prog W 0 (fun _ => true) true Try.f10.params.toList args.toList ds p := hA0
  rw [Try.params10] at hA hval
  obtain ⟨v0, vs0, d0, ds0, p0, q0, hargs, rfl, rfl, h0, r0⟩ := trodAll_cons hA
  obtain ⟨rfl, rfl, rfl⟩ := trodAll_nil r0
  obtain rfl : args = #[v0] := by cases args; simp_all
  obtain ⟨rfl, rfl⟩ := trodVars_none hV
  obtain ⟨a0, len0, cap0, rfl⟩ := okWide_slice Try.underlying39 (hval 0 39 v0 rfl rfl)
  have k0 := h0
  have lt0 : ∀ x ∈ p0, x.block < W.heap.size := by obtain ⟨m, hm⟩ := k0; exact DataW.trod_lt m _ _ _ hm
  obtain ⟨z0, e0, l0, o0⟩ := open_ops h0
  subst e0
  refine (textsAll a0 cap0 z0 W l0 ).mono fun e W' ⟨he, bel⟩ => ?_
  subst he
  exact ⟨_, rfl, _, _, _, [], _, [], hW', trodAll_mk1 (shut_bool Try.underlying4 _), (trodAll_cons_mk (Below.trod laidOut (by kernel_rfl) (of_decide_eq_true (by kernel_rfl)) k0 bel lt0) trodAll_mk0), rfl, bel.frame _, fun h => by cases h⟩
theorem over : Rows.spanTextsRow.holds Try.pinned (OpenSpec.ofChange Rows.spanTextsSpec) :=
  OpenClaim.holds_of_wide 10 Try.f10 rfl rfl rfl rfl rfl rfl rfl ⟨rfl, rfl, rfl, rfl, rfl⟩ rfl rfl rfl rfl rfl (by kernel_rfl) Try.func10 (by kernel_rfl)
    (of_decide_eq_true (by kernel_rfl)) (by unfold Func.isWrapper; first | (rw [if_pos (by decide +kernel)]; kernel_rfl) | (rw [if_neg (by decide +kernel)]; exact ⟨rfl, rfl⟩))
    (fun os started H enc _ => lifted os started H enc)
theorem proved : Rows.SpanTextsSaid := over
end Go.Proofs.Ytgncbhpmnjfhhaa.spanTexts
namespace Go.Proofs.Ytgncbhpmnjfhhaa
theorem spanTexts_holds : Rows.SpanTextsSaid := spanTexts.proved
#print axioms spanTexts_holds
end Go.Proofs.Ytgncbhpmnjfhhaa
end
