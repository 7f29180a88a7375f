/- Chapter 7, what both sides' small functions compute: schemes, checks, digits. -/
import Derived.Test.YtemhkdpokbmmcaaGreatDoorPCkLaw
import Derived.Test.YtemhkdpokbmmcaaGreatDoorA1
import Derived.Test.YtemhkdpokbmmcaaGreatDoorA0
import Derived.Test.YtemhkdpokbmmcaaGreatDoorA2
namespace Go.Proofs.YtemhkdpokbmmcaaGreatDoor.PB
set_option linter.unusedVariables false
open Go.RowKit Go.Proofs.YtemhkdpokbmmcaaGreatDoorW.PrintWords Go.Proofs.YtemhkdpokbmmcaaGreatDoor.MCD
theorem toNat_cast (n : Nat) : ((n : Int)).toNat = n := rfl
theorem l1In_f (a b c : Int) : spec_l1In.f a b c = some (decide (b ≤ a) && decide (a ≤ c)) := by
  unfold spec_l1In.f
  by_cases h : a ≥ b
  · rw [if_pos h, decide_eq_true (show b ≤ a from h)]; rfl
  · rw [if_neg h, decide_eq_false (show ¬ b ≤ a from h)]; rfl
theorem l1All_l0 (lo hi : Int) (ws : List Int) (hl : ws.length ≤ 9223372036854775806) : ∀ (n i : Nat), ws.length - i = n → Ev (fun k => spec_l1All.l0 k lo hi ws (ws.length : Int) (i : Int)) ((ws.drop i).all (fun w => decide (lo ≤ w) && decide (w ≤ hi)))
  | 0, i, hn => by
    refine Ev.step (fun k => spec_l1All.l0.eq_2 ..) ?_
    simp only [if_neg (show ¬ (i : Int) < (ws.length : Int) by omega)]
    rw [List.drop_eq_nil_of_le (by omega)]
    exact Ev.now _
  | n + 1, i, hn => by
    have hi' : i < ws.length := by omega
    refine Ev.step (fun k => spec_l1All.l0.eq_2 ..) ?_
    simp only [if_pos (show (i : Int) < (ws.length : Int) by omega), if_pos (show (0 : Int) ≤ (i : Int) by omega), l1In_f, Option.bind_some, rd_nat]
    rw [List.drop_eq_getElem_cons hi', List.all_cons, getD_lt ws i 0 hi']
    cases hc : (decide (lo ≤ ws[i]) && decide (ws[i] ≤ hi)) with
    | true =>
      simp only [if_true, Bool.true_and, w_succ (show i < 9223372036854775807 by omega)]
      exact l1All_l0 lo hi ws hl n (i + 1) (by omega)
    | false => exact Ev.now _
theorem ckGood_f (m : Int) (ws : List Int) (hl : ws.length ≤ 9223372036854775806) : Ev (fun k => spec_ckGood.f k m ws) (schemeOk m ws) := by
  unfold spec_ckGood.f schemeOk
  simp only [l1In_f, Option.bind_some]
  cases h1 : (decide (2 ≤ m) && decide (m ≤ 13)) with
  | false => exact Ev.now _
  | true =>
    cases h2 : (decide ((1 : Int) ≤ (ws.length : Int)) && decide ((ws.length : Int) ≤ 12)) with
    | false =>
      have : (decide (1 ≤ ws.length) && decide (ws.length ≤ 12)) = false := by
        rw [← h2]; congr 1 <;> exact decide_eq_decide.2 (by omega)
      rw [this]; exact Ev.now _
    | true =>
      have : (decide (1 ≤ ws.length) && decide (ws.length ≤ 12)) = true := by
        rw [← h2]; congr 1 <;> exact decide_eq_decide.2 (by omega)
      rw [this]
      simp at h1
      simp only [if_true, Bool.true_and, w_id (show -9223372036854775808 ≤ m - 1 by omega) (by omega)]
      refine Ev.bind (a := ws.all (fun w => decide (0 ≤ w) && decide (w ≤ m - 1))) ?_ (Ev.now _)
      exact l1All_l0 0 (m - 1) ws hl ws.length 0 (by omega)
theorem ckDigits_l0 (l : List UInt8) (hl : l.length ≤ 9223372036854775806) : ∀ (n i : Nat), l.length - i = n → Ev (fun k => spec_ckDigits.l0 k (B l) (i : Int)) ((l.drop i).all dig)
  | 0, i, hn => by
    refine Ev.step (fun k => spec_ckDigits.l0.eq_2 ..) ?_
    simp only [B_size, if_neg (show ¬ (i : Int) < (l.length : Int) by omega)]
    rw [List.drop_eq_nil_of_le (by omega)]
    exact Ev.now _
  | n + 1, i, hn => by
    have hi' : i < l.length := by omega
    refine Ev.step (fun k => spec_ckDigits.l0.eq_2 ..) ?_
    simp only [B_size, if_pos (show (i : Int) < (l.length : Int) by omega), if_pos (show (0 : Int) ≤ (i : Int) by omega), bt_nat]
    rw [List.drop_eq_getElem_cons hi', List.all_cons, getD_lt l i 0 hi']
    unfold dig
    by_cases h1 : (l[i].toNat : Int) < 48
    · simp only [if_pos h1]
      rw [decide_eq_false (by omega)]; exact Ev.now _
    · simp only [if_neg h1]
      by_cases h2 : (l[i].toNat : Int) > 57
      · simp only [if_pos h2]
        rw [decide_eq_false (by omega)]; exact Ev.now _
      · simp only [if_neg h2]
        rw [decide_eq_true (by omega)]
        simp only [Bool.true_and, w_succ (show i < 9223372036854775807 by omega)]
        exact ckDigits_l0 l hl n (i + 1) (by omega)
theorem ckDigits_f (l : List UInt8) (hl : l.length ≤ 9223372036854775806) : Ev (fun k => spec_ckDigits.f k (B l)) (l.all dig) :=
  ckDigits_l0 l hl l.length 0 (by omega)
theorem schemeOk_len {m : Int} {ws : List Int} (h : schemeOk m ws = true) : 2 ≤ m ∧ m ≤ 13 ∧ 1 ≤ ws.length ∧ ws.length ≤ 12 ∧ ∀ w ∈ ws, 0 ≤ w ∧ w ≤ m - 1 := by
  unfold schemeOk at h
  simp only [Bool.and_eq_true, decide_eq_true_eq, List.all_eq_true] at h
  exact ⟨h.1.1.1, h.1.1.2, h.1.2.1, h.1.2.2, h.2⟩
theorem in_f (a b c : Int) : impl_in.f a b c = some (decide (b ≤ a) && decide (a ≤ c)) := by
  unfold impl_in.f
  by_cases h : a ≥ b
  · rw [if_pos h, decide_eq_true (show b ≤ a from h)]; rfl
  · rw [if_neg h, decide_eq_false (show ¬ b ≤ a from h)]; rfl
theorem indexFunc_l0 (xs : List Int) (p : Int → Option Bool) (P : Int → Bool) (hp : ∀ x, p x = some (P x)) (hl : xs.length ≤ 9223372036854775806) : ∀ (n i : Nat), xs.length - i = n → ∃ r, Ev (fun k => slices_IndexFunc_int_int.l0 k xs p (xs.length : Int) (i : Int)) r ∧ decide (r ≥ 0) = (xs.drop i).any P
  | 0, i, hn => by
    refine ⟨-1, Ev.step (fun k => slices_IndexFunc_int_int.l0.eq_2 ..) ?_, ?_⟩
    · simp only [if_neg (show ¬ (i : Int) < (xs.length : Int) by omega)]
      exact Ev.now _
    · rw [List.drop_eq_nil_of_le (by omega)]; rfl
  | n + 1, i, hn => by
    have hi' : i < xs.length := by omega
    rw [List.drop_eq_getElem_cons hi', List.any_cons]
    cases hc : P xs[i] with
    | true =>
      refine ⟨(i : Int), Ev.step (fun k => slices_IndexFunc_int_int.l0.eq_2 ..) ?_, ?_⟩
      · simp only [if_pos (show (i : Int) < (xs.length : Int) by omega), if_pos (show (0 : Int) ≤ (i : Int) by omega), rd_nat, getD_lt xs i 0 hi', hp, hc, Option.bind_some, if_true]
        exact Ev.now _
      · rw [Bool.true_or]; exact decide_eq_true (by omega)
    | false =>
      obtain ⟨r, h1, h2⟩ := indexFunc_l0 xs p P hp hl n (i + 1) (by omega)
      refine ⟨r, Ev.step (fun k => slices_IndexFunc_int_int.l0.eq_2 ..) ?_, by rw [Bool.false_or]; exact h2⟩
      simp only [if_pos (show (i : Int) < (xs.length : Int) by omega), if_pos (show (0 : Int) ≤ (i : Int) by omega), rd_nat, getD_lt xs i 0 hi', hp, hc, Option.bind_some, w_succ (show i < 9223372036854775807 by omega)]
      exact h1
theorem any_not_all {α : Type} (P : α → Bool) (l : List α) : (!(l.any fun x => !P x)) = l.all P := by
  induction l with
  | nil => rfl
  | cons a l ih => rw [List.any_cons, List.all_cons, Bool.not_or, Bool.not_not, ih]
theorem isScheme_f (m : Int) (ws : List Int) (hl : ws.length ≤ 9223372036854775806) : Ev (fun k => impl_IsScheme.f k m ws) (schemeOk m ws) := by
  unfold impl_IsScheme.f slices_ContainsFunc_int_int.f slices_IndexFunc_int_int.f
  obtain ⟨r, h1, h2⟩ := indexFunc_l0 ws (fun y0_ => impl_IsScheme_1.f y0_ m ws) (fun x => !(decide (0 ≤ x) && decide (x ≤ wrap64 (m - 1)))) (fun x => by unfold impl_IsScheme_1.f; rw [in_f]; rfl) hl ws.length 0 (by omega)
  refine Ev.bind (Ev.bind h1 (Ev.now _)) ?_
  rw [h2, List.drop_zero]
  simp only [in_f, Option.bind_some, any_not_all]
  unfold schemeOk
  cases h1 : (decide (2 ≤ m) && decide (m ≤ 13)) with
  | false => exact Ev.now _
  | true =>
    have : (decide (1 ≤ ws.length) && decide (ws.length ≤ 12)) = (decide ((1 : Int) ≤ (ws.length : Int)) && decide ((ws.length : Int) ≤ 12)) := by
      congr 1 <;> exact decide_eq_decide.2 (by omega)
    rw [this]
    cases h2 : (decide ((1 : Int) ≤ (ws.length : Int)) && decide ((ws.length : Int) ≤ 12)) with
    | false => exact Ev.now _
    | true =>
      simp at h1
      rw [w_id (show -9223372036854775808 ≤ m - 1 by omega) (by omega)]
      exact Ev.now _
theorem contains_dig : ∀ n : Fin 256, (⟨#[48, 49, 50, 51, 52, 53, 54, 55, 56, 57]⟩ : ByteArray).data.toList.contains (UInt8.ofNat n.val) = dig (UInt8.ofNat n.val) := by decide +kernel
theorem over_f (l : List UInt8) (hl : l.length ≤ 9223372036854775807) : impl_over.f (B l) (⟨#[48, 49, 50, 51, 52, 53, 54, 55, 56, 57]⟩ : ByteArray) = some (l.all dig) := by
  unfold impl_over.f
  rw [if_pos ⟨by rw [B_size]; exact hl, by decide, by decide⟩, B_data]
  congr 2
  funext b
  have := contains_dig ⟨b.toNat, b.toNat_lt⟩
  simpa using this
/-! ### Checks -/
def chk (m r : Int) : List Nat := rg11.filter fun c => (r + (c : Int)) % m == 0
theorem chk_mod (m r : Int) : chk m (r % m) = chk m r := by
  unfold chk
  congr 1
  funext c
  rw [Int.emod_add_emod]
theorem check_f (m r : Int) (ws : List Int) (h2 : 2 ≤ m) (h13 : m ≤ 13) (hr : 0 ≤ r) : impl_Scheme_check.f m ws r = some ((m - r % m) % m) := by
  unfold impl_Scheme_check.f
  have b1 := Int.emod_nonneg r (show m ≠ 0 by omega)
  have b2 := Int.emod_lt_of_pos r (show 0 < m by omega)
  rw [if_neg (by omega), Int.tmod_eq_emod_of_nonneg hr, w_id (by omega) (by omega), Int.tmod_eq_emod_of_nonneg (by omega)]
theorem checks_ws : ∀ (k : Nat) (a : List Int) (c m : Int) (ws ws' : List Int), impl_Scheme_checks.l0 k a c m ws = impl_Scheme_checks.l0 k a c m ws'
  | 0, _, _, _, _, _ => rfl
  | k + 1, a, c, m, ws, ws' => by
    rw [impl_Scheme_checks.l0.eq_2, impl_Scheme_checks.l0.eq_2, checks_ws k _ _ m ws ws']
theorem checks_mono : ∀ (k : Nat) (a : List Int) (c m : Int) (ws r : List Int), impl_Scheme_checks.l0 k a c m ws = some r → impl_Scheme_checks.l0 (k + 1) a c m ws = some r
  | 0, a, c, m, ws, r, h => by simp [impl_Scheme_checks.l0] at h
  | k + 1, a, c, m, ws, r, h => by
    rw [impl_Scheme_checks.l0.eq_2] at h ⊢
    by_cases h1 : c ≤ 10
    · rw [if_pos h1] at h ⊢
      by_cases h2 : a.length < 17592186044416
      · rw [if_pos h2] at h ⊢; exact checks_mono k _ _ _ _ r h
      · rw [if_neg h2] at h ⊢; exact h
    · rw [if_neg h1] at h ⊢; exact h
theorem checks_all : ∀ m : Fin 14, ∀ r : Fin 14, 2 ≤ m.val → r.val < m.val → impl_Scheme_checks.l0 12 [] (((m.val : Int) - (r.val : Int)) % (m.val : Int)) (m.val : Int) [] = some ((chk (m.val : Int) (r.val : Int)).map Int.ofNat) := by decide +kernel
theorem checks_f (m r : Int) (ws : List Int) (h2 : 2 ≤ m) (h13 : m ≤ 13) (hr : 0 ≤ r) : Ev (fun k => impl_Scheme_checks.f k m ws r) ((chk m r).map Int.ofNat) := by
  unfold impl_Scheme_checks.f
  rw [check_f m r ws h2 h13 hr]
  simp only [Option.bind_some]
  have b1 := Int.emod_nonneg r (show m ≠ 0 by omega)
  have b2 := Int.emod_lt_of_pos r (show 0 < m by omega)
  refine ⟨12, fun k hk => ?_⟩
  obtain ⟨j, rfl⟩ : ∃ j, k = 12 + j := ⟨k - 12, by omega⟩
  induction j with
  | zero =>
    have := checks_all ⟨m.toNat, by omega⟩ ⟨(r % m).toNat, by omega⟩ (by show 2 ≤ m.toNat; omega) (by show (r % m).toNat < m.toNat; omega)
    simp only [Int.toNat_of_nonneg b1, Int.toNat_of_nonneg (show 0 ≤ m by omega)] at this
    show impl_Scheme_checks.l0 12 _ _ _ _ = _
    rw [checks_ws _ _ _ _ ws [], ← chk_mod]
    exact this
  | succ j ih => exact checks_mono _ _ _ _ _ _ (ih (by omega))
end Go.Proofs.YtemhkdpokbmmcaaGreatDoor.PB
