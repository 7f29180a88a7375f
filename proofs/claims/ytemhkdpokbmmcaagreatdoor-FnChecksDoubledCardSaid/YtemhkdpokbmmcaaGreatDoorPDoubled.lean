/- Doubled sums, on both sides. -/
import Derived.Test.YtemhkdpokbmmcaaGreatDoorPMissed
import Derived.Test.YtemhkdpokbmmcaaGreatDoorA2
import Derived.Test.YtemhkdpokbmmcaaGreatDoorA3
namespace Go.Proofs.YtemhkdpokbmmcaaGreatDoor.PB
set_option linter.unusedVariables false
open Go.RowKit Go.Proofs.YtemhkdpokbmmcaaGreatDoorW.PrintWords Go.Proofs.YtemhkdpokbmmcaaGreatDoor.MCD
def dbl (d : Int) : Int := (2 * d) / 10 + (2 * d) % 10
/-- From the right on: every second digit is doubled. -/
def ds : Bool → List UInt8 → Int
  | _, [] => 0
  | o, d :: l => (if o = true then dbl (dv d) else dv d) + ds (!o) l
def dsum (l : List UInt8) : Int := ds false l.reverse
def longB (lo hi : Nat) (l : List UInt8) : Bool := (decide (lo ≤ l.length) && decide (l.length ≤ hi)) && l.all dig
theorem dbl_any (d : UInt8) : 0 ≤ dbl (dv d) ∧ dbl (dv d) ≤ 60 := by have := dv_any d; unfold dbl; omega
theorem ds_bound : ∀ (l : List UInt8) (o : Bool), 0 ≤ ds o l ∧ ds o l ≤ 255 * l.length
  | [], o => by simp [ds]
  | d :: l, o => by
    have h1 := ds_bound l (!o)
    have h2 := dv_any d
    have h3 := dbl_any d
    simp only [ds, List.length_cons]
    split <;> omega
theorem ds_append : ∀ (x y : List UInt8) (o : Bool), ds o (x ++ y) = ds o x + ds (if x.length % 2 = 1 then !o else o) y
  | [], y, o => by simp [ds]
  | d :: x, y, o => by
    simp only [List.cons_append, ds, List.length_cons]
    rw [ds_append x y (!o)]
    have e : (if x.length % 2 = 1 then !(!o) else !o) = (if (x.length + 1) % 2 = 1 then !o else o) := by
      by_cases c : x.length % 2 = 1
      · rw [if_pos c, if_neg (by omega), Bool.not_not]
      · rw [if_neg c, if_pos (by omega)]
    rw [e]
    omega
theorem isDigits_f (lo hi : Nat) (l : List UInt8) (hl : l.length ≤ 9223372036854775807) : impl_isDigits.f (B l) (lo : Int) (hi : Int) = some (longB lo hi l) := by
  unfold impl_isDigits.f longB
  have e : (decide ((lo : Int) ≤ (l.length : Int)) && decide ((l.length : Int) ≤ (hi : Int))) = (decide (lo ≤ l.length) && decide (l.length ≤ hi)) := by
    congr 1 <;> exact decide_eq_decide.2 (by omega)
  rw [B_size, in_f, Option.bind_some, e]
  cases (decide (lo ≤ l.length) && decide (l.length ≤ hi)) with
  | false => rfl
  | true =>
    rw [if_pos rfl, over_f l hl]; rfl
theorem ckLong_f (lo hi : Nat) (l : List UInt8) (hl : l.length ≤ 9223372036854775806) : Ev (fun k => spec_ckLong.f k (B l) (lo : Int) (hi : Int)) (longB lo hi l) := by
  unfold spec_ckLong.f longB
  have e : (decide ((lo : Int) ≤ (l.length : Int)) && decide ((l.length : Int) ≤ (hi : Int))) = (decide (lo ≤ l.length) && decide (l.length ≤ hi)) := by
    congr 1 <;> exact decide_eq_decide.2 (by omega)
  rw [B_size, l1In_f, e]
  simp only [Option.bind_some]
  cases (decide (lo ≤ l.length) && decide (l.length ≤ hi)) with
  | false => exact Ev.now _
  | true =>
    simp only [if_true, Bool.true_and]
    exact Ev.bind (ckDigits_f l hl) (Ev.now _)
theorem doubled_f (d : Int) (h : 0 ≤ d ∧ d ≤ 255) : impl_doubled.f d = some (dbl d) := by
  unfold impl_doubled.f dbl
  rw [w_id (show -9223372036854775808 ≤ 2 * d by omega) (by omega), Int.tdiv_eq_ediv_of_nonneg (by omega), Int.tmod_eq_emod_of_nonneg (by omega), w_id (show -9223372036854775808 ≤ 2 * d / 10 by omega) (by omega), w_id (by omega) (by omega)]
theorem rev_at (l : List UInt8) (i : Nat) (h : i < l.length) : l.reverse.drop i = l.getD (l.length - 1 - i) 0 :: l.reverse.drop (i + 1) := by
  rw [List.drop_eq_getElem_cons (show i < l.reverse.length by rw [List.length_reverse]; exact h), getD_lt l _ 0 (by omega)]
  congr 1
  rw [List.getElem_reverse]
section
variable (l : List UInt8) (hl : l.length ≤ 1000000000)
include hl
theorem implDsum_l0 : ∀ (n i : Nat) (x : Int), l.length - i = n → i ≤ l.length → 0 ≤ x → x ≤ 255 * i → Ev (fun k => impl_doubledSum.l0 k (B l) x (l.length : Int) (i : Int)) (x + ds (decide (i % 2 = 1)) (l.reverse.drop i))
  | 0, i, x, hn, hi, h0, hx => by
    refine Ev.step (fun k => impl_doubledSum.l0.eq_2 ..) ?_
    simp only [if_neg (show ¬ ((i : Int) < (l.length : Int)) by omega)]
    rw [List.drop_eq_nil_of_le (by rw [List.length_reverse]; omega)]
    refine Ev.id (Ev.now _) ?_
    simp [ds]
  | n + 1, i, x, hn, hi, h0, hx => by
    have hi' : i < l.length := by omega
    refine Ev.step (fun k => impl_doubledSum.l0.eq_2 ..) ?_
    have hw : wrap64 (wrap64 ((l.length : Int) - 1) - (i : Int)) = ((l.length - 1 - i : Nat) : Int) := by
      rw [w_id (show -9223372036854775808 ≤ (l.length : Int) - 1 by omega) (by omega), w_id (by omega) (by omega)]; omega
    have hd := dv_any (l.getD (l.length - 1 - i) 0)
    have hb := dbl_any (l.getD (l.length - 1 - i) 0)
    have hdv : (((l.getD (l.length - 1 - i) 0).toNat : Int) - 48) % 256 = dv (l.getD (l.length - 1 - i) 0) := rfl
    have ht : Int.tmod (i : Int) 2 = (i : Int) % 2 := Int.tmod_eq_emod_of_nonneg (by omega)
    rw [rev_at l i hi']
    simp only [B_size, hw, if_pos (show ((i : Int) < (l.length : Int)) by omega), if_pos (show (0 : Int) ≤ ((l.length - 1 - i : Nat) : Int) by omega), if_pos (show ((l.length - 1 - i : Nat) : Int) < (l.length : Int) by omega), bt_nat, impl_digit.f, Option.bind_some, hdv, ht, doubled_f _ hd, w_succ (show i < 9223372036854775807 by omega), ds]
    by_cases c : i % 2 = 1
    · have e : decide ((i + 1) % 2 = 1) = !decide (i % 2 = 1) := by rw [decide_eq_true c, decide_eq_false (by omega)]; rfl
      simp only [if_pos (show (i : Int) % 2 = 1 by omega), decide_eq_true c, if_true, w_id (show -9223372036854775808 ≤ x + dbl (dv (l.getD (l.length - 1 - i) 0)) by omega) (by omega)]
      have := implDsum_l0 n (i + 1) (x + dbl (dv (l.getD (l.length - 1 - i) 0))) (by omega) (by omega) (by omega) (by omega)
      rw [e, decide_eq_true c, Int.add_assoc] at this
      exact this
    · have e : decide ((i + 1) % 2 = 1) = !decide (i % 2 = 1) := by rw [decide_eq_false c, decide_eq_true (by omega)]; rfl
      simp only [if_neg (show ¬ (i : Int) % 2 = 1 by omega), decide_eq_false c, Bool.false_eq_true, if_false, w_id (show -9223372036854775808 ≤ x + dv (l.getD (l.length - 1 - i) 0) by omega) (by omega)]
      have := implDsum_l0 n (i + 1) (x + dv (l.getD (l.length - 1 - i) 0)) (by omega) (by omega) (by omega) (by omega)
      rw [e, decide_eq_false c, Int.add_assoc] at this
      exact this
theorem implDsum_f : Ev (fun k => impl_doubledSum.f k (B l)) (dsum l) := by
  have := implDsum_l0 l hl l.length 0 0 (by omega) (by omega) (by omega) (by omega)
  unfold impl_doubledSum.f
  rw [B_size]
  exact Ev.id this (by rw [Int.zero_add, List.drop_zero]; rfl)
theorem specDsum_l0 : ∀ (n i : Nat) (x : Int), l.length - i = n → i ≤ l.length → 0 ≤ x → x ≤ 255 * i → Ev (fun k => spec_ckDoubled.l0 k (B l) x (i : Int)) (x + ds (decide (i % 2 = 1)) (l.reverse.drop i))
  | 0, i, x, hn, hi, h0, hx => by
    refine Ev.step (fun k => spec_ckDoubled.l0.eq_2 ..) ?_
    simp only [B_size, if_neg (show ¬ ((i : Int) < (l.length : Int)) by omega)]
    rw [List.drop_eq_nil_of_le (by rw [List.length_reverse]; omega)]
    refine Ev.id (Ev.now _) ?_
    simp [ds]
  | n + 1, i, x, hn, hi, h0, hx => by
    have hi' : i < l.length := by omega
    refine Ev.step (fun k => spec_ckDoubled.l0.eq_2 ..) ?_
    have hw : wrap64 (wrap64 ((l.length : Int) - 1) - (i : Int)) = ((l.length - 1 - i : Nat) : Int) := by
      rw [w_id (show -9223372036854775808 ≤ (l.length : Int) - 1 by omega) (by omega), w_id (by omega) (by omega)]; omega
    have hd := dv_any (l.getD (l.length - 1 - i) 0)
    have hb := dbl_any (l.getD (l.length - 1 - i) 0)
    have hdv : (((l.getD (l.length - 1 - i) 0).toNat : Int) - 48) % 256 = dv (l.getD (l.length - 1 - i) 0) := rfl
    have hdb : (2 * dv (l.getD (l.length - 1 - i) 0)) / 10 + (2 * dv (l.getD (l.length - 1 - i) 0)) % 10 = dbl (dv (l.getD (l.length - 1 - i) 0)) := rfl
    have ht : Int.tmod (i : Int) 2 = (i : Int) % 2 := Int.tmod_eq_emod_of_nonneg (by omega)
    rw [rev_at l i hi']
    simp only [B_size, hw, if_pos (show ((i : Int) < (l.length : Int)) by omega), if_pos (show (0 : Int) ≤ ((l.length - 1 - i : Nat) : Int) by omega), if_pos (show ((l.length - 1 - i : Nat) : Int) < (l.length : Int) by omega), bt_nat, hdv, ht, hdb, w_succ (show i < 9223372036854775807 by omega), ds]
    by_cases c : i % 2 = 1
    · have e : decide ((i + 1) % 2 = 1) = !decide (i % 2 = 1) := by rw [decide_eq_true c, decide_eq_false (by omega)]; rfl
      simp only [if_pos (show (i : Int) % 2 = 1 by omega), decide_eq_true c, if_true, w_id (show -9223372036854775808 ≤ x + dbl (dv (l.getD (l.length - 1 - i) 0)) by omega) (by omega)]
      have := specDsum_l0 n (i + 1) (x + dbl (dv (l.getD (l.length - 1 - i) 0))) (by omega) (by omega) (by omega) (by omega)
      rw [e, decide_eq_true c, Int.add_assoc] at this
      exact this
    · have e : decide ((i + 1) % 2 = 1) = !decide (i % 2 = 1) := by rw [decide_eq_false c, decide_eq_true (by omega)]; rfl
      simp only [if_neg (show ¬ (i : Int) % 2 = 1 by omega), decide_eq_false c, Bool.false_eq_true, if_false, w_id (show -9223372036854775808 ≤ x + dv (l.getD (l.length - 1 - i) 0) by omega) (by omega)]
      have := specDsum_l0 n (i + 1) (x + dv (l.getD (l.length - 1 - i) 0)) (by omega) (by omega) (by omega) (by omega)
      rw [e, decide_eq_false c, Int.add_assoc] at this
      exact this
theorem specDsum_f : Ev (fun k => spec_ckDoubled.f k (B l)) (dsum l) := by
  have := specDsum_l0 l hl l.length 0 0 (by omega) (by omega) (by omega) (by omega)
  exact Ev.id this (by rw [Int.zero_add, List.drop_zero]; rfl)
end
theorem dsum_bound (l : List UInt8) : 0 ≤ dsum l ∧ dsum l ≤ 255 * l.length := by
  have := ds_bound l.reverse false
  rw [List.length_reverse] at this
  exact this
theorem implSum_f (l : List UInt8) (hl : l.length ≤ 1000000000) : Ev (fun k => impl_DoubledSum.f k (B l)) (if longB 2 12 l = true then (dsum l, true) else (0, false)) := by
  unfold impl_DoubledSum.f
  rw [show impl_isDigits.f (B l) 2 12 = some (longB 2 12 l) from isDigits_f 2 12 l (by omega)]
  simp only [Option.bind_some]
  cases longB 2 12 l with
  | false => exact Ev.now _
  | true => exact Ev.bind (implDsum_f l hl) (Ev.now _)
theorem specSum_f (l : List UInt8) (hl : l.length ≤ 1000000000) : Ev (fun k => spec_DoubledSum.f k (B l)) (if longB 2 12 l = true then (dsum l, true) else (0, false)) := by
  unfold spec_DoubledSum.f
  refine Ev.bind (ckLong_f 2 12 l (by omega)) ?_
  cases longB 2 12 l with
  | false => exact Ev.now _
  | true => exact Ev.bind (specDsum_f l hl) (Ev.now _)
theorem implRight_f (l : List UInt8) (hl : l.length ≤ 1000000000) : Ev (fun k => impl_IsDoubledRight.f k (B l)) (if longB 2 12 l = true then (dsum l % 10 == 0, true) else (false, false)) := by
  unfold impl_IsDoubledRight.f
  refine Ev.bind (implSum_f l hl) ?_
  cases longB 2 12 l with
  | false => exact Ev.now _
  | true =>
    simp only [if_true, tmod_zero]
    exact Ev.now _
theorem specRight_f (l : List UInt8) (hl : l.length ≤ 1000000000) : Ev (fun k => spec_IsDoubledRight.f k (B l)) (if longB 2 12 l = true then (dsum l % 10 == 0, true) else (false, false)) := by
  unfold spec_IsDoubledRight.f
  refine Ev.bind (ckLong_f 2 12 l (by omega)) ?_
  cases longB 2 12 l with
  | false => exact Ev.now _
  | true =>
    simp only [if_true, tmod_zero]
    exact Ev.bind (specDsum_f l hl) (Ev.now _)
/-- The check of doubled sums. -/
def dcheck (l : List UInt8) : Nat := ((10 - dsum (l ++ [48]) % 10) % 10).toNat
theorem dcheck_lt (l : List UInt8) : dcheck l < 10 := by unfold dcheck; omega
theorem digits_at : ∀ x : Nat, x < 10 → (⟨#[48, 49, 50, 51, 52, 53, 54, 55, 56, 57]⟩ : ByteArray).extract x (x + 1) = B [dg x] := by decide
theorem signs_at10 : ∀ x : Nat, x < 10 → (⟨#[48, 49, 50, 51, 52, 53, 54, 55, 56, 57, 88]⟩ : ByteArray).extract x (x + 1) = B [dg x] := by decide
theorem dcheck_int (l : List UInt8) : Int.tmod (wrap64 (10 - Int.tmod (dsum (l ++ [48])) 10)) 10 = (dcheck l : Int) := by
  have hb := dsum_bound (l ++ [48])
  rw [Int.tmod_eq_emod_of_nonneg hb.1, w_id (by omega) (by omega), Int.tmod_eq_emod_of_nonneg (by omega)]
  unfold dcheck; omega
theorem implCheck_f (l : List UInt8) (hl : l.length ≤ 100000000) : Ev (fun k => impl_DoubledCheck.f k (B l)) (if longB 1 11 l = true then (B [dg (dcheck l)], true) else (⟨#[]⟩, false)) := by
  unfold impl_DoubledCheck.f
  rw [show impl_isDigits.f (B l) 1 11 = some (longB 1 11 l) from isDigits_f 1 11 l (by omega)]
  simp only [Option.bind_some]
  cases longB 1 11 l with
  | false => exact Ev.now _
  | true =>
    have e1 : B l ++ (⟨#[48]⟩ : ByteArray) = B (l ++ [48]) := B_append l [48]
    have hc := dcheck_lt l
    simp only [if_true, B_size, if_pos (show l.length + 1 ≤ 9223372036854775807 by omega), e1]
    refine Ev.bind (implDsum_f (l ++ [48]) (by simp; omega)) ?_
    simp only [dcheck_int, w_succ (show dcheck l < 9223372036854775807 by omega), toNat_cast, if_pos (show (0 : Int) ≤ (dcheck l : Int) by omega), if_pos (show (dcheck l : Int) ≤ ((dcheck l + 1 : Nat) : Int) by omega), if_pos (show ((dcheck l + 1 : Nat) : Int) ≤ 10 by omega), digits_at _ hc]
    exact Ev.now _
theorem specCheck_f (l : List UInt8) (hl : l.length ≤ 100000000) : Ev (fun k => spec_DoubledCheck.f k (B l)) (if longB 1 11 l = true then (B [dg (dcheck l)], true) else (⟨#[]⟩, false)) := by
  unfold spec_DoubledCheck.f
  refine Ev.bind (ckLong_f 1 11 l (by omega)) ?_
  cases longB 1 11 l with
  | false => exact Ev.now _
  | true =>
    have e1 : B l ++ (⟨#[48]⟩ : ByteArray) = B (l ++ [48]) := B_append l [48]
    have hc := dcheck_lt l
    simp only [if_true, B_size, if_pos (show l.length + 1 ≤ 9223372036854775807 by omega), e1]
    refine Ev.bind (specDsum_f (l ++ [48]) (by simp; omega)) ?_
    simp only [dcheck_int, w_succ (show dcheck l < 9223372036854775807 by omega), toNat_cast, if_pos (show (0 : Int) ≤ (dcheck l : Int) by omega), if_pos (show (dcheck l : Int) ≤ ((dcheck l + 1 : Nat) : Int) by omega), if_pos (show ((dcheck l + 1 : Nat) : Int) ≤ 11 by omega), signs_at10 _ hc]
    exact Ev.now _
/-! ### What the law says of them -/
theorem dbl_dig {d : UInt8} (h : dig d = true) : 0 ≤ dbl (dv d) ∧ dbl (dv d) ≤ 9 := by have := dv_range h; unfold dbl; omega
theorem ds_digits : ∀ (l : List UInt8) (o : Bool), l.all dig = true → ds o l ≤ 9 * l.length
  | [], o, _ => by simp [ds]
  | d :: l, o, h => by
    simp only [List.all_cons, Bool.and_eq_true] at h
    have h1 := ds_digits l (!o) h.2
    have h2 := dv_range h.1
    have h3 := dbl_dig h.1
    simp only [ds, List.length_cons]
    split <;> omega
theorem dsum_digits (l : List UInt8) (h : l.all dig = true) : dsum l ≤ 9 * l.length := by
  have := ds_digits l.reverse false (by rw [List.all_reverse]; exact h)
  rw [List.length_reverse] at this
  exact this
theorem dsum_snoc (l : List UInt8) (d : UInt8) : dsum (l ++ [d]) = dv d + ds true l.reverse := by
  unfold dsum
  rw [List.reverse_append]
  rfl
theorem dcheck_right (l : List UInt8) : dsum (l ++ [dg (dcheck l)]) % 10 = 0 := by
  have h0 : dsum (l ++ [48]) = 0 + ds true l.reverse := dsum_snoc l 48
  rw [dsum_snoc, dv_dg (dcheck_lt l)]
  unfold dcheck
  rw [h0]
  have := ds_bound l.reverse true
  omega
theorem swap_all : ∀ a b : Fin 10, a ≠ b → ∀ o : Bool, ∀ s : Fin 10, ((s.val : Int) + ((if o = true then dbl (b.val : Int) else (b.val : Int)) + (if (!o) = true then dbl (a.val : Int) else (a.val : Int)))) % 10 = 0 →
    ((((s.val : Int) + ((if o = true then dbl (a.val : Int) else (a.val : Int)) + (if (!o) = true then dbl (b.val : Int) else (b.val : Int)))) % 10 == 0) = (decide (a.val = 0 ∧ b.val = 9) || decide (a.val = 9 ∧ b.val = 0))) := by decide +kernel
end Go.Proofs.YtemhkdpokbmmcaaGreatDoor.PB
