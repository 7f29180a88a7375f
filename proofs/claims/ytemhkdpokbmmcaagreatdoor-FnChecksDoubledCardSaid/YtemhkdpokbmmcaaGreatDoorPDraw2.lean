/- The draws of texts: they end, and the texts are short. -/
import Derived.Test.YtemhkdpokbmmcaaGreatDoorPDoubled
import Derived.Test.YtemhkdpokbmmcaaGreatDoorPParse
import Derived.Test.YtemhkdpokbmmcaaGreatDoorA2
namespace Go.Proofs.YtemhkdpokbmmcaaGreatDoor.PB
set_option linter.unusedVariables false
open Go.RowKit Go.Proofs.YtemhkdpokbmmcaaGreatDoorW.PrintWords Go.Proofs.YtemhkdpokbmmcaaGreatDoor.MCD
theorem one_f (l : List Int) (hl : Bytes l) (at_ sd M n : Int) (h0 : 0 ≤ at_) (h1 : at_ ≤ M) (hM : M < 4611686018427387000) : ∃ b a' s', spec_l1Cur_one.f l at_ sd n = some (b, a', s') ∧ 0 ≤ a' ∧ a' ≤ M + 2 := by
  unfold spec_l1Cur_one.f
  obtain ⟨x, a', s', e, p⟩ := pick_f l hl at_ sd M n h0 h1 hM
  rw [e]
  exact ⟨x == 0, a', s', rfl, by omega, by omega⟩
theorem of_f (l : List Int) (hl : Bytes l) (at_ sd M : Int) (xs : List ByteArray) (hx : xs ≠ []) (hs : xs.length ≤ 200) (h0 : 0 ≤ at_) (h1 : at_ ≤ M) (hM : M < 4611686018427387000) : ∃ x a' s', spec_l1Cur_of.f l at_ sd xs = some (x, a', s') ∧ x ∈ xs ∧ 0 ≤ a' ∧ a' ≤ M + 2 := by
  unfold spec_l1Cur_of.f
  obtain ⟨x, a', s', e, p⟩ := pick_f l hl at_ sd M (xs.length : Int) h0 h1 hM
  have hp : 0 < xs.length := List.length_pos_iff.2 hx
  rw [e]
  simp only [Option.bind_some]
  have hlt : x < (xs.length : Int) := by omega
  rw [if_pos (by omega), if_pos hlt]
  obtain ⟨n, rfl⟩ : ∃ n : Nat, x = (n : Int) := ⟨x.toNat, by omega⟩
  refine ⟨_, _, _, rfl, ?_, by omega, by omega⟩
  show xs.getD n ByteArray.empty ∈ xs
  rw [getD_lt xs n _ (by omega)]
  exact List.getElem_mem _
theorem digits_l0 (l : List Int) (hl : Bytes l) : ∀ (n : Nat) (at_ sd : Int) (t : List UInt8), n ≤ 1000 → t.length + 2 * n ≤ 2000 → 0 ≤ at_ → at_ + 2 * n ≤ 1000000 → ∃ t' a' s', Ev (fun k => spec_l1Cur_digits.l0 k (n : Int) (B t) l at_ sd) (B t', a', s') ∧ t'.length ≤ t.length + 2 * n ∧ 0 ≤ a' ∧ a' ≤ at_ + 2 * n
  | 0, at_, sd, t, hn, ht, h0, h1 => by
    refine ⟨t, at_, sd, Ev.step (fun k => spec_l1Cur_digits.l0.eq_2 ..) ?_, by omega⟩
    simp only [if_neg (show ¬ (((0 : Nat) : Int) > 0) by omega)]
    exact Ev.now _
  | n + 1, at_, sd, t, hn, ht, h0, h1 => by
    obtain ⟨x, a1, s1, e1, p1⟩ := pick_f l hl at_ sd at_ 10 h0 (Int.le_refl _) (by omega)
    have hnl := num_length x.toNat
    have hw1 : wrap64 (((n + 1 : Nat) : Int) - 1) = (n : Int) := by rw [w_id (by omega) (by omega)]; omega
    obtain ⟨t', a', s', e, p⟩ := digits_l0 l hl n a1 s1 (t ++ num x.toNat) (by omega) (by rw [List.length_append]; omega) (by omega) (by omega)
    rw [List.length_append] at p
    refine ⟨t', a', s', Ev.step (fun k => spec_l1Cur_digits.l0.eq_2 ..) ?_, by omega⟩
    simp only [if_pos (show ((n + 1 : Nat) : Int) > 0 by omega), e1, Option.bind_some, hw1]
    refine Ev.bind (l1Num_f x (by omega) (by omega)) ?_
    simp only [B_size, if_pos (show t.length + (num x.toNat).length ≤ 9223372036854775807 by omega), B_append]
    exact e
theorem digits_f (l : List Int) (hl : Bytes l) (at_ sd n : Int) (hn0 : 0 ≤ n) (hn : n ≤ 100) (h0 : 0 ≤ at_) (h1 : at_ ≤ 1000) : ∃ t' a' s', Ev (fun k => spec_l1Cur_digits.f k l at_ sd n) (B t', a', s') ∧ t'.length ≤ 200 ∧ 0 ≤ a' ∧ a' ≤ at_ + 200 := by
  obtain ⟨m, rfl⟩ : ∃ m : Nat, n = (m : Int) := ⟨n.toNat, by omega⟩
  obtain ⟨t', a', s', e, p⟩ := digits_l0 l hl m at_ sd [] (by omega) (by simp; omega) h0 (by omega)
  refine ⟨t', a', s', e, by simp at p; omega, by omega, by omega⟩
theorem drawDoubled_f (l : List Int) (hl : Bytes l) : ∃ t, Ev (fun k => spec_DrawDoubledSum.f k l) (B t) ∧ t.length ≤ 1000 := by
  unfold spec_DrawDoubledSum.f
  obtain ⟨b, a1, s1, e1, p1⟩ := one_f l hl 0 0 0 10 (by omega) (by omega) (by omega)
  cases b with
  | true =>
    obtain ⟨x, a2, s2, e2, hx, p2⟩ := of_f l hl a1 s1 a1 [(⟨#[]⟩ : ByteArray), (⟨#[49]⟩ : ByteArray), (⟨#[49, 50, 120]⟩ : ByteArray), (⟨#[49, 50, 51, 52, 53, 54, 55, 56, 57, 48, 49, 50, 51]⟩ : ByteArray), (⟨#[48, 48]⟩ : ByteArray), (⟨#[55, 57, 57, 50, 55, 51, 57, 56, 55, 49, 51]⟩ : ByteArray)] (by simp) (by simp) (by omega) (Int.le_refl _) (by omega)
    refine ⟨x.data.toList, ?_, ?_⟩
    · simp only [e1, Option.bind_some, if_true, e2, ← B_eta]
      exact Ev.now _
    · have : ∀ x ∈ [(⟨#[]⟩ : ByteArray), (⟨#[49]⟩ : ByteArray), (⟨#[49, 50, 120]⟩ : ByteArray), (⟨#[49, 50, 51, 52, 53, 54, 55, 56, 57, 48, 49, 50, 51]⟩ : ByteArray), (⟨#[48, 48]⟩ : ByteArray), (⟨#[55, 57, 57, 50, 55, 51, 57, 56, 55, 49, 51]⟩ : ByteArray)], x.data.toList.length ≤ 1000 := by decide
      exact this x hx
  | false =>
    obtain ⟨x, a2, s2, e2, p2⟩ := pick_f l hl a1 s1 a1 9 (by omega) (Int.le_refl _) (by omega)
    obtain ⟨t, a3, s3, e3, ht, p3⟩ := digits_f l hl a2 s2 (1 + x) (by omega) (by omega) (by omega) (by omega)
    obtain ⟨c, a4, s4, e4, p4⟩ := one_f l hl a3 s3 a3 2 (by omega) (Int.le_refl _) (by omega)
    have hw : wrap64 (1 + x) = 1 + x := w_id (by omega) (by omega)
    have hc := specCheck_f t (by omega)
    cases hL : longB 1 11 t with
    | false =>
      rw [hL] at hc
      refine ⟨t, ?_, by omega⟩
      simp only [e1, Option.bind_some, Bool.false_eq_true, if_false, e2, hw]
      refine Ev.bind e3 ?_
      exact Ev.bind hc (Ev.now _)
    | true =>
      rw [hL] at hc
      cases c with
      | true =>
        refine ⟨t ++ [dg (dcheck t)], ?_, by simp; omega⟩
        simp only [e1, Option.bind_some, Bool.false_eq_true, if_false, e2, hw]
        refine Ev.bind e3 ?_
        refine Ev.bind hc ?_
        simp only [if_true, e4, Option.bind_some, B_size, List.length_singleton, if_pos (show t.length + 1 ≤ 9223372036854775807 by omega), B_append]
        exact Ev.now _
      | false =>
        refine ⟨t, ?_, by omega⟩
        simp only [e1, Option.bind_some, Bool.false_eq_true, if_false, e2, hw]
        refine Ev.bind e3 ?_
        refine Ev.bind hc ?_
        simp only [if_true, e4, Option.bind_some, Bool.false_eq_true, if_false]
        exact Ev.now _
theorem drawIsDoubled_f (l : List Int) (hl : Bytes l) : ∃ t, Ev (fun k => spec_DrawIsDoubledRight.f k l) (B t) ∧ t.length ≤ 1000 := by
  obtain ⟨t, e, h⟩ := drawDoubled_f l hl
  exact ⟨t, Ev.bind e (Ev.now _), h⟩
end Go.Proofs.YtemhkdpokbmmcaaGreatDoor.PB
