/- What doubled sums miss, on both sides; exchanged neighbours. -/
import Derived.Test.YtemhkdpokbmmcaaGreatDoorPParse2
namespace Go.Proofs.YtemhkdpokbmmcaaGreatDoor.PB
set_option linter.unusedSimpArgs false
set_option linter.unusedVariables false
open Go.RowKit Go.Proofs.YtemhkdpokbmmcaaGreatDoorW.PrintWords Go.Proofs.YtemhkdpokbmmcaaGreatDoor.MCD
def PD (a b : Nat) : Bool := (dbl (a : Int) + (b : Int) - dbl (b : Int) - (a : Int)) % 10 == 0
theorem missed1_all : ∀ a b : Fin 10, impl_DoubledMissed_1.f (a.val : Int) (b.val : Int) = some (PD a.val b.val) := by decide +kernel
theorem pairs_PD : pairsL PD = [[0, 9]] := by decide +kernel
theorem implDM_f : Ev (fun k => impl_DoubledMissed.f k) [[0, 9]] := by
  unfold impl_DoubledMissed.f
  refine Ev.bind (a := [[0, 9]]) ?_ (Ev.now _)
  rw [← pairs_PD]
  exact pairsOf_f PD _ (fun a b ha hb => missed1_all ⟨a, ha⟩ ⟨b, hb⟩)
theorem cond_all : ∀ a b : Fin 10, (Int.tmod (wrap64 (dsum [dg a.val, dg b.val] - dsum [dg b.val, dg a.val])) 10 = 0) ↔ PD a.val b.val = true := by decide +kernel
theorem specDM_l1 (a : Nat) (ha : a < 10) (K : ∀ acc : List (List Int), acc.length ≤ 10 * (a + 1) → Ev (fun k => spec_DoubledMissed.l0 k acc ((a + 1 : Nat) : Int)) (acc ++ outer PD (a + 1))) : ∀ (n b : Nat) (acc : List (List Int)), 10 - b = n → b ≤ 10 → acc.length ≤ 10 * a + b → Ev (fun k => spec_DoubledMissed.l1 k acc (a : Int) (b : Int)) (acc ++ inner PD a b ++ outer PD (a + 1))
  | 0, b, acc, hn, hb, hl => by
    refine Ev.step (fun k => spec_DoubledMissed.l1.eq_2 ..) ?_
    simp only [if_neg (show ¬ ((b : Int) < 10) by omega), w_succ (show a < 9223372036854775807 by omega), inner_end PD a b (by omega), List.append_nil]
    exact K acc (by omega)
  | n + 1, b, acc, hn, hb, hl => by
    refine Ev.step (fun k => spec_DoubledMissed.l1.eq_2 ..) ?_
    have hb' : b < 10 := by omega
    simp only [if_pos (show ((b : Int) < 10) by omega), w_succ (show a < 9223372036854775807 by omega), w_succ (show b < 9223372036854775807 by omega), if_pos (show (0 : Int) ≤ (a : Int) by omega), if_pos (show (a : Int) ≤ ((a + 1 : Nat) : Int) by omega), if_pos (show ((a + 1 : Nat) : Int) ≤ 11 by omega), if_pos (show (0 : Int) ≤ (b : Int) by omega), if_pos (show (b : Int) ≤ ((b + 1 : Nat) : Int) by omega), if_pos (show ((b + 1 : Nat) : Int) ≤ 11 by omega), toNat_cast, signs_at10 a ha, signs_at10 b hb', B_size, List.length_singleton, if_pos (show 1 + 1 ≤ 9223372036854775807 by omega), B_append]
    refine Ev.bind (specDsum_f ([dg a] ++ [dg b]) (by simp)) ?_
    refine Ev.bind (specDsum_f ([dg b] ++ [dg a]) (by simp)) ?_
    have hc := cond_all ⟨a, ha⟩ ⟨b, hb'⟩
    simp only [List.singleton_append, inner_step PD a b hb']
    by_cases hP : PD a b = true
    · simp only [if_pos (hc.2 hP), if_pos hP, if_pos (show acc.length < 5864062014805 by omega)]
      have := specDM_l1 a ha K n (b + 1) (acc ++ [[(a : Int), (b : Int)]]) (by omega) (by omega) (by simp; omega)
      simpa using this
    · simp only [if_neg (fun h => hP (hc.1 h)), if_neg hP]
      exact specDM_l1 a ha K n (b + 1) acc (by omega) (by omega) (by omega)
theorem specDM_l0 : ∀ (n a : Nat) (acc : List (List Int)), 10 - a = n → a ≤ 10 → acc.length ≤ 10 * a → Ev (fun k => spec_DoubledMissed.l0 k acc (a : Int)) (acc ++ outer PD a)
  | 0, a, acc, hn, ha, hl => by
    refine Ev.step (fun k => spec_DoubledMissed.l0.eq_2 ..) ?_
    simp only [if_neg (show ¬ ((a : Int) < 10) by omega), outer_end PD a (by omega), List.append_nil]
    exact Ev.now _
  | n + 1, a, acc, hn, ha, hl => by
    refine Ev.step (fun k => spec_DoubledMissed.l0.eq_2 ..) ?_
    simp only [if_pos (show ((a : Int) < 10) by omega), w_succ (show a < 9223372036854775807 by omega), outer_step PD a (by omega)]
    rw [← List.append_assoc]
    exact specDM_l1 a (by omega) (fun acc h => specDM_l0 n (a + 1) acc (by omega) (by omega) h) (10 - (a + 1)) (a + 1) acc rfl (by omega) (by omega)
theorem specDM_f : Ev (fun k => spec_DoubledMissed.f k) [[0, 9]] := by
  have := specDM_l0 10 0 [] rfl (by omega) (by simp)
  rw [← pairs_PD]
  exact this
theorem fRows_09 : Ev (fun k => laws_fRows.f k [[0, 9]] [[0, 9]]) true := by
  unfold laws_fRows.f
  simp only [if_true]
  refine Ev.step (fun k => laws_fRows.l0.eq_2 ..) ?_
  have e : rd_L2 [[0, 9]] 0 = [0, 9] := rfl
  have hw : wrap64 (0 + 1) = 1 := by rw [w_id (by omega) (by omega)]; rfl
  simp only [List.length_singleton, if_pos (show (0 : Int) < ((1 : Nat) : Int) by omega), if_pos (show (0 : Int) ≤ 0 by omega), e, hw]
  refine Ev.bind (fSame_f [0, 9] (by simp)) ?_
  simp only [if_true]
  refine Ev.step (fun k => laws_fRows.l0.eq_2 ..) ?_
  simp only [List.length_singleton, if_neg (show ¬ ((1 : Int) < ((1 : Nat) : Int)) by omega)]
  exact Ev.now _
theorem swap_dsum (p q : List UInt8) (a b : UInt8) (ha : dig a = true) (hb : dig b = true) (hne : a ≠ b) (h : dsum (p ++ a :: b :: q) % 10 = 0) :
    (dsum (p ++ b :: a :: q) % 10 == 0) = (decide (a = 48 ∧ b = 57) || decide (a = 57 ∧ b = 48)) := by
  have hr : ∀ x y : UInt8, dsum (p ++ x :: y :: q) = ds false q.reverse + (((if (if q.reverse.length % 2 = 1 then !false else false) = true then dbl (dv y) else dv y) + (if (!(if q.reverse.length % 2 = 1 then !false else false)) = true then dbl (dv x) else dv x)) + ds (if q.reverse.length % 2 = 1 then !false else false) p.reverse) := by
    intro x y
    unfold dsum
    have e : (p ++ x :: y :: q).reverse = q.reverse ++ (y :: x :: p.reverse) := by simp
    rw [e, ds_append]
    simp only [ds, Bool.not_not]
    omega
  rw [hr] at h ⊢
  generalize (if q.reverse.length % 2 = 1 then !false else false) = o at h ⊢
  have r1 := dv_range ha
  have r2 := dv_range hb
  have e1 := dv_dig ha
  have e2 := dv_dig hb
  have hab : dv a ≠ dv b := fun e => hne (UInt8.toNat_inj.1 (by omega))
  generalize hS : ds false q.reverse + ds o p.reverse = S at *
  have key := swap_all ⟨(dv a).toNat, by omega⟩ ⟨(dv b).toNat, by omega⟩ (by intro e; have := congrArg Fin.val e; simp at this; omega) o ⟨(S % 10).toNat, by omega⟩
  simp only [Int.toNat_of_nonneg r1.1, Int.toNat_of_nonneg r2.1, Int.toNat_of_nonneg (show 0 ≤ S % 10 by omega)] at key
  have c1 : decide (a = 48 ∧ b = 57) = decide ((dv a).toNat = 0 ∧ (dv b).toNat = 9) := decide_eq_decide.2 ⟨fun h => by rw [h.1, h.2]; decide, fun h => ⟨UInt8.toNat_inj.1 (show _ = 48 by omega), UInt8.toNat_inj.1 (show _ = 57 by omega)⟩⟩
  have c2 : decide (a = 57 ∧ b = 48) = decide ((dv a).toNat = 9 ∧ (dv b).toNat = 0) := decide_eq_decide.2 ⟨fun h => by rw [h.1, h.2]; decide, fun h => ⟨UInt8.toNat_inj.1 (show _ = 57 by omega), UInt8.toNat_inj.1 (show _ = 48 by omega)⟩⟩
  rw [c1, c2, ← key (by omega)]
  have : ∀ x y : Int, x % 10 = y % 10 → (x % 10 == 0) = (y % 10 == 0) := fun x y h => by rw [h]
  refine this _ _ ?_
  omega
end Go.Proofs.YtemhkdpokbmmcaaGreatDoor.PB
