/- Chapter 7, plain: digits, checks, sums, schemes, the next right number as a search. No program. -/
import Derived.Test.YtemhkdpokbmmcaaGreatDoorPBase
namespace Go.Proofs.YtemhkdpokbmmcaaGreatDoor.PB
set_option linter.unusedVariables false
open Go.RowKit Go.Proofs.YtemhkdpokbmmcaaGreatDoorW.PrintWords
/-- A byte's value as a digit, as Go computes it. -/
def dv (b : UInt8) : Int := ((b.toNat : Int) - 48) % 256
def dig (b : UInt8) : Bool := decide (48 ≤ b.toNat ∧ b.toNat ≤ 57)
def signs : List UInt8 := [48, 49, 50, 51, 52, 53, 54, 55, 56, 57, 88]
def digits : List UInt8 := [48, 49, 50, 51, 52, 53, 54, 55, 56, 57]
/-- The number of a check's sign, or -1. -/
def ckI (b : UInt8) : Int := if 48 ≤ b.toNat ∧ b.toNat ≤ 57 then (b.toNat : Int) - 48 else if b.toNat = 88 then 10 else -1
/-- A digit's byte; a check's. -/
def dg (d : Nat) : UInt8 := UInt8.ofNat (48 + d)
def sg (c : Nat) : UInt8 := signs.getD c 0
def schemeOk (m : Int) (ws : List Int) : Bool := decide (2 ≤ m) && decide (m ≤ 13) && (decide (1 ≤ ws.length) && decide (ws.length ≤ 12)) && ws.all (fun w => decide (0 ≤ w) && decide (w ≤ m - 1))
def wsum : List Int → List UInt8 → Int
  | w :: ws, d :: l => dv d * w + wsum ws l
  | _, _ => 0
def numOk (m : Int) (ws : List Int) (l : List UInt8) : Bool := schemeOk m ws && (decide (l.length = ws.length + 1) && ((l.take ws.length).all dig && decide (0 ≤ ckI (l.getD ws.length 0))))
/-- The shape of a number: n digits and a check. -/
inductive Nm : Nat → List UInt8 → Prop
  | nil {c : UInt8} : 0 ≤ ckI c → Nm 0 [c]
  | cons {n : Nat} {d : UInt8} {l : List UInt8} : dig d = true → Nm n l → Nm (n + 1) (d :: l)
theorem Nm.length {n : Nat} {l : List UInt8} (h : Nm n l) : l.length = n + 1 := by
  induction h with
  | nil => rfl
  | cons _ _ ih => simp [ih]
theorem dv_dig {d : UInt8} (h : dig d = true) : dv d = (d.toNat : Int) - 48 := by
  unfold dig at h; unfold dv
  have := of_decide_eq_true h
  omega
theorem dv_range {d : UInt8} (h : dig d = true) : 0 ≤ dv d ∧ dv d ≤ 9 := by
  rw [dv_dig h]; have := of_decide_eq_true h; omega
theorem dv_any (d : UInt8) : 0 ≤ dv d ∧ dv d ≤ 255 := by unfold dv; omega
theorem dg_toNat {d : Nat} (h : d < 10) : (dg d).toNat = 48 + d := by
  unfold dg; rw [UInt8.toNat_ofNat']; omega
theorem dig_dg {d : Nat} (h : d < 10) : dig (dg d) = true := by unfold dig; rw [dg_toNat h]; exact decide_eq_true (by omega)
theorem dv_dg {d : Nat} (h : d < 10) : dv (dg d) = d := by rw [dv_dig (dig_dg h), dg_toNat h]; omega
theorem dg_of {d : UInt8} (h : dig d = true) : d = dg (d.toNat - 48) := by
  have := of_decide_eq_true h
  apply UInt8.toNat_inj.1
  rw [dg_toNat (by omega)]; omega
theorem sg_ckI : ∀ c, c < 11 → ckI (sg c) = c := by decide
theorem sg_digit : ∀ c, c < 10 → sg c = dg c := by decide
theorem ckI_range (b : UInt8) : -1 ≤ ckI b ∧ ckI b ≤ 10 := by unfold ckI; split; omega; split <;> omega
theorem sg_of {b : UInt8} (h : 0 ≤ ckI b) : b = sg (ckI b).toNat := by
  unfold ckI at h ⊢
  split
  · rename_i h1
    rw [sg_digit _ (by omega)]
    apply UInt8.toNat_inj.1
    rw [dg_toNat (by omega)]; omega
  · rename_i h1
    rw [if_neg h1] at h
    split
    · rename_i h2
      apply UInt8.toNat_inj.1
      rw [h2]; rfl
    · rename_i h2; rw [if_neg h2] at h; omega
theorem wsum_nonneg : ∀ (ws : List Int) (l : List UInt8), (∀ w ∈ ws, 0 ≤ w) → 0 ≤ wsum ws l
  | [], _, _ => by simp [wsum]
  | _ :: _, [], _ => by simp [wsum]
  | w :: ws, d :: l, h => by
    simp only [wsum]
    have h1 := wsum_nonneg ws l (fun x hx => h x (by simp [hx]))
    have h2 := Int.mul_nonneg (dv_any d).1 (h w (by simp))
    omega
theorem wsum_le : ∀ (ws : List Int) (l : List UInt8), (∀ w ∈ ws, 0 ≤ w ∧ w ≤ 12) → wsum ws l ≤ 3060 * ws.length
  | [], _, _ => by simp [wsum]
  | _ :: _, [], _ => by simp [wsum]; omega
  | w :: ws, d :: l, h => by
    simp only [wsum, List.length_cons]
    have h1 := wsum_le ws l (fun x hx => h x (by simp [hx]))
    have h2 := h w (by simp)
    have h3 := dv_any d
    have h4 : dv d * w ≤ 255 * 12 := Int.mul_le_mul h3.2 h2.2 h2.1 (by omega)
    omega
theorem wsum_snoc : ∀ (ws : List Int) (l : List UInt8) (d : UInt8), l.length < ws.length → wsum ws (l ++ [d]) = wsum ws l + dv d * ws.getD l.length 0
  | [], l, d, h => by simp at h
  | w :: ws, [], d, _ => by simp [wsum]
  | w :: ws, e :: l, d, h => by
    simp only [List.cons_append, wsum, List.length_cons]
    rw [wsum_snoc ws l d (by simpa using h)]
    simp only [List.getD_cons_succ]
    omega
theorem wsum_take : ∀ (ws : List Int) (l : List UInt8) (n : Nat), ws.length ≤ n → wsum ws (l.take n) = wsum ws l
  | [], l, n, _ => by simp [wsum]
  | w :: ws, [], n, _ => by simp [wsum]
  | w :: ws, e :: l, 0, h => by simp at h
  | w :: ws, e :: l, n + 1, h => by
    simp only [List.take_succ_cons, wsum]
    rw [wsum_take ws l n (by simpa using h)]
end Go.Proofs.YtemhkdpokbmmcaaGreatDoor.PB
