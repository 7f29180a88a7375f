/- A scheme's text, on both sides. -/
import Derived.Test.YtemhkdpokbmmcaaGreatDoorPDraw
import Derived.Test.YtemhkdpokbmmcaaGreatDoorA1
import Derived.Lib.ItoaNum
import Derived.Lib.Join
namespace Go.Proofs.YtemhkdpokbmmcaaGreatDoor.PB
set_option linter.unusedVariables false
open Go.RowKit Go.Proofs.YtemhkdpokbmmcaaGreatDoorW.PrintWords Go.Proofs.YtemhkdpokbmmcaaGreatDoor.MCD
/-- A number's numeral (below 20). -/
def num (n : Nat) : List UInt8 := if n < 10 then [dg n] else [49, dg (n - 10)]
def joinT : List (List UInt8) → List UInt8
  | [] => []
  | [x] => x
  | x :: y :: l => x ++ 44 :: joinT (y :: l)
def txt (m : Int) (ws : List Int) : List UInt8 := num m.toNat ++ 58 :: joinT (ws.map fun w => num w.toNat)
theorem num_length (n : Nat) : (num n).length ≤ 2 := by unfold num; split <;> simp
theorem joinT_length : ∀ xs : List (List UInt8), (∀ x ∈ xs, x.length ≤ 2) → (joinT xs).length ≤ 3 * xs.length
  | [], _ => by simp [joinT]
  | [x], h => by have := h x (by simp); simp [joinT]; omega
  | x :: y :: l, h => by
    have h1 := h x (by simp)
    have h2 := joinT_length (y :: l) (fun z hz => h z (by simp [hz]))
    simp only [joinT, List.length_append, List.length_cons] at h2 ⊢
    omega
theorem decDigits_num (n : Nat) (h : n < 20) : Lib.decDigits n = num n := by
  unfold num
  by_cases c : n < 10
  · rw [if_pos c, Lib.decDigits, dif_pos c]; rfl
  · rw [if_neg c, Lib.decDigits, dif_neg c]
    have e1 : n / 10 = 1 := by omega
    have e2 : n % 10 = n - 10 := by omega
    rw [e1, e2, Lib.decDigits, dif_pos (by omega)]; rfl
theorem itoa_f (w : Int) (h0 : 0 ≤ w) (h : w < 20) : strconv_Itoa_150.f w = some (B (num w.toNat)) := by
  unfold strconv_Itoa_150.f
  rw [if_pos ⟨h0, by omega⟩, decDigits_num _ (by omega)]; rfl
theorem l1Num_all : ∀ n : Fin 20, spec_l1Num.f 2 (n.val : Int) = some (B (num n.val)) := by decide +kernel
theorem l1Num_mono : ∀ (k : Nat) (a : Int) (r : ByteArray), spec_l1Num.f k a = some r → spec_l1Num.f (k + 1) a = some r
  | 0, a, r, h => by simp [spec_l1Num.f] at h
  | k + 1, a, r, h => by
    rw [spec_l1Num.f.eq_2] at h ⊢
    by_cases c : a < 10
    · rw [if_pos c] at h ⊢; exact h
    · rw [if_neg c] at h ⊢
      obtain ⟨t, h1, h2⟩ := Option.bind_eq_some_iff.1 h
      rw [l1Num_mono k _ t h1]
      exact h2
theorem l1Num_f (w : Int) (h0 : 0 ≤ w) (h : w < 20) : Ev (fun k => spec_l1Num.f k w) (B (num w.toNat)) := by
  refine ⟨2, fun k hk => ?_⟩
  obtain ⟨j, rfl⟩ : ∃ j, k = 2 + j := ⟨k - 2, by omega⟩
  induction j with
  | zero =>
    have := l1Num_all ⟨w.toNat, by omega⟩
    simp only [Int.toNat_of_nonneg h0] at this
    exact this
  | succ j ih => exact l1Num_mono _ _ _ (ih (by omega))
theorem intercalate_join : ∀ xs : List (List UInt8), Lib.join xs [44] = joinT xs
  | [] => rfl
  | [x] => by simp [Lib.join, joinT, List.intercalate]
  | x :: y :: l => by
    have := intercalate_join (y :: l)
    unfold Lib.join at this ⊢
    simp only [List.intercalate, List.intersperse, List.flatten_cons] at this ⊢
    simp only [joinT]
    rw [← this]
    rfl
theorem joinT_snoc : ∀ (xs : List (List UInt8)) (x : List UInt8), xs ≠ [] → joinT (xs ++ [x]) = joinT xs ++ 44 :: x
  | [], x, h => absurd rfl h
  | [y], x, _ => rfl
  | y :: z :: l, x, _ => by
    have := joinT_snoc (z :: l) x (by simp)
    simp only [List.cons_append] at this ⊢
    simp only [joinT, this, List.append_assoc, List.cons_append]
section
variable (m : Int) (ws : List Int) (hs : schemeOk m ws = true)
include hs
theorem implText_l0 : ∀ (n i : Nat), ws.length - i = n → i ≤ ws.length → Ev (fun k => impl_SchemeText.l0 k ((ws.take i).map fun w => B (num w.toNat)) ws (ws.length : Int) (i : Int) m ws) (B (txt m ws), true)
  | 0, i, hn, hi => by
    obtain ⟨h2, h13, _, h12, _⟩ := schemeOk_len hs
    refine Ev.step (f := fun _ => some (B (txt m ws), true)) (fun k => ?_) (Ev.now _)
    have et : ws.take i = ws := List.take_of_length_le (by omega)
    have em : (ws.map fun w => B (num w.toNat)).map (·.data.toList) = ws.map fun w => num w.toNat := by
      rw [List.map_map]
      exact List.map_congr_left fun w _ => B_data _
    have hjl : (joinT (ws.map fun w => num w.toNat)).length ≤ 36 := by
      have := joinT_length (ws.map fun w => num w.toNat) (fun x hx => by obtain ⟨w, _, rfl⟩ := List.mem_map.1 hx; exact num_length _)
      rw [List.length_map] at this; omega
    have ej : strings_Join.f (ws.map fun w => B (num w.toNat)) (⟨#[44]⟩ : ByteArray) = some (B (joinT (ws.map fun w => num w.toNat))) := by
      unfold strings_Join.f
      have e44 : (⟨#[44]⟩ : ByteArray).data.toList = [44] := rfl
      rw [em, e44, intercalate_join, if_pos ⟨by rw [List.length_map]; omega, by omega⟩]; rfl
    have hnl := num_length m.toNat
    have e1 : B (num m.toNat) ++ (⟨#[58]⟩ : ByteArray) = B (num m.toNat ++ [58]) := B_append _ [58]
    rw [impl_SchemeText.l0.eq_2, if_neg (by omega), itoa_f m (by omega) (by omega), Option.bind_some, if_pos (by rw [B_size]; omega), et, ej, Option.bind_some, e1, if_pos (by rw [B_size, B_size, List.length_append]; simp; omega), B_append, List.append_assoc]
    rfl
  | n + 1, i, hn, hi => by
    have hi' : i < ws.length := by omega
    obtain ⟨h2, h13, _, h12, _⟩ := schemeOk_len hs
    have hb := (schemeOk_len hs).2.2.2.2 ws[i] (List.getElem_mem _)
    refine Ev.step (fun k => impl_SchemeText.l0.eq_2 ..) ?_
    simp only [if_pos (show ((i : Int) < (ws.length : Int)) by omega), if_pos (show (0 : Int) ≤ (i : Int) by omega), rd_nat, getD_lt ws i 0 hi', itoa_f ws[i] hb.1 (by omega), Option.bind_some, List.length_map, List.length_take, if_pos (show min i ws.length < 8796093022208 by omega), w_succ (show i < 9223372036854775807 by omega)]
    have := implText_l0 n (i + 1) (by omega) (by omega)
    rw [← List.take_append_getElem hi', List.map_append] at this
    exact this
theorem implText_f : Ev (fun k => impl_SchemeText.f k m ws) (B (txt m ws), true) := by
  obtain ⟨h2, h13, _, h12, _⟩ := schemeOk_len hs
  unfold impl_SchemeText.f
  refine Ev.bind (isScheme_f m ws (by omega)) ?_
  rw [hs]
  simp only [if_true]
  exact implText_l0 m ws hs ws.length 0 (by omega) (by omega)
theorem ckText_l0 : ∀ (n i : Nat), ws.length - i = n → i ≤ ws.length → Ev (fun k => spec_ckText.l0 k (B (num m.toNat ++ 58 :: joinT ((ws.take i).map fun w => num w.toNat))) ws (ws.length : Int) (i : Int)) (B (txt m ws))
  | 0, i, hn, hi => by
    refine Ev.step (fun k => spec_ckText.l0.eq_2 ..) ?_
    simp only [if_neg (show ¬ ((i : Int) < (ws.length : Int)) by omega), List.take_of_length_le (show ws.length ≤ i by omega)]
    exact Ev.now _
  | n + 1, i, hn, hi => by
    have hi' : i < ws.length := by omega
    obtain ⟨h2, h13, _, h12, _⟩ := schemeOk_len hs
    have hb := (schemeOk_len hs).2.2.2.2 ws[i] (List.getElem_mem _)
    have hnl := num_length m.toNat
    have hnw := num_length ws[i].toNat
    have hjl : (joinT ((ws.take i).map fun w => num w.toNat)).length ≤ 36 := by
      have := joinT_length ((ws.take i).map fun w => num w.toNat) (fun x hx => by obtain ⟨w, _, rfl⟩ := List.mem_map.1 hx; exact num_length _)
      rw [List.length_map, List.length_take] at this; omega
    have ih := ckText_l0 n (i + 1) (by omega) (by omega)
    rw [← List.take_append_getElem hi', List.map_append] at ih
    refine Ev.step (fun k => spec_ckText.l0.eq_2 ..) ?_
    simp only [if_pos (show ((i : Int) < (ws.length : Int)) by omega), if_pos (show (0 : Int) ≤ (i : Int) by omega), rd_nat, getD_lt ws i 0 hi', w_succ (show i < 9223372036854775807 by omega)]
    by_cases hi0 : i = 0
    · subst hi0
      simp only [if_neg (show ¬ (((0 : Nat) : Int) > 0) by omega)]
      refine Ev.bind (l1Num_f ws[0] hb.1 (by omega)) ?_
      have e : B (num m.toNat ++ 58 :: joinT ((ws.take 0).map fun w => num w.toNat)) ++ B (num ws[0].toNat) = B (num m.toNat ++ 58 :: joinT (((ws.take 0).map fun w => num w.toNat) ++ [num ws[0].toNat])) := by
        rw [B_append]; simp [joinT]
      simp only [e, B_size]
      rw [List.take_zero] at hjl ⊢
      simp only [if_pos (show (num m.toNat ++ 58 :: joinT (([] : List Int).map fun w : Int => num w.toNat)).length + (num ws[0].toNat).length ≤ 9223372036854775807 by simp [joinT]; omega)]
      exact ih
    · have hne : (ws.take i).map (fun w => num w.toNat) ≠ [] := by
        intro h
        have : ((ws.take i).map (fun w => num w.toNat)).length = 0 := by rw [h]; rfl
        rw [List.length_map, List.length_take] at this; omega
      have e1 : B (num m.toNat ++ 58 :: joinT ((ws.take i).map fun w => num w.toNat)) ++ (⟨#[44]⟩ : ByteArray) = B ((num m.toNat ++ 58 :: joinT ((ws.take i).map fun w => num w.toNat)) ++ [44]) := B_append _ [44]
      have e2 : ((num m.toNat ++ 58 :: joinT ((ws.take i).map fun w => num w.toNat)) ++ [44]) ++ num ws[i].toNat = num m.toNat ++ 58 :: joinT (((ws.take i).map fun w => num w.toNat) ++ [num ws[i].toNat]) := by
        rw [joinT_snoc _ _ hne]; simp
      have hL : (num m.toNat ++ 58 :: joinT ((ws.take i).map fun w => num w.toNat)).length ≤ 39 := by rw [List.length_append, List.length_cons]; omega
      simp only [if_pos (show ((i : Int) > 0) by omega), B_size, if_pos (show (num m.toNat ++ 58 :: joinT ((ws.take i).map fun w => num w.toNat)).length + 1 ≤ 9223372036854775807 by omega), e1]
      refine Ev.bind (l1Num_f ws[i] hb.1 (by omega)) ?_
      have hL2 : ((num m.toNat ++ 58 :: joinT ((ws.take i).map fun w : Int => num w.toNat)) ++ [44]).length + (num ws[i].toNat).length ≤ 9223372036854775807 := by rw [List.length_append, List.length_singleton]; omega
      simp only [B_size, if_pos hL2, B_append, e2]
      exact ih
theorem ckText_f : Ev (fun k => spec_ckText.f k m ws) (B (txt m ws)) := by
  obtain ⟨h2, h13, _, h12, _⟩ := schemeOk_len hs
  unfold spec_ckText.f
  have hnl := num_length m.toNat
  refine Ev.bind (l1Num_f m (by omega) (by omega)) ?_
  have e1 : B (num m.toNat) ++ (⟨#[58]⟩ : ByteArray) = B (num m.toNat ++ [58]) := B_append _ [58]
  simp only [B_size, if_pos (show (num m.toNat).length + 1 ≤ 9223372036854775807 by omega), e1]
  exact ckText_l0 m ws hs ws.length 0 (by omega) (by omega)
end
theorem implText (m : Int) (ws : List Int) (hl : ws.length ≤ 9223372036854775806) : Ev (fun k => impl_SchemeText.f k m ws) (if schemeOk m ws = true then (B (txt m ws), true) else (⟨#[]⟩, false)) := by
  cases hs : schemeOk m ws with
  | true => exact implText_f m ws hs
  | false =>
    unfold impl_SchemeText.f
    refine Ev.bind (isScheme_f m ws hl) ?_
    rw [hs]; exact Ev.now _
theorem specText (m : Int) (ws : List Int) (hl : ws.length ≤ 9223372036854775806) : Ev (fun k => spec_SchemeText.f k m ws) (if schemeOk m ws = true then (B (txt m ws), true) else (⟨#[]⟩, false)) := by
  unfold spec_SchemeText.f
  refine Ev.bind (ckGood_f m ws hl) ?_
  cases hs : schemeOk m ws with
  | false => exact Ev.now _
  | true =>
    simp only [if_true]
    exact Ev.bind (ckText_f m ws hs) (Ev.now _)
end Go.Proofs.YtemhkdpokbmmcaaGreatDoor.PB
