/- Missed digits: both sides' pairs, and what FindsAllSingles and FindsAllSwaps say. -/
import Derived.Test.YtemhkdpokbmmcaaGreatDoorPDraw
import Derived.Test.YtemhkdpokbmmcaaGreatDoorA0
import Derived.Test.YtemhkdpokbmmcaaGreatDoorA1
namespace Go.Proofs.YtemhkdpokbmmcaaGreatDoor.PB
set_option linter.unusedVariables false
open Go.RowKit Go.Proofs.YtemhkdpokbmmcaaGreatDoorW.PrintWords Go.Proofs.YtemhkdpokbmmcaaGreatDoor.MCD
def inner (P : Nat → Nat → Bool) (a b : Nat) : List (List Int) := ((rg10.drop b).filter (P a)).map fun x : Nat => [(a : Int), (x : Int)]
def outer (P : Nat → Nat → Bool) (a : Nat) : List (List Int) := (rg10.drop a).flatMap fun x => inner P x (x + 1)
def pairsL (P : Nat → Nat → Bool) : List (List Int) := outer P 0
theorem outer_step (P : Nat → Nat → Bool) (a : Nat) (h : a < 10) : outer P a = inner P a (a + 1) ++ outer P (a + 1) := by
  unfold outer
  rw [rg10_drop h, List.flatMap_cons]
theorem outer_end (P : Nat → Nat → Bool) (a : Nat) (h : 10 ≤ a) : outer P a = [] := by
  unfold outer
  rw [List.drop_eq_nil_of_le (by simpa [rg10] using h)]; rfl
theorem inner_step (P : Nat → Nat → Bool) (a b : Nat) (h : b < 10) : inner P a b = if P a b = true then [(a : Int), (b : Int)] :: inner P a (b + 1) else inner P a (b + 1) := by
  unfold inner
  rw [rg10_drop h, List.filter_cons]
  split <;> rfl
theorem inner_end (P : Nat → Nat → Bool) (a b : Nat) (h : 10 ≤ b) : inner P a b = [] := by
  unfold inner
  rw [List.drop_eq_nil_of_le (by simpa [rg10] using h)]; rfl
section
variable (P : Nat → Nat → Bool) (p : Int → Int → Option Bool) (hp : ∀ a b : Nat, a < 10 → b < 10 → p (a : Int) (b : Int) = some (P a b))
include hp
theorem pairsOf_l1 (a : Nat) (ha : a < 10) (K : ∀ acc : List (List Int), acc.length ≤ 10 * (a + 1) → Ev (fun k => impl_pairsOf.l0 k p acc ((a + 1 : Nat) : Int)) (acc ++ outer P (a + 1))) : ∀ (n b : Nat) (acc : List (List Int)), 10 - b = n → b ≤ 10 → acc.length ≤ 10 * a + b → Ev (fun k => impl_pairsOf.l1 k p acc (a : Int) (b : Int) (a : Int)) (acc ++ inner P a b ++ outer P (a + 1))
  | 0, b, acc, hn, hb, hl => by
    refine Ev.step (fun k => impl_pairsOf.l1.eq_2 ..) ?_
    simp only [if_neg (show ¬ ((b : Int) < 10) by omega), w_succ (show a < 9223372036854775807 by omega), inner_end P a b (by omega), List.append_nil]
    exact K acc (by omega)
  | n + 1, b, acc, hn, hb, hl => by
    refine Ev.step (fun k => impl_pairsOf.l1.eq_2 ..) ?_
    simp only [if_pos (show ((b : Int) < 10) by omega), hp a b ha (by omega), Option.bind_some, w_succ (show b < 9223372036854775807 by omega), inner_step P a b (by omega)]
    cases hP : P a b with
    | true =>
      simp only [if_true, if_pos (show acc.length < 5864062014805 by omega)]
      have := pairsOf_l1 a ha K n (b + 1) (acc ++ [[(a : Int), (b : Int)]]) (by omega) (by omega) (by simp; omega)
      simpa using this
    | false =>
      exact pairsOf_l1 a ha K n (b + 1) acc (by omega) (by omega) (by omega)
theorem pairsOf_l0 : ∀ (n a : Nat) (acc : List (List Int)), 10 - a = n → a ≤ 10 → acc.length ≤ 10 * a → Ev (fun k => impl_pairsOf.l0 k p acc (a : Int)) (acc ++ outer P a)
  | 0, a, acc, hn, ha, hl => by
    refine Ev.step (fun k => impl_pairsOf.l0.eq_2 ..) ?_
    simp only [if_neg (show ¬ ((a : Int) < 10) by omega), outer_end P a (by omega), List.append_nil]
    exact Ev.now _
  | n + 1, a, acc, hn, ha, hl => by
    refine Ev.step (fun k => impl_pairsOf.l0.eq_2 ..) ?_
    simp only [if_pos (show ((a : Int) < 10) by omega), w_succ (show a < 9223372036854775807 by omega), outer_step P a (by omega)]
    rw [← List.append_assoc]
    exact pairsOf_l1 P p hp a (by omega) (fun acc h => pairsOf_l0 n (a + 1) acc (by omega) (by omega) h) (10 - (a + 1)) (a + 1) acc rfl (by omega) (by omega)
theorem pairsOf_f : Ev (fun k => impl_pairsOf.f k p) (pairsL P) := by
  have := pairsOf_l0 P p hp 10 0 [] rfl (by omega) (by simp)
  exact this
end
/-- Which pairs a weight misses. -/
def missB (m w : Int) (a b : Nat) : Bool := (((b : Int) - (a : Int)) * w) % m == 0
def missL (m w : Int) : List (List Int) := pairsL (missB m w)
theorem tmod_zero (x m : Int) : (Int.tmod x m == 0) = (x % m == 0) := by
  have : (Int.tmod x m = 0) ↔ (x % m = 0) := by
    rw [← Int.dvd_iff_tmod_eq_zero, ← Int.dvd_iff_emod_eq_zero]
  exact decide_eq_decide.2 this
theorem diff_small (a b : Nat) (ha : a < 10) (hb : b < 10) (w : Int) (hw : -4611686018427387904 ≤ w ∧ w ≤ 4611686018427387904) (hw2 : w ≤ 100000000 ∧ -100000000 ≤ w) : wrap64 (wrap64 ((b : Int) - (a : Int)) * w) = ((b : Int) - (a : Int)) * w := by
  have e : wrap64 ((b : Int) - (a : Int)) = (b : Int) - (a : Int) := w_id (by omega) (by omega)
  rw [e]
  have h1 : ((b : Int) - (a : Int)) * w ≤ 1000000000 := by
    have : -9 ≤ (b : Int) - (a : Int) ∧ (b : Int) - (a : Int) ≤ 9 := by omega
    generalize (b : Int) - (a : Int) = d at this
    rcases Int.le_total 0 d with h | h
    · calc d * w ≤ d * 100000000 := Int.mul_le_mul_of_nonneg_left (by omega) h
        _ ≤ 1000000000 := by omega
    · calc d * w = (-d) * (-w) := by rw [Int.neg_mul_neg]
        _ ≤ (-d) * 100000000 := Int.mul_le_mul_of_nonneg_left (by omega) (by omega)
        _ ≤ 1000000000 := by omega
  have h2 : -1000000000 ≤ ((b : Int) - (a : Int)) * w := by
    have : -9 ≤ (b : Int) - (a : Int) ∧ (b : Int) - (a : Int) ≤ 9 := by omega
    generalize (b : Int) - (a : Int) = d at this
    rcases Int.le_total 0 d with h | h
    · have := Int.mul_le_mul_of_nonneg_left (show -w ≤ 100000000 by omega) h
      rw [Int.mul_neg] at this; omega
    · have := Int.mul_le_mul_of_nonneg_left (show w ≤ 100000000 by omega) (show 0 ≤ -d by omega)
      rw [Int.neg_mul] at this; omega
  exact w_id (by omega) (by omega)
theorem missed_f (m w : Int) (ws : List Int) (hm : m ≠ 0) (hw : -100000000 ≤ w ∧ w ≤ 100000000) : Ev (fun k => impl_Scheme_missed.f k m ws w) (missL m w) := by
  unfold impl_Scheme_missed.f
  refine pairsOf_f (missB m w) _ (fun a b ha hb => ?_)
  unfold impl_Scheme_missed_1.f
  rw [if_neg hm, diff_small a b ha hb w (by omega) (by omega), tmod_zero]
  rfl
theorem abs_f (x : Int) (h : -100000000 ≤ x ∧ x ≤ 100000000) : spec_l1Abs.f x = some (x.natAbs : Int) := by
  unfold spec_l1Abs.f spec_l1Most.f
  rw [w_id (show -9223372036854775808 ≤ -x by omega) (by omega)]
  split
  · simp only [Option.bind_some]; congr 1; omega
  · simp only [Option.bind_some]; congr 1; omega
section
variable (m x : Int) (hm : m ≠ 0) (hx : -100000000 ≤ x ∧ x ≤ 100000000)
include hm hx
theorem ckMissed_l1 (a : Nat) (ha : a < 10) (K : ∀ acc : List (List Int), acc.length ≤ 10 * (a + 1) → Ev (fun k => spec_ckMissed.l0 k x m acc ((a + 1 : Nat) : Int)) (acc ++ outer (missB m (x.natAbs : Int)) (a + 1))) : ∀ (n b : Nat) (acc : List (List Int)), 10 - b = n → b ≤ 10 → acc.length ≤ 10 * a + b → Ev (fun k => spec_ckMissed.l1 k x m acc (a : Int) (b : Int)) (acc ++ inner (missB m (x.natAbs : Int)) a b ++ outer (missB m (x.natAbs : Int)) (a + 1))
  | 0, b, acc, hn, hb, hl => by
    refine Ev.step (fun k => spec_ckMissed.l1.eq_2 ..) ?_
    simp only [if_neg (show ¬ ((b : Int) < 10) by omega), w_succ (show a < 9223372036854775807 by omega), inner_end _ a b (by omega), List.append_nil]
    exact K acc (by omega)
  | n + 1, b, acc, hn, hb, hl => by
    refine Ev.step (fun k => spec_ckMissed.l1.eq_2 ..) ?_
    simp only [if_pos (show ((b : Int) < 10) by omega), abs_f x hx, Option.bind_some, if_neg hm, diff_small a b ha (by omega) (x.natAbs : Int) (by omega) (by omega), w_succ (show b < 9223372036854775807 by omega), inner_step _ a b (by omega)]
    have e : (Int.tmod (((b : Int) - (a : Int)) * (x.natAbs : Int)) m = 0) ↔ missB m (x.natAbs : Int) a b = true := by
      unfold missB
      rw [← tmod_zero]
      simp
    by_cases hP : missB m (x.natAbs : Int) a b = true
    · simp only [if_pos (e.2 hP), if_pos hP, if_pos (show acc.length < 5864062014805 by omega)]
      have := ckMissed_l1 a ha K n (b + 1) (acc ++ [[(a : Int), (b : Int)]]) (by omega) (by omega) (by simp; omega)
      simpa using this
    · simp only [if_neg (fun h => hP (e.1 h)), if_neg hP]
      exact ckMissed_l1 a ha K n (b + 1) acc (by omega) (by omega) (by omega)
theorem ckMissed_l0 : ∀ (n a : Nat) (acc : List (List Int)), 10 - a = n → a ≤ 10 → acc.length ≤ 10 * a → Ev (fun k => spec_ckMissed.l0 k x m acc (a : Int)) (acc ++ outer (missB m (x.natAbs : Int)) a)
  | 0, a, acc, hn, ha, hl => by
    refine Ev.step (fun k => spec_ckMissed.l0.eq_2 ..) ?_
    simp only [if_neg (show ¬ ((a : Int) < 10) by omega), outer_end _ a (by omega), List.append_nil]
    exact Ev.now _
  | n + 1, a, acc, hn, ha, hl => by
    refine Ev.step (fun k => spec_ckMissed.l0.eq_2 ..) ?_
    simp only [if_pos (show ((a : Int) < 10) by omega), w_succ (show a < 9223372036854775807 by omega), outer_step _ a (by omega)]
    rw [← List.append_assoc]
    exact ckMissed_l1 m x hm hx a (by omega) (fun acc h => ckMissed_l0 n (a + 1) acc (by omega) (by omega) h) (10 - (a + 1)) (a + 1) acc rfl (by omega) (by omega)
theorem ckMissed_f : Ev (fun k => spec_ckMissed.f k x m) (missL m (x.natAbs : Int)) := by
  have := ckMissed_l0 m x hm hx 10 0 [] rfl (by omega) (by simp)
  exact this
end
/-- Whether a scheme finds all single errors, and all swaps. -/
def singlesB (m : Int) (ws : List Int) : Bool := !(ws.any fun w => decide (0 < (missL m w).length))
def swapsB (m : Int) : List Int → Bool
  | a :: b :: ws => decide ((missL m ((a - b).natAbs : Int)).length = 0) && swapsB m (b :: ws)
  | _ => true
theorem indexFunc_all (xs : List Int) (Q : Int → Bool) (hl : xs.length ≤ 9223372036854775806) : ∀ (n i : Nat), xs.length - i = n → ∃ r : Int, (∀ (p : Int → Option Bool) (k : Nat), (∀ x ∈ xs, p x = some (Q x)) → n + 1 ≤ k → slices_IndexFunc_int_int.l0 k xs p (xs.length : Int) (i : Int) = some r) ∧ decide (r ≥ 0) = (xs.drop i).any Q
  | 0, i, hn => by
    refine ⟨-1, fun p k hp hk => ?_, ?_⟩
    · obtain ⟨k, rfl⟩ : ∃ j, k = j + 1 := ⟨k - 1, by omega⟩
      rw [slices_IndexFunc_int_int.l0.eq_2, if_neg (by omega)]
    · rw [List.drop_eq_nil_of_le (by omega)]; rfl
  | n + 1, i, hn => by
    have hi' : i < xs.length := by omega
    rw [List.drop_eq_getElem_cons hi', List.any_cons]
    cases hc : Q xs[i] with
    | true =>
      refine ⟨(i : Int), fun p k hp hk => ?_, ?_⟩
      · obtain ⟨k, rfl⟩ : ∃ j, k = j + 1 := ⟨k - 1, by omega⟩
        rw [slices_IndexFunc_int_int.l0.eq_2, if_pos (by omega), if_pos (by omega), if_pos (by omega), rd_nat, getD_lt xs i 0 hi', hp _ (List.getElem_mem _), hc, Option.bind_some, if_pos rfl]
      · rw [Bool.true_or]; exact decide_eq_true (by omega)
    | false =>
      obtain ⟨r, h1, h2⟩ := indexFunc_all xs Q hl n (i + 1) (by omega)
      refine ⟨r, fun p k hp hk => ?_, by rw [Bool.false_or]; exact h2⟩
      obtain ⟨k, rfl⟩ : ∃ j, k = j + 1 := ⟨k - 1, by omega⟩
      rw [slices_IndexFunc_int_int.l0.eq_2, if_pos (by omega), if_pos (by omega), if_pos (by omega), rd_nat, getD_lt xs i 0 hi', hp _ (List.getElem_mem _), hc, Option.bind_some, if_neg (by simp), w_succ (by omega)]
      exact h1 p k hp (by omega)
theorem Ev.all {α : Type} (xs : List Int) (p : Nat → Int → Option α) (Q : Int → α) (hp : ∀ x ∈ xs, Ev (fun k => p k x) (Q x)) : ∃ K, ∀ k, K ≤ k → ∀ x ∈ xs, p k x = some (Q x) := by
  induction xs with
  | nil => exact ⟨0, fun _ _ x hx => by simp at hx⟩
  | cons a xs ih =>
    obtain ⟨K, hK⟩ := ih (fun x hx => hp x (by simp [hx]))
    obtain ⟨K', hK'⟩ := hp a (by simp)
    refine ⟨max K K', fun k hk x hx => ?_⟩
    rcases List.mem_cons.1 hx with rfl | hx
    · exact hK' k (by omega)
    · exact hK k (by omega) x hx
theorem containsFunc_f (xs : List Int) (p : Nat → Int → Option Bool) (Q : Int → Bool) (hp : ∀ x ∈ xs, Ev (fun k => p k x) (Q x)) (hl : xs.length ≤ 9223372036854775806) : Ev (fun k => slices_ContainsFunc_int_int.f k xs (fun y => p k y)) (xs.any Q) := by
  obtain ⟨K, hK⟩ := Ev.all xs p Q hp
  obtain ⟨r, h1, h2⟩ := indexFunc_all xs Q hl xs.length 0 (by omega)
  refine ⟨max K (xs.length + 1), fun k hk => ?_⟩
  unfold slices_ContainsFunc_int_int.f slices_IndexFunc_int_int.f
  have := h1 (fun y => p k y) k (fun x hx => hK k (by omega) x hx) (by omega)
  rw [show ((0 : Nat) : Int) = 0 from rfl] at this
  show (slices_IndexFunc_int_int.l0 k xs (fun y => p k y) (xs.length : Int) 0).bind _ = _
  rw [this, Option.bind_some, h2, List.drop_zero]
theorem ws_bound {m : Int} {ws : List Int} (h : schemeOk m ws = true) : ∀ w ∈ ws, 0 ≤ w ∧ w ≤ 12 := by
  obtain ⟨_, h13, _, _, hws⟩ := schemeOk_len h
  exact fun w hw => ⟨(hws w hw).1, by have := (hws w hw).2; omega⟩
theorem implSingles_f (m : Int) (ws : List Int) (hl : ws.length ≤ 9223372036854775806) : Ev (fun k => impl_FindsAllSingles.f k m ws) (if schemeOk m ws = true then (singlesB m ws, true) else (false, false)) := by
  unfold impl_FindsAllSingles.f
  refine Ev.bind (isScheme_f m ws hl) ?_
  cases hs : schemeOk m ws with
  | false => exact Ev.now _
  | true =>
    have hb := ws_bound hs
    obtain ⟨h2, _⟩ := schemeOk_len hs
    simp only [if_true]
    refine Ev.bind (containsFunc_f ws (fun k y => impl_FindsAllSingles_1.f k y m ws) (fun w => decide (0 < (missL m w).length)) (fun w hw => ?_) hl) (Ev.now _)
    unfold impl_FindsAllSingles_1.f
    have := hb w hw
    exact Ev.bind (missed_f m w ws (by omega) (by omega)) (Ev.now _)
theorem specSingles_l0 (m : Int) (ws : List Int) (hs : schemeOk m ws = true) : ∀ (n i : Nat), ws.length - i = n → Ev (fun k => spec_FindsAllSingles.l0 k ws (ws.length : Int) (i : Int) m ws) (!((ws.drop i).any fun w => decide (0 < (missL m w).length)), true)
  | 0, i, hn => by
    refine Ev.step (fun k => spec_FindsAllSingles.l0.eq_2 ..) ?_
    simp only [if_neg (show ¬ ((i : Int) < (ws.length : Int)) by omega)]
    rw [List.drop_eq_nil_of_le (by omega)]
    exact Ev.now _
  | n + 1, i, hn => by
    have hi' : i < ws.length := by omega
    obtain ⟨h2, h13, _, h12, _⟩ := schemeOk_len hs
    have hb := ws_bound hs ws[i] (List.getElem_mem _)
    have ha : (ws[i].natAbs : Int) = ws[i] := by omega
    refine Ev.step (fun k => spec_FindsAllSingles.l0.eq_2 ..) ?_
    rw [List.drop_eq_getElem_cons hi', List.any_cons]
    simp only [if_pos (show ((i : Int) < (ws.length : Int)) by omega), if_pos (show (0 : Int) ≤ (i : Int) by omega), rd_nat, getD_lt ws i 0 hi']
    have hc := ckMissed_f m ws[i] (by omega) (by omega)
    rw [ha] at hc
    refine Ev.bind hc ?_
    by_cases hP : 0 < (missL m ws[i]).length
    · simp only [if_pos (show ((missL m ws[i]).length : Int) > 0 by omega), decide_eq_true hP]
      exact Ev.now _
    · simp only [if_neg (show ¬ ((missL m ws[i]).length : Int) > 0 by omega), decide_eq_false hP, Bool.false_or, w_succ (show i < 9223372036854775807 by omega)]
      exact specSingles_l0 m ws hs n (i + 1) (by omega)
theorem specSingles_f (m : Int) (ws : List Int) (hl : ws.length ≤ 9223372036854775806) : Ev (fun k => spec_FindsAllSingles.f k m ws) (if schemeOk m ws = true then (singlesB m ws, true) else (false, false)) := by
  unfold spec_FindsAllSingles.f
  refine Ev.bind (ckGood_f m ws hl) ?_
  cases hs : schemeOk m ws with
  | false => exact Ev.now _
  | true =>
    simp only [if_true]
    exact specSingles_l0 m ws hs ws.length 0 (by omega)
theorem swapsB_step (m : Int) (ws : List Int) (i : Nat) (h : i + 1 < ws.length) : swapsB m (ws.drop i) = (decide ((missL m ((ws[i] - ws[i + 1]).natAbs : Int)).length = 0) && swapsB m (ws.drop (i + 1))) := by
  rw [List.drop_eq_getElem_cons (show i < ws.length by omega), List.drop_eq_getElem_cons h]
  rfl
theorem swapsB_end (m : Int) (ws : List Int) (i : Nat) (h : ws.length ≤ i + 1) : swapsB m (ws.drop i) = true := by
  by_cases h' : i < ws.length
  · rw [List.drop_eq_getElem_cons h', List.drop_eq_nil_of_le h]; rfl
  · rw [List.drop_eq_nil_of_le (by omega)]; rfl
theorem size_f (x : Int) (h : -100000000 ≤ x ∧ x ≤ 100000000) : impl_size.f x = some (x.natAbs : Int) := by
  unfold impl_size.f mx
  rw [w_id (show -9223372036854775808 ≤ -x by omega) (by omega)]
  congr 1
  split <;> omega
theorem implSwaps_l0 (m : Int) (ws : List Int) (hs : schemeOk m ws = true) : ∀ (n i : Nat), ws.length - (i + 1) = n → Ev (fun k => impl_FindsAllSwaps.l0 k ((i + 1 : Nat) : Int) m ws) (swapsB m (ws.drop i), true)
  | 0, i, hn => by
    refine Ev.step (fun k => impl_FindsAllSwaps.l0.eq_2 ..) ?_
    simp only [if_neg (show ¬ (((i + 1 : Nat) : Int) < (ws.length : Int)) by omega), swapsB_end m ws i (by omega)]
    exact Ev.now _
  | n + 1, i, hn => by
    obtain ⟨h2, h13, _, h12, _⟩ := schemeOk_len hs
    have hb := ws_bound hs (ws[i]'(by omega)) (List.getElem_mem _)
    have hb2 := ws_bound hs (ws[i + 1]'(by omega)) (List.getElem_mem _)
    have hw : wrap64 (((i + 1 : Nat) : Int) - 1) = (i : Int) := by rw [w_id (by omega) (by omega)]; omega
    refine Ev.step (fun k => impl_FindsAllSwaps.l0.eq_2 ..) ?_
    simp only [hw, if_pos (show (((i + 1 : Nat) : Int) < (ws.length : Int)) by omega), if_pos (show (0 : Int) ≤ (i : Int) by omega), if_pos (show ((i : Int) < (ws.length : Int)) by omega), if_pos (show (0 : Int) ≤ ((i + 1 : Nat) : Int) by omega), rd_nat, getD_lt ws i 0 (by omega), getD_lt ws (i + 1) 0 (by omega), w_id (show -9223372036854775808 ≤ ws[i] - ws[i + 1] by omega) (by omega), size_f _ (show -100000000 ≤ ws[i] - ws[i + 1] ∧ ws[i] - ws[i + 1] ≤ 100000000 by omega), Option.bind_some]
    refine Ev.bind (missed_f m _ ws (by omega) (by omega)) ?_
    rw [swapsB_step m ws i (by omega)]
    by_cases hP : (missL m ((ws[i] - ws[i + 1]).natAbs : Int)).length = 0
    · simp only [if_neg (show ¬ (((missL m ((ws[i] - ws[i + 1]).natAbs : Int)).length : Int) > 0) by omega), decide_eq_true hP, Bool.true_and, w_succ (show i + 1 < 9223372036854775807 by omega)]
      exact implSwaps_l0 m ws hs n (i + 1) (by omega)
    · simp only [if_pos (show (((missL m ((ws[i] - ws[i + 1]).natAbs : Int)).length : Int) > 0) by omega), decide_eq_false hP, Bool.false_and]
      exact Ev.now _
theorem implSwaps_f (m : Int) (ws : List Int) (hl : ws.length ≤ 9223372036854775806) : Ev (fun k => impl_FindsAllSwaps.f k m ws) (if schemeOk m ws = true then (swapsB m ws, true) else (false, false)) := by
  unfold impl_FindsAllSwaps.f
  refine Ev.bind (isScheme_f m ws hl) ?_
  cases hs : schemeOk m ws with
  | false => exact Ev.now _
  | true =>
    simp only [if_true]
    exact implSwaps_l0 m ws hs _ 0 rfl
theorem specSwaps_l0 (m : Int) (ws : List Int) (hs : schemeOk m ws = true) : ∀ (n i : Nat), ws.length - (i + 1) = n → Ev (fun k => spec_FindsAllSwaps.l0 k ((i + 1 : Nat) : Int) m ws) (swapsB m (ws.drop i), true)
  | 0, i, hn => by
    refine Ev.step (fun k => spec_FindsAllSwaps.l0.eq_2 ..) ?_
    simp only [if_neg (show ¬ (((i + 1 : Nat) : Int) < (ws.length : Int)) by omega), swapsB_end m ws i (by omega)]
    exact Ev.now _
  | n + 1, i, hn => by
    obtain ⟨h2, h13, _, h12, _⟩ := schemeOk_len hs
    have hb := ws_bound hs (ws[i]'(by omega)) (List.getElem_mem _)
    have hb2 := ws_bound hs (ws[i + 1]'(by omega)) (List.getElem_mem _)
    have hw : wrap64 (((i + 1 : Nat) : Int) - 1) = (i : Int) := by rw [w_id (by omega) (by omega)]; omega
    refine Ev.step (fun k => spec_FindsAllSwaps.l0.eq_2 ..) ?_
    simp only [hw, if_pos (show (((i + 1 : Nat) : Int) < (ws.length : Int)) by omega), if_pos (show (0 : Int) ≤ (i : Int) by omega), if_pos (show ((i : Int) < (ws.length : Int)) by omega), if_pos (show (0 : Int) ≤ ((i + 1 : Nat) : Int) by omega), rd_nat, getD_lt ws i 0 (by omega), getD_lt ws (i + 1) 0 (by omega), w_id (show -9223372036854775808 ≤ ws[i] - ws[i + 1] by omega) (by omega)]
    refine Ev.bind (ckMissed_f m _ (by omega) (by omega)) ?_
    rw [swapsB_step m ws i (by omega)]
    by_cases hP : (missL m ((ws[i] - ws[i + 1]).natAbs : Int)).length = 0
    · simp only [if_neg (show ¬ (((missL m ((ws[i] - ws[i + 1]).natAbs : Int)).length : Int) > 0) by omega), decide_eq_true hP, Bool.true_and, w_succ (show i + 1 < 9223372036854775807 by omega)]
      exact specSwaps_l0 m ws hs n (i + 1) (by omega)
    · simp only [if_pos (show (((missL m ((ws[i] - ws[i + 1]).natAbs : Int)).length : Int) > 0) by omega), decide_eq_false hP, Bool.false_and]
      exact Ev.now _
theorem specSwaps_f (m : Int) (ws : List Int) (hl : ws.length ≤ 9223372036854775806) : Ev (fun k => spec_FindsAllSwaps.f k m ws) (if schemeOk m ws = true then (swapsB m ws, true) else (false, false)) := by
  unfold spec_FindsAllSwaps.f
  refine Ev.bind (ckGood_f m ws hl) ?_
  cases hs : schemeOk m ws with
  | false => exact Ev.now _
  | true =>
    simp only [if_true]
    exact specSwaps_l0 m ws hs _ 0 rfl
end Go.Proofs.YtemhkdpokbmmcaaGreatDoor.PB
