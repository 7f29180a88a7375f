/- The plain law of FnExactNextRight. -/
import Derived.Test.YtanjemlodfanjaaDoorPNrImpl
import Derived.Test.YtanjemlodfanjaaDoorMNR7
namespace Go.Proofs.YtanjemlodfanjaaDoor.Pure
open Go.RowKit Go.Proofs.YtanjemlodfanjaaDoorW.PrintWords Go.Proofs.YtanjemlodfanjaaDoor.MNR Go.Proofs.YtanjemlodfanjaaDoor.PB
theorem toIntS_l0 (xs : List Int) (hl : xs.length ≤ 9223372036854775806) : ∀ (n i : Nat) (z : List Int), xs.length - i = n → i ≤ xs.length → z.length = xs.length → z.take i = xs.take i → Ev (fun k => laws_toIntS.l0 k xs z (i : Int)) xs
  | 0, i, z, hn, hi, hz, ht => by
    refine Ev.step (fun k => laws_toIntS.l0.eq_2 ..) ?_
    simp only [if_neg (show ¬ (i : Int) < (xs.length : Int) by omega)]
    have : z = xs := by
      rw [List.take_of_length_le (by omega), List.take_of_length_le (by omega)] at ht
      exact ht
    rw [this]
    exact Ev.now _
  | n + 1, i, z, hn, hi, hz, ht => by
    have hi' : i < xs.length := by omega
    refine Ev.step (fun k => laws_toIntS.l0.eq_2 ..) ?_
    simp only [if_pos (show (i : Int) < (xs.length : Int) by omega), if_pos (show (0 : Int) ≤ (i : Int) by omega), hz, rd_nat, getD_lt xs i 0 hi', toNat_cast, w_succ (show i < 9223372036854775807 by omega)]
    refine toIntS_l0 xs hl n (i + 1) (z.set i xs[i]) (by omega) (by omega) (by rw [List.length_set]; exact hz) ?_
    apply List.ext_getElem
    · simp [hz]
    · intro j h1 h2
      rw [List.getElem_take, List.getElem_take, List.getElem_set]
      split
      · rename_i e; subst e; rfl
      · rename_i e
        have hj : j < i := by simp at h1; omega
        have h3 : (z.take i)[j]'(by simp; omega) = (xs.take i)[j]'(by simp; omega) := by simp only [ht]
        rw [List.getElem_take, List.getElem_take] at h3
        exact h3
theorem toScheme_f (m : Int) (xs : List Int) (hl : xs.length ≤ 35184372088832) : Ev (fun k => laws_toScheme.f k m xs) (m, xs) := by
  unfold laws_toScheme.f
  refine Ev.bind (a := xs) ?_ (Ev.now _)
  unfold laws_toIntS.f
  simp only [toNat_cast, if_pos (show (0 : Int) ≤ (xs.length : Int) by omega), if_pos hl]
  exact toIntS_l0 xs (by omega) xs.length 0 _ (by omega) (by omega) (by simp) (by simp)
theorem eqIntS_l0 (xs : List Int) (hl : xs.length ≤ 9223372036854775806) : ∀ (n i : Nat), xs.length - i = n → i ≤ xs.length → Ev (fun k => laws_eqIntS.l0 k xs xs (i : Int)) true
  | 0, i, hn, hi => by
    refine Ev.step (fun k => laws_eqIntS.l0.eq_2 ..) ?_
    simp only [if_neg (show ¬ (i : Int) < (xs.length : Int) by omega)]
    exact Ev.now _
  | n + 1, i, hn, hi => by
    refine Ev.step (fun k => laws_eqIntS.l0.eq_2 ..) ?_
    simp only [if_pos (show (i : Int) < (xs.length : Int) by omega), if_pos (show (0 : Int) ≤ (i : Int) by omega), if_true, w_succ (show i < 9223372036854775807 by omega)]
    exact eqIntS_l0 xs hl n (i + 1) (by omega) (by omega)
theorem eqScheme_f (m : Int) (xs : List Int) (hl : xs.length ≤ 9223372036854775806) : Ev (fun k => laws_eqScheme.f k m xs m xs) true := by
  unfold laws_eqScheme.f laws_eqIntS.f
  simp only [if_true]
  exact Ev.bind (eqIntS_l0 xs hl xs.length 0 (by omega) (by omega)) (Ev.now _)
def NextRight : Prop := ∀ (a : Int) (l : List Int) (s : ByteArray), (Lit.int .i64 a).wf = true → l.length ≤ maxLen → (∀ x ∈ l, (Lit.int .i64 x).wf = true) → s.size ≤ maxLen → ∃ k, laws_FnExactNextRight.f k a l s = some true
theorem sz_f (m : Int) (xs : List Int) (hl : xs.length ≤ maxLen) : laws_szScheme.f m xs 1048576 = some (if xs.length ≤ 1048576 then (1048576 : Int) - (xs.length : Int) else -1) := by
  unfold maxLen at hl
  unfold laws_szScheme.f laws_szIntS.f
  rw [w_id (by omega) (by omega)]
  by_cases h : xs.length ≤ 1048576
  · rw [if_neg (by omega), if_pos h]
    show (if (1048576 : Int) - (xs.length : Int) < 0 then some (-1) else some (1048576 - (xs.length : Int))) = _
    rw [if_neg (by omega)]
  · rw [if_pos (by omega), if_neg h]; rfl
theorem nextRight : NextRight := by
  intro a xs s ha hl hw hs
  apply Ev.rounds
  unfold laws_FnExactNextRight.f
  rw [B_eta s]
  generalize s.data.toList = l
  rw [sz_f a xs hl]
  simp only [Option.bind_some, B_size]
  by_cases h1 : (l.length : Int) > 1048576
  · simp only [if_pos h1]
    exact Ev.now _
  simp only [if_neg h1]
  by_cases h2 : xs.length ≤ 1048576
  · simp only [if_pos h2, if_neg (show ¬ ((1048576 : Int) - (xs.length : Int) < 0) by omega)]
    have ts := toScheme_f a xs (by omega)
    refine Ev.bind ts ?_
    refine Ev.bind (spec_f a xs l (by omega) (by omega)) ?_
    refine Ev.bind ts ?_
    refine Ev.bind (impl_f a xs l (by omega) (by omega)) ?_
    simp only [if_true, bne_self_eq_false]
    refine Ev.step (fun k => laws_FnExactNextRight.j0.eq_2 ..) ?_
    simp only [Bool.false_eq_true, if_false]
    refine Ev.bind ts ?_
    exact Ev.bind (eqScheme_f a xs (by omega)) (Ev.now _)
  · simp only [if_neg h2]
    exact Ev.now _
end Go.Proofs.YtanjemlodfanjaaDoor.Pure
