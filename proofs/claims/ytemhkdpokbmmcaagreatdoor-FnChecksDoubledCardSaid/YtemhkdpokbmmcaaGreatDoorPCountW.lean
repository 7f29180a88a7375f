/- How many right numbers: what both sides' loops compute. -/
import Derived.Test.YtemhkdpokbmmcaaGreatDoorPCount
namespace Go.Proofs.YtemhkdpokbmmcaaGreatDoor.PB
set_option linter.unusedVariables false
open Go.RowKit Go.Proofs.YtemhkdpokbmmcaaGreatDoorW.PrintWords Go.Proofs.YtemhkdpokbmmcaaGreatDoor.MCD
def TEN13 : Int := 10000000000000
theorem idx_cast {m : Int} (hm : 0 < m) (y : Int) : y % m = ((y % m).toNat : Int) := by
  have := Int.emod_nonneg y (show m ≠ 0 by omega); omega
theorem mul_small {d : Nat} {w : Int} (hd : d < 10) (hw : 0 ≤ w ∧ w ≤ 12) : 0 ≤ (d : Int) * w ∧ (d : Int) * w ≤ 108 := by
  refine ⟨Int.mul_nonneg (by omega) hw.1, ?_⟩
  calc (d : Int) * w ≤ 9 * 12 := Int.mul_le_mul (by omega) hw.2 hw.1 (by omega)
    _ = 108 := rfl
section
variable (m : Int) (ws : List Int) (hs : schemeOk m ws = true)
include hs
theorem implC_l2 (w x : Int) (hw : 0 ≤ w ∧ w ≤ 12) (hx : 0 ≤ x) (r : Nat) (hr : r < m.toNat) (v : List Int) (wi L : Int) (Lv : Int) (R : Int × Bool) : ∀ (n d : Nat) (nx : List Int) (S : Int), 10 - d = n → d ≤ 10 → Good m.toNat nx S → S + (n : Int) * x ≤ TEN13 →
    Ev (fun k => impl_CountRight.l1 k w (addD m w r x nx (rg10.drop d)) ws L wi v Lv ((r + 1 : Nat) : Int) m ws) R →
    Ev (fun k => impl_CountRight.l2 k w nx (r : Int) x ws L wi v Lv (r : Int) (d : Int) m ws) R
  | 0, d, nx, S, hn, hd, hg, hS, K => by
    obtain ⟨h2, h13, _⟩ := schemeOk_len hs
    have e : d = 10 := by omega
    subst e
    refine Ev.step (fun k => impl_CountRight.l2.eq_2 ..) ?_
    simp only [if_neg (show ¬ (((10 : Nat) : Int) < 10) by omega), w_succ (show r < 9223372036854775807 by omega)]
    exact K
  | n + 1, d, nx, S, hn, hd, hg, hS, K => by
    obtain ⟨h2, h13, _⟩ := schemeOk_len hs
    have hm : 0 < m := by omega
    have hnx : ((n + 1 : Nat) : Int) * x = (n : Int) * x + x := by rw [show ((n + 1 : Nat) : Int) = (n : Int) + 1 from rfl, Int.add_mul, Int.one_mul]
    have hnx0 : 0 ≤ (n : Int) * x := Int.mul_nonneg (by omega) hx
    rw [hnx] at hS
    unfold TEN13 at hS
    have hdw := mul_small (show d < 10 by omega) hw
    have t0 : Int.tmod ((r : Int) + (d : Int) * w) m = ((((r : Int) + (d : Int) * w) % m).toNat : Int) := by rw [Int.tmod_eq_emod_of_nonneg (by omega)]; exact idx_cast hm _
    have hi := idx_lt hm ((r : Int) + (d : Int) * w)
    have hat := hg.at _ hi
    refine Ev.step (fun k => impl_CountRight.l2.eq_2 ..) ?_
    simp only [if_pos (show ((d : Int) < 10) by omega), if_neg (show ¬ m = 0 by omega), w_id (show -9223372036854775808 ≤ (d : Int) * w by omega) (by omega), w_id (show -9223372036854775808 ≤ (r : Int) + (d : Int) * w by omega) (by omega), t0, hg.len, toNat_cast, rd_nat, if_pos (show (0 : Int) ≤ ((((r : Int) + (d : Int) * w) % m).toNat : Int) by omega), if_pos (show ((((r : Int) + (d : Int) * w) % m).toNat : Int) < (m.toNat : Int) by omega), w_id (show -9223372036854775808 ≤ nx.getD (((r : Int) + (d : Int) * w) % m).toNat 0 + x by omega) (by omega), w_succ (show d < 9223372036854775807 by omega)]
    rw [rg10_drop (show d < 10 by omega)] at K
    exact implC_l2 w x hw hx r hr v wi L Lv R n (d + 1) _ (S + x) (by omega) (by omega) (hg.add _ hi x hx) (by unfold TEN13; omega) K
theorem implC_l1 (w : Int) (hw : 0 ≤ w ∧ w ≤ 12) (v : List Int) (T : Int) (hv : Good m.toNat v T) (wi L : Int) (R : Int × Bool) : ∀ (n r : Nat) (nx : List Int) (S : Int), v.length - r = n → r ≤ v.length → Good m.toNat nx S → S + 10 * (v.drop r).sum ≤ TEN13 →
    Ev (fun k => impl_CountRight.l0 k (stepR m w r (v.drop r) nx) ws L (wrap64 (wi + 1)) m ws) R →
    Ev (fun k => impl_CountRight.l1 k w nx ws L wi v (v.length : Int) (r : Int) m ws) R
  | 0, r, nx, S, hn, hr, hg, hS, K => by
    refine Ev.step (fun k => impl_CountRight.l1.eq_2 ..) ?_
    simp only [if_neg (show ¬ ((r : Int) < (v.length : Int)) by omega)]
    rw [List.drop_eq_nil_of_le (by omega)] at K
    exact K
  | n + 1, r, nx, S, hn, hr, hg, hS, K => by
    obtain ⟨h2, h13, _⟩ := schemeOk_len hs
    have hr' : r < v.length := by omega
    have hx : 0 ≤ v[r] := hv.pos _ (List.getElem_mem _)
    rw [List.drop_eq_getElem_cons hr'] at K hS
    rw [List.sum_cons] at hS
    have hp := (sum_ge (v.drop (r + 1)) (fun y hy => hv.pos y (List.mem_of_mem_drop hy))).1
    have hlen := hv.len
    refine Ev.step (fun k => impl_CountRight.l1.eq_2 ..) ?_
    simp only [if_pos (show ((r : Int) < (v.length : Int)) by omega), if_pos (show (0 : Int) ≤ (r : Int) by omega), rd_nat, getD_lt v r 0 hr']
    refine implC_l2 m ws hs w v[r] hw hx r (by omega) v wi L _ R 10 0 nx S rfl (by omega) hg (by omega) ?_
    have hg2 := Good.addD (show 0 < m by omega) hx rg10 hg (r := r) (w := w)
    refine implC_l1 w hw v T hv wi L R n (r + 1) _ _ (by omega) (by omega) hg2 (by rw [show (rg10.length : Int) = 10 from rfl]; omega) K
theorem implC_l3 (v : List Int) (T : Int) (hv : Good m.toNat v T) (hT : T ≤ TEN13) : ∀ (n r : Nat) (acc : Int), v.length - r = n → r ≤ v.length → 0 ≤ acc → acc + 6 * (v.drop r).sum ≤ 6 * TEN13 → Ev (fun k => impl_CountRight.l3 k acc v (v.length : Int) (r : Int) m ws) (acc + cntL m r (v.drop r), true)
  | 0, r, acc, hn, hr, h0, hS => by
    refine Ev.step (fun k => impl_CountRight.l3.eq_2 ..) ?_
    simp only [if_neg (show ¬ ((r : Int) < (v.length : Int)) by omega)]
    rw [List.drop_eq_nil_of_le (by omega)]
    refine Ev.id (Ev.now _) ?_
    simp [cntL]
  | n + 1, r, acc, hn, hr, h0, hS => by
    obtain ⟨h2, h13, _, h12, _⟩ := schemeOk_len hs
    have hr' : r < v.length := by omega
    have hx : 0 ≤ v[r] := hv.pos _ (List.getElem_mem _)
    have hlen := hv.len
    have hlm : ((chk m (r : Int)).length : Int) ≤ 6 := by
      have := (chk_len ⟨m.toNat, by omega⟩ ⟨r, by omega⟩ (by show 2 ≤ m.toNat; omega) (by show r < m.toNat; omega)).2.2.2.1
      simp only [Int.toNat_of_nonneg (show 0 ≤ m by omega)] at this
      omega
    rw [List.drop_eq_getElem_cons hr'] at hS ⊢
    rw [List.sum_cons] at hS
    have hp := (sum_ge (v.drop (r + 1)) (fun y hy => hv.pos y (List.mem_of_mem_drop hy))).1
    have hp1 : 0 ≤ v[r] * ((chk m (r : Int)).length : Int) := Int.mul_nonneg hx (by omega)
    have hp2 : v[r] * ((chk m (r : Int)).length : Int) ≤ v[r] * 6 := Int.mul_le_mul_of_nonneg_left hlm hx
    unfold TEN13 at hS
    refine Ev.step (fun k => impl_CountRight.l3.eq_2 ..) ?_
    simp only [if_pos (show ((r : Int) < (v.length : Int)) by omega), if_pos (show (0 : Int) ≤ (r : Int) by omega), rd_nat, getD_lt v r 0 hr']
    refine Ev.bind (checks_f m (r : Int) ws h2 h13 (by omega)) ?_
    simp only [List.length_map, w_id (show -9223372036854775808 ≤ v[r] * ((chk m (r : Int)).length : Int) by omega) (by omega), w_id (show -9223372036854775808 ≤ acc + v[r] * ((chk m (r : Int)).length : Int) by omega) (by omega), w_succ (show r < 9223372036854775807 by omega)]
    have := implC_l3 v T hv hT n (r + 1) (acc + v[r] * ((chk m (r : Int)).length : Int)) (by omega) (by omega) (by omega) (by unfold TEN13; omega)
    simp only [cntL]
    rw [← Int.add_assoc]
    exact this
theorem implC_l0 : ∀ (n i : Nat) (v : List Int) (T : Int), ws.length - i = n → i ≤ ws.length → Good m.toNat v T → 10 ^ (ws.length - i) * T ≤ 1000000000000 → 1 ≤ T → Ev (fun k => impl_CountRight.l0 k v ws (ws.length : Int) (i : Int) m ws) (cntL m 0 (vecR m (ws.drop i) v), true)
  | 0, i, v, T, hn, hi, hg, hT, h1 => by
    refine Ev.step (fun k => impl_CountRight.l0.eq_2 ..) ?_
    simp only [if_neg (show ¬ ((i : Int) < (ws.length : Int)) by omega)]
    rw [List.drop_eq_nil_of_le (by omega)]
    rw [show ws.length - i = 0 by omega] at hT
    have hT' : T ≤ 1000000000000 := by simpa using hT
    have := implC_l3 m ws hs v T hg (by unfold TEN13; omega) v.length 0 0 (by omega) (by omega) (by omega) (by rw [List.drop_zero, hg.sum]; unfold TEN13; omega)
    rw [Int.zero_add, List.drop_zero] at this
    exact this
  | n + 1, i, v, T, hn, hi, hg, hT, h1 => by
    obtain ⟨h2, h13, _, h12, _⟩ := schemeOk_len hs
    have hi' : i < ws.length := by omega
    have hb := ws_bound hs ws[i] (List.getElem_mem _)
    have hp : (1 : Int) ≤ 10 ^ (ws.length - (i + 1)) := by
      have : (0 : Int) < 10 ^ (ws.length - (i + 1)) := Int.pow_pos (by omega)
      omega
    have hT2 : 10 ^ (ws.length - (i + 1)) * (10 * T) ≤ (1000000000000 : Int) := by
      have e : ws.length - i = (ws.length - (i + 1)) + 1 := by omega
      rw [e, Int.pow_succ, Int.mul_assoc] at hT
      exact hT
    have hT3 : 10 * T ≤ 1000000000000 := by
      have : 1 * (10 * T) ≤ 10 ^ (ws.length - (i + 1)) * (10 * T) := Int.mul_le_mul_of_nonneg_right hp (by omega)
      omega
    refine Ev.step (fun k => impl_CountRight.l0.eq_2 ..) ?_
    rw [List.drop_eq_getElem_cons hi']
    simp only [if_pos (show ((i : Int) < (ws.length : Int)) by omega), if_pos (show (0 : Int) ≤ (i : Int) by omega), if_pos (show 0 ≤ m by omega), if_pos (show m.toNat ≤ 35184372088832 by omega), rd_nat, getD_lt ws i 0 hi']
    refine implC_l1 m ws hs ws[i] hb v T hg (i : Int) _ _ v.length 0 _ 0 (by omega) (by omega) (Good.zero _) (by rw [List.drop_zero, hg.sum]; unfold TEN13; omega) ?_
    rw [List.drop_zero, w_succ (show i < 9223372036854775807 by omega)]
    exact implC_l0 n (i + 1) (stepV m ws[i] v) (10 * T) (by omega) (by omega) (hg.stepV (by omega)) hT2 (by omega)
theorem implCount_ok : Ev (fun k => impl_CountRight.f k m ws) (countR m ws, true) := by
  obtain ⟨h2, h13, _, h12, _⟩ := schemeOk_len hs
  unfold impl_CountRight.f
  refine Ev.bind (isScheme_f m ws (by omega)) ?_
  rw [hs]
  simp only [if_true, if_pos (show 0 ≤ m by omega), if_pos (show m.toNat ≤ 35184372088832 by omega), Option.bind_some, List.length_replicate, if_pos (show 0 < (m.toNat : Int) by omega)]
  have hp : (10 : Int) ^ (ws.length - 0) * 1 ≤ 1000000000000 := by
    rw [Int.mul_one, Nat.sub_zero]
    calc (10 : Int) ^ ws.length ≤ 10 ^ 12 := by exact_mod_cast Nat.pow_le_pow_right (by omega) h12
      _ = 1000000000000 := by decide
  have := implC_l0 m ws hs ws.length 0 (start m) 1 (by omega) (by omega) (Good.start (by omega)) hp (by omega)
  rw [List.drop_zero] at this
  exact this
end
end Go.Proofs.YtemhkdpokbmmcaaGreatDoor.PB
