/- Chapter 7, the specification's functions as printed: what each computes. -/
import Derived.Test.YtanjemlodfanjaaDoorPCkLaw
import Derived.Test.YtanjemlodfanjaaDoorMNR2
namespace Go.Proofs.YtanjemlodfanjaaDoor.PB
open Go.RowKit Go.Proofs.YtanjemlodfanjaaDoorW.PrintWords Go.Proofs.YtanjemlodfanjaaDoor.MNR
theorem toNat_cast (n : Nat) : ((n : Int)).toNat = n := rfl
theorem l1In_f (a b c : Int) : spec_l1In.f a b c = some (decide (b ≤ a) && decide (a ≤ c)) := by
  unfold spec_l1In.f
  by_cases h : a ≥ b
  · rw [if_pos h, decide_eq_true (show b ≤ a from h)]; rfl
  · rw [if_neg h, decide_eq_false (show ¬ b ≤ a from h)]; rfl
theorem l1All_l0 (lo hi : Int) (ws : List Int) (hl : ws.length ≤ 9223372036854775806) : ∀ (n i : Nat), ws.length - i = n → Ev (fun k => spec_l1All.l0 k lo hi ws (ws.length : Int) (i : Int)) ((ws.drop i).all (fun w => decide (lo ≤ w) && decide (w ≤ hi)))
  | 0, i, hn => by
    refine Ev.step (fun k => spec_l1All.l0.eq_2 ..) ?_
    simp only [if_neg (show ¬ (i : Int) < (ws.length : Int) by omega)]
    rw [List.drop_eq_nil_of_le (by omega)]
    exact Ev.now _
  | n + 1, i, hn => by
    have hi' : i < ws.length := by omega
    refine Ev.step (fun k => spec_l1All.l0.eq_2 ..) ?_
    simp only [if_pos (show (i : Int) < (ws.length : Int) by omega), if_pos (show (0 : Int) ≤ (i : Int) by omega), l1In_f, Option.bind_some, rd_nat]
    rw [List.drop_eq_getElem_cons hi', List.all_cons, getD_lt ws i 0 hi']
    cases hc : (decide (lo ≤ ws[i]) && decide (ws[i] ≤ hi)) with
    | true =>
      simp only [if_true, Bool.true_and, w_succ (show i < 9223372036854775807 by omega)]
      exact l1All_l0 lo hi ws hl n (i + 1) (by omega)
    | false => exact Ev.now _
theorem ckGood_f (m : Int) (ws : List Int) (hl : ws.length ≤ 9223372036854775806) : Ev (fun k => spec_ckGood.f k m ws) (schemeOk m ws) := by
  unfold spec_ckGood.f schemeOk
  simp only [l1In_f, Option.bind_some]
  cases h1 : (decide (2 ≤ m) && decide (m ≤ 13)) with
  | false => exact Ev.now _
  | true =>
    cases h2 : (decide ((1 : Int) ≤ (ws.length : Int)) && decide ((ws.length : Int) ≤ 12)) with
    | false =>
      have : (decide (1 ≤ ws.length) && decide (ws.length ≤ 12)) = false := by
        rw [← h2]; congr 1 <;> exact decide_eq_decide.2 (by omega)
      rw [this]; exact Ev.now _
    | true =>
      have : (decide (1 ≤ ws.length) && decide (ws.length ≤ 12)) = true := by
        rw [← h2]; congr 1 <;> exact decide_eq_decide.2 (by omega)
      rw [this]
      simp at h1
      simp only [if_true, Bool.true_and, w_id (show -9223372036854775808 ≤ m - 1 by omega) (by omega)]
      refine Ev.bind (a := ws.all (fun w => decide (0 ≤ w) && decide (w ≤ m - 1))) ?_ (Ev.now _)
      exact l1All_l0 0 (m - 1) ws hl ws.length 0 (by omega)
theorem ckDigits_l0 (l : List UInt8) (hl : l.length ≤ 9223372036854775806) : ∀ (n i : Nat), l.length - i = n → Ev (fun k => spec_ckDigits.l0 k (B l) (i : Int)) ((l.drop i).all dig)
  | 0, i, hn => by
    refine Ev.step (fun k => spec_ckDigits.l0.eq_2 ..) ?_
    simp only [B_size, if_neg (show ¬ (i : Int) < (l.length : Int) by omega)]
    rw [List.drop_eq_nil_of_le (by omega)]
    exact Ev.now _
  | n + 1, i, hn => by
    have hi' : i < l.length := by omega
    refine Ev.step (fun k => spec_ckDigits.l0.eq_2 ..) ?_
    simp only [B_size, if_pos (show (i : Int) < (l.length : Int) by omega), if_pos (show (0 : Int) ≤ (i : Int) by omega), bt_nat]
    rw [List.drop_eq_getElem_cons hi', List.all_cons, getD_lt l i 0 hi']
    unfold dig
    by_cases h1 : (l[i].toNat : Int) < 48
    · simp only [if_pos h1]
      rw [decide_eq_false (by omega)]; exact Ev.now _
    · simp only [if_neg h1]
      by_cases h2 : (l[i].toNat : Int) > 57
      · simp only [if_pos h2]
        rw [decide_eq_false (by omega)]; exact Ev.now _
      · simp only [if_neg h2]
        rw [decide_eq_true (by omega)]
        simp only [Bool.true_and, w_succ (show i < 9223372036854775807 by omega)]
        exact ckDigits_l0 l hl n (i + 1) (by omega)
theorem ckDigits_f (l : List UInt8) (hl : l.length ≤ 9223372036854775806) : Ev (fun k => spec_ckDigits.f k (B l)) (l.all dig) :=
  ckDigits_l0 l hl l.length 0 (by omega)
set_option maxRecDepth 100000 in
theorem ckCheck_all : ∀ n : Fin 256, spec_ckCheck.f 12 (n.val : Int) = some (ckI (UInt8.ofNat n.val)) := by decide +kernel
theorem ckCheck_mono : ∀ (k : Nat) (x i : Int) (r : Int), spec_ckCheck.l0 k x i = some r → spec_ckCheck.l0 (k + 1) x i = some r
  | 0, x, i, r, h => by simp [spec_ckCheck.l0] at h
  | k + 1, x, i, r, h => by
    rw [spec_ckCheck.l0.eq_2] at h ⊢
    by_cases h1 : i < 11
    · rw [if_pos h1] at h ⊢
      by_cases h2 : 0 ≤ i
      · rw [if_pos h2] at h ⊢
        by_cases h3 : bt (⟨#[48, 49, 50, 51, 52, 53, 54, 55, 56, 57, 88]⟩ : ByteArray) i = x
        · rw [if_pos h3] at h ⊢; exact h
        · rw [if_neg h3] at h ⊢; exact ckCheck_mono k _ _ r h
      · rw [if_neg h2] at h ⊢; exact h
    · rw [if_neg h1] at h ⊢; exact h
theorem ckCheck_f (b : UInt8) : Ev (fun k => spec_ckCheck.f k (b.toNat : Int)) (ckI b) := by
  refine ⟨12, fun k hk => ?_⟩
  obtain ⟨j, rfl⟩ : ∃ j, k = 12 + j := ⟨k - 12, by omega⟩
  induction j with
  | zero =>
    have := ckCheck_all ⟨b.toNat, b.toNat_lt⟩
    simpa using this
  | succ j ih => exact ckCheck_mono _ _ _ _ (ih (by omega))
theorem schemeOk_len {m : Int} {ws : List Int} (h : schemeOk m ws = true) : 2 ≤ m ∧ m ≤ 13 ∧ 1 ≤ ws.length ∧ ws.length ≤ 12 ∧ ∀ w ∈ ws, 0 ≤ w ∧ w ≤ m - 1 := by
  unfold schemeOk at h
  simp only [Bool.and_eq_true, decide_eq_true_eq, List.all_eq_true] at h
  exact ⟨h.1.1.1, h.1.1.2, h.1.2.1, h.1.2.2, h.2⟩
theorem ckNumber_f (m : Int) (ws : List Int) (l : List UInt8) (hl : ws.length ≤ 9223372036854775806) (hs : l.length ≤ 9223372036854775806) : Ev (fun k => spec_ckNumber.f k m ws (B l)) (numOk m ws l) := by
  unfold spec_ckNumber.f numOk
  refine Ev.bind (ckGood_f m ws hl) ?_
  cases hg : schemeOk m ws with
  | false => exact Ev.now _
  | true =>
    simp only [if_true, Bool.true_and, B_size, w_succ (show ws.length < 9223372036854775807 by omega)]
    by_cases h1 : l.length = ws.length + 1
    · rw [decide_eq_true h1]
      simp only [if_pos (show (l.length : Int) = ((ws.length + 1 : Nat) : Int) by omega), if_pos (show (0 : Int) ≤ (ws.length : Int) by omega), if_pos (show (ws.length : Int) ≤ (l.length : Int) by omega), B_extract0, Bool.true_and, if_pos (show (ws.length : Int) < (l.length : Int) by omega), bt_nat]
      refine Ev.bind (ckDigits_f (l.take ws.length) (by rw [List.length_take]; omega)) ?_
      cases hd : (l.take ws.length).all dig with
      | false => exact Ev.now _
      | true => exact Ev.bind (ckCheck_f _) (Ev.now _)
    · rw [decide_eq_false h1]
      simp only [if_neg (show ¬ (l.length : Int) = ((ws.length + 1 : Nat) : Int) by omega), Bool.false_and]
      exact Ev.now _
theorem Nm.of : ∀ (n : Nat) (l : List UInt8), l.length = n + 1 → (l.take n).all dig = true → 0 ≤ ckI (l.getD n 0) → Nm n l
  | 0, [], h, _, _ => by simp at h
  | 0, [c], _, _, h => .nil (by simpa using h)
  | 0, _ :: _ :: _, h, _, _ => by simp at h
  | n + 1, [], h, _, _ => by simp at h
  | n + 1, d :: l, h, ha, hc => by
    simp only [List.take_succ_cons, List.all_cons, Bool.and_eq_true] at ha
    exact .cons ha.1 (Nm.of n l (by simpa using h) ha.2 (by simpa using hc))
theorem numOk_nm {m : Int} {ws : List Int} {l : List UInt8} (h : numOk m ws l = true) : schemeOk m ws = true ∧ Nm ws.length l := by
  unfold numOk at h
  simp only [Bool.and_eq_true, decide_eq_true_eq] at h
  exact ⟨h.1, Nm.of _ _ h.2.1 h.2.2.1 h.2.2.2⟩
theorem Nm.last {n : Nat} {l : List UInt8} (h : Nm n l) : 0 ≤ ckI (l.getD n 0) := by
  induction h with
  | nil h => simpa using h
  | cons _ _ ih => simpa using ih
theorem Nm.split {n : Nat} {l : List UInt8} (h : Nm n l) : ∃ p c, l = p ++ [c] ∧ p.length = n ∧ p.all dig = true ∧ 0 ≤ ckI c := by
  induction h with
  | @nil c h => exact ⟨[], c, rfl, rfl, rfl, h⟩
  | @cons n d l hd hl ih =>
    obtain ⟨p, c, rfl, h1, h2, h3⟩ := ih
    exact ⟨d :: p, c, rfl, by simp [h1], by simp [hd, h2], h3⟩
theorem dig_snoc {p : List UInt8} {d : UInt8} (h : (p ++ [d]).all dig = true) : p.all dig = true ∧ dig d = true := by
  simpa using h
theorem pad_l1 (l : List UInt8) (hl : l.length ≤ 9223372036854775806) : ∀ (n : Nat) (z : List UInt8), l.length - z.length = n → z.length ≤ l.length → Ev (fun k => spec_ckNext.l1 k (B l) (B z)) (B (z ++ List.replicate n 48))
  | 0, z, hn, hz => by
    refine Ev.step (fun k => spec_ckNext.l1.eq_2 ..) ?_
    simp only [B_size, if_neg (show ¬ (z.length : Int) < (l.length : Int) by omega), List.replicate_zero, List.append_nil]
    exact Ev.now _
  | n + 1, z, hn, hz => by
    refine Ev.step (fun k => spec_ckNext.l1.eq_2 ..) ?_
    have e : B z ++ (⟨#[48]⟩ : ByteArray) = B (z ++ [48]) := B_append z [48]
    simp only [B_size, if_pos (show (z.length : Int) < (l.length : Int) by omega), if_pos (show z.length + 1 ≤ 9223372036854775807 by omega), e]
    have := pad_l1 l hl n (z ++ [48]) (by simp; omega) (by simp; omega)
    rw [List.append_assoc] at this
    exact this
theorem next_l0 : ∀ (n : Nat) (p q : List UInt8), p.length = n → p.all dig = true → q ≠ [] → nextN q = none → (p ++ q).length ≤ 9223372036854775806 → Ev (fun k => spec_ckNext.l0 k (B (p ++ q)) ((p.length : Int) - 1)) (B ((nextN (p ++ q)).getD []))
  | 0, p, q, hp, _, _, hn, _ => by
    obtain rfl := List.length_eq_zero_iff.1 hp
    refine Ev.step (fun k => spec_ckNext.l0.eq_2 ..) ?_
    simp only [List.length_nil, if_neg (show ¬ (((0 : Nat) : Int) - 1 ≥ 0) by omega), List.nil_append, hn]
    exact Ev.now _
  | n + 1, p, q, hp, hd, hq, hn, hl => by
    obtain ⟨p, d, rfl⟩ : ∃ p' d, p = p' ++ [d] := by
      rcases List.eq_nil_or_concat p with rfl | ⟨L, b, rfl⟩
      · simp at hp
      · exact ⟨L, b, by simp⟩
    obtain ⟨hpa, hdd⟩ := dig_snoc hd
    have hp' : p.length = n := by simpa using hp
    have hdr := of_decide_eq_true hdd
    have e0 : (((p ++ [d]).length : Int) - 1) = (p.length : Int) := by simp
    have hL : (p ++ [d] ++ q).length = p.length + 1 + q.length := by simp; omega
    have hq1 : 0 < q.length := List.length_pos_iff.2 hq
    have hdq : (p ++ [d] ++ q).getD p.length 0 = d := by simp [List.getD_eq_getElem?_getD]
    rw [hL] at hl
    rw [e0]
    refine Ev.step (fun k => spec_ckNext.l0.eq_2 ..) ?_
    simp only [B_size, bt_nat, hdq, hL, if_pos (show (p.length : Int) ≥ 0 by omega), if_pos (show (p.length : Int) < ((p.length + 1 + q.length : Nat) : Int) by omega)]
    obtain ⟨x, q', rfl⟩ : ∃ x q', q = x :: q' := by
      cases q with
      | nil => exact absurd rfl hq
      | cons x q' => exact ⟨x, q', rfl⟩
    by_cases h57 : (d.toNat : Int) = 57
    · simp only [if_pos h57]
      have hw : wrap64 ((p.length : Int) - 1) = (p.length : Int) - 1 := w_id (by omega) (by omega)
      rw [hw, List.append_assoc]
      refine next_l0 n p (d :: x :: q') hp' hpa (by simp) ?_ ?_
      · simp only [nextN, hn]; rw [if_pos (by omega)]
      · simp at hl ⊢; omega
    · simp only [if_neg h57, toNat_cast, B_extract0, if_pos (show (p.length : Int) ≤ ((p.length + 1 + (x :: q').length : Nat) : Int) by omega)]
      have ht : (p ++ [d] ++ x :: q').take p.length = p := by simp
      have he : Go.Utf8.encode (((d.toNat : Int) + 1) % 256) = B [dg (d.toNat - 48 + 1)] := by
        rw [encode_ascii (by omega) (by omega)]
        congr 2
        apply UInt8.toNat_inj.1
        rw [dg_toNat (by omega), UInt8.toNat_ofNat']
        omega
      have hnx : nextN (p ++ [d] ++ x :: q') = some (p ++ (dg (d.toNat - 48 + 1) :: List.replicate (q'.length + 1) 48)) := by
        rw [List.append_assoc]
        refine nextN_append p _ _ (by simp) ?_
        simp only [List.singleton_append, nextN, hn]
        rw [if_neg (by omega)]
      rw [hnx]
      simp only [ht, he, B_size, List.length_singleton, if_pos (show p.length + 1 ≤ 9223372036854775807 by omega), B_append, Option.getD_some]
      have := pad_l1 (p ++ [d] ++ x :: q') (by rw [hL]; exact hl) (q'.length + 1) (p ++ [dg (d.toNat - 48 + 1)]) (by simp; omega) (by simp)
      rw [List.append_assoc p [dg _]] at this
      exact this
theorem ckNext_f {n : Nat} {l : List UInt8} (h : Nm n l) (hl : l.length ≤ 9223372036854775806) : Ev (fun k => spec_ckNext.f k (B l)) (B ((nextN l).getD [])) := by
  obtain ⟨p, c, rfl, rfl, hd, hc⟩ := h.split
  have hL : (p ++ [c]).length = p.length + 1 := by simp
  have hlast : (p ++ [c]).getD p.length 0 = c := by simp [List.getD_eq_getElem?_getD]
  rw [hL] at hl
  have hw : wrap64 ((((p ++ [c]).length : Nat) : Int) - 1) = (p.length : Int) := by rw [hL, w_id (by omega) (by omega)]; omega
  have hr := ckI_range c
  unfold spec_ckNext.f
  simp only [B_size, hw, bt_nat, hlast, if_pos (show (0 : Int) ≤ (p.length : Int) by omega), if_pos (show (p.length : Int) < (((p ++ [c]).length : Nat) : Int) by omega)]
  refine Ev.bind (ckCheck_f c) ?_
  by_cases h10 : ckI c < 10
  · have e1 : wrap64 (ckI c + 1) = ckI c + 1 := w_id (by omega) (by omega)
    have e2 : wrap64 (ckI c + 2) = ckI c + 2 := w_id (by omega) (by omega)
    have ex : ∀ x : Nat, x < 11 → (⟨#[48, 49, 50, 51, 52, 53, 54, 55, 56, 57, 88]⟩ : ByteArray).extract x (x + 1) = B [sg x] := by decide
    have e3 : (⟨#[48, 49, 50, 51, 52, 53, 54, 55, 56, 57, 88]⟩ : ByteArray).extract (ckI c + 1).toNat (ckI c + 2).toNat = B [sg (ckI c + 1).toNat] := by
      have : (ckI c + 2).toNat = (ckI c + 1).toNat + 1 := by omega
      rw [this]
      exact ex _ (by omega)
    have ht : (p ++ [c]).take p.length = p := by simp
    simp only [if_pos h10, e1, e2, e3, toNat_cast, B_extract0, ht, B_size, B_append, List.length_singleton, if_pos (show (p.length : Int) ≤ (((p ++ [c]).length : Nat) : Int) by omega), if_pos (show 0 ≤ ckI c + 1 by omega), if_pos (show ckI c + 1 ≤ ckI c + 2 by omega), if_pos (show ckI c + 2 ≤ 11 by omega), if_pos (show p.length + 1 ≤ 9223372036854775807 by omega)]
    rw [nextN_append p [c] [sg (ckI c + 1).toNat] (by simp) (by simp only [nextN]; rw [if_pos h10])]
    exact Ev.now _
  · simp only [if_neg h10]
    rw [w_id (show -9223372036854775808 ≤ (p.length : Int) - 1 by omega) (by omega)]
    exact next_l0 p.length p [c] rfl hd (by simp) (by simp only [nextN]; rw [if_neg h10]) (by simp; omega)
theorem ckSum_l0 (l : List UInt8) (ws : List Int) (hw : ∀ w ∈ ws, 0 ≤ w ∧ w ≤ 12) (h12 : ws.length ≤ 12) (hl : ws.length ≤ l.length) : ∀ (n i : Nat), ws.length - i = n → i ≤ ws.length → Ev (fun k => spec_ckSum.l0 k (B l) (wsum ws (l.take i)) ws (ws.length : Int) (i : Int)) (wsum ws l)
  | 0, i, hn, hi => by
    refine Ev.step (fun k => spec_ckSum.l0.eq_2 ..) ?_
    simp only [if_neg (show ¬ (i : Int) < (ws.length : Int) by omega), wsum_take ws l i (by omega)]
    exact Ev.now _
  | n + 1, i, hn, hi => by
    refine Ev.step (fun k => spec_ckSum.l0.eq_2 ..) ?_
    have hi' : i < l.length := by omega
    have hw' : ws.getD i 0 ∈ ws := by rw [getD_lt ws i 0 (by omega)]; exact List.getElem_mem _
    have hb := hw _ hw'
    have ht : l.take (i + 1) = l.take i ++ [l[i]] := by rw [List.take_append_getElem]
    have hlen : (l.take i).length = i := by rw [List.length_take]; omega
    have hs : wsum ws (l.take (i + 1)) = wsum ws (l.take i) + dv l[i] * ws.getD i 0 := by
      rw [ht, wsum_snoc ws _ _ (by rw [hlen]; omega), hlen]
    have hd := dv_any l[i]
    have b1 := wsum_nonneg ws (l.take i) (fun w h => (hw w h).1)
    have b2 := wsum_le ws (l.take i) hw
    have b3 : 0 ≤ dv l[i] * ws.getD i 0 := Int.mul_nonneg hd.1 hb.1
    have b4 : dv l[i] * ws.getD i 0 ≤ 255 * 12 := Int.mul_le_mul hd.2 hb.2 hb.1 (by omega)
    have hm : wrap64 (ws.getD i 0 * dv l[i]) = dv l[i] * ws.getD i 0 := by rw [Int.mul_comm, w_id (by omega) (by omega)]
    have hdv : (((l[i].toNat : Int) - 48) % 256) = dv l[i] := rfl
    simp only [B_size, bt_nat, rd_nat, getD_lt l i 0 hi', hdv, hm, if_pos (show (i : Int) < (ws.length : Int) by omega), if_pos (show (0 : Int) ≤ (i : Int) by omega), if_pos (show (i : Int) < (l.length : Int) by omega), w_succ (show i < 9223372036854775807 by omega), ← hs, w_id (show -9223372036854775808 ≤ wsum ws (l.take (i + 1)) by omega) (show wsum ws (l.take (i + 1)) ≤ 9223372036854775807 by omega)]
    exact ckSum_l0 l ws hw h12 hl n (i + 1) (by omega) (by omega)
theorem wsum_nil (ws : List Int) : wsum ws [] = 0 := by cases ws <;> rfl
theorem ckSum_f (m : Int) (l : List UInt8) (ws : List Int) (hw : ∀ w ∈ ws, 0 ≤ w ∧ w ≤ 12) (h12 : ws.length ≤ 12) (hl : ws.length ≤ l.length) : Ev (fun k => spec_ckSum.f k m ws (B l)) (wsum ws l) := by
  have := ckSum_l0 l ws hw h12 hl ws.length 0 (by omega) (by omega)
  rw [List.take_zero, wsum_nil] at this
  exact this
theorem ckRight_f (m : Int) (ws : List Int) (l : List UInt8) (hs : schemeOk m ws = true) (h : Nm ws.length l) : Ev (fun k => spec_ckRight.f k m ws (B l)) (right m ws 0 l) := by
  obtain ⟨h2, h13, _, hn, hws⟩ := schemeOk_len hs
  have hlen := h.length
  have hw : wrap64 ((l.length : Int) - 1) = (ws.length : Int) := by rw [w_id (by omega) (by omega)]; omega
  have hc := h.last
  have hc2 := ckI_range (l.getD ws.length 0)
  have hw12 : ∀ w ∈ ws, 0 ≤ w ∧ w ≤ 12 := fun w hw => ⟨(hws w hw).1, by have := (hws w hw).2; omega⟩
  unfold spec_ckRight.f
  refine Ev.bind (ckSum_f m l ws hw12 hn (by omega)) ?_
  simp only [B_size, hw, bt_nat, if_pos (show (0 : Int) ≤ (ws.length : Int) by omega), if_pos (show (ws.length : Int) < (l.length : Int) by omega)]
  refine Ev.bind (ckCheck_f _) ?_
  have b1 := wsum_nonneg ws l (fun w h => (hws w h).1)
  have b2 := wsum_le ws l hw12
  simp only [if_neg (show ¬ m = 0 by omega), w_id (show -9223372036854775808 ≤ wsum ws l + ckI (l.getD ws.length 0) by omega) (by omega)]
  rw [right_eq m ws 0 l hlen, Int.tmod_eq_emod_of_nonneg (by omega), Int.zero_add]
  exact Ev.now _
theorem spec_end (m : Int) (ws : List Int) : Ev (fun k => spec_NextRight.l0 k (B ((none : Option (List UInt8)).getD [])) m ws) (⟨#[]⟩, false) := by
  refine Ev.step (fun k => spec_NextRight.l0.eq_2 ..) ?_
  have e : (B ((none : Option (List UInt8)).getD [])).toList = ([] : List UInt8) := by rw [B_toList]; rfl
  simp only [if_pos e]
  exact Ev.now _
/-- The loop of the specification: the first right number from z on. -/
theorem spec_loop (m : Int) (ws : List Int) (hs : schemeOk m ws = true) : ∀ (N : Nat) (z : List UInt8), (rest z).length ≤ N → Nm ws.length z → Ev (fun k => spec_NextRight.l0 k (B z) m ws) (match (z :: rest z).find? (right m ws 0) with | some y => (B y, true) | none => (⟨#[]⟩, false)) := by
  intro N
  induction N with
  | zero =>
    intro z hN hz
    have hr : rest z = [] := List.length_eq_zero_iff.1 (by omega)
    have hn : nextN z = none := by
      have := rest_next hz
      rw [hr] at this
      cases h : nextN z with
      | none => rfl
      | some y => rw [h] at this; simp at this
    have hlen := hz.length
    obtain ⟨_, _, _, hn12, _⟩ := schemeOk_len hs
    refine Ev.step (fun k => spec_NextRight.l0.eq_2 ..) ?_
    simp only [B_toList, if_neg (show ¬ z = [] by intro h; simp [h] at hlen)]
    refine Ev.bind (ckRight_f m ws z hs hz) ?_
    rw [hr, List.find?_cons]
    cases right m ws 0 z with
    | true => exact Ev.now _
    | false =>
      refine Ev.bind (ckNext_f hz (by omega)) ?_
      rw [hn]
      exact spec_end m ws
  | succ N ih =>
    intro z hN hz
    have hlen := hz.length
    obtain ⟨_, _, _, hn12, _⟩ := schemeOk_len hs
    refine Ev.step (fun k => spec_NextRight.l0.eq_2 ..) ?_
    simp only [B_toList, if_neg (show ¬ z = [] by intro h; simp [h] at hlen)]
    refine Ev.bind (ckRight_f m ws z hs hz) ?_
    rw [List.find?_cons]
    cases right m ws 0 z with
    | true => exact Ev.now _
    | false =>
      refine Ev.bind (ckNext_f hz (by omega)) ?_
      have hrn := rest_next hz
      cases hn : nextN z with
      | none =>
        rw [hn] at hrn
        simp only [hrn]
        exact spec_end m ws
      | some y =>
        rw [hn] at hrn
        simp only [hrn, Option.getD_some]
        exact ih y (by rw [hrn] at hN; simpa using hN) (hz.next hn)
def answer : Option (List UInt8) → ByteArray × Bool
  | some y => (B y, true)
  | none => (⟨#[]⟩, false)
/-- What both compute. -/
def nextRight (m : Int) (ws : List Int) (l : List UInt8) : Option (List UInt8) := if numOk m ws l = true then nextAfter m ws 0 l else none
theorem spec_f (m : Int) (ws : List Int) (l : List UInt8) (hl : ws.length ≤ 9223372036854775806) (hs : l.length ≤ 9223372036854775806) : Ev (fun k => spec_NextRight.f k m ws (B l)) (answer (nextRight m ws l)) := by
  unfold spec_NextRight.f nextRight
  refine Ev.bind (ckNumber_f m ws l hl hs) ?_
  cases hok : numOk m ws l with
  | false => exact Ev.now _
  | true =>
    obtain ⟨hsc, hz⟩ := numOk_nm hok
    simp only [if_true]
    refine Ev.bind (ckNext_f hz hs) ?_
    have hrn := rest_next hz
    have hf := rest_find m ws 0 l hz
    cases hn : nextN l with
    | none =>
      rw [hn] at hrn
      rw [hrn] at hf
      rw [← hf]
      exact spec_end m ws
    | some y =>
      rw [hn] at hrn
      rw [hrn] at hf
      rw [← hf]
      exact Ev.id (spec_loop m ws hsc _ y (Nat.le_refl _) (hz.next hn)) (by simp only;  cases (y :: rest y).find? (right m ws 0) <;> rfl)
end Go.Proofs.YtanjemlodfanjaaDoor.PB
