/- Parsing schemes: both sides read just the texts of schemes. -/
import Derived.Test.YtemhkdpokbmmcaaGreatDoorPSplit
namespace Go.Proofs.YtemhkdpokbmmcaaGreatDoor.PB
set_option linter.unusedVariables false
open Go.RowKit Go.Proofs.YtemhkdpokbmmcaaGreatDoorW.PrintWords Go.Proofs.YtemhkdpokbmmcaaGreatDoor.MCD
/-- The value of digits, from v on; or -1. -/
def valL : Int → List UInt8 → Int
  | v, [] => v
  | v, d :: l => if dig d = true then valL (10 * v + dv d) l else -1
def readV (l : List UInt8) : Int := if 1 ≤ l.length ∧ l.length ≤ 6 ∧ ¬ (l.getD 0 0 = 48 ∧ 1 < l.length) then valL 0 l else -1
def atoiV (l : List UInt8) : Int := match Lib.atoiAll l with
  | .ok v => v
  | .range => Lib.atoiSat l
  | _ => 0
theorem valL_bound : ∀ (l : List UInt8) (v : Int), 0 ≤ v → (valL v l = -1 ∨ v ≤ valL v l ∧ 10 ^ l.length * v ≤ valL v l)
  | [], v, h => .inr (by simp [valL])
  | d :: l, v, h => by
    simp only [valL]
    split
    · rename_i hd
      have hr := dv_range hd
      rcases valL_bound l (10 * v + dv d) (by omega) with h1 | ⟨h1, h2⟩
      · exact .inl h1
      · refine .inr ⟨by omega, ?_⟩
        have e : (10 : Int) ^ (d :: l).length * v = 10 ^ l.length * (10 * v) := by rw [List.length_cons, Int.pow_succ, Int.mul_assoc]
        have hp : (0 : Int) < 10 ^ l.length := Int.pow_pos (by omega)
        have h3 : (10 : Int) ^ l.length * (10 * v) ≤ 10 ^ l.length * (10 * v + dv d) := Int.mul_le_mul_of_nonneg_left (by omega) (by omega)
        omega
    · exact .inl rfl
theorem l1Read_l0 (l : List UInt8) (hl : l.length ≤ 6) : ∀ (n i : Nat) (v : Int), l.length - i = n → i ≤ l.length → 0 ≤ v → v < 10 ^ i → Ev (fun k => spec_l1Read.l0 k (B l) v (i : Int)) (valL v (l.drop i))
  | 0, i, v, hn, hi, h0, hv => by
    refine Ev.step (fun k => spec_l1Read.l0.eq_2 ..) ?_
    simp only [B_size, if_neg (show ¬ ((i : Int) < (l.length : Int)) by omega)]
    rw [List.drop_eq_nil_of_le (by omega)]
    exact Ev.now _
  | n + 1, i, v, hn, hi, h0, hv => by
    have hi' : i < l.length := by omega
    have h6 : (10 : Int) ^ i ≤ 10 ^ 6 := by exact_mod_cast Nat.pow_le_pow_right (by omega) (show i ≤ 6 by omega)
    have e6 : (10 : Int) ^ 6 = 1000000 := by decide
    have hd := dv_any l[i]
    have hdv : (((l[i].toNat : Int) - 48) % 256) = dv l[i] := rfl
    refine Ev.step (fun k => spec_l1Read.l0.eq_2 ..) ?_
    rw [List.drop_eq_getElem_cons hi']
    simp only [B_size, if_pos (show ((i : Int) < (l.length : Int)) by omega), if_pos (show (0 : Int) ≤ (i : Int) by omega), bt_nat, getD_lt l i 0 hi', hdv, valL]
    by_cases c1 : (l[i].toNat : Int) < 48
    · have hnd : ¬ dig l[i] = true := by unfold dig; simp; omega
      simp only [if_pos c1, if_neg hnd]
      exact Ev.now _
    · by_cases c2 : (l[i].toNat : Int) > 57
      · have hnd : ¬ dig l[i] = true := by unfold dig; simp; omega
        simp only [if_neg c1, if_pos c2, if_neg hnd]
        exact Ev.now _
      · have hdg : dig l[i] = true := decide_eq_true (by omega)
        have hr := dv_range hdg
        simp only [if_neg c1, if_neg c2, if_pos hdg, w_id (show -9223372036854775808 ≤ 10 * v by omega) (by omega), w_id (show -9223372036854775808 ≤ 10 * v + dv l[i] by omega) (by omega), w_succ (show i < 9223372036854775807 by omega)]
        exact l1Read_l0 l hl n (i + 1) _ (by omega) (by omega) (by omega) (by rw [Int.pow_succ]; omega)
theorem l1Read_f (l : List UInt8) (hl : l.length ≤ 9223372036854775806) : Ev (fun k => spec_l1Read.f k (B l)) (readV l) := by
  unfold spec_l1Read.f readV
  rw [l1In_f, B_size]
  simp only [Option.bind_some]
  by_cases h : 1 ≤ l.length ∧ l.length ≤ 6
  · have e : (decide ((1 : Int) ≤ (l.length : Int)) && decide ((l.length : Int) ≤ 6)) = true := by simp; omega
    simp only [e, if_true, if_pos (show (0 : Int) < (l.length : Int) by omega)]
    have hb : bt (B l) 0 = ((l.getD 0 0).toNat : Int) := bt_nat l 0
    have K : Ev (fun k => spec_l1Read.l0 k (B l) 0 0) (valL 0 l) := by
      have := l1Read_l0 l h.2 l.length 0 0 (by omega) (by omega) (by omega) (by decide)
      rw [List.drop_zero] at this
      exact this
    rw [hb]
    by_cases c : l.getD 0 0 = 48
    · simp only [if_pos (show (((l.getD 0 0).toNat : Int) = 48) by rw [c]; rfl)]
      refine Ev.step (fun k => spec_l1Read.j0.eq_2 ..) ?_
      by_cases c2 : 1 < l.length
      · simp only [decide_eq_true c2, if_true, if_neg (show ¬ (1 ≤ l.length ∧ l.length ≤ 6 ∧ ¬ (l.getD 0 0 = 48 ∧ 1 < l.length)) from fun h => h.2.2 ⟨c, c2⟩)]
        exact Ev.now _
      · simp only [decide_eq_false c2, Bool.false_eq_true, if_false, if_pos (show (1 ≤ l.length ∧ l.length ≤ 6 ∧ ¬ (l.getD 0 0 = 48 ∧ 1 < l.length)) from ⟨h.1, h.2, fun h => c2 h.2⟩)]
        exact K
    · have hne : ¬ (((l.getD 0 0).toNat : Int) = 48) := fun h => c (UInt8.toNat_inj.1 (show _ = 48 by omega))
      simp only [if_neg hne]
      refine Ev.step (fun k => spec_l1Read.j0.eq_2 ..) ?_
      simp only [Bool.false_eq_true, if_false, if_pos (show (1 ≤ l.length ∧ l.length ≤ 6 ∧ ¬ (l.getD 0 0 = 48 ∧ 1 < l.length)) from ⟨h.1, h.2, fun h => c h.1⟩)]
      exact K
  · have e : (decide ((1 : Int) ≤ (l.length : Int)) && decide ((l.length : Int) ≤ 6)) = false := by
      rw [Bool.eq_false_iff]; simp; omega
    simp only [e, Bool.false_eq_true, if_false, if_neg (show ¬ (1 ≤ l.length ∧ l.length ≤ 6 ∧ ¬ (l.getD 0 0 = 48 ∧ 1 < l.length)) from fun h2 => h ⟨h2.1, h2.2.1⟩)]
    refine Ev.step (fun k => spec_l1Read.j0.eq_2 ..) ?_
    exact Ev.now _
theorem read_num : ∀ n : Fin 14, readV (num n.val) = (n.val : Int) := by decide +kernel
theorem atoi_num : ∀ n : Fin 14, atoiV (num n.val) = (n.val : Int) := by decide +kernel
/-- A canonical numeral of a number up to 13 is its text. -/
theorem num_of_read (l : List UInt8) (w : Int) (h0 : 0 ≤ w) (h13 : w ≤ 13) (h : readV l = w) : l = num w.toNat := by
  unfold readV at h
  split at h
  · rename_i hc
    obtain ⟨h1, h6, hz⟩ := hc
    match l, h1, h6, hz, h with
    | [d], _, _, _, h =>
      simp only [valL] at h
      split at h
      · rename_i hd
        have hr := dv_range hd
        have he := dv_dig hd
        unfold num
        rw [if_pos (by omega)]
        have : w.toNat = d.toNat - 48 := by omega
        rw [this, ← dg_of hd]
      · omega
    | [d, e], _, _, hz, h =>
      simp only [valL] at h
      split at h
      · rename_i hd
        split at h
        · rename_i hd2
          have hr := dv_range hd
          have he := dv_dig hd
          have hr2 := dv_range hd2
          have he2 := dv_dig hd2
          have hne : d ≠ 48 := fun e => hz ⟨by simpa using e, by simp⟩
          have hn : d.toNat ≠ 48 := fun e => hne (UInt8.toNat_inj.1 e)
          have h49 : d.toNat = 49 := by omega
          unfold num
          rw [if_neg (by omega)]
          have e1 : d = 49 := UInt8.toNat_inj.1 h49
          have e2 : w.toNat - 10 = e.toNat - 48 := by omega
          rw [e2, ← dg_of hd2, e1]
        · omega
      · omega
    | d :: e :: f :: l, _, _, hz, h =>
      exfalso
      simp only [valL] at h
      split at h
      · rename_i hd
        split at h
        · rename_i hd2
          split at h
          · rename_i hd3
            have hr := dv_range hd
            have he := dv_dig hd
            have hr2 := dv_range hd2
            have hr3 := dv_range hd3
            have hne : d ≠ 48 := fun e => hz ⟨by simpa using e, by simp⟩
            have hn : d.toNat ≠ 48 := fun e => hne (UInt8.toNat_inj.1 e)
            rcases valL_bound l (10 * (10 * (10 * 0 + dv d) + dv e) + dv f) (by omega) with h4 | ⟨h4, _⟩ <;> omega
          · omega
        · omega
      · omega
  · omega
theorem dg_ne58 : ∀ n, n < 10 → dg n ≠ 58 ∧ dg n ≠ 44 := by decide
theorem num_no (n : Nat) (h : n < 20) : (58 : UInt8) ∉ num n ∧ (44 : UInt8) ∉ num n := by
  unfold num
  split
  · have := dg_ne58 n (by omega)
    simp; exact ⟨fun e => this.1 e.symm, fun e => this.2 e.symm⟩
  · have := dg_ne58 (n - 10) (by omega)
    simp; exact ⟨fun e => this.1 e.symm, fun e => this.2 e.symm⟩
theorem joinT_no58 : ∀ xs : List (List UInt8), (∀ x ∈ xs, (58 : UInt8) ∉ x) → (58 : UInt8) ∉ joinT xs
  | [], _ => by simp [joinT]
  | [x], h => by simpa [joinT] using h x (by simp)
  | x :: y :: l, h => by
    have h1 := h x (by simp)
    have h2 := joinT_no58 (y :: l) (fun z hz => h z (by simp [hz]))
    simp only [joinT, List.mem_append, List.mem_cons, not_or]
    exact ⟨h1, by decide, h2⟩
theorem sp_joinT : ∀ xs : List (List UInt8), xs ≠ [] → (∀ x ∈ xs, (44 : UInt8) ∉ x) → sp 44 (joinT xs) = xs
  | [], h, _ => absurd rfl h
  | [x], _, h => sp_none 44 x (h x (by simp))
  | x :: y :: l, _, h => by
    simp only [joinT]
    rw [sp_first 44 x _ (h x (by simp)), sp_joinT (y :: l) (by simp) (fun z hz => h z (by simp [hz]))]
theorem joinT_sp : ∀ l : List UInt8, joinT (sp 44 l) = l
  | [] => rfl
  | x :: l => by
    have ih := joinT_sp l
    by_cases h : x = 44
    · subst h
      rw [sp_cons_eq]
      cases hs : sp 44 l with
      | nil => exact absurd hs (sp_ne 44 l)
      | cons a b => rw [hs] at ih; simp only [joinT, ih, List.nil_append]
    · rw [sp_cons_ne 44 x l h]
      cases hs : sp 44 l with
      | nil => exact absurd hs (sp_ne 44 l)
      | cons a b =>
        rw [hs] at ih
        simp only [glue]
        cases b with
        | nil => simp only [joinT] at ih ⊢; rw [ih]; rfl
        | cons c b => simp only [joinT] at ih ⊢; rw [← ih]; rfl
def parseI (l : List UInt8) : Int × List Int × Bool :=
  let m := atoiV (cutL 58 l).1
  let ws := (sp 44 (cutL 58 l).2.1).map atoiV
  if schemeOk m ws = true ∧ txt m ws = l then (m, ws, true) else (0, [], false)
def parseS (l : List UInt8) : Int × List Int × Bool :=
  if l.length > 40 ∨ (sp 58 l).length ≠ 2 then (0, [], false) else
    let m := readV ((sp 58 l).getD 0 [])
    let ws := (sp 44 ((sp 58 l).getD 1 [])).map readV
    if schemeOk m ws = true then (m, ws, true) else (0, [], false)
theorem map_num (f : List UInt8 → Int) (hf : ∀ n : Fin 14, f (num n.val) = (n.val : Int)) (ws : List Int) (h : ∀ w ∈ ws, 0 ≤ w ∧ w ≤ 12) : (ws.map fun w => num w.toNat).map f = ws := by
  rw [List.map_map]
  conv => rhs; rw [← List.map_id ws]
  refine List.map_congr_left fun w hw => ?_
  have := h w hw
  have h2 := hf ⟨w.toNat, by omega⟩
  show f (num w.toNat) = w
  rw [h2]; show ((w.toNat : Nat) : Int) = w; omega
theorem ws_bound2 {m : Int} {ws : List Int} (h : schemeOk m ws = true) : ∀ w ∈ ws, 0 ≤ w ∧ w ≤ 12 := by
  obtain ⟨_, h13, _, _, hws⟩ := schemeOk_len h
  exact fun w hw => ⟨(hws w hw).1, by have := (hws w hw).2; omega⟩
theorem txt_facts (m : Int) (ws : List Int) (hs : schemeOk m ws = true) : sp 58 (txt m ws) = [num m.toNat, joinT (ws.map fun w => num w.toNat)] ∧ sp 44 (joinT (ws.map fun w => num w.toNat)) = (ws.map fun w => num w.toNat) ∧ (txt m ws).length ≤ 40 := by
  obtain ⟨h2, h13, h1, h12, _⟩ := schemeOk_len hs
  have hb := ws_bound2 hs
  have hno : ∀ x ∈ (ws.map fun w => num w.toNat), (58 : UInt8) ∉ x ∧ (44 : UInt8) ∉ x := fun x hx => by
    obtain ⟨w, hw, rfl⟩ := List.mem_map.1 hx
    have := hb w hw
    exact num_no _ (by omega)
  refine ⟨?_, sp_joinT _ (by intro h; have := congrArg List.length h; rw [List.length_map] at this; simp at this; rw [this] at h1; simp at h1) (fun x hx => (hno x hx).2), ?_⟩
  · unfold txt
    rw [sp_first 58 _ _ (num_no m.toNat (by omega)).1, sp_none 58 _ (joinT_no58 _ (fun x hx => (hno x hx).1))]
  · have hn := num_length m.toNat
    have := joinT_length (ws.map fun w => num w.toNat) (fun x hx => by obtain ⟨w, _, rfl⟩ := List.mem_map.1 hx; exact num_length _)
    rw [List.length_map] at this
    unfold txt
    rw [List.length_append, List.length_cons]; omega
theorem parse_eq (l : List UInt8) : parseI l = parseS l := by
  by_cases hex : ∃ m ws, schemeOk m ws = true ∧ l = txt m ws
  · obtain ⟨m, ws, hs, rfl⟩ := hex
    obtain ⟨e1, e2, e3⟩ := txt_facts m ws hs
    obtain ⟨h2, h13, h1, h12, _⟩ := schemeOk_len hs
    have hb := ws_bound2 hs
    have hc : cutL 58 (txt m ws) = (num m.toNat, joinT (ws.map fun w => num w.toNat), true) := by
      unfold cutL
      rw [e1]
      simp only
      unfold txt
      rw [← List.drop_drop]; simp
    have hm : (m.toNat : Int) = m := by omega
    have hI : parseI (txt m ws) = (m, ws, true) := by
      unfold parseI
      rw [hc]
      simp only [e2, map_num atoiV atoi_num ws hb]
      have ha : atoiV (num m.toNat) = m := (atoi_num ⟨m.toNat, by omega⟩).trans hm
      rw [ha, if_pos ⟨hs, rfl⟩]
    have hS : parseS (txt m ws) = (m, ws, true) := by
      unfold parseS
      rw [e1, if_neg (by simp; omega)]
      simp only [List.getD_cons_zero, List.getD_cons_succ, e2, map_num readV read_num ws hb]
      have ha : readV (num m.toNat) = m := (read_num ⟨m.toNat, by omega⟩).trans hm
      rw [ha, if_pos hs]
    rw [hI, hS]
  · have hI : parseI l = (0, [], false) := by
      unfold parseI
      simp only
      rw [if_neg]
      rintro ⟨h1, h2⟩
      exact hex ⟨_, _, h1, h2.symm⟩
    have hS : parseS l = (0, [], false) := by
      unfold parseS
      split
      · rfl
      · rename_i hc
        simp only
        rw [if_neg]
        intro hs
        apply hex
        have h2 : (sp 58 l).length = 2 := by
          rcases Classical.em ((sp 58 l).length = 2) with h | h
          · exact h
          · exact absurd (.inr h) hc
        obtain ⟨a, b, hab⟩ : ∃ a b, sp 58 l = [a, b] := by
          match hsp : sp 58 l, h2 with
          | [a, b], _ => exact ⟨a, b, rfl⟩
        rw [hab] at hs
        simp only [List.getD_cons_zero, List.getD_cons_succ] at hs
        refine ⟨readV a, (sp 44 b).map readV, hs, ?_⟩
        obtain ⟨g2, g13, _, _, _⟩ := schemeOk_len hs
        have hb := ws_bound2 hs
        have ha : a = num (readV a).toNat := num_of_read a _ (by omega) (by omega) rfl
        have hparts : ((sp 44 b).map readV).map (fun w => num w.toNat) = sp 44 b := by
          rw [List.map_map]
          conv => rhs; rw [← List.map_id (sp 44 b)]
          refine List.map_congr_left fun x hx => ?_
          have hx2 := hb (readV x) (List.mem_map.2 ⟨x, hx, rfl⟩)
          exact (num_of_read x _ hx2.1 (by omega) rfl).symm
        unfold txt
        rw [hparts, joinT_sp, ← ha]
        have hmem : (58 : UInt8) ∈ l := by
          rcases Classical.em ((58 : UInt8) ∈ l) with h | h
          · exact h
          · rw [sp_none 58 l h] at hab; simp at hab
        obtain ⟨p, q, rfl, hp⟩ := first_at 58 l hmem
        rw [sp_first 58 p q hp] at hab
        injection hab with h3 h4
        have hq : (58 : UInt8) ∉ q := by
          intro hq
          obtain ⟨p', q', rfl, hp'⟩ := first_at 58 q hq
          rw [sp_first 58 p' q' hp'] at h4
          injection h4 with _ h5
          exact sp_ne _ _ h5
        rw [sp_none 58 q hq] at h4
        injection h4 with h4
        rw [h3, h4]
    rw [hI, hS]
end Go.Proofs.YtemhkdpokbmmcaaGreatDoor.PB
