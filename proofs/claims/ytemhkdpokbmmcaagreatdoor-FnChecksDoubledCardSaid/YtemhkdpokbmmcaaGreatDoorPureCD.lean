/- The plain law of FnChecksDoubled. -/
import Derived.Test.YtemhkdpokbmmcaaGreatDoorPMissed2
import Derived.Test.YtemhkdpokbmmcaaGreatDoorPCountS
import Derived.Test.YtemhkdpokbmmcaaGreatDoorDefCD
namespace Go.Proofs.YtemhkdpokbmmcaaGreatDoor.PB
set_option linter.unusedSimpArgs false
set_option linter.unusedVariables false
open Go.RowKit Go.Proofs.YtemhkdpokbmmcaaGreatDoorW.PrintWords Go.Proofs.YtemhkdpokbmmcaaGreatDoor.MCD
theorem tail_ev (t : List UInt8) (ok : Bool) (m : Int) (ws : List Int) (h : ok = true → schemeOk m ws = true ∧ txt m ws = t) : Ev (fun k => if ok = true then ((impl_SchemeText.f k m ws).bind fun bt => (if bt.2 = true then (some (bt.1.toList == (B t).toList)) else (none))) else (some true)) true := by
  cases ok with
  | false => exact Ev.now _
  | true =>
    obtain ⟨h1, h2⟩ := h rfl
    simp only [if_true]
    refine Ev.bind (implText_f m ws h1) ?_
    simp only [if_true, h2, beq_self_eq_true]
    exact Ev.now _
theorem longB_snoc (l : List UInt8) (h : longB 1 11 l = true) (c : Nat) (hc : c < 10) : longB 2 12 (l ++ [dg c]) = true := by
  unfold longB at h ⊢
  simp only [Bool.and_eq_true, decide_eq_true_eq, List.all_append, List.length_append, List.length_singleton] at h ⊢
  refine ⟨by omega, h.2, ?_⟩
  simp [dig_dg hc]
theorem j7_ev (l t : List UInt8) (hl : l.length ≤ 1000) (ok : Bool) (m : Int) (ws : List Int) (h : ok = true → schemeOk m ws = true ∧ txt m ws = t) : Ev (fun k => laws_FnChecksDoubled.j7 k (B l) (if longB 1 11 l = true then (B [dg (dcheck l)], true) else (⟨#[]⟩, false)).1 (if longB 1 11 l = true then (B [dg (dcheck l)], true) else ((⟨#[]⟩ : ByteArray), false)).2 (B t) ok m ws) true := by
  cases hL : longB 1 11 l with
  | false =>
    refine Ev.step (fun k => laws_FnChecksDoubled.j7.eq_2 ..) ?_
    simp only [Bool.false_eq_true, if_false]
    exact tail_ev t ok m ws h
  | true =>
    refine Ev.step (fun k => laws_FnChecksDoubled.j7.eq_2 ..) ?_
    simp only [if_true, B_size, List.length_singleton, if_pos (show l.length + 1 ≤ 9223372036854775807 by omega), B_append]
    refine Ev.bind (implRight_f (l ++ [dg (dcheck l)]) (by simp; omega)) ?_
    rw [longB_snoc l hL _ (dcheck_lt l), dcheck_right l]
    simp only [if_true, if_pos (show ((1 : Nat) : Int) = 1 from rfl)]
    refine Ev.step (fun k => laws_FnChecksDoubled.j8.eq_2 ..) ?_
    have e : (!((0 : Int) == 0)) = false := rfl
    simp only [e, Bool.false_eq_true, if_false]
    exact tail_ev t ok m ws h
theorem longB_swap (p q : List UInt8) (a b : UInt8) (h : longB 2 12 (p ++ a :: b :: q) = true) : longB 2 12 (p ++ b :: a :: q) = true := by
  unfold longB at h ⊢
  simp only [Bool.and_eq_true, decide_eq_true_eq, List.all_append, List.all_cons, List.length_append, List.length_cons] at h ⊢
  exact ⟨h.1, h.2.1, h.2.2.2.1, h.2.2.1, h.2.2.2.2⟩
theorem l1_ev (l : List UInt8) (hL : longB 2 12 l = true) (h10 : dsum l % 10 = 0) (x34 : ByteArray) (x35 : Bool) (x38 : ByteArray) (ok : Bool) (m : Int) (ws : List Int)
    (K : Ev (fun k => laws_FnChecksDoubled.j7 k (B l) x34 x35 x38 ok m ws) true) : ∀ (n i : Nat), l.length - i = n → 1 ≤ i → Ev (fun k => laws_FnChecksDoubled.l1 k (B l) x34 x35 x38 ok (i : Int) m ws) true
  | 0, i, hn, hi => by
    refine Ev.step (fun k => laws_FnChecksDoubled.l1.eq_2 ..) ?_
    simp only [B_size, if_neg (show ¬ ((i : Int) < (l.length : Int)) by omega)]
    exact K
  | n + 1, i, hn, hi => by
    have hL2 := hL
    unfold longB at hL2
    simp only [Bool.and_eq_true, decide_eq_true_eq] at hL2
    obtain ⟨⟨h2, h12⟩, hall⟩ := hL2
    have hi' : i < l.length := by omega
    have hw : wrap64 ((i : Int) - 1) = ((i - 1 : Nat) : Int) := by rw [w_id (by omega) (by omega)]; omega
    have hw1 : wrap64 ((i : Int) + 1) = ((i + 1 : Nat) : Int) := w_succ (by omega)
    have IH := l1_ev l hL h10 x34 x35 x38 ok m ws K n (i + 1) (by omega) (by omega)
    obtain ⟨p, a, b, q, hl, hp⟩ : ∃ p a b q, l = p ++ a :: b :: q ∧ p.length = i - 1 := by
      refine ⟨l.take (i - 1), l[i - 1], l[i], l.drop (i + 1), ?_, by rw [List.length_take]; omega⟩
      have e1 : l.drop (i - 1) = l[i - 1] :: l.drop (i - 1 + 1) := List.drop_eq_getElem_cons (by omega)
      have e2 : l.drop i = l[i] :: l.drop (i + 1) := List.drop_eq_getElem_cons hi'
      have e3 : i - 1 + 1 = i := by omega
      rw [e3, e2] at e1
      rw [← e1, List.take_append_drop]
    have ga : l.getD (i - 1) 0 = a := by rw [hl, ← hp]; simp [List.getD_eq_getElem?_getD]
    have gb : l.getD i 0 = b := by
      have : i = p.length + 1 := by omega
      rw [hl, this]; simp [List.getD_eq_getElem?_getD]
    have hda : dig a = true := by rw [hl] at hall; simp at hall; exact hall.2.1
    have hdb : dig b = true := by rw [hl] at hall; simp at hall; exact hall.2.2.1
    have ip : i = p.length + 1 := by omega
    have x1 : (B l).extract 0 (i - 1) = B p := by rw [B_extract0, hl, ← hp]; simp
    have x2 : (B l).extract i (i + 1) = B [b] := by
      rw [B_extract, hl, ip, ← List.drop_drop]; simp
    have x3 : (B l).extract (i - 1) i = B [a] := by
      rw [B_extract, hl, ← hp, ip]; simp
    have x4 : (B l).extract (i + 1) l.length = B q := by
      rw [B_cut]; congr 1
      rw [hl, ip, ← List.drop_drop, ← List.drop_drop]; simp
    have hlen : l.length = p.length + 2 + q.length := by rw [hl]; simp; omega
    have eo : (((p ++ [b]) ++ [a]) ++ q) = p ++ b :: a :: q := by simp
    refine Ev.step (fun k => laws_FnChecksDoubled.l1.eq_2 ..) ?_
    simp only [B_size, hw, hw1, if_pos (show ((i : Int) < (l.length : Int)) by omega), if_pos (show (0 : Int) ≤ ((i - 1 : Nat) : Int) by omega), if_pos (show ((i - 1 : Nat) : Int) < (l.length : Int) by omega), if_pos (show (0 : Int) ≤ (i : Int) by omega), bt_nat, ga, gb]
    by_cases hab : a = b
    · simp only [if_pos (show ((a.toNat : Int) = (b.toNat : Int)) by rw [hab])]
      exact IH
    · have hne : ¬ ((a.toNat : Int) = (b.toNat : Int)) := fun h => hab (UInt8.toNat_inj.1 (by omega))
      have key := swap_dsum p q a b hda hdb hab (by rw [← hl]; exact h10)
      have hLs := longB_swap p q a b (by rw [← hl]; exact hL)
      simp only [if_neg hne, if_pos (show ((i - 1 : Nat) : Int) ≤ (l.length : Int) by omega), if_pos (show (i : Int) ≤ ((i + 1 : Nat) : Int) by omega), if_pos (show ((i + 1 : Nat) : Int) ≤ (l.length : Int) by omega), toNat_cast, x1, x2, x3, x4, B_size, B_append, List.length_append, List.length_singleton, if_pos (show p.length + 1 ≤ 9223372036854775807 by omega), if_pos (show ((i - 1 : Nat) : Int) ≤ (i : Int) by omega), if_pos (show (i : Int) ≤ (l.length : Int) by omega), if_pos (show p.length + 1 + 1 ≤ 9223372036854775807 by omega), if_pos (show (0 : Int) ≤ ((i + 1 : Nat) : Int) by omega), if_pos (show p.length + 1 + 1 + q.length ≤ 9223372036854775807 by omega), eo]
      refine Ev.bind (implRight_f (p ++ b :: a :: q) (by simp; omega)) ?_
      rw [hLs, key]
      have a48 : ((a.toNat : Int) = 48) ↔ a = 48 := ⟨fun h => UInt8.toNat_inj.1 (show _ = 48 by omega), fun h => by rw [h]; rfl⟩
      have a57 : ((a.toNat : Int) = 57) ↔ a = 57 := ⟨fun h => UInt8.toNat_inj.1 (show _ = 57 by omega), fun h => by rw [h]; rfl⟩
      have b57 : ((b.toNat : Int) = 57) ↔ b = 57 := ⟨fun h => UInt8.toNat_inj.1 (show _ = 57 by omega), fun h => by rw [h]; rfl⟩
      have b48 : ((b.toNat : Int) == 48) = decide (b = 48) := by
        rw [Bool.eq_iff_iff]; simp only [beq_iff_eq, decide_eq_true_eq]
        exact ⟨fun h => UInt8.toNat_inj.1 (show _ = 48 by omega), fun h => by rw [h]; rfl⟩
      simp only [if_true, a48, a57, b57, b48]
      by_cases c1 : a = 48
      · have c57 : ¬ a = 57 := by rw [c1]; decide
        by_cases c2 : b = 57
        · simp [c1, c2]; exact IH
        · simp [c1, c2]; exact IH
      · by_cases c2 : a = 57
        · by_cases c3 : b = 48
          · simp [c2, c3]; exact IH
          · simp [c2, c3]; exact IH
        · simp [c1, c2]; exact IH
theorem j4_ev (l t : List UInt8) (hl : l.length ≤ 1000) (ok : Bool) (m : Int) (ws : List Int) (h : ok = true → schemeOk m ws = true ∧ txt m ws = t) :
    Ev (fun k => laws_FnChecksDoubled.j4 k (B l) (if longB 2 12 l = true then (dsum l % 10 == 0, true) else (false, false)).1 (if longB 2 12 l = true then (dsum l % 10 == 0, true) else (false, false)).2 (if longB 2 12 l = true then (dsum l, true) else (0, false)).1 (if longB 1 11 l = true then (B [dg (dcheck l)], true) else (⟨#[]⟩, false)).1 (if longB 1 11 l = true then (B [dg (dcheck l)], true) else ((⟨#[]⟩ : ByteArray), false)).2 (B t) ok false m ws) true := by
  have K := j7_ev l t hl ok m ws h
  generalize (if longB 1 11 l = true then (B [dg (dcheck l)], true) else ((⟨#[]⟩ : ByteArray), false)).1 = x34 at K ⊢
  generalize (if longB 1 11 l = true then (B [dg (dcheck l)], true) else ((⟨#[]⟩ : ByteArray), false)).2 = x35 at K ⊢
  refine Ev.step (fun k => laws_FnChecksDoubled.j4.eq_2 ..) ?_
  cases hL : longB 2 12 l with
  | false =>
    simp only [Bool.false_eq_true, if_false]
    exact K
  | true =>
    have hd := dsum_bound l
    have hL2 := hL
    unfold longB at hL2
    simp only [Bool.and_eq_true, decide_eq_true_eq] at hL2
    have h9 := dsum_digits l hL2.2
    have hw : wrap64 (9 * (l.length : Int)) = 9 * (l.length : Int) := w_id (by omega) (by omega)
    simp only [if_true, Bool.false_eq_true, if_false, tmod_zero, bne_self_eq_false, if_neg (show ¬ (dsum l < 0) by omega), B_size, hw, decide_eq_false (show ¬ (dsum l > 9 * (l.length : Int)) by omega)]
    refine Ev.step (fun k => laws_FnChecksDoubled.j5.eq_2 ..) ?_
    simp only [Bool.false_eq_true, if_false]
    by_cases h10 : dsum l % 10 = 0
    · simp only [if_pos (show ((dsum l % 10 == 0) = true) from beq_iff_eq.2 h10)]
      exact l1_ev l hL h10 x34 x35 (B t) ok m ws K _ 1 rfl (by omega)
    · simp only [if_neg (show ¬ ((dsum l % 10 == 0) = true) from fun h => h10 (beq_iff_eq.1 h))]
      exact K
theorem parseI_ok (t : List UInt8) : (parseI t).2.2 = true → schemeOk (parseI t).1 (parseI t).2.1 = true ∧ txt (parseI t).1 (parseI t).2.1 = t := by
  unfold parseI
  simp only
  split
  · rename_i h; intro _; exact h
  · intro h; cases h
theorem parseI_len (t : List UInt8) : (parseI t).2.1.length ≤ t.length + 1 := by
  unfold parseI
  simp only
  split
  · simp only [List.length_map]
    have h1 := sp_length 44 (cutL 58 t).2.1
    have h2 := (cutL_short t).2
    omega
  · simp
theorem j3_ev (code : List Int) (hc : Bytes code) : Ev (fun k => laws_FnChecksDoubled.j3 k code) true := by
  refine Ev.step (fun k => laws_FnChecksDoubled.j3.eq_2 ..) ?_
  obtain ⟨l, hd, hl⟩ := drawIsDoubled_f code hc
  obtain ⟨t, ht, htl⟩ := drawParse_f code hc
  refine Ev.bind hd ?_
  refine Ev.bind (implRight_f l (by omega)) ?_
  refine Ev.bind (specRight_f l (by omega)) ?_
  refine Ev.bind (implSum_f l (by omega)) ?_
  refine Ev.bind (specSum_f l (by omega)) ?_
  refine Ev.bind (implCheck_f l (by omega)) ?_
  refine Ev.bind (specCheck_f l (by omega)) ?_
  refine Ev.bind ht ?_
  refine Ev.bind (implParse_f t (by omega)) ?_
  refine Ev.bind (specParse_f t (by omega)) ?_
  refine Ev.bind implDM_f ?_
  rw [← parse_eq t]
  have e : (if longB 2 12 l = true then (dsum l, true) else (0, false)).2 = (if longB 2 12 l = true then (dsum l % 10 == 0, true) else (false, false)).2 := by split <;> rfl
  have hpl := parseI_len t
  simp only [bne_self_eq_false, Bool.false_eq_true, if_false, if_true, e]
  refine Ev.bind (fScheme_f _ _ (by omega)) ?_
  simp only [if_true]
  refine Ev.bind specDM_f ?_
  refine Ev.bind fRows_09 ?_
  simp only [if_true]
  refine Ev.bind fRows_09 ?_
  exact j4_ev l t hl _ _ _ (parseI_ok t)
theorem parseI_txt (m : Int) (ws : List Int) (hs : schemeOk m ws = true) : parseI (txt m ws) = (m, ws, true) := by
  obtain ⟨e1, e2, e3⟩ := txt_facts m ws hs
  obtain ⟨h2, h13, h1, h12, _⟩ := schemeOk_len hs
  have hb := ws_bound2 hs
  have hc : cutL 58 (txt m ws) = (num m.toNat, joinT (ws.map fun w => num w.toNat), true) := by
    unfold cutL
    rw [e1]
    simp only
    unfold txt
    rw [← List.drop_drop]; simp
  have hm : (m.toNat : Int) = m := by omega
  unfold parseI
  rw [hc]
  simp only [e2, map_num atoiV atoi_num ws hb]
  have ha : atoiV (num m.toNat) = m := (atoi_num ⟨m.toNat, by omega⟩).trans hm
  rw [ha, if_pos ⟨hs, rfl⟩]
theorem j2_ev (code : List Int) (hc : Bytes code) (m : Int) (ws : List Int) (hs : schemeOk m ws = true) : Ev (fun k => laws_FnChecksDoubled.j2 k code (B (txt m ws)) false m ws) true := by
  obtain ⟨_, _, ht⟩ := txt_facts m ws hs
  obtain ⟨h2, h13, h1, h12, _⟩ := schemeOk_len hs
  refine Ev.step (fun k => laws_FnChecksDoubled.j2.eq_2 ..) ?_
  simp only [Bool.false_eq_true, if_false]
  refine Ev.bind (implParse_f (txt m ws) (by omega)) ?_
  rw [parseI_txt m ws hs]
  simp only [if_true]
  refine Ev.bind (fScheme_f m ws (by omega)) ?_
  simp only [if_true]
  exact j3_ev code hc
theorem pow_small (n : Nat) (h : n ≤ 12) : (1 : Int) ≤ 10 ^ n ∧ (10 : Int) ^ n ≤ 1000000000000 := by
  refine ⟨by have : (0 : Int) < 10 ^ n := Int.pow_pos (by omega); omega, ?_⟩
  calc (10 : Int) ^ n ≤ 10 ^ 12 := by exact_mod_cast Nat.pow_le_pow_right (by omega) h
    _ = 1000000000000 := by decide
theorem l0_ev (code : List Int) (hc : Bytes code) (m : Int) (ws : List Int) (hs : schemeOk m ws = true) : ∀ (n i : Nat), ws.length - i = n → i ≤ ws.length → Ev (fun k => laws_FnChecksDoubled.l0 k code (countR m ws) (B (txt m ws)) (10 ^ i) (ws.length : Int) (i : Int) m ws) true
  | 0, i, hn, hi => by
    obtain ⟨h2, h13, h1, h12, _⟩ := schemeOk_len hs
    obtain ⟨c11, c10, c12, cge, cle⟩ := countR_law m ws hs
    have hi2 : i = ws.length := by omega
    subst hi2
    obtain ⟨p1, p2⟩ := pow_small ws.length h12
    have hw : wrap64 (2 * 10 ^ ws.length) = 2 * 10 ^ ws.length := w_id (by omega) (by omega)
    have K := j2_ev code hc m ws hs
    refine Ev.step (fun k => laws_FnChecksDoubled.l0.eq_2 ..) ?_
    simp only [if_neg (show ¬ ((ws.length : Int) < (ws.length : Int)) by omega), hw, decide_eq_false (show ¬ (countR m ws < 1) by omega)]
    by_cases a11 : m = 11
    · have e := c11 a11
      simp only [if_pos a11, if_pos e, if_neg (show ¬ m = 10 by omega), if_neg (show ¬ m > 11 by omega)]
      exact K
    · by_cases a10 : m = 10
      · have e := c10 a10
        simp only [if_neg a11, if_pos a10, if_neg (show ¬ countR m ws < 10 ^ ws.length by omega), if_neg (show ¬ countR m ws > 2 * 10 ^ ws.length by omega), if_neg (show ¬ m > 11 by omega)]
        exact K
      · by_cases a12 : m > 11
        · have e := c12 (by omega)
          simp only [if_neg a11, if_neg a10, if_pos a12, if_neg (show ¬ countR m ws > 10 ^ ws.length by omega)]
          exact K
        · simp only [if_neg a11, if_neg a10, if_neg a12]
          exact K
  | n + 1, i, hn, hi => by
    obtain ⟨h2, h13, h1, h12, _⟩ := schemeOk_len hs
    obtain ⟨p1, p2⟩ := pow_small i (by omega)
    have hw : wrap64 (10 ^ i * 10) = 10 ^ (i + 1) := by rw [Int.pow_succ, w_id (by omega) (by omega)]
    refine Ev.step (fun k => laws_FnChecksDoubled.l0.eq_2 ..) ?_
    simp only [if_pos (show ((i : Int) < (ws.length : Int)) by omega), hw, w_succ (show i < 9223372036854775807 by omega)]
    exact l0_ev code hc m ws hs n (i + 1) (by omega) (by omega)
theorem bytes_of (l : List Int) (h : ∀ x ∈ l, (Lit.int .u8 x).wf = true) : Bytes l := by
  intro x hx
  have := h x hx
  simp [Lit.wf] at this
  have e1 : IntKind.u8.min = 0 := by decide
  have e2 : IntKind.u8.max = 255 := by decide
  rw [e1, e2] at this
  exact this
theorem checksDoubled (l0 l1 : List Int) (h0 : l0.length ≤ maxLen) (w0 : ∀ x ∈ l0, (Lit.int .u8 x).wf = true) (h1 : l1.length ≤ maxLen) (w1 : ∀ x ∈ l1, (Lit.int .u8 x).wf = true) : ∃ k, laws_FnChecksDoubled.f k l0 l1 = some true := by
  apply Ev.rounds
  have b0 := bytes_of l0 w0
  have b1 := bytes_of l1 w1
  unfold laws_FnChecksDoubled.f
  obtain ⟨big, hbig⟩ : ∃ b, laws_big.f l0 l1 = some b := by
    unfold laws_big.f
    split
    · exact ⟨_, rfl⟩
    · exact ⟨_, rfl⟩
  rw [hbig]
  simp only [Option.bind_some]
  cases big with
  | true => exact Ev.now _
  | false =>
    simp only [Bool.false_eq_true, if_false]
    obtain ⟨m, ws, hd, hw⟩ := drawCountRight_f l0 b0
    refine Ev.bind hd ?_
    refine Ev.bind (implCount m ws (by omega)) ?_
    refine Ev.bind (specCount m ws (by omega)) ?_
    refine Ev.bind (implText m ws (by omega)) ?_
    refine Ev.bind (specText m ws (by omega)) ?_
    refine Ev.bind (implSingles_f m ws (by omega)) ?_
    refine Ev.bind (specSingles_f m ws (by omega)) ?_
    refine Ev.bind (implSwaps_f m ws (by omega)) ?_
    refine Ev.bind (specSwaps_f m ws (by omega)) ?_
    simp only [bne_self_eq_false, Bool.false_eq_true, if_false, if_true]
    refine Ev.bind (isScheme_f m ws (by omega)) ?_
    cases hs : schemeOk m ws with
    | false =>
      simp only [Bool.false_eq_true, if_false, bne_self_eq_false]
      refine Ev.step (fun k => laws_FnChecksDoubled.j0.eq_2 ..) ?_
      simp only [Bool.false_eq_true, if_false]
      exact j3_ev l1 b1
    | true =>
      simp only [if_true, bne_self_eq_false, Bool.false_eq_true, if_false]
      refine Ev.step (fun k => laws_FnChecksDoubled.j0.eq_2 ..) ?_
      simp only [Bool.false_eq_true, if_false, if_true]
      exact l0_ev l1 b1 m ws hs _ 0 rfl (by omega)
end Go.Proofs.YtemhkdpokbmmcaaGreatDoor.PB
