/- The draw of a scheme's text, at times spoilt. -/
import Derived.Test.YtemhkdpokbmmcaaGreatDoorPDraw2
namespace Go.Proofs.YtemhkdpokbmmcaaGreatDoor.PB
set_option linter.unusedVariables false
open Go.RowKit Go.Proofs.YtemhkdpokbmmcaaGreatDoorW.PrintWords Go.Proofs.YtemhkdpokbmmcaaGreatDoor.MCD
theorem strOfNums_one (x : Int) : ∃ c, strOfNums [x] = B [c] := ⟨_, rfl⟩
theorem B_cut (t : List UInt8) (i : Nat) : (B t).extract i t.length = B (t.drop i) := by
  rw [B_extract]; congr 1
  exact List.take_of_length_le (by simp)
theorem spoilt_l0 (l : List Int) (hl : Bytes l) (ws : List UInt8) (hw : 1 ≤ ws.length ∧ ws.length ≤ 100) : ∀ (n : Nat) (at_ sd : Int) (t : List UInt8), n ≤ 10 → t.length + n ≤ 190 → 0 ≤ at_ → at_ + 6 * n ≤ 1000000 → ∃ t' a' s', Ev (fun k => spec_l1Cur_spoilt.l0 k (B t) (B ws) (n : Int) l at_ sd) (B t', a', s') ∧ t'.length ≤ 200
  | 0, at_, sd, t, hn, ht, h0, h1 => by
    refine ⟨t, at_, sd, Ev.step (fun k => spec_l1Cur_spoilt.l0.eq_2 ..) ?_, by omega⟩
    simp only [if_neg (show ¬ (((0 : Nat) : Int) > 0) by omega)]
    refine Ev.step (fun k => spec_l1Cur_spoilt.j1.eq_2 ..) ?_
    simp only [Bool.false_eq_true, if_false]
    exact Ev.now _
  | n + 1, at_, sd, t, hn, ht, h0, h1 => by
    by_cases hz : 0 < t.length
    · obtain ⟨x, a1, s1, e1, p1⟩ := pick_f l hl at_ sd at_ (t.length : Int) h0 (Int.le_refl _) (by omega)
      obtain ⟨y, a2, s2, e2, p2⟩ := pick_f l hl a1 s1 a1 (ws.length : Int) (by omega) (Int.le_refl _) (by omega)
      obtain ⟨z, a3, s3, e3, p3⟩ := pick_f l hl a2 s2 a2 3 (by omega) (Int.le_refl _) (by omega)
      obtain ⟨i, rfl⟩ : ∃ i : Nat, x = (i : Int) := ⟨x.toNat, by omega⟩
      have hi : i < t.length := by omega
      obtain ⟨c, hc⟩ := strOfNums_one (bt (B ws) y)
      have hw1 : wrap64 (((n + 1 : Nat) : Int) - 1) = (n : Int) := by rw [w_id (by omega) (by omega)]; omega
      have htk : (t.take i).length = i := by rw [List.length_take]; omega
      have hdr : (t.drop i).length = t.length - i := List.length_drop
      have hdr1 : (t.drop (i + 1)).length = t.length - (i + 1) := List.length_drop
      obtain ⟨t1, b1, r1, f1, q1⟩ := spoilt_l0 l hl ws hw n a3 s3 ((t.take i ++ [c]) ++ t.drop i) (by omega) (by simp only [List.length_append, List.length_singleton, htk, hdr]; omega) (by omega) (by omega)
      obtain ⟨t2, b2, r2, f2, q2⟩ := spoilt_l0 l hl ws hw n a3 s3 ((t.take i ++ [c]) ++ t.drop (i + 1)) (by omega) (by simp only [List.length_append, List.length_singleton, htk, hdr1]; omega) (by omega) (by omega)
      obtain ⟨t3, b3, r3, f3, q3⟩ := spoilt_l0 l hl ws hw n a3 s3 (t.take i ++ t.drop (i + 1)) (by omega) (by simp only [List.length_append, htk, hdr1]; omega) (by omega) (by omega)
      have hlt : y < (ws.length : Int) := by omega
      by_cases c0 : z = 0
      · refine ⟨t1, b1, r1, Ev.step (fun k => spec_l1Cur_spoilt.l0.eq_2 ..) ?_, q1⟩
        simp only [if_pos (show ((n + 1 : Nat) : Int) > 0 by omega), B_size]
        refine Ev.step (fun k => spec_l1Cur_spoilt.j1.eq_2 ..) ?_
        simp only [decide_eq_true hz, if_true, B_size, e1, e2, e3, Option.bind_some, if_pos p2.1, if_pos hlt, if_pos c0, if_pos (show (0 : Int) ≤ (i : Int) by omega), if_pos (show (i : Int) ≤ (t.length : Int) by omega), toNat_cast, B_extract0, hc, htk, List.length_singleton, if_pos (show i + 1 ≤ 9223372036854775807 by omega), B_append, B_cut, List.length_append, hdr, if_pos (show i + 1 + (t.length - i) ≤ 9223372036854775807 by omega), hw1]
        exact f1
      by_cases c1 : z = 1
      · refine ⟨t2, b2, r2, Ev.step (fun k => spec_l1Cur_spoilt.l0.eq_2 ..) ?_, q2⟩
        simp only [if_pos (show ((n + 1 : Nat) : Int) > 0 by omega), B_size]
        refine Ev.step (fun k => spec_l1Cur_spoilt.j1.eq_2 ..) ?_
        simp only [decide_eq_true hz, if_true, B_size, e1, e2, e3, Option.bind_some, if_pos p2.1, if_pos hlt, if_neg c0, if_pos c1, if_pos (show (0 : Int) ≤ (i : Int) by omega), if_pos (show (i : Int) ≤ (t.length : Int) by omega), toNat_cast, B_extract0, hc, htk, List.length_singleton, if_pos (show i + 1 ≤ 9223372036854775807 by omega), B_append, w_succ (show i < 9223372036854775807 by omega), if_pos (show (0 : Int) ≤ ((i + 1 : Nat) : Int) by omega), if_pos (show ((i + 1 : Nat) : Int) ≤ (t.length : Int) by omega), B_cut, List.length_append, hdr1, if_pos (show i + 1 + (t.length - (i + 1)) ≤ 9223372036854775807 by omega), hw1]
        exact f2
      · refine ⟨t3, b3, r3, Ev.step (fun k => spec_l1Cur_spoilt.l0.eq_2 ..) ?_, q3⟩
        simp only [if_pos (show ((n + 1 : Nat) : Int) > 0 by omega), B_size]
        refine Ev.step (fun k => spec_l1Cur_spoilt.j1.eq_2 ..) ?_
        simp only [decide_eq_true hz, if_true, B_size, e1, e2, e3, Option.bind_some, if_pos p2.1, if_pos hlt, if_neg c0, if_neg c1, if_pos (show (0 : Int) ≤ (i : Int) by omega), if_pos (show (i : Int) ≤ (t.length : Int) by omega), toNat_cast, B_extract0, htk, B_append, w_succ (show i < 9223372036854775807 by omega), if_pos (show (0 : Int) ≤ ((i + 1 : Nat) : Int) by omega), if_pos (show ((i + 1 : Nat) : Int) ≤ (t.length : Int) by omega), B_cut, hdr1, if_pos (show i + (t.length - (i + 1)) ≤ 9223372036854775807 by omega), hw1]
        exact f3
    · refine ⟨t, at_, sd, Ev.step (fun k => spec_l1Cur_spoilt.l0.eq_2 ..) ?_, by omega⟩
      simp only [if_pos (show ((n + 1 : Nat) : Int) > 0 by omega), B_size]
      refine Ev.step (fun k => spec_l1Cur_spoilt.j1.eq_2 ..) ?_
      simp only [decide_eq_false hz, Bool.false_eq_true, if_false]
      exact Ev.now _
theorem drawParse_f (l : List Int) (hl : Bytes l) : ∃ t, Ev (fun k => spec_DrawParseScheme.f k l) (B t) ∧ t.length ≤ 1000 := by
  unfold spec_DrawParseScheme.f
  obtain ⟨m, ws, a1, s1, e1, hs, _, _, h6, p1⟩ := sureScheme_f l hl 0 0 (by omega) (by omega)
  obtain ⟨_, _, ht⟩ := txt_facts m ws hs
  obtain ⟨c, a2, s2, e2, p2⟩ := one_f l hl a1 s1 a1 3 (by omega) (Int.le_refl _) (by omega)
  obtain ⟨x, a3, s3, e3, p3⟩ := pick_f l hl a2 s2 a2 2 (by omega) (Int.le_refl _) (by omega)
  obtain ⟨n, rfl⟩ : ∃ n : Nat, x = (n : Int) := ⟨x.toNat, by omega⟩
  obtain ⟨t, b, r, f, q⟩ := spoilt_l0 l hl [48, 49, 50, 51, 58, 44, 120] (by simp) (n + 1) a3 s3 (txt m ws) (by omega) (by omega) (by omega) (by omega)
  have hw : wrap64 (1 + (n : Int)) = ((n + 1 : Nat) : Int) := by rw [w_id (by omega) (by omega)]; omega
  cases c with
  | true =>
    refine ⟨t, Ev.bind e1 (Ev.bind (ckText_f m ws hs) ?_), by omega⟩
    simp only [e2, Option.bind_some, if_true]
    refine Ev.bind (a := (B t, b, r)) ?_ (Ev.now _)
    unfold spec_l1Cur_spoilt.f
    simp only [e3, Option.bind_some, hw]
    exact f
  | false =>
    refine ⟨txt m ws, Ev.bind e1 (Ev.bind (ckText_f m ws hs) ?_), by omega⟩
    simp only [e2, Option.bind_some, Bool.false_eq_true, if_false]
    exact Ev.now _
end Go.Proofs.YtemhkdpokbmmcaaGreatDoor.PB
