/- The draws: whatever the bytes, each draw ends, and within its bounds. -/
import Derived.Test.YtemhkdpokbmmcaaGreatDoorPCkA
import Derived.Test.YtemhkdpokbmmcaaGreatDoorA1
namespace Go.Proofs.YtemhkdpokbmmcaaGreatDoor.PB
set_option linter.unusedVariables false
open Go.RowKit Go.Proofs.YtemhkdpokbmmcaaGreatDoorW.PrintWords Go.Proofs.YtemhkdpokbmmcaaGreatDoor.MCD
theorem wraps_u64 (n : Int) (h0 : 0 ≤ n) (h1 : n < 2 ^ 64) : IntKind.u64.wrap n = n := by
  show n % 18446744073709551616 = n
  omega
theorem bits_and_255 (x : Int) (h : 0 ≤ x) (h1 : x < 18446744073709551616) : 0 ≤ Go.bits .and .u64 x 255 ∧ Go.bits .and .u64 x 255 ≤ 255 := by
  have e : Go.bits .and .u64 x 255 = x % 256 := Go.bits_mask .u64 64 (by decide) wraps_u64 8 (by decide) x h h1
  rw [e]; omega
theorem w64_small {x : Int} (h : 0 ≤ x) (h' : x ≤ 9223372036854775807) : wrap64 x = x := w_id (by omega) h'
/-- Bytes. -/
def Bytes (l : List Int) : Prop := ∀ x ∈ l, 0 ≤ x ∧ x ≤ 255
theorem Bytes.rd {l : List Int} (h : Bytes l) (i : Int) (h1 : i < (l.length : Int)) (h0 : 0 ≤ i) : 0 ≤ rd l i ∧ rd l i ≤ 255 := by
  obtain ⟨n, rfl⟩ : ∃ n : Nat, i = (n : Int) := ⟨i.toNat, by omega⟩
  rw [rd_nat, getD_lt l n 0 (by omega)]
  exact h _ (List.getElem_mem _)
theorem u64_nonneg (x : Int) : 0 ≤ IntKind.u64.wrap x := by
  show 0 ≤ x % 18446744073709551616
  omega
theorem u64_lt (x : Int) : IntKind.u64.wrap x < 18446744073709551616 := by
  show x % 18446744073709551616 < _
  omega
theorem next_f (l : List Int) (hl : Bytes l) (at_ sd M : Int) (h0 : 0 ≤ at_) (h1 : at_ ≤ M) (hM : M < 4611686018427387904) : ∃ b a' s', spec_l1Cur_next.f l at_ sd = some (b, a', s') ∧ 0 ≤ b ∧ b ≤ 255 ∧ 0 ≤ a' ∧ a' ≤ M + 1 := by
  unfold spec_l1Cur_next.f
  have hw : wrap64 (at_ + 1) = at_ + 1 := w64_small (by omega) (by omega)
  rw [hw]
  by_cases c : at_ < (l.length : Int)
  · have hb := hl.rd at_ c h0
    rw [if_pos c, if_pos h0]
    by_cases c2 : at_ + 1 ≤ (l.length : Int)
    · rw [if_pos c2]
      refine ⟨_, _, _, rfl, ?_⟩
      rw [w64_small hb.1 (by omega)]
      omega
    · rw [if_neg c2]; omega
  · rw [if_neg c]
    by_cases c2 : at_ + 1 ≤ (l.length : Int)
    · rw [if_pos c2]
      exact ⟨_, _, _, rfl, by omega⟩
    · rw [if_neg c2]
      refine ⟨_, _, _, rfl, ?_⟩
      have hb := bits_and_255 (IntKind.u64.wrap (IntKind.u64.wrap (IntKind.u64.wrap (sd * 6364136223846793005)) + 1442695040888963407) / 1099511627776) (Int.ediv_nonneg (u64_nonneg _) (by omega)) (by have := u64_lt (IntKind.u64.wrap (IntKind.u64.wrap (sd * 6364136223846793005)) + 1442695040888963407); omega)
      rw [w64_small hb.1 (by omega)]
      omega
theorem pick_f (l : List Int) (hl : Bytes l) (at_ sd M n : Int) (h0 : 0 ≤ at_) (h1 : at_ ≤ M) (hM : M < 4611686018427387000) : ∃ x a' s', spec_l1Cur_pick.f l at_ sd n = some (x, a', s') ∧ 0 ≤ x ∧ (x = 0 ∨ x < n) ∧ 0 ≤ a' ∧ a' ≤ M + 2 := by
  unfold spec_l1Cur_pick.f
  by_cases c : n ≤ 1
  · rw [if_pos c]; exact ⟨_, _, _, rfl, by omega⟩
  rw [if_neg c]
  obtain ⟨b, a1, s1, e1, p1⟩ := next_f l hl at_ sd M h0 h1 (by omega)
  rw [e1]
  simp only [Option.bind_some]
  by_cases c2 : n > 200
  · rw [if_pos c2]
    obtain ⟨b2, a2, s2, e2, p2⟩ := next_f l hl a1 s1 (M + 1) (by omega) (by omega) (by omega)
    rw [e2]
    simp only [Option.bind_some]
    rw [if_neg (by omega)]
    refine ⟨_, _, _, rfl, ?_⟩
    rw [w64_small (show 0 ≤ b * 256 by omega) (by omega), w64_small (show 0 ≤ b * 256 + b2 by omega) (by omega), Int.tmod_eq_emod_of_nonneg (by omega)]
    have := Int.emod_nonneg (b * 256 + b2) (show n ≠ 0 by omega)
    have := Int.emod_lt_of_pos (b * 256 + b2) (show 0 < n by omega)
    omega
  · rw [if_neg c2, if_neg (by omega)]
    refine ⟨_, _, _, rfl, ?_⟩
    rw [Int.tmod_eq_emod_of_nonneg (by omega)]
    have := Int.emod_nonneg b (show n ≠ 0 by omega)
    have := Int.emod_lt_of_pos b (show 0 < n by omega)
    omega
theorem among_f (l : List Int) (hl : Bytes l) (at_ sd M : Int) (xs : List Int) (hx : xs ≠ []) (hs : xs.length ≤ 200) (h0 : 0 ≤ at_) (h1 : at_ ≤ M) (hM : M < 4611686018427387000) : ∃ x a' s', spec_l1Cur_among.f l at_ sd xs = some (x, a', s') ∧ x ∈ xs ∧ 0 ≤ a' ∧ a' ≤ M + 2 := by
  unfold spec_l1Cur_among.f
  obtain ⟨x, a', s', e, p⟩ := pick_f l hl at_ sd M (xs.length : Int) h0 h1 hM
  have hp : 0 < xs.length := List.length_pos_iff.2 hx
  rw [e]
  simp only [Option.bind_some]
  have hlt : x < (xs.length : Int) := by omega
  rw [if_pos (by omega), if_pos hlt]
  obtain ⟨n, rfl⟩ : ∃ n : Nat, x = (n : Int) := ⟨x.toNat, by omega⟩
  refine ⟨_, _, _, rfl, ?_, by omega, by omega⟩
  rw [rd_nat, getD_lt xs n 0 (by omega)]
  exact List.getElem_mem _
theorem sureScheme_l0 (l : List Int) (hl : Bytes l) (m : Int) (hm2 : 2 ≤ m) : ∀ (n : Nat) (at_ sd : Int) (ws : List Int), (∀ w ∈ ws, 0 ≤ w ∧ w ≤ m - 1) → n ≤ 10 → ws.length + n ≤ 12 → 0 ≤ at_ → at_ + 2 * n ≤ 1000000 → ∃ ws' a' s', Ev (fun k => spec_l1Cur_sureScheme.l0 k (n : Int) l at_ sd m ws) (m, ws', a', s') ∧ (∀ w ∈ ws', 0 ≤ w ∧ w ≤ m - 1) ∧ ws'.length = ws.length + n ∧ 0 ≤ a' ∧ a' ≤ at_ + 2 * n
  | 0, at_, sd, ws, hws, hn, hw, h0, h1 => by
    refine ⟨ws, at_, sd, Ev.step (fun k => spec_l1Cur_sureScheme.l0.eq_2 ..) ?_, hws, by omega⟩
    simp only [if_neg (show ¬ (((0 : Nat) : Int) > 0) by omega)]
    exact Ev.now _
  | n + 1, at_, sd, ws, hws, hn, hw, h0, h1 => by
    obtain ⟨x, a1, s1, e1, p1⟩ := pick_f l hl at_ sd at_ m h0 (Int.le_refl _) (by omega)
    obtain ⟨ws', a', s', e, pw, p⟩ := sureScheme_l0 l hl m hm2 n a1 s1 (ws ++ [x]) (fun w hw => by
      rcases List.mem_append.1 hw with h | h
      · exact hws w h
      · rw [List.mem_singleton.1 h]; omega) (by omega) (by simp; omega) (by omega) (by omega)
    refine ⟨ws', a', s', Ev.step (fun k => spec_l1Cur_sureScheme.l0.eq_2 ..) ?_, pw, by simp at p; omega⟩
    have hw1 : wrap64 (((n + 1 : Nat) : Int) - 1) = (n : Int) := by rw [w_id (by omega) (by omega)]; omega
    simp only [if_pos (show ((n + 1 : Nat) : Int) > 0 by omega), e1, Option.bind_some, if_pos (show ws.length < 17592186044416 by omega), hw1]
    exact e
theorem sureScheme_f (l : List Int) (hl : Bytes l) (at_ sd : Int) (h0 : 0 ≤ at_) (h1 : at_ ≤ 100000) : ∃ m ws a' s', Ev (fun k => spec_l1Cur_sureScheme.f k l at_ sd) (m, ws, a', s') ∧ schemeOk m ws = true ∧ (2 ≤ m ∧ m ≤ 13) ∧ 1 ≤ ws.length ∧ ws.length ≤ 6 ∧ 0 ≤ a' ∧ a' ≤ at_ + 20 := by
  unfold spec_l1Cur_sureScheme.f
  obtain ⟨m, a1, s1, e1, hm, p1⟩ := among_f l hl at_ sd at_ [10, 10, 11, 11, 7, 9, 13, 2] (by simp) (by simp) h0 (Int.le_refl _) (by omega)
  obtain ⟨x, a2, s2, e2, p2⟩ := pick_f l hl a1 s1 a1 6 (by omega) (Int.le_refl _) (by omega)
  obtain ⟨n, rfl⟩ : ∃ n : Nat, x = (n : Int) := ⟨x.toNat, by omega⟩
  have hm13 : 2 ≤ m ∧ m ≤ 13 := by
    have : ∀ m ∈ ([10, 10, 11, 11, 7, 9, 13, 2] : List Int), 2 ≤ m ∧ m ≤ 13 := by decide
    exact this m hm
  obtain ⟨ws, a', s', e, pw, p⟩ := sureScheme_l0 l hl m hm13.1 (n + 1) a2 s2 [] (by simp) (by omega) (by simp; omega) (by omega) (by omega)
  simp only [List.length_nil] at p
  have hw : wrap64 (1 + (n : Int)) = ((n + 1 : Nat) : Int) := by rw [w_id (by omega) (by omega)]; omega
  refine ⟨m, ws, a', s', ?_, ?_, hm13, by omega, by omega, by omega, by omega⟩
  · simp only [e1, e2, Option.bind_some, hw]
    exact e
  · unfold schemeOk
    rw [decide_eq_true hm13.1, decide_eq_true hm13.2, decide_eq_true (show 1 ≤ ws.length by omega), decide_eq_true (show ws.length ≤ 12 by omega)]
    simp only [Bool.true_and, List.all_eq_true, Bool.and_eq_true, decide_eq_true_eq]
    exact pw
theorem scheme_f (l : List Int) (hl : Bytes l) (at_ sd : Int) (h0 : 0 ≤ at_) (h1 : at_ ≤ 100000) : ∃ m ws a' s', Ev (fun k => spec_l1Cur_scheme.f k l at_ sd) (m, ws, a', s') ∧ ws.length ≤ 6 ∧ 0 ≤ a' ∧ a' ≤ at_ + 30 := by
  unfold spec_l1Cur_scheme.f
  obtain ⟨m, ws, a1, s1, e1, _, hm, hw1, hw6, p1⟩ := sureScheme_f l hl at_ sd h0 h1
  obtain ⟨x, a2, s2, e2, p2⟩ := pick_f l hl a1 s1 a1 16 (by omega) (Int.le_refl _) (by omega)
  obtain ⟨y, a3, s3, e3, hy3, p3⟩ := among_f l hl a2 s2 a2 [0, 1, (-1), 14, 4611686018427387904] (by simp) (by simp) (by omega) (Int.le_refl _) (by omega)
  obtain ⟨z, a4, s4, e4, hz4, p4⟩ := among_f l hl a2 s2 a2 [(-1), m, 4611686018427387904] (by simp) (by simp) (by omega) (Int.le_refl _) (by omega)
  by_cases c0 : x = 0
  · refine ⟨y, ws, a3, s3, Ev.bind e1 ?_, by omega, by omega, by omega⟩
    simp only [e2, Option.bind_some, if_pos c0, e3]
    exact Ev.now _
  by_cases c1 : x = 1
  · refine ⟨m, ws.set (0 : Int).toNat z, a4, s4, Ev.bind e1 ?_, by rw [List.length_set]; omega, by omega, by omega⟩
    simp only [e2, Option.bind_some, if_neg c0, if_pos c1, e4, if_pos (show 0 < (ws.length : Int) by omega)]
    exact Ev.now _
  by_cases c2 : x = 2
  · refine ⟨m, [], a2, s2, Ev.bind e1 ?_, by simp, by omega, by omega⟩
    simp only [e2, Option.bind_some, if_neg c0, if_neg c1, if_pos c2]
    exact Ev.now _
  · refine ⟨m, ws, a2, s2, Ev.bind e1 ?_, by omega, by omega, by omega⟩
    simp only [e2, Option.bind_some, if_neg c0, if_neg c1, if_neg c2]
    exact Ev.now _
theorem drawIsScheme_f (l : List Int) (hl : Bytes l) : ∃ m ws, Ev (fun k => spec_DrawIsScheme.f k l) (m, ws) ∧ ws.length ≤ 6 := by
  obtain ⟨m, ws, a', s', e, hw, _⟩ := scheme_f l hl 0 0 (by omega) (by omega)
  exact ⟨m, ws, Ev.bind e (Ev.now _), hw⟩
theorem drawCountRight_f (l : List Int) (hl : Bytes l) : ∃ m ws, Ev (fun k => spec_DrawCountRight.f k l) (m, ws) ∧ ws.length ≤ 6 := by
  obtain ⟨m, ws, e, hw⟩ := drawIsScheme_f l hl
  exact ⟨m, ws, Ev.bind e (Ev.now _), hw⟩
end Go.Proofs.YtemhkdpokbmmcaaGreatDoor.PB
