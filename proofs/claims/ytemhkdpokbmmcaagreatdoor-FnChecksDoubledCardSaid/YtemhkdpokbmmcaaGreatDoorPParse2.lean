/- Both parsers as printed; lists compared; doubled digits missed. -/
import Derived.Test.YtemhkdpokbmmcaaGreatDoorPDraw3
import Derived.Test.YtemhkdpokbmmcaaGreatDoorA2
import Derived.Test.YtemhkdpokbmmcaaGreatDoorA0
namespace Go.Proofs.YtemhkdpokbmmcaaGreatDoor.PB
set_option linter.unusedSimpArgs false
set_option linter.unusedVariables false
open Go.RowKit Go.Proofs.YtemhkdpokbmmcaaGreatDoorW.PrintWords Go.Proofs.YtemhkdpokbmmcaaGreatDoor.MCD
theorem atoi_f (l : List UInt8) (hl : l.length ≤ 1000000000) : strconv_Atoi_153.f (B l) = some (atoiV l) := by
  unfold strconv_Atoi_153.f
  rw [if_pos (by rw [B_size]; omega), B_data]; rfl
theorem rdOf_nat' {α : Type} (d : α) (l : List α) (i : Nat) : rdOf d l (i : Int) = l.getD i d := rfl
theorem rdOf_B (xs : List (List UInt8)) (i : Nat) (h : i < xs.length) : rdOf ByteArray.empty (xs.map B) (i : Int) = B xs[i] := by
  rw [rdOf_nat', getD_lt _ _ _ (by rw [List.length_map]; exact h), List.getElem_map]
theorem implP_l0 (l : List UInt8) (m : Int) (xs : List (List UInt8)) (hx : xs.length ≤ 1000001) (hxl : ∀ x ∈ xs, x.length ≤ 1000000) : ∀ (n i : Nat), xs.length - i = n → i ≤ xs.length → Ev (fun k => impl_ParseScheme.l0 k (B l) (xs.map B) (xs.length : Int) (i : Int) m ((xs.take i).map atoiV)) (if schemeOk m (xs.map atoiV) = true ∧ txt m (xs.map atoiV) = l then (m, xs.map atoiV, true) else (0, [], false))
  | 0, i, hn, hi => by
    refine Ev.step (fun k => impl_ParseScheme.l0.eq_2 ..) ?_
    simp only [if_neg (show ¬ ((i : Int) < (xs.length : Int)) by omega), List.take_of_length_le (show xs.length ≤ i by omega)]
    refine Ev.bind (implText m (xs.map atoiV) (by rw [List.length_map]; omega)) ?_
    cases hs : schemeOk m (xs.map atoiV) with
    | false => exact Ev.now _
    | true =>
      simp only [if_true, B_toList, true_and]
      by_cases ht : txt m (xs.map atoiV) = l
      · simp only [if_pos ht]; exact Ev.now _
      · simp only [if_neg ht]; exact Ev.now _
  | n + 1, i, hn, hi => by
    have hi' : i < xs.length := by omega
    refine Ev.step (fun k => impl_ParseScheme.l0.eq_2 ..) ?_
    have ih := implP_l0 l m xs hx hxl n (i + 1) (by omega) (by omega)
    rw [← List.take_append_getElem hi', List.map_append] at ih
    have hxi := hxl xs[i] (List.getElem_mem _)
    have hw := w_succ (show i < 9223372036854775807 by omega)
    refine Ev.congr (g := _) (f := fun k => impl_ParseScheme.l0 k (B l) (xs.map B) (xs.length : Int) ((i + 1 : Nat) : Int) m ((xs.take i).map atoiV ++ [atoiV xs[i]])) (fun k => ?_) ih
    rw [if_pos (show ((i : Int) < (xs.length : Int)) by omega), if_pos (show (0 : Int) ≤ (i : Int) by omega), List.length_map, if_pos (show ((i : Int) < (xs.length : Int)) by omega), rdOf_B xs i hi', atoi_f _ (by omega), Option.bind_some, if_pos (show ((xs.take i).map atoiV).length < 17592186044416 by rw [List.length_map, List.length_take]; omega), hw]
theorem sp_short (c : UInt8) : ∀ l : List UInt8, ∀ x ∈ sp c l, x.length ≤ l.length
  | [], x, h => by simp [sp] at h; subst h; simp
  | y :: l, x, h => by
    have ih := sp_short c l
    by_cases hy : y = c
    · subst hy
      rw [sp_cons_eq] at h
      rcases List.mem_cons.1 h with rfl | h
      · simp
      · have := ih x h; simp; omega
    · rw [sp_cons_ne c y l hy] at h
      cases hs : sp c l with
      | nil => exact absurd hs (sp_ne c l)
      | cons a b =>
        rw [hs] at h ih
        simp only [glue] at h
        rcases List.mem_cons.1 h with rfl | h
        · have := ih a (by simp); simp; omega
        · have := ih x (by simp [h]); simp; omega
theorem cutL_short (l : List UInt8) : (cutL 58 l).1.length ≤ l.length ∧ (cutL 58 l).2.1.length ≤ l.length := by
  unfold cutL
  have h := sp_short 58 l
  split
  · rename_i a hs; exact ⟨h a (by rw [hs]; simp), by simp⟩
  · rename_i a _ _ hs; exact ⟨h a (by rw [hs]; simp), by simp⟩
  · simp
theorem implParse_f (l : List UInt8) (hl : l.length ≤ 1000000) : Ev (fun k => impl_ParseScheme.f k (B l)) (parseI l) := by
  unfold impl_ParseScheme.f parseI
  obtain ⟨h1, h2⟩ := cutL_short l
  rw [cut_f 58 l (by omega)]
  simp only [Option.bind_some]
  rw [atoi_f _ (by omega)]
  simp only [Option.bind_some]
  rw [split_f 44 _ (by omega)]
  simp only [Option.bind_some]
  have hx := sp_length 44 (cutL 58 l).2.1
  have := implP_l0 l (atoiV (cutL 58 l).1) (sp 44 (cutL 58 l).2.1) (by omega) (fun x hx => by have := sp_short 44 _ x hx; omega) _ 0 rfl (by omega)
  rw [List.length_map]
  exact this
theorem specP_l0 (m : Int) (xs : List (List UInt8)) (hx : xs.length ≤ 1000001) (hxl : ∀ x ∈ xs, x.length ≤ 1000000) : ∀ (n i : Nat), xs.length - i = n → i ≤ xs.length → Ev (fun k => spec_ckParse.l0 k (xs.map B) (xs.length : Int) (i : Int) m ((xs.take i).map readV)) (if schemeOk m (xs.map readV) = true then (m, xs.map readV, true) else (0, [], false))
  | 0, i, hn, hi => by
    refine Ev.step (fun k => spec_ckParse.l0.eq_2 ..) ?_
    simp only [if_neg (show ¬ ((i : Int) < (xs.length : Int)) by omega), List.take_of_length_le (show xs.length ≤ i by omega)]
    refine Ev.bind (ckGood_f m (xs.map readV) (by rw [List.length_map]; omega)) ?_
    cases hs : schemeOk m (xs.map readV) with
    | false => exact Ev.now _
    | true => exact Ev.now _
  | n + 1, i, hn, hi => by
    have hi' : i < xs.length := by omega
    have ih := specP_l0 m xs hx hxl n (i + 1) (by omega) (by omega)
    rw [← List.take_append_getElem hi', List.map_append] at ih
    have hxi := hxl xs[i] (List.getElem_mem _)
    have hr := rdOf_B xs i hi'
    refine Ev.step (fun k => spec_ckParse.l0.eq_2 ..) ?_
    simp only [List.length_map, if_pos (show ((i : Int) < (xs.length : Int)) by omega), if_pos (show (0 : Int) ≤ (i : Int) by omega), hr, w_succ (show i < 9223372036854775807 by omega)]
    refine Ev.bind (l1Read_f xs[i] (by omega)) ?_
    simp only [List.length_take, if_pos (show min i xs.length < 17592186044416 by omega)]
    exact ih
theorem specParse_f (l : List UInt8) (hl : l.length ≤ 1000000) : Ev (fun k => spec_ParseScheme.f k (B l)) (parseS l) := by
  unfold spec_ParseScheme.f
  refine Ev.bind (a := parseS l) ?_ (Ev.now _)
  unfold spec_ckParse.f parseS
  have hs58 : Ev (fun k => spec_l1Split.f k (B l) 58) ((sp 58 l).map B) := l1Split_f l 58 (by omega)
  refine Ev.bind hs58 ?_
  rw [B_size]
  by_cases h40 : l.length > 40
  · simp only [if_pos (show (l.length : Int) > 40 by omega), if_pos (show l.length > 40 ∨ (sp 58 l).length ≠ 2 from .inl h40)]
    refine Ev.step (fun k => spec_ckParse.j0.eq_2 ..) ?_
    simp only [if_true]
    exact Ev.now _
  · simp only [if_neg (show ¬ (l.length : Int) > 40 by omega), List.length_map]
    refine Ev.step (fun k => spec_ckParse.j0.eq_2 ..) ?_
    by_cases h2 : (sp 58 l).length = 2
    · have hne : (((sp 58 l).length : Int) != 2) = false := by rw [h2]; rfl
      obtain ⟨a, b, hab⟩ : ∃ a b, sp 58 l = [a, b] := by
        match hsp : sp 58 l, h2 with
        | [a, b], _ => exact ⟨a, b, rfl⟩
      have hsa := sp_short 58 l a (by rw [hab]; simp)
      have hsb := sp_short 58 l b (by rw [hab]; simp)
      have ra : rdOf ByteArray.empty ([a, b].map B) 0 = B a := rfl
      have rb : rdOf ByteArray.empty ([a, b].map B) 1 = B b := rfl
      simp only [hne, Bool.false_eq_true, if_false, hab, ra, rb, List.length_map, List.length_cons, List.length_nil, if_neg (show ¬ (l.length > 40 ∨ ([a, b] : List (List UInt8)).length ≠ 2) from fun h => h.elim h40 (fun h => h rfl)), List.getD_cons_zero, List.getD_cons_succ]
      simp only [if_pos (show (0 : Int) < ((0 + 1 + 1 : Nat) : Int) by omega), if_pos (show (1 : Int) < ((0 + 1 + 1 : Nat) : Int) by omega)]
      refine Ev.bind (l1Read_f a (by omega)) ?_
      refine Ev.bind (show Ev (fun k => spec_l1Split.f k (B b) 44) ((sp 44 b).map B) from l1Split_f b 44 (by omega)) ?_
      have hx := sp_length 44 b
      have := specP_l0 (readV a) (sp 44 b) (by omega) (fun x hx => by have := sp_short 44 _ x hx; omega) _ 0 rfl (by omega)
      rw [List.length_map, if_neg (show ¬ (l.length > 40 ∨ 0 + 1 + 1 ≠ 2) by omega)]
      exact this
    · have hne : (((sp 58 l).length : Int) != 2) = true := by
        rw [bne_iff_ne]; omega
      simp only [hne, if_true, if_pos (show l.length > 40 ∨ (sp 58 l).length ≠ 2 from .inr h2)]
      exact Ev.now _
/-! ### Lists compared -/
theorem fSame_l0 (xs : List Int) (hl : xs.length ≤ 1000000000) : ∀ (n i : Nat), xs.length - i = n → i ≤ xs.length → Ev (fun k => laws_fSame.l0 k xs xs (xs.length : Int) (i : Int)) true
  | 0, i, hn, hi => by
    refine Ev.step (fun k => laws_fSame.l0.eq_2 ..) ?_
    simp only [if_neg (show ¬ ((i : Int) < (xs.length : Int)) by omega)]
    exact Ev.now _
  | n + 1, i, hn, hi => by
    refine Ev.step (fun k => laws_fSame.l0.eq_2 ..) ?_
    simp only [if_pos (show ((i : Int) < (xs.length : Int)) by omega), if_pos (show (0 : Int) ≤ (i : Int) by omega), if_true, w_succ (show i < 9223372036854775807 by omega)]
    exact fSame_l0 xs hl n (i + 1) (by omega) (by omega)
theorem fSame_f (xs : List Int) (hl : xs.length ≤ 1000000000) : Ev (fun k => laws_fSame.f k xs xs) true := by
  unfold laws_fSame.f
  simp only [if_true]
  exact fSame_l0 xs hl xs.length 0 (by omega) (by omega)
theorem fScheme_f (m : Int) (xs : List Int) (hl : xs.length ≤ 1000000000) : Ev (fun k => laws_fScheme.f k m xs m xs) true := by
  unfold laws_fScheme.f
  simp only [if_true]
  exact Ev.bind (fSame_f xs hl) (Ev.now _)
end Go.Proofs.YtemhkdpokbmmcaaGreatDoor.PB
