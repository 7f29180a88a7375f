/- Splitting a text at a byte, in plain lists; what both sides' splits compute. -/
import Derived.Test.YtemhkdpokbmmcaaGreatDoorPText
import Derived.Test.YtemhkdpokbmmcaaGreatDoorA2
import Derived.Lib.SplitLaws
namespace Go.Proofs.YtemhkdpokbmmcaaGreatDoor.PB
set_option linter.unusedVariables false
open Go.RowKit Go.Proofs.YtemhkdpokbmmcaaGreatDoorW.PrintWords Go.Proofs.YtemhkdpokbmmcaaGreatDoor.MCD
def sp (c : UInt8) : List UInt8 → List (List UInt8)
  | [] => [[]]
  | x :: l => if x = c then [] :: sp c l else match sp c l with
    | h :: t => (x :: h) :: t
    | [] => [[x]]
def glue (p : List UInt8) : List (List UInt8) → List (List UInt8)
  | h :: t => (p ++ h) :: t
  | [] => [p]
theorem sp_ne (c : UInt8) (l : List UInt8) : sp c l ≠ [] := by
  cases l with
  | nil => simp [sp]
  | cons x l => simp only [sp]; split; simp; split <;> simp
theorem sp_cons_eq (c : UInt8) (l : List UInt8) : sp c (c :: l) = [] :: sp c l := by simp [sp]
theorem sp_cons_ne (c x : UInt8) (l : List UInt8) (h : x ≠ c) : sp c (x :: l) = glue [x] (sp c l) := by
  simp only [sp, if_neg h]
  cases hs : sp c l with
  | nil => exact absurd hs (sp_ne c l)
  | cons a b => rfl
theorem glue_nil (ss : List (List UInt8)) (h : ss ≠ []) : glue [] ss = ss := by cases ss with
  | nil => exact absurd rfl h
  | cons a b => rfl
theorem glue_glue (p q : List UInt8) (ss : List (List UInt8)) (h : ss ≠ []) : glue p (glue q ss) = glue (p ++ q) ss := by cases ss with
  | nil => exact absurd rfl h
  | cons a b => simp [glue]
theorem sp_length (c : UInt8) : ∀ l : List UInt8, (sp c l).length ≤ l.length + 1
  | [] => by simp [sp]
  | x :: l => by
    have := sp_length c l
    by_cases h : x = c
    · subst h; rw [sp_cons_eq]; simp; omega
    · rw [sp_cons_ne c x l h]
      cases hs : sp c l with
      | nil => exact absurd hs (sp_ne c l)
      | cons a b => rw [hs] at this; simp [glue] at this ⊢; omega
theorem l1Split_l0 (l : List UInt8) (c : UInt8) (hl : l.length ≤ 1000000000) : ∀ (n i f : Nat) (acc : List ByteArray), l.length - i = n → f ≤ i → i ≤ l.length → acc.length ≤ i → Ev (fun k => spec_l1Split.l0 k (B l) (c.toNat : Int) acc (f : Int) (i : Int)) (acc ++ (glue ((l.drop f).take (i - f)) (sp c (l.drop i))).map B)
  | 0, i, f, acc, hn, hf, hi, ha => by
    refine Ev.step (fun k => spec_l1Split.l0.eq_2 ..) ?_
    have e : (B l).extract f l.length = B (l.drop f) := by
      rw [B_extract]; congr 1
      exact List.take_of_length_le (by simp)
    simp only [B_size, if_neg (show ¬ ((i : Int) < (l.length : Int)) by omega), if_pos (show (0 : Int) ≤ (f : Int) by omega), if_pos (show (f : Int) ≤ (l.length : Int) by omega), if_pos (show acc.length < 8796093022208 by omega), toNat_cast, e]
    refine Ev.id (Ev.now _) ?_
    rw [List.drop_eq_nil_of_le (show l.length ≤ i by omega), List.take_of_length_le (show (l.drop f).length ≤ i - f by simp; omega)]
    simp [sp, glue]
  | n + 1, i, f, acc, hn, hf, hi, ha => by
    have hi' : i < l.length := by omega
    refine Ev.step (fun k => spec_l1Split.l0.eq_2 ..) ?_
    have e : (B l).extract f i = B ((l.drop f).take (i - f)) := B_extract l f i
    have hd : l.drop i = l[i] :: l.drop (i + 1) := List.drop_eq_getElem_cons hi'
    simp only [B_size, if_pos (show ((i : Int) < (l.length : Int)) by omega), if_pos (show (0 : Int) ≤ (i : Int) by omega), bt_nat, getD_lt l i 0 hi', w_succ (show i < 9223372036854775807 by omega)]
    by_cases hc : l[i] = c
    · simp only [if_pos (show ((l[i].toNat : Int) = (c.toNat : Int)) by rw [hc]), if_pos (show (0 : Int) ≤ (f : Int) by omega), if_pos (show (f : Int) ≤ (i : Int) by omega), if_pos (show (i : Int) ≤ (l.length : Int) by omega), if_pos (show acc.length < 8796093022208 by omega), toNat_cast, e]
      have := l1Split_l0 l c hl n (i + 1) (i + 1) (acc ++ [B ((l.drop f).take (i - f))]) (by omega) (by omega) (by omega) (by simp; omega)
      rw [Nat.sub_self, List.take_zero, glue_nil _ (sp_ne _ _)] at this
      rw [hd, hc, sp_cons_eq]
      simp only [glue, List.append_nil, List.map_cons]
      rw [List.append_assoc] at this
      exact this
    · have hne : ¬ ((l[i].toNat : Int) = (c.toNat : Int)) := fun h => hc (UInt8.toNat_inj.1 (by omega))
      simp only [if_neg hne]
      have := l1Split_l0 l c hl n (i + 1) f acc (by omega) (by omega) (by omega) (by omega)
      rw [hd, sp_cons_ne c _ _ hc, glue_glue _ _ _ (sp_ne _ _)]
      have e2 : (l.drop f).take (i + 1 - f) = (l.drop f).take (i - f) ++ [l[i]] := by
        have h1 : i + 1 - f = (i - f) + 1 := by omega
        have h2 : i - f < (l.drop f).length := by simp; omega
        rw [h1, ← List.take_append_getElem h2]
        congr 2
        rw [List.getElem_drop]
        congr 1; omega
      rw [e2] at this
      exact this
theorem l1Split_f (l : List UInt8) (c : UInt8) (hl : l.length ≤ 1000000000) : Ev (fun k => spec_l1Split.f k (B l) (c.toNat : Int)) ((sp c l).map B) := by
  have := l1Split_l0 l c hl l.length 0 0 [] (by omega) (by omega) (by omega) (by simp)
  simp only [List.nil_append, List.drop_zero, Nat.sub_self, List.take_zero] at this
  rw [glue_nil _ (sp_ne _ _)] at this
  exact this
/-! ### The library's -/
theorem index_one (c : UInt8) : ∀ s : List UInt8, Lib.index s [c] = Lib.indexByte s c
  | [] => by simp [Lib.index, Lib.indexByte]
  | x :: s => by
    have ih := index_one c s
    simp only [Lib.index, Lib.indexByte, ih]
    by_cases h : x = c
    · subst h; simp
    · have h' : ¬ c = x := fun e => h e.symm
      simp [h, h']
theorem indexByte_miss (c : UInt8) : ∀ s : List UInt8, c ∉ s → Lib.indexByte s c = -1
  | [], _ => rfl
  | x :: s, h => by
    have hx : ¬ x = c := fun e => h (by simp [e])
    have := indexByte_miss c s (fun e => h (by simp [e]))
    simp [Lib.indexByte, hx, this]
theorem indexByte_hit (c : UInt8) : ∀ p q : List UInt8, c ∉ p → Lib.indexByte (p ++ c :: q) c = (p.length : Int)
  | [], q, _ => by simp [Lib.indexByte]
  | x :: p, q, h => by
    have hx : ¬ x = c := fun e => h (by simp [e])
    have := indexByte_hit c p q (fun e => h (by simp [e]))
    simp only [List.cons_append, Lib.indexByte, this]
    simp [hx]
theorem sp_none (c : UInt8) : ∀ s : List UInt8, c ∉ s → sp c s = [s]
  | [], _ => rfl
  | x :: s, h => by
    have hx : ¬ x = c := fun e => h (by simp [e])
    rw [sp_cons_ne c x s hx, sp_none c s (fun e => h (by simp [e]))]; rfl
theorem sp_first (c : UInt8) : ∀ p q : List UInt8, c ∉ p → sp c (p ++ c :: q) = p :: sp c q
  | [], q, _ => sp_cons_eq c q
  | x :: p, q, h => by
    have hx : ¬ x = c := fun e => h (by simp [e])
    rw [List.cons_append, sp_cons_ne c x _ hx, sp_first c p q (fun e => h (by simp [e]))]; rfl
theorem first_at (c : UInt8) : ∀ s : List UInt8, c ∈ s → ∃ p q, s = p ++ c :: q ∧ c ∉ p
  | [], h => by simp at h
  | x :: s, h => by
    by_cases hx : x = c
    · exact ⟨[], s, by rw [hx]; rfl, by simp⟩
    · have h' : c ∈ s := by
        rcases List.mem_cons.1 h with e | e
        · exact absurd e.symm hx
        · exact e
      obtain ⟨p, q, e, hp⟩ := first_at c s h'
      exact ⟨x :: p, q, by rw [e]; rfl, by
        intro hm
        rcases List.mem_cons.1 hm with e2 | e2
        · exact hx e2.symm
        · exact hp e2⟩
theorem splitK_sp (c : UInt8) : ∀ (k : Nat) (l : List UInt8), l.count c = k → Lib.splitK [c] 0 k l = sp c l
  | 0, l, h => by
    have : c ∉ l := List.count_eq_zero.1 h
    rw [sp_none c l this]; rfl
  | k + 1, l, h => by
    have hm : c ∈ l := by
      rcases Classical.em (c ∈ l) with h1 | h1
      · exact h1
      · rw [List.count_eq_zero.2 h1] at h; cases h
    obtain ⟨p, q, rfl, hp⟩ := first_at c l hm
    have hi : Lib.index (p ++ c :: q) [c] = (p.length : Int) := by rw [index_one, indexByte_hit c p q hp]
    have hq : q.count c = k := by
      rw [List.count_append, List.count_cons_self, List.count_eq_zero.2 hp] at h; omega
    rw [sp_first c p q hp, Lib.splitK, hi, if_neg (by simp)]
    have e1 : (p ++ c :: q).take ((p.length : Int).toNat + 0) = p := by simp
    have e2 : (p ++ c :: q).drop ((p.length : Int).toNat + [c].length) = q := by
      rw [show ((p.length : Int).toNat + [c].length) = p.length + 1 from rfl, ← List.drop_drop]; simp
    rw [e1, e2, splitK_sp c k q hq]
theorem splitB_sp (c : UInt8) (l : List UInt8) : Lib.splitB ⟨#[c]⟩ 0 (Lib.countB (B l) ⟨#[c]⟩) (B l) = (sp c l).map B := by
  have h1 := Lib.splitB_data ⟨#[c]⟩ 0 (Lib.countB (B l) ⟨#[c]⟩) (B l)
  have e : Lib.countB (B l) ⟨#[c]⟩ = l.count c := by
    show Lib.count (B l).data.toList [c] = _
    rw [B_data, Lib.count_one]
  rw [e] at h1 ⊢
  have h2 : (⟨#[c]⟩ : ByteArray).data.toList = [c] := rfl
  rw [h2, B_data, splitK_sp c _ l rfl] at h1
  rw [← h1, List.map_map]
  have : (B ∘ fun x : ByteArray => x.data.toList) = id := by funext x; exact (B_eta x).symm
  rw [this, List.map_id]
theorem split_f (c : UInt8) (l : List UInt8) (hl : l.length ≤ 1000000000) : strings_Split.f (B l) ⟨#[c]⟩ = some ((sp c l).map B) := by
  unfold strings_Split.f
  rw [if_pos ⟨by rw [B_size]; omega, by show 1 ≤ 1; omega⟩, splitB_sp]
/-- The text ahead of the first c, and what follows it. -/
def cutL (c : UInt8) (l : List UInt8) : List UInt8 × List UInt8 × Bool := match sp c l with
  | [a] => (a, [], false)
  | a :: _ => (a, l.drop (a.length + 1), true)
  | [] => (l, [], false)
theorem cut_f (c : UInt8) (l : List UInt8) (hl : l.length ≤ 1000000000) : strings_Cut.f (B l) ⟨#[c]⟩ = some (B (cutL c l).1, B (cutL c l).2.1, (cutL c l).2.2) := by
  unfold strings_Cut.f stringslite_Cut.f stringslite_Index.f
  have e1 : (⟨#[c]⟩ : ByteArray).data.toList = [c] := rfl
  have e2 : (⟨#[c]⟩ : ByteArray).size = 1 := rfl
  rw [e1, e2, B_data]
  simp only [Option.bind_some]
  by_cases h : c ∈ l
  · obtain ⟨p, q, rfl, hp⟩ := first_at c l h
    have hL : (p ++ c :: q).length = p.length + 1 + q.length := by simp; omega
    rw [indexByte_hit c p q hp, if_pos (by omega), if_pos (by omega), B_size, hL, if_pos (by omega)]
    have ew : wrap64 ((p.length : Int) + ((1 : Nat) : Int)) = ((p.length + 1 : Nat) : Int) := by rw [w_id (by omega) (by omega)]; omega
    rw [ew, if_pos (by omega), if_pos (by omega)]
    simp only [Option.bind_some, toNat_cast, B_extract, Nat.sub_zero, List.drop_zero]
    have e3 : (p ++ c :: q).take p.length = p := by simp
    have e4 : (p ++ c :: q).drop (p.length + 1) = q := by rw [← List.drop_drop]; simp
    have e5 : q.take (p.length + 1 + q.length - (p.length + 1)) = q := List.take_of_length_le (by omega)
    rw [e3, e4, e5]
    have hc : cutL c (p ++ c :: q) = (p, q, true) := by
      unfold cutL
      rw [sp_first c p q hp]
      cases hq : sp c q with
      | nil => exact absurd hq (sp_ne c q)
      | cons a b => simp only [e4]
    rw [hc]
  · rw [indexByte_miss c l h, if_neg (by omega)]
    simp only [Option.bind_some]
    have hc : cutL c l = (l, [], false) := by
      unfold cutL
      rw [sp_none c l h]
    rw [hc]; rfl
end Go.Proofs.YtemhkdpokbmmcaaGreatDoor.PB
