/- Chapter 7, plain: the numbers in order, the least right completion, the next right number. No program. -/
import Derived.Test.YtanjemlodfanjaaDoorPCkDef
namespace Go.Proofs.YtanjemlodfanjaaDoor.PB
open Go.RowKit Go.Proofs.YtanjemlodfanjaaDoorW.PrintWords
def rg10 : List Nat := [0, 1, 2, 3, 4, 5, 6, 7, 8, 9]
def rg11 : List Nat := [0, 1, 2, 3, 4, 5, 6, 7, 8, 9, 10]
/-- All numbers of n digits and a check, in order. -/
def all : Nat → List (List UInt8)
  | 0 => rg11.map fun c => [sg c]
  | n + 1 => rg10.flatMap fun d => (all n).map (dg d :: ·)
/-- The numbers after l, in order. -/
def rest : List UInt8 → List (List UInt8)
  | [] => []
  | [c] => (rg11.drop (ckI c + 1).toNat).map fun c => [sg c]
  | d :: e :: l => (rest (e :: l)).map (d :: ·) ++ (rg10.drop (dv d + 1).toNat).flatMap fun x => (all l.length).map (dg x :: ·)
def right (m : Int) : List Int → Int → List UInt8 → Bool
  | [], r, [c] => (r + ckI c) % m == 0
  | w :: ws, r, d :: l => right m ws (r + dv d * w) l
  | _, _, _ => false
/-- The least right completion. -/
def firstFrom (m : Int) : List Int → Int → Option (List UInt8)
  | [], r => (rg11.find? fun c : Nat => (r + (c : Int)) % m == 0).map fun c => [sg c]
  | w :: ws, r => rg10.findSome? fun d : Nat => (firstFrom m ws (r + (d : Int) * w)).map (dg d :: ·)
/-- The least right number after l. -/
def nextAfter (m : Int) : List Int → Int → List UInt8 → Option (List UInt8)
  | [], r, [c] => ((rg11.drop (ckI c + 1).toNat).find? fun c : Nat => (r + (c : Int)) % m == 0).map fun c => [sg c]
  | w :: ws, r, d :: l => ((nextAfter m ws (r + dv d * w) l).map (d :: ·)).or ((rg10.drop (dv d + 1).toNat).findSome? fun x : Nat => (firstFrom m ws (r + (x : Int) * w)).map (dg x :: ·))
  | _, _, _ => none
/-- The number right after l. -/
def nextN : List UInt8 → Option (List UInt8)
  | [] => none
  | [c] => if ckI c < 10 then some [sg (ckI c + 1).toNat] else none
  | d :: e :: l => match nextN (e :: l) with
    | some y => some (d :: y)
    | none => if d.toNat = 57 then none else some (dg (d.toNat - 48 + 1) :: List.replicate (l.length + 1) 48)
theorem find?_map' {α β : Type} (f : α → β) (p : β → Bool) (l : List α) : (l.map f).find? p = (l.find? (fun x => p (f x))).map f := by
  induction l with
  | nil => rfl
  | cons a l ih => simp only [List.map_cons, List.find?_cons]; split <;> simp_all
theorem find?_flatMap' {α β : Type} (f : α → List β) (p : β → Bool) (l : List α) : (l.flatMap f).find? p = l.findSome? (fun x => (f x).find? p) := by
  induction l with
  | nil => rfl
  | cons a l ih => rw [List.flatMap_cons, List.find?_append, ih, List.findSome?_cons]; cases (f a).find? p <;> rfl
theorem findSome?_congr' {α β : Type} {f g : α → Option β} {l : List α} (h : ∀ x ∈ l, f x = g x) : l.findSome? f = l.findSome? g := by
  induction l with
  | nil => rfl
  | cons a l ih => rw [List.findSome?_cons, List.findSome?_cons, h a (by simp), ih (fun x hx => h x (by simp [hx]))]
theorem find?_congr' {α : Type} {f g : α → Bool} {l : List α} (h : ∀ x ∈ l, f x = g x) : l.find? f = l.find? g := by
  induction l with
  | nil => rfl
  | cons a l ih => rw [List.find?_cons, List.find?_cons, h a (by simp), ih (fun x hx => h x (by simp [hx]))]
theorem rg10_lt : ∀ x ∈ rg10, x < 10 := by decide
theorem rg11_lt : ∀ x ∈ rg11, x < 11 := by decide
theorem drop_mem {α : Type} {l : List α} {n : Nat} {x : α} (h : x ∈ l.drop n) : x ∈ l := List.mem_of_mem_drop h
theorem all_find (m : Int) : ∀ (ws : List Int) (r : Int), (all ws.length).find? (right m ws r) = firstFrom m ws r
  | [], r => by
    simp only [List.length_nil, all, firstFrom, find?_map']
    exact congrArg _ (find?_congr' fun c hc => by simp only [right]; rw [sg_ckI c (rg11_lt c hc)])
  | w :: ws, r => by
    simp only [List.length_cons, all, firstFrom, find?_flatMap']
    refine findSome?_congr' fun d hd => ?_
    rw [find?_map', ← all_find m ws (r + (d : Int) * w)]
    congr 1
    exact find?_congr' fun l _ => by simp only [right]; rw [dv_dg (rg10_lt d hd)]
theorem rest_find (m : Int) : ∀ (ws : List Int) (r : Int) (l : List UInt8), Nm ws.length l → (rest l).find? (right m ws r) = nextAfter m ws r l
  | [], r, l, h => by
    cases h
    simp only [rest, nextAfter, find?_map']
    congr 1
    exact find?_congr' fun c hc => by simp only [right]; rw [sg_ckI c (rg11_lt c (drop_mem hc))]
  | w :: ws, r, l, h => by
    cases h with
    | @cons n d l hd hl =>
      cases l with
      | nil => have := hl.length; simp at this
      | cons e l =>
        have hlen : l.length = ws.length := by have := hl.length; simpa using this
        simp only [rest, nextAfter]
        rw [List.find?_append, find?_map', find?_flatMap', ← rest_find m ws _ (e :: l) hl]
        congr 1
        refine findSome?_congr' fun x hx => ?_
        rw [find?_map', ← all_find m ws _, hlen]
        congr 1
        exact find?_congr' fun l _ => by simp only [right]; rw [dv_dg (rg10_lt x (drop_mem hx))]
theorem Nm.zeros : ∀ n, Nm n (List.replicate (n + 1) 48)
  | 0 => .nil (by decide)
  | n + 1 => .cons (by decide) (Nm.zeros n)
theorem all_zeros : ∀ n, all n = List.replicate (n + 1) 48 :: rest (List.replicate (n + 1) 48)
  | 0 => by decide
  | n + 1 => by
    have ih := all_zeros n
    have e : List.replicate (n + 1 + 1) (48 : UInt8) = 48 :: 48 :: List.replicate n 48 := rfl
    rw [e]
    simp only [rest]
    have e1 : all (n + 1) = (all n).map (dg 0 :: ·) ++ (rg10.drop 1).flatMap fun x => (all n).map (dg x :: ·) := by
      show rg10.flatMap _ = _
      rfl
    rw [e1]
    have e2 : (48 : UInt8) :: List.replicate n 48 = List.replicate (n + 1) 48 := rfl
    have e3 : dg 0 = 48 := by decide
    have e4 : (dv 48 + 1).toNat = 1 := by decide
    simp only [e2, e3, e4, List.length_replicate]
    conv => lhs; arg 1; rw [ih]
    simp only [List.map_cons, List.cons_append]
theorem rg10_drop {k : Nat} (h : k < 10) : rg10.drop k = k :: rg10.drop (k + 1) := by
  have : ∀ k, k < 10 → rg10.drop k = k :: rg10.drop (k + 1) := by decide
  exact this k h
theorem rg11_drop {k : Nat} (h : k < 11) : rg11.drop k = k :: rg11.drop (k + 1) := by
  have : ∀ k, k < 11 → rg11.drop k = k :: rg11.drop (k + 1) := by decide
  exact this k h
theorem nextN_length : ∀ (a b : List UInt8), nextN a = some b → b.length = a.length
  | [], b, h => by simp [nextN] at h
  | [c], b, h => by simp only [nextN] at h; split at h <;> simp at h; subst h; rfl
  | x :: x' :: a, b, h => by
    simp only [nextN] at h
    split at h
    · rename_i y' hy'; simp at h; subst h; have := nextN_length _ _ hy'; simp at this ⊢; omega
    · split at h <;> simp at h; subst h; simp
theorem rest_next {n : Nat} {l : List UInt8} (h : Nm n l) : rest l = match nextN l with
    | some y => y :: rest y
    | none => [] := by
  induction h with
  | @nil c hc =>
    simp only [rest, nextN]
    have hr := ckI_range c
    by_cases h : ckI c < 10
    · rw [if_pos h, rg11_drop (by omega)]
      simp only [List.map_cons]
      rw [rest, sg_ckI _ (by omega)]
      have e : ((((ckI c + 1).toNat : Nat) : Int) + 1).toNat = (ckI c + 1).toNat + 1 := by omega
      rw [e]
    · rw [if_neg h]
      have : (ckI c + 1).toNat = 11 := by omega
      rw [this]; rfl
  | @cons n d l hd hl ih =>
    cases l with
    | nil => have := hl.length; simp at this
    | cons e l =>
      have hlen : l.length = n := by have := hl.length; simpa using this
      have hdr := dv_range hd
      have hdv := dv_dig hd
      simp only [rest, nextN]
      cases hn : nextN (e :: l) with
      | some y =>
        rw [hn] at ih
        simp only [ih, List.map_cons, List.cons_append]
        have hL := nextN_length _ _ hn
        cases y with
        | nil => simp at hL
        | cons y0 y =>
          simp only [rest]
          have hy : y.length = l.length := by simpa using hL
          rw [hy]
      | none =>
        rw [hn] at ih
        simp only [ih, List.map_nil, List.nil_append]
        by_cases h57 : d.toNat = 57
        · rw [if_pos h57]
          have : (dv d + 1).toNat = 10 := by omega
          rw [this]; rfl
        · rw [if_neg h57]
          have h1 : (dv d + 1).toNat = d.toNat - 48 + 1 := by omega
          have hk : d.toNat - 48 + 1 < 10 := by omega
          rw [h1, rg10_drop hk, List.flatMap_cons, hlen]
          conv => lhs; arg 1; rw [all_zeros n]
          simp only [List.map_cons, List.cons_append]
          have e2 : List.replicate (n + 1) (48 : UInt8) = 48 :: List.replicate n 48 := rfl
          rw [e2]
          simp only [rest, List.length_replicate]
          rw [dv_dg hk, ← e2]
          congr 2
theorem Nm.next {n : Nat} {l y : List UInt8} (h : Nm n l) (hn : nextN l = some y) : Nm n y := by
  induction h generalizing y with
  | @nil c hc =>
    simp only [nextN] at hn
    split at hn
    · simp at hn; subst hn
      refine .nil ?_
      rw [sg_ckI _ (by omega)]; omega
    · simp at hn
  | @cons n d l hd hl ih =>
    cases l with
    | nil => have := hl.length; simp at this
    | cons e l =>
      have hlen : l.length = n := by have := hl.length; simpa using this
      simp only [nextN] at hn
      split at hn
      · rename_i y' hy'; simp at hn; subst hn; exact .cons hd (ih hy')
      · split at hn
        · simp at hn
        · simp at hn; subst hn
          have h1 := dv_range hd
          have h2 := dv_dig hd
          refine .cons (dig_dg (by omega)) ?_
          rw [hlen]; exact Nm.zeros n
theorem nextN_append (p q y : List UInt8) (hq : q ≠ []) (h : nextN q = some y) : nextN (p ++ q) = some (p ++ y) := by
  induction p with
  | nil => exact h
  | cons d p ih =>
    obtain ⟨e, l, he⟩ : ∃ e l, p ++ q = e :: l := by cases p with
      | nil => cases q with
        | nil => exact absurd rfl hq
        | cons e l => exact ⟨e, l, rfl⟩
      | cons e p => exact ⟨e, p ++ q, rfl⟩
    rw [List.cons_append, he]
    simp only [nextN]
    rw [← he, ih]; rfl
theorem nextAfter_append (m : Int) : ∀ (ws : List Int) (r : Int) (p q y : List UInt8), nextAfter m (ws.drop p.length) (r + wsum ws p) q = some y → p.length ≤ ws.length → nextAfter m ws r (p ++ q) = some (p ++ y)
  | ws, r, [], q, y, h, _ => by
    have : wsum ws [] = 0 := by cases ws <;> rfl
    simpa [this] using h
  | [], r, d :: p, q, y, h, hl => by simp at hl
  | w :: ws, r, d :: p, q, y, h, hl => by
    simp only [List.cons_append, nextAfter]
    have := nextAfter_append m ws (r + dv d * w) p q y (by
      simp only [List.length_cons, List.drop_succ_cons, wsum] at h
      rw [← h]; congr 1; omega) (by simpa using hl)
    rw [this]; rfl
theorem right_eq (m : Int) : ∀ (ws : List Int) (r : Int) (l : List UInt8), l.length = ws.length + 1 → right m ws r l = ((r + wsum ws l + ckI (l.getD ws.length 0)) % m == 0)
  | [], r, l, h => by
    cases l with
    | nil => simp at h
    | cons c l => cases l with
      | nil => simp [right, wsum]
      | cons _ _ => simp at h
  | w :: ws, r, [], h => by simp at h
  | w :: ws, r, d :: l, h => by
    simp only [right, wsum, List.length_cons, List.getD_cons_succ]
    rw [right_eq m ws _ l (by simpa using h)]
    congr 2; omega
theorem firstFrom_mod (m : Int) : ∀ (ws : List Int) (r : Int), firstFrom m ws (r % m) = firstFrom m ws r
  | [], r => by
    simp only [firstFrom]
    congr 1
    exact find?_congr' fun c _ => by rw [Int.emod_add_emod]
  | w :: ws, r => by
    simp only [firstFrom]
    refine findSome?_congr' fun d _ => ?_
    rw [← firstFrom_mod m ws (r % m + _), Int.emod_add_emod, firstFrom_mod]
theorem nextAfter_mod (m : Int) : ∀ (ws : List Int) (r : Int) (l : List UInt8), nextAfter m ws (r % m) l = nextAfter m ws r l
  | [], r, [] => rfl
  | [], r, [c] => by
    simp only [nextAfter]
    congr 1
    exact find?_congr' fun c _ => by rw [Int.emod_add_emod]
  | [], r, _ :: _ :: _ => rfl
  | w :: ws, r, [] => rfl
  | w :: ws, r, d :: l => by
    simp only [nextAfter]
    rw [← nextAfter_mod m ws (r % m + _), Int.emod_add_emod, nextAfter_mod]
    congr 1
    refine findSome?_congr' fun x _ => ?_
    rw [← firstFrom_mod m ws (r % m + _), Int.emod_add_emod, firstFrom_mod]
theorem firstFrom_length (m : Int) : ∀ (ws : List Int) (r : Int) (q : List UInt8), firstFrom m ws r = some q → q.length = ws.length + 1
  | [], r, q, h => by
    simp only [firstFrom, Option.map_eq_some_iff] at h
    obtain ⟨c, _, rfl⟩ := h; rfl
  | w :: ws, r, q, h => by
    simp only [firstFrom] at h
    obtain ⟨d, _, h⟩ := List.exists_of_findSome?_eq_some h
    simp only [Option.map_eq_some_iff] at h
    obtain ⟨y, hy, rfl⟩ := h
    simp [firstFrom_length m ws _ y hy]
end Go.Proofs.YtanjemlodfanjaaDoor.PB
