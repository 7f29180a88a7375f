/- Chapter 7, the implementation's functions as printed: what each computes. -/
import Derived.Test.YtanjemlodfanjaaDoorPNrSpec
import Derived.Test.YtanjemlodfanjaaDoorMNR6
namespace Go.Proofs.YtanjemlodfanjaaDoor.PB
open Go.RowKit Go.Proofs.YtanjemlodfanjaaDoorW.PrintWords Go.Proofs.YtanjemlodfanjaaDoor.MNR
theorem in_f (a b c : Int) : impl_in.f a b c = some (decide (b ≤ a) && decide (a ≤ c)) := by
  unfold impl_in.f
  by_cases h : a ≥ b
  · rw [if_pos h, decide_eq_true (show b ≤ a from h)]; rfl
  · rw [if_neg h, decide_eq_false (show ¬ b ≤ a from h)]; rfl
theorem indexFunc_l0 (xs : List Int) (p : Int → Option Bool) (P : Int → Bool) (hp : ∀ x, p x = some (P x)) (hl : xs.length ≤ 9223372036854775806) : ∀ (n i : Nat), xs.length - i = n → ∃ r, Ev (fun k => slices_IndexFunc_int_int.l0 k xs p (xs.length : Int) (i : Int)) r ∧ decide (r ≥ 0) = (xs.drop i).any P
  | 0, i, hn => by
    refine ⟨-1, Ev.step (fun k => slices_IndexFunc_int_int.l0.eq_2 ..) ?_, ?_⟩
    · simp only [if_neg (show ¬ (i : Int) < (xs.length : Int) by omega)]
      exact Ev.now _
    · rw [List.drop_eq_nil_of_le (by omega)]; rfl
  | n + 1, i, hn => by
    have hi' : i < xs.length := by omega
    rw [List.drop_eq_getElem_cons hi', List.any_cons]
    cases hc : P xs[i] with
    | true =>
      refine ⟨(i : Int), Ev.step (fun k => slices_IndexFunc_int_int.l0.eq_2 ..) ?_, ?_⟩
      · simp only [if_pos (show (i : Int) < (xs.length : Int) by omega), if_pos (show (0 : Int) ≤ (i : Int) by omega), rd_nat, getD_lt xs i 0 hi', hp, hc, Option.bind_some, if_true]
        exact Ev.now _
      · rw [Bool.true_or]; exact decide_eq_true (by omega)
    | false =>
      obtain ⟨r, h1, h2⟩ := indexFunc_l0 xs p P hp hl n (i + 1) (by omega)
      refine ⟨r, Ev.step (fun k => slices_IndexFunc_int_int.l0.eq_2 ..) ?_, by rw [Bool.false_or]; exact h2⟩
      simp only [if_pos (show (i : Int) < (xs.length : Int) by omega), if_pos (show (0 : Int) ≤ (i : Int) by omega), rd_nat, getD_lt xs i 0 hi', hp, hc, Option.bind_some, w_succ (show i < 9223372036854775807 by omega)]
      exact h1
theorem any_not_all {α : Type} (P : α → Bool) (l : List α) : (!(l.any fun x => !P x)) = l.all P := by
  induction l with
  | nil => rfl
  | cons a l ih => rw [List.any_cons, List.all_cons, Bool.not_or, Bool.not_not, ih]
theorem isScheme_f (m : Int) (ws : List Int) (hl : ws.length ≤ 9223372036854775806) : Ev (fun k => impl_IsScheme.f k m ws) (schemeOk m ws) := by
  unfold impl_IsScheme.f slices_ContainsFunc_int_int.f slices_IndexFunc_int_int.f
  obtain ⟨r, h1, h2⟩ := indexFunc_l0 ws (fun y0_ => impl_IsScheme_1.f y0_ m ws) (fun x => !(decide (0 ≤ x) && decide (x ≤ wrap64 (m - 1)))) (fun x => by unfold impl_IsScheme_1.f; rw [in_f]; rfl) hl ws.length 0 (by omega)
  refine Ev.bind (Ev.bind h1 (Ev.now _)) ?_
  rw [h2, List.drop_zero]
  simp only [in_f, Option.bind_some, any_not_all]
  unfold schemeOk
  cases h1 : (decide (2 ≤ m) && decide (m ≤ 13)) with
  | false => exact Ev.now _
  | true =>
    have : (decide (1 ≤ ws.length) && decide (ws.length ≤ 12)) = (decide ((1 : Int) ≤ (ws.length : Int)) && decide ((ws.length : Int) ≤ 12)) := by
      congr 1 <;> exact decide_eq_decide.2 (by omega)
    rw [this]
    cases h2 : (decide ((1 : Int) ≤ (ws.length : Int)) && decide ((ws.length : Int) ≤ 12)) with
    | false => exact Ev.now _
    | true =>
      simp at h1
      rw [w_id (show -9223372036854775808 ≤ m - 1 by omega) (by omega)]
      exact Ev.now _
theorem contains_dig : ∀ n : Fin 256, (⟨#[48, 49, 50, 51, 52, 53, 54, 55, 56, 57]⟩ : ByteArray).data.toList.contains (UInt8.ofNat n.val) = dig (UInt8.ofNat n.val) := by decide +kernel
theorem over_f (l : List UInt8) (hl : l.length ≤ 9223372036854775807) : impl_over.f (B l) (⟨#[48, 49, 50, 51, 52, 53, 54, 55, 56, 57]⟩ : ByteArray) = some (l.all dig) := by
  unfold impl_over.f
  rw [if_pos ⟨by rw [B_size]; exact hl, by decide, by decide⟩, B_data]
  congr 2
  funext b
  have := contains_dig ⟨b.toNat, b.toNat_lt⟩
  simpa using this
theorem indexByte_all : ∀ n : Fin 256, strings_IndexByte.f (⟨#[48, 49, 50, 51, 52, 53, 54, 55, 56, 57, 88]⟩ : ByteArray) (n.val : Int) = some (ckI (UInt8.ofNat n.val)) := by decide +kernel
theorem indexByte_f (b : UInt8) : strings_IndexByte.f (⟨#[48, 49, 50, 51, 52, 53, 54, 55, 56, 57, 88]⟩ : ByteArray) (b.toNat : Int) = some (ckI b) := by
  have := indexByte_all ⟨b.toNat, b.toNat_lt⟩
  simpa using this
theorem numberOk_f (m : Int) (ws : List Int) (l : List UInt8) (hl : ws.length ≤ 9223372036854775806) (hs : l.length ≤ 9223372036854775806) : Ev (fun k => impl_numberOk.f k m ws (B l)) (numOk m ws l) := by
  unfold impl_numberOk.f numOk
  refine Ev.bind (isScheme_f m ws hl) ?_
  cases hg : schemeOk m ws with
  | false => exact Ev.now _
  | true =>
    simp only [if_true, Bool.true_and, B_size, w_succ (show ws.length < 9223372036854775807 by omega)]
    by_cases h1 : l.length = ws.length + 1
    · rw [decide_eq_true h1]
      simp only [if_pos (show (l.length : Int) = ((ws.length + 1 : Nat) : Int) by omega), if_pos (show (0 : Int) ≤ (ws.length : Int) by omega), if_pos (show (ws.length : Int) ≤ (l.length : Int) by omega), B_extract0, Bool.true_and, if_pos (show (ws.length : Int) < (l.length : Int) by omega), bt_nat, over_f (l.take ws.length) (by rw [List.length_take]; omega), indexByte_f, Option.bind_some]
      cases hd : (l.take ws.length).all dig with
      | false => exact Ev.now _
      | true => exact Ev.now _
    · rw [decide_eq_false h1]
      simp only [if_neg (show ¬ (l.length : Int) = ((ws.length + 1 : Nat) : Int) by omega), Bool.false_and]
      exact Ev.now _
/-! ### Checks -/
def chk (m r : Int) : List Nat := rg11.filter fun c => (r + (c : Int)) % m == 0
theorem chk_mod (m r : Int) : chk m (r % m) = chk m r := by
  unfold chk
  congr 1
  funext c
  rw [Int.emod_add_emod]
theorem check_f (m r : Int) (ws : List Int) (h2 : 2 ≤ m) (h13 : m ≤ 13) (hr : 0 ≤ r) : impl_Scheme_check.f m ws r = some ((m - r % m) % m) := by
  unfold impl_Scheme_check.f
  have b1 := Int.emod_nonneg r (show m ≠ 0 by omega)
  have b2 := Int.emod_lt_of_pos r (show 0 < m by omega)
  rw [if_neg (by omega), Int.tmod_eq_emod_of_nonneg hr, w_id (by omega) (by omega), Int.tmod_eq_emod_of_nonneg (by omega)]
theorem checks_ws : ∀ (k : Nat) (a : List Int) (c m : Int) (ws ws' : List Int), impl_Scheme_checks.l0 k a c m ws = impl_Scheme_checks.l0 k a c m ws'
  | 0, _, _, _, _, _ => rfl
  | k + 1, a, c, m, ws, ws' => by
    rw [impl_Scheme_checks.l0.eq_2, impl_Scheme_checks.l0.eq_2, checks_ws k _ _ m ws ws']
theorem checks_mono : ∀ (k : Nat) (a : List Int) (c m : Int) (ws r : List Int), impl_Scheme_checks.l0 k a c m ws = some r → impl_Scheme_checks.l0 (k + 1) a c m ws = some r
  | 0, a, c, m, ws, r, h => by simp [impl_Scheme_checks.l0] at h
  | k + 1, a, c, m, ws, r, h => by
    rw [impl_Scheme_checks.l0.eq_2] at h ⊢
    by_cases h1 : c ≤ 10
    · rw [if_pos h1] at h ⊢
      by_cases h2 : a.length < 17592186044416
      · rw [if_pos h2] at h ⊢; exact checks_mono k _ _ _ _ r h
      · rw [if_neg h2] at h ⊢; exact h
    · rw [if_neg h1] at h ⊢; exact h
theorem checks_all : ∀ m : Fin 14, ∀ r : Fin 14, 2 ≤ m.val → r.val < m.val → impl_Scheme_checks.l0 12 [] (((m.val : Int) - (r.val : Int)) % (m.val : Int)) (m.val : Int) [] = some ((chk (m.val : Int) (r.val : Int)).map Int.ofNat) := by decide +kernel
theorem checks_f (m r : Int) (ws : List Int) (h2 : 2 ≤ m) (h13 : m ≤ 13) (hr : 0 ≤ r) : Ev (fun k => impl_Scheme_checks.f k m ws r) ((chk m r).map Int.ofNat) := by
  unfold impl_Scheme_checks.f
  rw [check_f m r ws h2 h13 hr]
  simp only [Option.bind_some]
  have b1 := Int.emod_nonneg r (show m ≠ 0 by omega)
  have b2 := Int.emod_lt_of_pos r (show 0 < m by omega)
  refine ⟨12, fun k hk => ?_⟩
  obtain ⟨j, rfl⟩ : ∃ j, k = 12 + j := ⟨k - 12, by omega⟩
  induction j with
  | zero =>
    have := checks_all ⟨m.toNat, by omega⟩ ⟨(r % m).toNat, by omega⟩ (by show 2 ≤ m.toNat; omega) (by show (r % m).toNat < m.toNat; omega)
    simp only [Int.toNat_of_nonneg b1, Int.toNat_of_nonneg (show 0 ≤ m by omega)] at this
    show impl_Scheme_checks.l0 12 _ _ _ _ = _
    rw [checks_ws _ _ _ _ ws [], ← chk_mod]
    exact this
  | succ j ih => exact checks_mono _ _ _ _ _ _ (ih (by omega))
theorem first_nil (m r : Int) : firstFrom m [] r = (chk m r).head?.map fun c => [sg c] := by
  simp only [firstFrom, chk]
  rw [List.head?_filter]
theorem first_check_all : ∀ m : Fin 14, ∀ r : Fin 14, 2 ≤ m.val → r.val < m.val → (chk (m.val : Int) (r.val : Int)).head? = if ((((m.val : Int) - (r.val : Int)) % (m.val : Int)).toNat) ≤ 10 then some ((((m.val : Int) - (r.val : Int)) % (m.val : Int)).toNat) else none := by decide +kernel
theorem first_check (m r : Int) (h2 : 2 ≤ m) (h13 : m ≤ 13) (q : List UInt8) (h : firstFrom m [] r = some q) : ((m - r % m) % m).toNat ≤ 10 ∧ q = [sg ((m - r % m) % m).toNat] := by
  rw [first_nil, ← chk_mod] at h
  have b1 := Int.emod_nonneg r (show m ≠ 0 by omega)
  have b2 := Int.emod_lt_of_pos r (show 0 < m by omega)
  have := first_check_all ⟨m.toNat, by omega⟩ ⟨(r % m).toNat, by omega⟩ (by show 2 ≤ m.toNat; omega) (by show (r % m).toNat < m.toNat; omega)
  simp only [Int.toNat_of_nonneg b1, Int.toNat_of_nonneg (show 0 ≤ m by omega)] at this
  rw [this] at h
  split at h
  · rename_i h10; exact ⟨h10, (Option.some.inj h).symm⟩
  · simp at h
/-! ### The table -/
def okAt (m : Int) (V : List Int) (r : Int) : Bool := (firstFrom m V r).isSome
def okRow (m : Int) (V : List Int) : List Bool := (List.range m.toNat).map fun r : Nat => okAt m V (r : Int)
/-- A row that is filled up to c. -/
def rowTo (m : Int) (V : List Int) (c : Nat) : List Bool := (List.range m.toNat).map fun r : Nat => decide (r < c) && okAt m V (r : Int)
theorem findSome_any {α β : Type} (f : α → Option β) (l : List α) : (l.findSome? f).isSome = l.any fun x => (f x).isSome := by
  induction l with
  | nil => rfl
  | cons a l ih => rw [List.findSome?_cons, List.any_cons, ← ih]; cases f a <;> rfl
theorem okAt_nil (m r : Int) : okAt m [] r = decide (0 < ((chk m r).map Int.ofNat).length) := by
  unfold okAt
  rw [first_nil, List.length_map]
  cases chk m r <;> rfl
theorem okAt_cons (m w r : Int) (V : List Int) : okAt m (w :: V) r = rg10.any fun d => okAt m V (r + (d : Int) * w) := by
  unfold okAt
  simp only [firstFrom]
  rw [findSome_any]
  congr 1
  funext d
  rw [Option.isSome_map]
theorem okAt_mod (m r : Int) (V : List Int) : okAt m V (r % m) = okAt m V r := by unfold okAt; rw [firstFrom_mod]
theorem rdOf_nat {α : Type} (d : α) (l : List α) (i : Nat) : rdOf d l (i : Int) = l.getD i d := rfl
theorem okRow_at (m r : Int) (V : List Int) (h0 : 0 ≤ r) (h : r < m) : rdOf false (okRow m V) r = okAt m V r := by
  unfold rdOf okRow
  rw [List.getD_eq_getElem?_getD, List.getElem?_map, List.getElem?_range (by omega)]
  show okAt m V ((r.toNat : Nat) : Int) = _
  rw [Int.toNat_of_nonneg h0]
theorem okRow_length (m : Int) (V : List Int) : (okRow m V).length = m.toNat := by simp [okRow]
theorem rowTo_length (m : Int) (V : List Int) (c : Nat) : (rowTo m V c).length = m.toNat := by simp [rowTo]
theorem rowTo_zero (m : Int) (V : List Int) : rowTo m V 0 = List.replicate m.toNat false := by
  unfold rowTo
  apply List.ext_getElem
  · simp
  · intro i h1 h2; simp
theorem rowTo_full (m : Int) (V : List Int) : rowTo m V m.toNat = okRow m V := by
  unfold rowTo okRow
  apply List.map_congr_left
  intro r hr
  rw [decide_eq_true (List.mem_range.1 hr), Bool.true_and]
theorem rowTo_set (m : Int) (V : List Int) (c : Nat) (b : Bool) (h : b = okAt m V (c : Int)) : (rowTo m V c).set c b = rowTo m V (c + 1) := by
  subst h
  apply List.ext_getElem
  · simp [rowTo]
  · intro i h1 h2
    rw [List.getElem_set]
    split
    · rename_i e; subst e; simp [rowTo]
    · rename_i e
      simp only [rowTo, List.getElem_map, List.getElem_range]
      congr 1
      exact decide_eq_decide.2 (by omega)
theorem rowTo_same (m : Int) (V : List Int) (c : Nat) : (rowTo m V c).set c false = rowTo m V c := by
  apply List.ext_getElem
  · simp
  · intro i h1 h2
    rw [List.getElem_set]
    split
    · rename_i e; subst e; simp [rowTo]
    · rfl
theorem rowTo_at (m : Int) (V : List Int) (c : Nat) (b : Bool) (h : c < m.toNat) : rdOf false ((rowTo m V c).set c b) (c : Int) = b := by
  rw [rdOf_nat, List.getD_eq_getElem?_getD, List.getElem?_set_self (by rw [rowTo_length]; exact h)]; rfl
/-- The rows from j on are filled. -/
def Filled (m : Int) (ws : List Int) (T : List (List Bool)) (j : Nat) : Prop := T.length = ws.length + 1 ∧ ∀ i, j ≤ i → i ≤ ws.length → T.getD i [] = okRow m (ws.drop i)
theorem rdL2_nat (T : List (List Bool)) (i : Nat) : rd_L2 T (i : Int) = T.getD i [] := rfl
theorem set_at (T : List (List Bool)) (i : Nat) (row : List Bool) (h : i < T.length) : (T.set i row).getD i [] = row := by
  rw [List.getD_eq_getElem?_getD, List.getElem?_set_self h]; rfl
theorem set_off (T : List (List Bool)) (i j : Nat) (row : List Bool) (h : i ≠ j) : (T.set i row).getD j [] = T.getD j [] := by
  rw [List.getD_eq_getElem?_getD, List.getElem?_set_ne h, ← List.getD_eq_getElem?_getD]
theorem Filled.set {m : Int} {ws : List Int} {T : List (List Bool)} {i : Nat} (h : Filled m ws T (i + 1)) : Filled m ws (T.set i (okRow m (ws.drop i))) i := by
  refine ⟨by rw [List.length_set]; exact h.1, fun j h1 h2 => ?_⟩
  by_cases e : i = j
  · subst e; rw [set_at _ _ _ (by have := h.1; omega)]
  · rw [set_off _ _ _ _ e]; exact h.2 j (by omega) h2
theorem okAt_bound {c d w : Int} (hc : 0 ≤ c ∧ c ≤ 12) (hd : 0 ≤ d ∧ d ≤ 10) (hw : 0 ≤ w ∧ w ≤ 12) : wrap64 (c + wrap64 (d * w)) = c + d * w ∧ 0 ≤ c + d * w := by
  have b1 := Int.mul_nonneg hd.1 hw.1
  have b2 : d * w ≤ 10 * 12 := Int.mul_le_mul hd.2 hw.2 hw.1 (by omega)
  rw [w_id (show -9223372036854775808 ≤ d * w by omega) (by omega), w_id (by omega) (by omega)]
  exact ⟨rfl, by omega⟩
section
variable (m : Int) (ws : List Int) (hs : schemeOk m ws = true)
include hs
theorem open_l2 (T : List (List Bool)) (i c : Nat) (hT : Filled m ws T (i + 1)) (hi : i < ws.length) (hc : c < m.toNat) (R : List (List Bool))
    (K : Ev (fun k => impl_Scheme_open.l1 k (ws.length : Int) (T.set i (rowTo m (ws.drop i) (c + 1))) (i : Int) m ((c + 1 : Nat) : Int) m ws) R) : ∀ (n d : Nat) (b : Bool), 10 - d = n → d ≤ 10 → (b || (rg10.drop d).any fun x => okAt m (ws.drop (i + 1)) ((c : Int) + (x : Int) * ws.getD i 0)) = okAt m (ws.drop i) (c : Int) →
      Ev (fun k => impl_Scheme_open.l2 k (ws.length : Int) (T.set i ((rowTo m (ws.drop i) c).set c b)) (i : Int) (c : Int) m (c : Int) (d : Int) m ws) R
  | 0, d, b, hn, hd, hb => by
    refine Ev.step (fun k => impl_Scheme_open.l2.eq_2 ..) ?_
    have e : d = 10 := by omega
    subst e
    have hb' : b = okAt m (ws.drop i) (c : Int) := by rw [← hb]; show b = (b || false); rw [Bool.or_false]
    simp only [if_neg (show ¬ (((10 : Nat) : Int) < 10) by omega), w_succ (show c < 9223372036854775807 by have := schemeOk_len hs; omega), rowTo_set m _ c b hb']
    exact K
  | n + 1, d, b, hn, hd, hb => by
    obtain ⟨h2, h13, _, h12, hws⟩ := schemeOk_len hs
    have hw' : ws.getD i 0 ∈ ws := by rw [getD_lt ws i 0 hi]; exact List.getElem_mem _
    have hb12 := hws _ hw'
    obtain ⟨hsum, hnn⟩ := okAt_bound (c := (c : Int)) (d := (d : Int)) (w := ws.getD i 0) (by omega) (by omega) (by omega)
    have hTl := hT.1
    refine Ev.step (fun k => impl_Scheme_open.l2.eq_2 ..) ?_
    have r1 : (T.set i ((rowTo m (ws.drop i) c).set c b)).length = ws.length + 1 := by rw [List.length_set]; exact hTl
    have r2 : (T.set i ((rowTo m (ws.drop i) c).set c b)).getD i [] = (rowTo m (ws.drop i) c).set c b := set_at _ _ _ (by omega)
    have r3 : (T.set i ((rowTo m (ws.drop i) c).set c b)).getD (i + 1) [] = okRow m (ws.drop (i + 1)) := by
      rw [set_off _ _ _ _ (by omega)]; exact hT.2 _ (by omega) (by omega)
    have r4 : ((rowTo m (ws.drop i) c).set c b).length = m.toNat := by rw [List.length_set, rowTo_length]
    have hdr := rg10_drop (show d < 10 by omega)
    simp only [if_pos (show (d : Int) < 10 by omega), rdL2_nat, r1, r2, r4, toNat_cast, if_pos (show (0 : Int) ≤ (i : Int) by omega), if_pos (show (i : Int) < ((ws.length + 1 : Nat) : Int) by omega), if_pos (show (0 : Int) ≤ (c : Int) by omega), if_pos (show (c : Int) < (m.toNat : Int) by omega), rowTo_at m _ c b hc, List.set_set, w_succ (show d < 9223372036854775807 by omega)]
    cases b with
    | true =>
      simp only [if_true]
      exact open_l2 T i c hT hi hc R K n (d + 1) true (by omega) (by omega) (by rw [← hb]; rfl)
    | false =>
      have t0 : Int.tmod ((c : Int) + (d : Int) * ws.getD i 0) m = ((c : Int) + (d : Int) * ws.getD i 0) % m := Int.tmod_eq_emod_of_nonneg hnn
      have t1 := Int.emod_nonneg ((c : Int) + (d : Int) * ws.getD i 0) (show m ≠ 0 by omega)
      have t2 := Int.emod_lt_of_pos ((c : Int) + (d : Int) * ws.getD i 0) (show 0 < m by omega)
      simp only [Bool.false_eq_true, if_false, rd_nat, w_succ (show i < 9223372036854775807 by omega), rdL2_nat, r3, okRow_length, hsum, t0, if_pos (show (0 : Int) ≤ ((i + 1 : Nat) : Int) by omega), if_pos (show ((i + 1 : Nat) : Int) < ((ws.length + 1 : Nat) : Int) by omega), if_pos (show (i : Int) < (ws.length : Int) by omega), if_neg (show ¬ m = 0 by omega), if_pos t1, if_pos (show ((c : Int) + (d : Int) * ws.getD i 0) % m < (m.toNat : Int) by omega), okRow_at m _ (ws.drop (i + 1)) t1 t2, okAt_mod]
      refine open_l2 T i c hT hi hc R K n (d + 1) _ (by omega) (by omega) ?_
      rw [← hb, hdr, List.any_cons, Bool.false_or]
theorem open_l1 (T : List (List Bool)) (i : Nat) (hT : Filled m ws T (i + 1)) (hi : i ≤ ws.length) (R : List (List Bool))
    (K : Ev (fun k => impl_Scheme_open.l0 k (ws.length : Int) (T.set i (okRow m (ws.drop i))) ((i : Int) - 1) m ws) R) : ∀ (n c : Nat), m.toNat - c = n → c ≤ m.toNat →
      Ev (fun k => impl_Scheme_open.l1 k (ws.length : Int) (T.set i (rowTo m (ws.drop i) c)) (i : Int) m (c : Int) m ws) R
  | 0, c, hn, hc => by
    obtain ⟨h2, h13, _, h12, hws⟩ := schemeOk_len hs
    have e : c = m.toNat := by omega
    subst e
    refine Ev.step (fun k => impl_Scheme_open.l1.eq_2 ..) ?_
    simp only [if_neg (show ¬ ((m.toNat : Int) < m) by omega), rowTo_full, w_id (show -9223372036854775808 ≤ (i : Int) - 1 by omega) (by omega)]
    exact K
  | n + 1, c, hn, hc => by
    obtain ⟨h2, h13, _, h12, hws⟩ := schemeOk_len hs
    have hTl := hT.1
    refine Ev.step (fun k => impl_Scheme_open.l1.eq_2 ..) ?_
    have r1 : (T.set i (rowTo m (ws.drop i) c)).length = ws.length + 1 := by rw [List.length_set]; exact hTl
    have r2 : (T.set i (rowTo m (ws.drop i) c)).getD i [] = rowTo m (ws.drop i) c := set_at _ _ _ (by omega)
    have ih := open_l1 T i hT hi R K n (c + 1) (by omega) (by omega)
    by_cases hin : i = ws.length
    · simp only [if_pos (show (c : Int) < m by omega), if_pos (show (i : Int) = (ws.length : Int) by omega), r1, if_pos (show (0 : Int) ≤ (i : Int) by omega), if_pos (show (i : Int) < ((ws.length + 1 : Nat) : Int) by omega)]
      refine Ev.bind (checks_f m (c : Int) ws h2 h13 (by omega)) ?_
      have hV : ws.drop i = [] := List.drop_eq_nil_of_le (by omega)
      simp only [rdL2_nat, r2, rowTo_length, toNat_cast, if_pos (show (0 : Int) ≤ (c : Int) by omega), if_pos (show (c : Int) < (m.toNat : Int) by omega), List.set_set, w_succ (show c < 9223372036854775807 by omega)]
      rw [rowTo_set m (ws.drop i) c _ (by rw [hV, okAt_nil])]
      exact ih
    · simp only [if_pos (show (c : Int) < m by omega), if_neg (show ¬ (i : Int) = (ws.length : Int) by omega)]
      have hz := rowTo_same m (ws.drop i) c
      rw [← hz]
      have hd : ws.drop i = ws.getD i 0 :: ws.drop (i + 1) := by rw [getD_lt ws i 0 (by omega)]; exact List.drop_eq_getElem_cons (by omega)
      refine open_l2 m ws hs T i c hT (by omega) (by omega) R ih 10 0 false rfl (by omega) ?_
      rw [hd, okAt_cons]; rfl
theorem open_l0 : ∀ (j : Nat) (T : List (List Bool)), Filled m ws T j → j ≤ ws.length + 1 → ∃ T', Filled m ws T' 0 ∧ Ev (fun k => impl_Scheme_open.l0 k (ws.length : Int) T ((j : Int) - 1) m ws) T'
  | 0, T, hT, hj => by
    refine ⟨T, hT, Ev.step (fun k => impl_Scheme_open.l0.eq_2 ..) ?_⟩
    simp only [if_neg (show ¬ (((0 : Nat) : Int) - 1 ≥ 0) by omega)]
    exact Ev.now _
  | j + 1, T, hT, hj => by
    obtain ⟨h2, h13, _, h12, hws⟩ := schemeOk_len hs
    have hTl := hT.1
    obtain ⟨T', h1, K⟩ := open_l0 j _ hT.set (by omega)
    refine ⟨T', h1, Ev.step (fun k => impl_Scheme_open.l0.eq_2 ..) ?_⟩
    have e : ((j + 1 : Nat) : Int) - 1 = (j : Int) := by omega
    simp only [e, if_pos (show (j : Int) ≥ 0 by omega), if_pos (show 0 ≤ m by omega), if_pos (show m.toNat ≤ 281474976710656 by omega), if_pos (show (j : Int) < (T.length : Int) by omega), toNat_cast]
    rw [← rowTo_zero m (ws.drop j)]
    exact open_l1 m ws hs T j hT (by omega) T' K m.toNat 0 (by omega) (by omega)
theorem open_f : ∃ T, Filled m ws T 0 ∧ Ev (fun k => impl_Scheme_open.f k m ws) T := by
  obtain ⟨h2, h13, _, h12, hws⟩ := schemeOk_len hs
  obtain ⟨T', h1, K⟩ := open_l0 m ws hs (ws.length + 1) (List.replicate (ws.length + 1) []) ⟨by simp, fun i h h' => by omega⟩ (by omega)
  refine ⟨T', h1, ?_⟩
  unfold impl_Scheme_open.f
  have e : ((ws.length + 1 : Nat) : Int) - 1 = (ws.length : Int) := by omega
  rw [e] at K
  simp only [w_succ (show ws.length < 9223372036854775807 by omega), toNat_cast, if_pos (show (0 : Int) ≤ ((ws.length + 1 : Nat) : Int) by omega), if_pos (show ws.length + 1 ≤ 11728124029610 by omega)]
  exact K
end
/-! ### The least completion -/
theorem sum_l0 (m : Int) (l : List UInt8) (ws : List Int) (hw : ∀ w ∈ ws, 0 ≤ w ∧ w ≤ 12) (h12 : ws.length ≤ 12) (hl : l.length ≤ ws.length) : ∀ (n i : Nat), l.length - i = n → i ≤ l.length → Ev (fun k => impl_Scheme_sum.l0 k (B l) (wsum ws (l.take i)) (l.length : Int) (i : Int) m ws) (wsum ws l)
  | 0, i, hn, hi => by
    refine Ev.step (fun k => impl_Scheme_sum.l0.eq_2 ..) ?_
    simp only [if_neg (show ¬ (i : Int) < (l.length : Int) by omega), List.take_of_length_le (show l.length ≤ i by omega)]
    exact Ev.now _
  | n + 1, i, hn, hi => by
    refine Ev.step (fun k => impl_Scheme_sum.l0.eq_2 ..) ?_
    have hi' : i < l.length := by omega
    have hw' : ws.getD i 0 ∈ ws := by rw [getD_lt ws i 0 (by omega)]; exact List.getElem_mem _
    have hb := hw _ hw'
    have ht : l.take (i + 1) = l.take i ++ [l[i]] := by rw [List.take_append_getElem]
    have hlen : (l.take i).length = i := by rw [List.length_take]; omega
    have hs : wsum ws (l.take (i + 1)) = wsum ws (l.take i) + dv l[i] * ws.getD i 0 := by
      rw [ht, wsum_snoc ws _ _ (by rw [hlen]; omega), hlen]
    have hd := dv_any l[i]
    have b1 := wsum_nonneg ws (l.take i) (fun w h => (hw w h).1)
    have b2 := wsum_le ws (l.take i) hw
    have b3 : 0 ≤ dv l[i] * ws.getD i 0 := Int.mul_nonneg hd.1 hb.1
    have b4 : dv l[i] * ws.getD i 0 ≤ 255 * 12 := Int.mul_le_mul hd.2 hb.2 hb.1 (by omega)
    have hdv : (((l[i].toNat : Int) - 48) % 256) = dv l[i] := rfl
    simp only [B_size, bt_nat, rd_nat, getD_lt l i 0 hi', impl_digit.f, Option.bind_some, hdv, w_id (show -9223372036854775808 ≤ dv l[i] * ws.getD i 0 by omega) (by omega), if_pos (show (i : Int) < (ws.length : Int) by omega), if_pos (show (0 : Int) ≤ (i : Int) by omega), if_pos (show (i : Int) < (l.length : Int) by omega), w_succ (show i < 9223372036854775807 by omega), ← hs, w_id (show -9223372036854775808 ≤ wsum ws (l.take (i + 1)) by omega) (show wsum ws (l.take (i + 1)) ≤ 9223372036854775807 by omega)]
    exact sum_l0 m l ws hw h12 hl n (i + 1) (by omega) (by omega)
theorem sum_f (m : Int) (l : List UInt8) (ws : List Int) (hw : ∀ w ∈ ws, 0 ≤ w ∧ w ≤ 12) (h12 : ws.length ≤ 12) (hl : l.length ≤ ws.length) : Ev (fun k => impl_Scheme_sum.f k m ws (B l)) (wsum ws l) := by
  have := sum_l0 m l ws hw h12 hl l.length 0 (by omega) (by omega)
  rw [List.take_zero, wsum_nil] at this
  unfold impl_Scheme_sum.f
  rw [B_size]
  exact this
theorem digits_at : ∀ x : Nat, x < 10 → (⟨#[48, 49, 50, 51, 52, 53, 54, 55, 56, 57]⟩ : ByteArray).extract x (x + 1) = B [dg x] := by decide
theorem signs_at : ∀ x : Nat, x < 11 → (⟨#[48, 49, 50, 51, 52, 53, 54, 55, 56, 57, 88]⟩ : ByteArray).extract x (x + 1) = B [sg x] := by decide
section
variable (m : Int) (ws : List Int) (hs : schemeOk m ws = true) (T : List (List Bool)) (hT : Filled m ws T 0)
include hs hT
theorem least_l1 (i : Nat) (p : List UInt8) (r : Int) (hr : 0 ≤ r ∧ r < m) (hp : p.length ≤ 12) (hi : i < ws.length)
    (K : ∀ (r : Int) (p q : List UInt8), 0 ≤ r → r < m → p.length ≤ i + 1 → firstFrom m (ws.drop (i + 1)) r = some q → Ev (fun k => impl_Scheme_least.l0 k T (B p) r ((i + 1 : Nat) : Int) m ws) (B (p ++ q), true)) (hpi : p.length ≤ i) (q : List UInt8) : ∀ (n d : Nat), 10 - d = n → d ≤ 10 →
      ((rg10.drop d).findSome? fun d : Nat => (firstFrom m (ws.drop (i + 1)) (r + (d : Int) * ws.getD i 0)).map (dg d :: ·)) = some q →
      Ev (fun k => impl_Scheme_least.l1 k T (B p) r (i : Int) (d : Int) m ws) (B (p ++ q), true)
  | 0, d, hn, hd, hq => by
    have e : d = 10 := by omega
    subst e
    simp [rg10] at hq
  | n + 1, d, hn, hd, hq => by
    obtain ⟨h2, h13, _, h12, hws⟩ := schemeOk_len hs
    have hTl := hT.1
    have hw' : ws.getD i 0 ∈ ws := by rw [getD_lt ws i 0 hi]; exact List.getElem_mem _
    have hb12 := hws _ hw'
    obtain ⟨hsum, hnn⟩ := okAt_bound (c := r) (d := (d : Int)) (w := ws.getD i 0) (by omega) (by omega) (by omega)
    have t0 : Int.tmod (r + (d : Int) * ws.getD i 0) m = (r + (d : Int) * ws.getD i 0) % m := Int.tmod_eq_emod_of_nonneg hnn
    have t1 := Int.emod_nonneg (r + (d : Int) * ws.getD i 0) (show m ≠ 0 by omega)
    have t2 := Int.emod_lt_of_pos (r + (d : Int) * ws.getD i 0) (show 0 < m by omega)
    have r3 : T.getD (i + 1) [] = okRow m (ws.drop (i + 1)) := hT.2 _ (by omega) (by omega)
    rw [rg10_drop (show d < 10 by omega), List.findSome?_cons] at hq
    refine Ev.step (fun k => impl_Scheme_least.l1.eq_2 ..) ?_
    simp only [rd_nat, w_succ (show i < 9223372036854775807 by omega), w_succ (show d < 9223372036854775807 by omega), rdL2_nat, r3, hTl, okRow_length, hsum, t0, if_pos (show (0 : Int) ≤ ((i + 1 : Nat) : Int) by omega), if_pos (show ((i + 1 : Nat) : Int) < ((ws.length + 1 : Nat) : Int) by omega), if_pos (show (0 : Int) ≤ (i : Int) by omega), if_pos (show (i : Int) < (ws.length : Int) by omega), if_neg (show ¬ m = 0 by omega), if_pos t1, if_pos (show (r + (d : Int) * ws.getD i 0) % m < (m.toNat : Int) by omega), okRow_at m _ (ws.drop (i + 1)) t1 t2, okAt_mod]
    unfold okAt
    cases hf : firstFrom m (ws.drop (i + 1)) (r + (d : Int) * ws.getD i 0) with
    | none =>
      rw [hf] at hq
      simp only [Option.isSome_none, Bool.false_eq_true, if_false]
      exact least_l1 i p r hr hp hi K hpi q n (d + 1) (by omega) (by omega) hq
    | some y =>
      rw [hf] at hq
      have hq' : dg d :: y = q := by simpa using hq
      simp only [Option.isSome_some, if_true, if_pos (show (0 : Int) ≤ (d : Int) by omega), if_pos (show (d : Int) ≤ ((d + 1 : Nat) : Int) by omega), if_pos (show ((d + 1 : Nat) : Int) ≤ 10 by omega), toNat_cast, digits_at d (by omega), B_size, List.length_singleton, if_pos (show p.length + 1 ≤ 9223372036854775807 by omega), B_append]
      have := K ((r + (d : Int) * ws.getD i 0) % m) (p ++ [dg d]) y t1 t2 (by simp; omega) (by rw [firstFrom_mod]; exact hf)
      rw [List.append_assoc, List.singleton_append, hq'] at this
      exact this
theorem least_l0 : ∀ (n i : Nat) (r : Int) (p q : List UInt8), ws.length - i = n → i ≤ ws.length → 0 ≤ r → r < m → p.length ≤ i → firstFrom m (ws.drop i) r = some q → Ev (fun k => impl_Scheme_least.l0 k T (B p) r (i : Int) m ws) (B (p ++ q), true) := by
  intro n
  induction n with
  | zero =>
    intro i r p q hn hi h0 hr hp hq
    obtain ⟨h2, h13, _, h12, hws⟩ := schemeOk_len hs
    rw [List.drop_eq_nil_of_le (by omega)] at hq
    obtain ⟨h10, rfl⟩ := first_check m r h2 h13 q hq
    have b1 := Int.emod_nonneg (m - r % m) (show m ≠ 0 by omega)
    obtain ⟨c, hc⟩ : ∃ c : Nat, (m - r % m) % m = (c : Int) := ⟨((m - r % m) % m).toNat, by omega⟩
    rw [hc] at h10 ⊢
    rw [toNat_cast] at h10 ⊢
    have hck : impl_Scheme_check.f m ws r = some (c : Int) := (check_f m r ws h2 h13 h0).trans (congrArg some hc)
    have e1 : B p ++ B [sg c] = B (p ++ [sg c]) := B_append _ _
    have e2 : (B p).size + (B [sg c]).size ≤ 9223372036854775807 := by rw [B_size, B_size]; simp; omega
    refine Ev.step (f := fun _ => some (B (p ++ [sg c]), true)) (fun k => ?_) (Ev.now _)
    rw [impl_Scheme_least.l0.eq_2, if_neg (show ¬ (i : Int) < (ws.length : Int) by omega), hck, Option.bind_some, w_succ (show c < 9223372036854775807 by omega), toNat_cast, toNat_cast, if_pos (show (0 : Int) ≤ (c : Int) by omega), if_pos (show (c : Int) ≤ ((c + 1 : Nat) : Int) by omega), if_pos (show ((c + 1 : Nat) : Int) ≤ 11 by omega), signs_at c (by omega), if_pos e2, e1]
  | succ n ih =>
    intro i r p q hn hi h0 hr hp hq
    obtain ⟨h2, h13, _, h12, hws⟩ := schemeOk_len hs
    refine Ev.step (fun k => impl_Scheme_least.l0.eq_2 ..) ?_
    simp only [if_pos (show (i : Int) < (ws.length : Int) by omega)]
    have hd : ws.drop i = ws.getD i 0 :: ws.drop (i + 1) := by rw [getD_lt ws i 0 (by omega)]; exact List.drop_eq_getElem_cons (by omega)
    rw [hd] at hq
    simp only [firstFrom] at hq
    refine least_l1 m ws hs T hT i p r ⟨h0, hr⟩ (by omega) (by omega) (fun r p q a b c d => ih (i + 1) r p q (by omega) (by omega) a b c d) hp q 10 0 rfl (by omega) (by rw [List.drop_zero]; exact hq)
theorem least_f (p : List UInt8) (hp : p.length ≤ ws.length) : Ev (fun k => impl_Scheme_least.f k m ws T (B p)) (answer ((firstFrom m (ws.drop p.length) (wsum ws p)).map (p ++ ·))) := by
  obtain ⟨h2, h13, _, h12, hws⟩ := schemeOk_len hs
  have hw12 : ∀ w ∈ ws, 0 ≤ w ∧ w ≤ 12 := fun w hw => ⟨(hws w hw).1, by have := (hws w hw).2; omega⟩
  have hTl := hT.1
  have b1 := wsum_nonneg ws p (fun w h => (hws w h).1)
  have t0 : Int.tmod (wsum ws p) m = wsum ws p % m := Int.tmod_eq_emod_of_nonneg b1
  have t1 := Int.emod_nonneg (wsum ws p) (show m ≠ 0 by omega)
  have t2 := Int.emod_lt_of_pos (wsum ws p) (show 0 < m by omega)
  have r3 : T.getD p.length [] = okRow m (ws.drop p.length) := hT.2 _ (by omega) (by omega)
  unfold impl_Scheme_least.f
  refine Ev.bind (sum_f m p ws hw12 h12 hp) ?_
  simp only [if_neg (show ¬ m = 0 by omega), B_size, hTl, rdL2_nat, r3, okRow_length, t0, if_pos (show (0 : Int) ≤ (p.length : Int) by omega), if_pos (show (p.length : Int) < ((ws.length + 1 : Nat) : Int) by omega), if_pos t1, if_pos (show wsum ws p % m < (m.toNat : Int) by omega), okRow_at m _ _ t1 t2, okAt_mod]
  unfold okAt
  cases hf : firstFrom m (ws.drop p.length) (wsum ws p) with
  | none => exact Ev.now _
  | some q =>
    simp only [Option.isSome_some, if_true]
    exact least_l0 m ws hs T hT _ p.length _ p q rfl hp t1 t2 (Nat.le_refl _) (by rw [firstFrom_mod]; exact hf)
/-! ### The next right number -/
theorem nr_l2 (p : List UInt8) (z : List UInt8) (i : Nat) (hi : i < ws.length) (hp : p.length = i) (hz : p <+: z) (hzl : z.length = ws.length + 1) (R : ByteArray × Bool) : ∀ (n x : Nat), 10 - x = n → x ≤ 10 →
    (match (rg10.drop x).findSome? fun x : Nat => (firstFrom m (ws.drop (i + 1)) (wsum ws p + (x : Int) * ws.getD i 0)).map (dg x :: ·) with
      | some y => R = answer (some (p ++ y))
      | none => Ev (fun k => impl_NextRight.l1 k (B z) T ((i : Int) - 1) m ws) R) →
    Ev (fun k => impl_NextRight.l2 k (B z) T (i : Int) (x : Int) m ws) R
  | 0, x, hn, hx, h => by
    obtain ⟨h2, h13, _, h12, hws⟩ := schemeOk_len hs
    have e : x = 10 := by omega
    subst e
    refine Ev.step (fun k => impl_NextRight.l2.eq_2 ..) ?_
    simp only [if_neg (show ¬ (((10 : Nat) : Int) < 10) by omega), w_id (show -9223372036854775808 ≤ (i : Int) - 1 by omega) (by omega)]
    exact h
  | n + 1, x, hn, hx, h => by
    obtain ⟨h2, h13, _, h12, hws⟩ := schemeOk_len hs
    have ht : z.take i = p := by rw [← hp]; exact (List.prefix_iff_eq_take.1 hz).symm
    refine Ev.step (fun k => impl_NextRight.l2.eq_2 ..) ?_
    simp only [if_pos (show (x : Int) < 10 by omega), if_pos (show (0 : Int) ≤ (i : Int) by omega), B_size, hzl, if_pos (show (i : Int) ≤ ((ws.length + 1 : Nat) : Int) by omega), if_pos (show (0 : Int) ≤ (x : Int) by omega), w_succ (show x < 9223372036854775807 by omega), if_pos (show (x : Int) ≤ ((x + 1 : Nat) : Int) by omega), if_pos (show ((x + 1 : Nat) : Int) ≤ 10 by omega), toNat_cast, digits_at x (by omega), B_extract0, ht, List.length_singleton, hp, if_pos (show i + 1 ≤ 9223372036854775807 by omega), B_append]
    refine Ev.bind (least_f m ws hs T hT (p ++ [dg x]) (by simp; omega)) ?_
    have e1 : (p ++ [dg x]).length = i + 1 := by simp [hp]
    have e2 : wsum ws (p ++ [dg x]) = wsum ws p + (x : Int) * ws.getD i 0 := by rw [wsum_snoc ws p _ (by omega), dv_dg (by omega), hp]
    rw [e1, e2]
    rw [rg10_drop (show x < 10 by omega), List.findSome?_cons] at h
    cases hf : firstFrom m (ws.drop (i + 1)) (wsum ws p + (x : Int) * ws.getD i 0) with
    | none =>
      rw [hf] at h
      simp only [Option.map_none, answer, Bool.false_eq_true, if_false]
      exact nr_l2 p z i hi hp hz hzl R n (x + 1) (by omega) (by omega) h
    | some y =>
      rw [hf] at h
      simp only [Option.map_some] at h
      rw [h]
      simp only [Option.map_some, answer, if_true, List.append_assoc, List.singleton_append]
      exact Ev.now _
theorem nr_l1 : ∀ (n : Nat) (p q : List UInt8), p.length = n → p.length ≤ ws.length → p.all dig = true → (p ++ q).length = ws.length + 1 → nextAfter m (ws.drop p.length) (wsum ws p) q = none → Ev (fun k => impl_NextRight.l1 k (B (p ++ q)) T ((p.length : Int) - 1) m ws) (answer (nextAfter m ws 0 (p ++ q)))
  | 0, p, q, hp, _, _, _, hq => by
    obtain rfl := List.length_eq_zero_iff.1 hp
    refine Ev.step (fun k => impl_NextRight.l1.eq_2 ..) ?_
    rw [wsum_nil] at hq
    have hq' : nextAfter m ws 0 ([] ++ q) = none := hq
    simp only [List.length_nil, if_neg (show ¬ (((0 : Nat) : Int) - 1 ≥ 0) by omega), hq']
    exact Ev.now _
  | n + 1, p, q, hp, hpl, hd, hl, hq => by
    obtain ⟨h2, h13, _, h12, hws⟩ := schemeOk_len hs
    obtain ⟨p, d, rfl⟩ : ∃ p' d, p = p' ++ [d] := by
      rcases List.eq_nil_or_concat p with rfl | ⟨L, b, rfl⟩
      · simp at hp
      · exact ⟨L, b, by simp⟩
    obtain ⟨hpa, hdd⟩ := dig_snoc hd
    have hp' : p.length = n := by simpa using hp
    have hpl' : p.length < ws.length := by simp at hpl; omega
    have hdr := dv_range hdd
    have e0 : (((p ++ [d]).length : Int) - 1) = (p.length : Int) := by simp
    have hdq : (p ++ [d] ++ q).getD p.length 0 = d := by simp [List.getD_eq_getElem?_getD]
    have e1 : (p ++ [d]).length = p.length + 1 := by simp
    have e2 : wsum ws (p ++ [d]) = wsum ws p + dv d * ws.getD p.length 0 := wsum_snoc ws p d hpl'
    rw [e1, e2] at hq
    rw [e0]
    have hdrop : ws.drop p.length = ws.getD p.length 0 :: ws.drop (p.length + 1) := by rw [getD_lt ws p.length 0 hpl']; exact List.drop_eq_getElem_cons hpl'
    have hN : nextAfter m (ws.drop p.length) (wsum ws p) (d :: q) = (rg10.drop (dv d + 1).toNat).findSome? fun x : Nat => (firstFrom m (ws.drop (p.length + 1)) (wsum ws p + (x : Int) * ws.getD p.length 0)).map (dg x :: ·) := by
      rw [hdrop]
      simp only [nextAfter, hq]
      rfl
    obtain ⟨x, hx⟩ : ∃ x : Nat, dv d = (x : Int) := ⟨(dv d).toNat, by omega⟩
    refine Ev.step (fun k => impl_NextRight.l1.eq_2 ..) ?_
    have hdv : (((d.toNat : Int) - 48) % 256) = (x : Int) := hx
    simp only [if_pos (show (p.length : Int) ≥ 0 by omega), B_size, hl, if_pos (show (p.length : Int) < ((ws.length + 1 : Nat) : Int) by omega), bt_nat, hdq, impl_digit.f, Option.bind_some, hdv, w_succ (show x < 9223372036854775807 by omega)]
    refine nr_l2 m ws hs T hT p _ p.length hpl' rfl ⟨[d] ++ q, by simp⟩ hl _ (10 - (x + 1)) (x + 1) rfl (by omega) ?_
    have ex : (dv d + 1).toNat = x + 1 := by omega
    rw [ex] at hN
    rw [← hN]
    cases hy : nextAfter m (ws.drop p.length) (wsum ws p) (d :: q) with
    | some y =>
      simp only
      rw [List.append_assoc, nextAfter_append m ws 0 p ([d] ++ q) y (by rw [Int.zero_add]; exact hy) (by omega)]
    | none =>
      simp only
      rw [List.append_assoc] at hl ⊢
      exact nr_l1 n p (d :: q) hp' (by omega) hpa hl hy
omit hT in
theorem nr_l0 (p : List UInt8) (c : UInt8) (hp : p.length = ws.length) (R : ByteArray × Bool) (cs : List Nat) (hcs : ∀ x ∈ cs, x < 11) (hcl : cs.length ≤ 11) : ∀ (n j : Nat), cs.length - j = n → j ≤ cs.length →
    (match (cs.drop j).find? fun x : Nat => decide ((x : Int) > ckI c) with
      | some x => R = answer (some (p ++ [sg x]))
      | none => Ev (fun k => impl_NextRight.l1 k (B (p ++ [c])) T ((ws.length : Int) - 1) m ws) R) →
    Ev (fun k => impl_NextRight.l0 k (B (p ++ [c])) (ws.length : Int) T (cs.map Int.ofNat) ((cs.map Int.ofNat).length : Int) (j : Int) m ws) R
  | 0, j, hn, hj, h => by
    obtain ⟨h2, h13, _, h12, hws⟩ := schemeOk_len hs
    refine Ev.step (fun k => impl_NextRight.l0.eq_2 ..) ?_
    rw [List.drop_eq_nil_of_le (by omega)] at h
    simp only [List.length_map, if_neg (show ¬ (j : Int) < (cs.length : Int) by omega), w_id (show -9223372036854775808 ≤ (ws.length : Int) - 1 by omega) (by omega)]
    exact h
  | n + 1, j, hn, hj, h => by
    obtain ⟨h2, h13, _, h12, hws⟩ := schemeOk_len hs
    have hj' : j < cs.length := by omega
    have hx := hcs cs[j] (List.getElem_mem _)
    have hlast : (p ++ [c]).getD ws.length 0 = c := by simp [List.getD_eq_getElem?_getD, ← hp]
    have hL : (p ++ [c]).length = ws.length + 1 := by simp [hp]
    have ht : (p ++ [c]).take ws.length = p := by rw [← hp]; simp
    have hrd : (cs.map Int.ofNat).getD j 0 = (cs[j] : Int) := by
      rw [List.getD_eq_getElem?_getD, List.getElem?_map, List.getElem?_eq_getElem hj']; rfl
    rw [List.drop_eq_getElem_cons hj', List.find?_cons] at h
    refine Ev.step (fun k => impl_NextRight.l0.eq_2 ..) ?_
    simp only [List.length_map, if_pos (show (j : Int) < (cs.length : Int) by omega), if_pos (show (0 : Int) ≤ (j : Int) by omega), if_pos (show (0 : Int) ≤ (ws.length : Int) by omega), B_size, hL, if_pos (show (ws.length : Int) < ((ws.length + 1 : Nat) : Int) by omega), bt_nat, hlast, indexByte_f, Option.bind_some, rd_nat, hrd]
    by_cases hgt : (cs[j] : Int) > ckI c
    · rw [decide_eq_true hgt] at h
      simp only at h
      rw [h]
      simp only [if_pos hgt, if_pos (show (ws.length : Int) ≤ ((ws.length + 1 : Nat) : Int) by omega), if_pos (show (0 : Int) ≤ (cs[j] : Int) by omega), w_succ (show cs[j] < 9223372036854775807 by omega), if_pos (show (cs[j] : Int) ≤ ((cs[j] + 1 : Nat) : Int) by omega), if_pos (show ((cs[j] + 1 : Nat) : Int) ≤ 11 by omega), toNat_cast, signs_at cs[j] hx, B_extract0, ht, B_size, List.length_singleton, if_pos (show p.length + 1 ≤ 9223372036854775807 by omega), B_append]
      exact Ev.now _
    · rw [decide_eq_false hgt] at h
      simp only at h
      simp only [if_neg hgt, w_succ (show j < 9223372036854775807 by omega)]
      have := nr_l0 p c hp R cs hcs hcl n (j + 1) (by omega) (by omega) h
      rw [List.length_map] at this
      exact this
end
theorem chk_next (m r : Int) (c : UInt8) (h : 0 ≤ ckI c) : (chk m r).find? (fun x : Nat => decide ((x : Int) > ckI c)) = (rg11.drop (ckI c + 1).toNat).find? fun x : Nat => (r + (x : Int)) % m == 0 := by
  have hr := ckI_range c
  have hd : ∀ k : Nat, k < 12 → rg11.drop k = rg11.filter fun x : Nat => decide (k ≤ x) := by decide
  rw [hd _ (by omega), chk, List.find?_filter, List.find?_filter]
  refine find?_congr' fun x _ => ?_
  have e : decide ((x : Int) > ckI c) = decide ((ckI c + 1).toNat ≤ x) := decide_eq_decide.2 (by omega)
  rw [e]
  cases decide ((ckI c + 1).toNat ≤ x) <;> cases ((r + (x : Int)) % m == 0) <;> rfl
theorem impl_f (m : Int) (ws : List Int) (l : List UInt8) (hl : ws.length ≤ 9223372036854775806) (hs : l.length ≤ 9223372036854775806) : Ev (fun k => impl_NextRight.f k m ws (B l)) (answer (nextRight m ws l)) := by
  unfold impl_NextRight.f nextRight
  refine Ev.bind (numberOk_f m ws l hl hs) ?_
  cases hok : numOk m ws l with
  | false => exact Ev.now _
  | true =>
    obtain ⟨hsc, hz⟩ := numOk_nm hok
    obtain ⟨h2, h13, _, h12, hws⟩ := schemeOk_len hsc
    have hw12 : ∀ w ∈ ws, 0 ≤ w ∧ w ≤ 12 := fun w hw => ⟨(hws w hw).1, by have := (hws w hw).2; omega⟩
    obtain ⟨p, c, rfl, hp, hd, hc⟩ := hz.split
    obtain ⟨T, hT, hopen⟩ := open_f m ws hsc
    have hL : (p ++ [c]).length = ws.length + 1 := by simp [hp]
    have ht : (p ++ [c]).take ws.length = p := by rw [← hp]; simp
    simp only [if_true]
    refine Ev.bind hopen ?_
    simp only [B_size, hL, if_pos (show (0 : Int) ≤ (ws.length : Int) by omega), if_pos (show (ws.length : Int) ≤ ((ws.length + 1 : Nat) : Int) by omega), B_extract0, ht]
    refine Ev.bind (sum_f m p ws hw12 h12 (by omega)) ?_
    have b1 := wsum_nonneg ws p (fun w h => (hws w h).1)
    refine Ev.bind (checks_f m _ ws h2 h13 b1) ?_
    have hcs : ∀ x ∈ chk m (wsum ws p), x < 11 := fun x hx => rg11_lt x (List.mem_filter.1 hx).1
    have hcl : (chk m (wsum ws p)).length ≤ 11 := List.length_filter_le _ _
    refine nr_l0 m ws hsc T p c hp _ _ hcs hcl _ 0 rfl (by omega) ?_
    rw [List.drop_zero, chk_next m _ c hc]
    have hN : nextAfter m (ws.drop p.length) (0 + wsum ws p) [c] = ((rg11.drop (ckI c + 1).toNat).find? fun x : Nat => (wsum ws p + (x : Int)) % m == 0).map fun c => [sg c] := by
      rw [List.drop_eq_nil_of_le (by omega), Int.zero_add]
      simp only [nextAfter]
    cases hf : (rg11.drop (ckI c + 1).toNat).find? fun x : Nat => (wsum ws p + (x : Int)) % m == 0 with
    | some x =>
      rw [hf] at hN
      simp only
      rw [nextAfter_append m ws 0 p [c] _ hN (by omega)]
    | none =>
      rw [hf] at hN
      rw [Int.zero_add] at hN
      simp only
      rw [← hp]
      exact nr_l1 m ws hsc T hT _ p [c] rfl (by omega) hd hL hN
end Go.Proofs.YtanjemlodfanjaaDoor.PB
