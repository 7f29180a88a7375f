/- How many right numbers: both sides count alike, and what the law says of the count. -/
import Derived.Test.YtemhkdpokbmmcaaGreatDoorPMissed
import Derived.Test.YtemhkdpokbmmcaaGreatDoorA1
namespace Go.Proofs.YtemhkdpokbmmcaaGreatDoor.PB
set_option linter.unusedVariables false
open Go.RowKit Go.Proofs.YtemhkdpokbmmcaaGreatDoorW.PrintWords Go.Proofs.YtemhkdpokbmmcaaGreatDoor.MCD
def addAt (nx : List Int) (i : Nat) (x : Int) : List Int := nx.set i (nx.getD i 0 + x)
def addD (m w : Int) (r : Nat) (x : Int) (nx : List Int) (l : List Nat) : List Int := l.foldl (fun (nx : List Int) (d : Nat) => addAt nx (((r : Int) + (d : Int) * w) % m).toNat x) nx
def stepR (m w : Int) : Nat → List Int → List Int → List Int
  | _, [], nx => nx
  | r, x :: xs, nx => stepR m w (r + 1) xs (addD m w r x nx rg10)
def stepV (m w : Int) (v : List Int) : List Int := stepR m w 0 v (List.replicate m.toNat 0)
def vecR (m : Int) : List Int → List Int → List Int
  | [], v => v
  | w :: ws, v => vecR m ws (stepV m w v)
def cntL (m : Int) : Nat → List Int → Int
  | _, [] => 0
  | r, x :: xs => x * ((chk m (r : Int)).length : Int) + cntL m (r + 1) xs
def start (m : Int) : List Int := (List.replicate m.toNat 0).set 0 1
def countR (m : Int) (ws : List Int) : Int := cntL m 0 (vecR m ws (start m))
structure Good (M : Nat) (nx : List Int) (S : Int) : Prop where
  len : nx.length = M
  pos : ∀ x ∈ nx, 0 ≤ x
  sum : nx.sum = S
theorem sum_set : ∀ (l : List Int) (i : Nat) (x : Int), i < l.length → (l.set i x).sum = l.sum - l.getD i 0 + x
  | [], i, x, h => by simp at h
  | a :: l, 0, x, _ => by simp; omega
  | a :: l, i + 1, x, h => by
    have := sum_set l i x (by simpa using h)
    simp only [List.set_cons_succ, List.sum_cons, List.getD_cons_succ]
    omega
theorem sum_ge : ∀ (l : List Int), (∀ x ∈ l, 0 ≤ x) → 0 ≤ l.sum ∧ ∀ x ∈ l, x ≤ l.sum
  | [], _ => by simp
  | a :: l, h => by
    have h1 := sum_ge l (fun x hx => h x (by simp [hx]))
    have h2 := h a (by simp)
    refine ⟨by simp; omega, fun x hx => ?_⟩
    rw [List.sum_cons]
    rcases List.mem_cons.1 hx with rfl | hx
    · omega
    · have := h1.2 x hx; omega
theorem Good.at {M : Nat} {nx : List Int} {S : Int} (h : Good M nx S) (i : Nat) (hi : i < M) : 0 ≤ nx.getD i 0 ∧ nx.getD i 0 ≤ S := by
  have hl : i < nx.length := by rw [h.len]; exact hi
  rw [getD_lt nx i 0 hl]
  have hm : nx[i] ∈ nx := List.getElem_mem _
  exact ⟨h.pos _ hm, by rw [← h.sum]; exact (sum_ge nx h.pos).2 _ hm⟩
theorem Good.add {M : Nat} {nx : List Int} {S : Int} (h : Good M nx S) (i : Nat) (hi : i < M) (x : Int) (hx : 0 ≤ x) : Good M (addAt nx i x) (S + x) := by
  have ha := h.at i hi
  refine ⟨by unfold addAt; rw [List.length_set]; exact h.len, fun y hy => ?_, ?_⟩
  · rcases List.mem_or_eq_of_mem_set hy with hy | rfl
    · exact h.pos y hy
    · omega
  · unfold addAt
    rw [sum_set _ _ _ (by rw [h.len]; exact hi), h.sum]; omega
theorem Good.zero (M : Nat) : Good M (List.replicate M 0) 0 := by
  refine ⟨by simp, fun x hx => ?_, by simp⟩
  rw [List.eq_of_mem_replicate hx]; exact Int.le_refl _
theorem idx_lt {m : Int} (h : 0 < m) (y : Int) : (y % m).toNat < m.toNat := by
  have := Int.emod_nonneg y (show m ≠ 0 by omega)
  have := Int.emod_lt_of_pos y h
  omega
theorem Good.addD {m w : Int} (hm : 0 < m) {r : Nat} {x : Int} (hx : 0 ≤ x) : ∀ (l : List Nat) {nx : List Int} {S : Int}, Good m.toNat nx S → Good m.toNat (addD m w r x nx l) (S + x * l.length)
  | [], nx, S, h => by simpa [PB.addD] using h
  | d :: l, nx, S, h => by
    have := Good.addD hm hx l (h.add (((r : Int) + (d : Int) * w) % m).toNat (idx_lt hm _) x hx) (r := r) (w := w)
    have e : S + x + x * (l.length : Int) = S + x * ((d :: l).length : Int) := by
      rw [List.length_cons, show ((l.length + 1 : Nat) : Int) = (l.length : Int) + 1 from rfl, Int.mul_add]; omega
    rw [← e]
    exact this
theorem Good.stepR {m w : Int} (hm : 0 < m) : ∀ (xs : List Int) (r : Nat) {nx : List Int} {S : Int}, (∀ x ∈ xs, 0 ≤ x) → Good m.toNat nx S → Good m.toNat (stepR m w r xs nx) (S + 10 * xs.sum)
  | [], r, nx, S, _, h => by simpa [PB.stepR] using h
  | x :: xs, r, nx, S, hx, h => by
    have h1 := Good.addD hm (hx x (by simp)) rg10 h (r := r) (w := w)
    have h2 := Good.stepR hm xs (r + 1) (fun y hy => hx y (by simp [hy])) h1 (w := w)
    have e : S + x * (rg10.length : Int) + 10 * xs.sum = S + 10 * (x :: xs).sum := by
      rw [List.sum_cons, show (rg10.length : Int) = 10 from rfl]; omega
    rw [← e]
    exact h2
theorem Good.stepV {m w : Int} (hm : 0 < m) {v : List Int} {S : Int} (h : Good m.toNat v S) : Good m.toNat (stepV m w v) (10 * S) := by
  have := Good.stepR hm v 0 h.pos (Good.zero m.toNat) (w := w)
  rw [h.sum, Int.zero_add] at this
  exact this
theorem Good.start {m : Int} (hm : 0 < m) : Good m.toNat (start m) 1 := by
  have := (Good.zero m.toNat).add 0 (by omega) 1 (by omega)
  have e : addAt (List.replicate m.toNat (0 : Int)) 0 1 = PB.start m := by
    unfold addAt PB.start
    congr 1
    rw [getD_lt _ _ _ (by simp; omega), List.getElem_replicate]; rfl
  rw [e] at this
  exact this
theorem Good.vecR {m : Int} (hm : 0 < m) : ∀ (ws : List Int) {v : List Int} {S : Int}, Good m.toNat v S → Good m.toNat (vecR m ws v) (10 ^ ws.length * S)
  | [], v, S, h => by simpa [PB.vecR] using h
  | w :: ws, v, S, h => by
    have := Good.vecR hm ws (h.stepV hm (w := w))
    have e : (10 : Int) ^ ws.length * (10 * S) = 10 ^ (w :: ws).length * S := by
      rw [List.length_cons, Int.pow_succ, Int.mul_assoc]
    rw [← e]
    exact this
/-! #### The number of no digit but 0 -/
theorem addAt_zero {nx : List Int} {i : Nat} {x : Int} (hx : 0 ≤ x) : nx.getD 0 0 ≤ (addAt nx i x).getD 0 0 := by
  unfold addAt
  cases nx with
  | nil => simp
  | cons a l =>
    cases i with
    | zero => simp; omega
    | succ i => simp
theorem addD_zero {m w : Int} {r : Nat} {x : Int} (hx : 0 ≤ x) : ∀ (l : List Nat) (nx : List Int), nx.getD 0 0 ≤ (addD m w r x nx l).getD 0 0
  | [], nx => Int.le_refl _
  | d :: l, nx => Int.le_trans (addAt_zero hx) (addD_zero hx l _)
theorem stepR_zero {m w : Int} : ∀ (xs : List Int) (r : Nat) (nx : List Int), (∀ x ∈ xs, 0 ≤ x) → nx.getD 0 0 ≤ (stepR m w r xs nx).getD 0 0
  | [], r, nx, _ => Int.le_refl _
  | x :: xs, r, nx, h => Int.le_trans (addD_zero (h x (by simp)) rg10 nx) (stepR_zero xs (r + 1) _ (fun y hy => h y (by simp [hy])))
theorem stepV_zero {m w : Int} (hm : 0 < m) {v : List Int} {S : Int} (h : Good m.toNat v S) (h1 : 1 ≤ v.getD 0 0) : 1 ≤ (stepV m w v).getD 0 0 := by
  unfold stepV
  cases v with
  | nil => simp at h1
  | cons x xs =>
    have hx : 0 ≤ x := h.pos x (by simp)
    have hx1 : 1 ≤ x := by simpa using h1
    refine Int.le_trans ?_ (stepR_zero xs 1 _ (fun y hy => h.pos y (by simp [hy])))
    show 1 ≤ (addD m w 0 x (addAt (List.replicate m.toNat 0) ((((0 : Nat) : Int) + ((0 : Nat) : Int) * w) % m).toNat x) [1, 2, 3, 4, 5, 6, 7, 8, 9]).getD 0 0
    refine Int.le_trans ?_ (addD_zero hx [1, 2, 3, 4, 5, 6, 7, 8, 9] _)
    have e : ((((0 : Nat) : Int) + ((0 : Nat) : Int) * w) % m).toNat = 0 := by
      have : (((0 : Nat) : Int) + ((0 : Nat) : Int) * w) = 0 := by simp
      rw [this]; simp
    rw [e]
    unfold addAt
    obtain ⟨n, hn⟩ : ∃ n, m.toNat = n + 1 := ⟨m.toNat - 1, by omega⟩
    rw [hn, List.replicate_succ]
    simp; omega
theorem vecR_zero {m : Int} (hm : 0 < m) : ∀ (ws : List Int) {v : List Int} {S : Int}, Good m.toNat v S → 1 ≤ v.getD 0 0 → 1 ≤ (vecR m ws v).getD 0 0
  | [], v, S, _, h1 => h1
  | w :: ws, v, S, h, h1 => vecR_zero hm ws (h.stepV hm (w := w)) (stepV_zero hm h h1)
theorem cntL_bound (m lo hi : Int) : ∀ (xs : List Int) (r : Nat), (∀ x ∈ xs, 0 ≤ x) → (∀ j, r ≤ j → j < r + xs.length → lo ≤ ((chk m (j : Int)).length : Int) ∧ ((chk m (j : Int)).length : Int) ≤ hi) → lo * xs.sum ≤ cntL m r xs ∧ cntL m r xs ≤ hi * xs.sum
  | [], r, _, _ => by simp [cntL]
  | x :: xs, r, h, hl => by
    have h1 := cntL_bound m lo hi xs (r + 1) (fun y hy => h y (by simp [hy])) (fun j h1 h2 => hl j (by omega) (by simp; omega))
    have h2 := hl r (by omega) (by simp)
    have hx := h x (by simp)
    simp only [cntL, List.sum_cons, Int.mul_add]
    have e1 : lo * x ≤ x * ((chk m (r : Int)).length : Int) := by rw [Int.mul_comm lo x]; exact Int.mul_le_mul_of_nonneg_left h2.1 hx
    have e2 : x * ((chk m (r : Int)).length : Int) ≤ hi * x := by rw [Int.mul_comm hi x]; exact Int.mul_le_mul_of_nonneg_left h2.2 hx
    omega
theorem chk_len : ∀ m : Fin 14, ∀ r : Fin 14, 2 ≤ m.val → r.val < m.val → (m.val = 11 → (chk (m.val : Int) (r.val : Int)).length = 1) ∧ (m.val = 10 → 1 ≤ (chk (m.val : Int) (r.val : Int)).length ∧ (chk (m.val : Int) (r.val : Int)).length ≤ 2) ∧ (11 < m.val → (chk (m.val : Int) (r.val : Int)).length ≤ 1) ∧ (chk (m.val : Int) (r.val : Int)).length ≤ 6 ∧ 1 ≤ (chk (m.val : Int) 0).length := by decide +kernel
/-- What the law says of the count. -/
theorem countR_law (m : Int) (ws : List Int) (hs : schemeOk m ws = true) : (m = 11 → countR m ws = 10 ^ ws.length) ∧ (m = 10 → 10 ^ ws.length ≤ countR m ws ∧ countR m ws ≤ 2 * 10 ^ ws.length) ∧ (11 < m → countR m ws ≤ 10 ^ ws.length) ∧ 1 ≤ countR m ws ∧ countR m ws ≤ 6 * 10 ^ ws.length := by
  obtain ⟨h2, h13, _, h12, _⟩ := schemeOk_len hs
  have hm : 0 < m := by omega
  obtain ⟨M, rfl⟩ : ∃ M : Nat, m = (M : Int) := ⟨m.toNat, by omega⟩
  have hg := Good.vecR hm ws (Good.start hm)
  rw [Int.mul_one] at hg
  have hlen : (vecR (M : Int) ws (start (M : Int))).length = M := hg.len
  have hc : ∀ j, j < M → (M = 11 → (chk (M : Int) (j : Int)).length = 1) ∧ (M = 10 → 1 ≤ (chk (M : Int) (j : Int)).length ∧ (chk (M : Int) (j : Int)).length ≤ 2) ∧ (11 < M → (chk (M : Int) (j : Int)).length ≤ 1) ∧ (chk (M : Int) (j : Int)).length ≤ 6 ∧ 1 ≤ (chk (M : Int) 0).length := fun j hj => chk_len ⟨M, by omega⟩ ⟨j, by omega⟩ (by show 2 ≤ M; omega) hj
  have hb := fun lo hi h => cntL_bound (M : Int) lo hi (vecR (M : Int) ws (start (M : Int))) 0 hg.pos h
  rw [hg.sum] at hb
  refine ⟨fun e => ?_, fun e => ?_, fun e => ?_, ?_, ?_⟩
  · have := hb 1 1 (fun j _ hj => by have := (hc j (by omega)).1 (by omega); omega)
    unfold countR; omega
  · have := hb 1 2 (fun j _ hj => by have := (hc j (by omega)).2.1 (by omega); omega)
    unfold countR; omega
  · have := hb 0 1 (fun j _ hj => by have := (hc j (by omega)).2.2.1 (by omega); omega)
    unfold countR; omega
  · have h1 : 1 ≤ (vecR (M : Int) ws (start (M : Int))).getD 0 0 := by
      refine vecR_zero hm ws (Good.start hm) ?_
      unfold start
      rw [getD_lt _ _ _ (by simp; omega), List.getElem_set_self]
      exact Int.le_refl _
    have h0 := (hc 0 (by omega)).2.2.2.2
    unfold countR
    generalize vecR (M : Int) ws (start (M : Int)) = v at h1 hg hb hlen
    cases v with
    | nil => simp at h1
    | cons x xs =>
      have hx : 1 ≤ x := by simpa using h1
      have hr := cntL_bound (M : Int) 0 6 xs 1 (fun y hy => hg.pos y (by simp [hy])) (fun j _ hj => by
        have := (hc j (by simp at hlen; omega)).2.2.2.1
        omega)
      show 1 ≤ x * ((chk (M : Int) ((0 : Nat) : Int)).length : Int) + cntL (M : Int) 1 xs
      have e : x * 1 ≤ x * ((chk (M : Int) ((0 : Nat) : Int)).length : Int) := Int.mul_le_mul_of_nonneg_left (by exact_mod_cast h0) (by omega)
      omega
  · have := hb 0 6 (fun j _ hj => by have := (hc j (by omega)).2.2.2.1; omega)
    unfold countR; omega
end Go.Proofs.YtemhkdpokbmmcaaGreatDoor.PB
