/- Plain facts on bytes, lists and rounds for the pure laws: no program, no memory. -/
import Derived.Test.YtemhkdpokbmmcaaGreatDoorWWords
import Derived.Lib.Strings
namespace Go.Proofs.YtemhkdpokbmmcaaGreatDoor.PB
set_option linter.unusedVariables false
open Go.RowKit Go.Proofs.YtemhkdpokbmmcaaGreatDoorW.PrintWords
/-- A string out of its bytes. -/
def B (l : List UInt8) : ByteArray := ⟨l.toArray⟩
theorem B_eta (s : ByteArray) : s = B s.data.toList := by unfold B; rw [Array.toArray_toList]
theorem B_data (l : List UInt8) : (B l).data.toList = l := by simp [B]
theorem B_inj {a b : List UInt8} (h : B a = B b) : a = b := by rw [← B_data a, h, B_data]
theorem B_size (l : List UInt8) : (B l).size = l.length := by show l.toArray.size = _; simp
theorem B_toList (l : List UInt8) : (B l).toList = l := by rw [Lib.toList_data, B_data]
theorem B_append (a b : List UInt8) : B a ++ B b = B (a ++ b) :=
  (B_eta _).trans (congrArg B (by rw [ByteArray.data_append, Array.toList_append, B_data, B_data]))
theorem B_extract (l : List UInt8) (a b : Nat) : (B l).extract a b = B ((l.drop a).take (b - a)) :=
  (B_eta _).trans (congrArg B (by rw [Lib.extract_data, B_data]))
theorem B_extract0 (l : List UInt8) (b : Nat) : (B l).extract 0 b = B (l.take b) := by rw [B_extract]; simp
theorem bt_B (l : List UInt8) (i : Int) : bt (B l) i = ((l.getD i.toNat 0).toNat : Int) := by
  unfold bt
  by_cases h : i.toNat < (B l).size
  · rw [dif_pos h]
    have h' : i.toNat < l.length := by rw [B_size] at h; exact h
    have e : (B l)[i.toNat]'h = l[i.toNat]'h' := by
      show (l.toArray)[i.toNat] = _
      simp
    rw [e, List.getD_eq_getElem?_getD, List.getElem?_eq_getElem h']; rfl
  · rw [dif_neg h]
    have h' : ¬ i.toNat < l.length := by rw [B_size] at h; exact h
    rw [List.getD_eq_getElem?_getD, List.getElem?_eq_none (by omega)]; rfl
theorem bt_nat (l : List UInt8) (i : Nat) : bt (B l) (i : Int) = ((l.getD i 0).toNat : Int) := by rw [bt_B]; rfl
theorem w_id {n : Int} (h : -9223372036854775808 ≤ n) (h' : n ≤ 9223372036854775807) : wrap64 n = n := by unfold wrap64; omega
theorem w_succ {i : Nat} (h : i < 9223372036854775807) : wrap64 ((i : Int) + 1) = ((i + 1 : Nat) : Int) := by rw [w_id (by omega) (by omega)]; rfl
theorem w_pred {i : Nat} (h : i < 9223372036854775807) (h0 : 0 < i) : wrap64 ((i : Int) - 1) = ((i - 1 : Nat) : Int) := by rw [w_id (by omega) (by omega)]; omega
theorem rd_nat (l : List Int) (i : Nat) : rd l (i : Int) = l.getD i 0 := by unfold rd; rfl
theorem encode_ascii {n : Int} (h0 : 0 ≤ n) (h : n < 128) : Go.Utf8.encode n = B [UInt8.ofNat n.toNat] := by
  have hv : Go.Utf8.valid n = true := by unfold Go.Utf8.valid; simp; omega
  have hc : n.toNat < 128 := by omega
  unfold Go.Utf8.encode
  simp only [hv, if_true, if_pos hc]
  rfl
theorem getD_lt {α : Type} (l : List α) (i : Nat) (d : α) (h : i < l.length) : l.getD i d = l[i] := by rw [List.getD_eq_getElem?_getD, List.getElem?_eq_getElem h]; rfl
theorem Ev.id {α : Type} {g : Nat → Option α} {r r' : α} (h : Ev g r) (e : r = r') : Ev g r' := e ▸ h
/-- One round of a loop whose round is a test. -/
theorem Ev.and2 {α β : Type} {g : Nat → Option α} {f : Nat → Option β} {a : α} {b : β} (h : Ev g a) (k : Ev f b) : ∃ n, g n = some a ∧ f n = some b := by
  obtain ⟨K, h⟩ := h
  obtain ⟨K', k⟩ := k
  exact ⟨max K K', h _ (by omega), k _ (by omega)⟩
end Go.Proofs.YtemhkdpokbmmcaaGreatDoor.PB
