/- Chapter 7, plain: the numbers in order, the least right completion, the next right number. No program. -/
import Derived.Test.YtemhkdpokbmmcaaGreatDoorPCkDef
namespace Go.Proofs.YtemhkdpokbmmcaaGreatDoor.PB
open Go.RowKit Go.Proofs.YtemhkdpokbmmcaaGreatDoorW.PrintWords
def rg10 : List Nat := [0, 1, 2, 3, 4, 5, 6, 7, 8, 9]
def rg11 : List Nat := [0, 1, 2, 3, 4, 5, 6, 7, 8, 9, 10]
theorem rg10_drop {k : Nat} (h : k < 10) : rg10.drop k = k :: rg10.drop (k + 1) := by
  have : ∀ k, k < 10 → rg10.drop k = k :: rg10.drop (k + 1) := by decide
  exact this k h
theorem rg11_drop {k : Nat} (h : k < 11) : rg11.drop k = k :: rg11.drop (k + 1) := by
  have : ∀ k, k < 11 → rg11.drop k = k :: rg11.drop (k + 1) := by decide
  exact this k h
end Go.Proofs.YtemhkdpokbmmcaaGreatDoor.PB
