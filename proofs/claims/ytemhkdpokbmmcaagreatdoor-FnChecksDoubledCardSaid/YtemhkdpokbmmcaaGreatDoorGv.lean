/- What a walk asks of package-level variables: that they are there. -/
import Derived.Test.YtemhkdpokbmmcaaGreatDoorWWords
namespace Go.Proofs.YtemhkdpokbmmcaaGreatDoor
open Go.RowKit Go.Proofs.YtemhkdpokbmmcaaGreatDoorW.PrintWords
structure GV (w : World) : Prop where
  ml : ∃ m, w.cell? ⟨0, 0, none⟩ = some (.int .i64 m)
  es : ∃ te pe, w.cell? ⟨3, 0, none⟩ = some (.iface te pe)
  er : ∃ te pe, w.cell? ⟨4, 0, none⟩ = some (.iface te pe)
theorem GV.below {w w' : World} (h : GV w) (hb : Below w.heap.size w w') : GV w' := by
  obtain ⟨⟨m, h0⟩, ⟨te, pe, h1⟩, ⟨te', pe', h2⟩⟩ := h
  exact ⟨⟨m, pw_cell_below hb h0⟩, ⟨te, pe, pw_cell_below hb h1⟩, ⟨te', pe', pw_cell_below hb h2⟩⟩
end Go.Proofs.YtemhkdpokbmmcaaGreatDoor
