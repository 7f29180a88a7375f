-- By mk.py (wip/mk.py): a program of this session over the kit's printer
import Derived.Test.YtemhkdpokbmmcaaGreatDoorDefCD
namespace Go.Proofs.YtemhkdpokbmmcaaGreatDoor.MCD
open Go.RowKit Go.Proofs.YtemhkdpokbmmcaaGreatDoorW.PrintWords Go.Proofs.YtemhkdpokbmmcaaGreatDoorW.PrintLast Go.Proofs.YtemhkdpokbmmcaaGreatDoorW.PrintMore
attribute [local go_sem] max2_int min2_int max_two min_two max_three min_three max_four min_four   -- for this text's walks alone
set_option linter.unusedVariables false
set_option linter.unusedSimpArgs false
set_option maxHeartbeats 8000000 in
set_option maxRecDepth 100000 in
theorem laws_FnChecksDoubled.calls (k : Nat) (A0 : Option Addr) (c0 : Nat) (l0 : List Int) (A1 : Option Addr) (c1 : Nat) (l1 : List Int) (r : Bool) (w : World) (hG : GV w) (hr0 : Kd.C (Kd.int .u8) w A0 l0.length l0) (hc0 : l0.length ≤ c0) (hr1 : Kd.C (Kd.int .u8) w A1 l1.length l1) (hc1 : l1.length ≤ c1) (h : laws_FnChecksDoubled.f k l0 l1 = some r) :
  Calls Tryz.prog 5 #[.slice A0 l0.length c0, .slice A1 l1.length c1] w fun e w' => e = .returned (.bool r) ∧ Below w.heap.size w w' := by
 have hu51 := Tryz.underlying51
 have HG := Aside0.mk hG
 clear hG
 have HR0 := Aside0.mk hr0
 have HC0 := Aside0.mk hc0
 clear hr0 hc0
 have HR1 := Aside0.mk hr1
 have HC1 := Aside0.mk hc1
 clear hr1 hc1
 have HB := Aside0.mk (Below.refl w.heap.size w)
 have H : ((laws_big.f l0 l1).bind fun t485 => (if t485 = true then (some true) else ((spec_DrawCountRight.f k l0).bind fun bt486 => ((impl_CountRight.f k bt486.1 bt486.2).bind fun bt491 => ((spec_CountRight.f k bt486.1 bt486.2).bind fun bt493 => ((impl_SchemeText.f k bt486.1 bt486.2).bind fun bt495 => ((spec_SchemeText.f k bt486.1 bt486.2).bind fun bt497 => ((impl_FindsAllSingles.f k bt486.1 bt486.2).bind fun bt499 => ((spec_FindsAllSingles.f k bt486.1 bt486.2).bind fun bt501 => ((impl_FindsAllSwaps.f k bt486.1 bt486.2).bind fun bt503 => ((spec_FindsAllSwaps.f k bt486.1 bt486.2).bind fun bt505 => (if (bt491.2 != bt493.2) = true then (none) else (if bt491.1 = bt493.1 then (if (bt495.2 != bt497.2) = true then (none) else (if bt495.1.toList = bt497.1.toList then (if (bt499.2 != bt501.2) = true then (none) else (if (bt499.1 != bt501.1) = true then (none) else (if (bt503.2 != bt505.2) = true then (none) else (if (bt503.1 != bt505.1) = true then (none) else ((impl_IsScheme.f k bt486.1 bt486.2).bind fun t507 => (if (bt491.2 != t507) = true then (none) else (if (bt495.2 != bt491.2) = true then (none) else (if (bt499.2 != bt491.2) = true then (none) else (laws_FnChecksDoubled.j0 k l1 bt491.1 bt491.2 bt495.1 (bt503.2 != bt491.2) bt486.1 bt486.2))))))))) else (none))) else (none)))))))))))))) = some r := h
 clear h
 replace H := Option.bind_eq_some_iff.mp H
 obtain ⟨t485, A30, H⟩ := H
 replace H : (if t485 = true then (some true) else ((spec_DrawCountRight.f k l0).bind fun bt486 => ((impl_CountRight.f k bt486.1 bt486.2).bind fun bt491 => ((spec_CountRight.f k bt486.1 bt486.2).bind fun bt493 => ((impl_SchemeText.f k bt486.1 bt486.2).bind fun bt495 => ((spec_SchemeText.f k bt486.1 bt486.2).bind fun bt497 => ((impl_FindsAllSingles.f k bt486.1 bt486.2).bind fun bt499 => ((spec_FindsAllSingles.f k bt486.1 bt486.2).bind fun bt501 => ((impl_FindsAllSwaps.f k bt486.1 bt486.2).bind fun bt503 => ((spec_FindsAllSwaps.f k bt486.1 bt486.2).bind fun bt505 => (if (bt491.2 != bt493.2) = true then (none) else (if bt491.1 = bt493.1 then (if (bt495.2 != bt497.2) = true then (none) else (if bt495.1.toList = bt497.1.toList then (if (bt499.2 != bt501.2) = true then (none) else (if (bt499.1 != bt501.1) = true then (none) else (if (bt503.2 != bt505.2) = true then (none) else (if (bt503.1 != bt505.1) = true then (none) else ((impl_IsScheme.f k bt486.1 bt486.2).bind fun t507 => (if (bt491.2 != t507) = true then (none) else (if (bt495.2 != bt491.2) = true then (none) else (if (bt499.2 != bt491.2) = true then (none) else (laws_FnChecksDoubled.j0 k l1 bt491.1 bt491.2 bt495.1 (bt503.2 != bt491.2) bt486.1 bt486.2))))))))) else (none))) else (none))))))))))))) = some r := H
 have A3 := Aside0.mk A30
 clear A30
 by_cases c4 : t485 = true
 ·
  subst c4
  have H1 : (some true) = some r := by rw [if_pos rfl] at H; exact H
  clear H
  have H := H1
  clear H1
  obtain rfl := Option.some.inj H
  go_enter Tryz.func5, Tryz.ntmps5
  go_wp2_with (first | (go_at_call 6; (with_reducible refine (laws_big.calls _ _ l0 _ _ l1 true _ ?side1 ?side2 ?side3 ?side4 A3.out).mono ?_); (case side1 => exact Z66); (case side2 => exact HC0.out); (case side3 => exact Z141); (case side4 => exact HC1.out); rintro e w' ⟨rfl, ⟨nd, rfl⟩⟩; (try first | exact ⟨rfl, _, World.drewN_drewN _ _ _⟩ | exact ⟨rfl, _, Eq.trans (World.drewN_drewN _ _ _) (congrArg (World.drewN _) (Nat.add_assoc _ _ _))⟩)))
  go_ret
  exact ⟨by first | rfl | (simp [errW_none, errW_some] <;> rfl) | (simp [*, errW_none, errW_some] <;> rfl), by repeat (first | (with_reducible first | exact HB.out | apply below_alloc | apply pw_below_drewN | apply below_drew1) | exact HB.out)⟩
 ·
  replace c4 := Bool.eq_false_iff.mpr c4
  subst c4
  have H1 : ((spec_DrawCountRight.f k l0).bind fun bt486 => ((impl_CountRight.f k bt486.1 bt486.2).bind fun bt491 => ((spec_CountRight.f k bt486.1 bt486.2).bind fun bt493 => ((impl_SchemeText.f k bt486.1 bt486.2).bind fun bt495 => ((spec_SchemeText.f k bt486.1 bt486.2).bind fun bt497 => ((impl_FindsAllSingles.f k bt486.1 bt486.2).bind fun bt499 => ((spec_FindsAllSingles.f k bt486.1 bt486.2).bind fun bt501 => ((impl_FindsAllSwaps.f k bt486.1 bt486.2).bind fun bt503 => ((spec_FindsAllSwaps.f k bt486.1 bt486.2).bind fun bt505 => (if (bt491.2 != bt493.2) = true then (none) else (if bt491.1 = bt493.1 then (if (bt495.2 != bt497.2) = true then (none) else (if bt495.1.toList = bt497.1.toList then (if (bt499.2 != bt501.2) = true then (none) else (if (bt499.1 != bt501.1) = true then (none) else (if (bt503.2 != bt505.2) = true then (none) else (if (bt503.1 != bt505.1) = true then (none) else ((impl_IsScheme.f k bt486.1 bt486.2).bind fun t507 => (if (bt491.2 != t507) = true then (none) else (if (bt495.2 != bt491.2) = true then (none) else (if (bt499.2 != bt491.2) = true then (none) else (laws_FnChecksDoubled.j0 k l1 bt491.1 bt491.2 bt495.1 (bt503.2 != bt491.2) bt486.1 bt486.2))))))))) else (none))) else (none)))))))))))) = some r := by rw [if_neg (show ¬ (false = true) by decide)] at H; exact H
  clear H
  have H := H1
  clear H1
  replace H := Option.bind_eq_some_iff.mp H
  obtain ⟨⟨t486, t487⟩, A50, H⟩ := H
  replace H : ((impl_CountRight.f k t486 t487).bind fun bt491 => ((spec_CountRight.f k t486 t487).bind fun bt493 => ((impl_SchemeText.f k t486 t487).bind fun bt495 => ((spec_SchemeText.f k t486 t487).bind fun bt497 => ((impl_FindsAllSingles.f k t486 t487).bind fun bt499 => ((spec_FindsAllSingles.f k t486 t487).bind fun bt501 => ((impl_FindsAllSwaps.f k t486 t487).bind fun bt503 => ((spec_FindsAllSwaps.f k t486 t487).bind fun bt505 => (if (bt491.2 != bt493.2) = true then (none) else (if bt491.1 = bt493.1 then (if (bt495.2 != bt497.2) = true then (none) else (if bt495.1.toList = bt497.1.toList then (if (bt499.2 != bt501.2) = true then (none) else (if (bt499.1 != bt501.1) = true then (none) else (if (bt503.2 != bt505.2) = true then (none) else (if (bt503.1 != bt505.1) = true then (none) else ((impl_IsScheme.f k t486 t487).bind fun t507 => (if (bt491.2 != t507) = true then (none) else (if (bt495.2 != bt491.2) = true then (none) else (if (bt499.2 != bt491.2) = true then (none) else (laws_FnChecksDoubled.j0 k l1 bt491.1 bt491.2 bt495.1 (bt503.2 != bt491.2) t486 t487))))))))) else (none))) else (none))))))))))) = some r := H
  have A5 := Aside0.mk A50
  clear A50
  replace H := Option.bind_eq_some_iff.mp H
  obtain ⟨⟨t491, t492⟩, A60, H⟩ := H
  replace H : ((spec_CountRight.f k t486 t487).bind fun bt493 => ((impl_SchemeText.f k t486 t487).bind fun bt495 => ((spec_SchemeText.f k t486 t487).bind fun bt497 => ((impl_FindsAllSingles.f k t486 t487).bind fun bt499 => ((spec_FindsAllSingles.f k t486 t487).bind fun bt501 => ((impl_FindsAllSwaps.f k t486 t487).bind fun bt503 => ((spec_FindsAllSwaps.f k t486 t487).bind fun bt505 => (if (t492 != bt493.2) = true then (none) else (if t491 = bt493.1 then (if (bt495.2 != bt497.2) = true then (none) else (if bt495.1.toList = bt497.1.toList then (if (bt499.2 != bt501.2) = true then (none) else (if (bt499.1 != bt501.1) = true then (none) else (if (bt503.2 != bt505.2) = true then (none) else (if (bt503.1 != bt505.1) = true then (none) else ((impl_IsScheme.f k t486 t487).bind fun t507 => (if (t492 != t507) = true then (none) else (if (bt495.2 != t492) = true then (none) else (if (bt499.2 != t492) = true then (none) else (laws_FnChecksDoubled.j0 k l1 t491 t492 bt495.1 (bt503.2 != t492) t486 t487))))))))) else (none))) else (none)))))))))) = some r := H
  have A6 := Aside0.mk A60
  clear A60
  replace H := Option.bind_eq_some_iff.mp H
  obtain ⟨⟨t493, t494⟩, A70, H⟩ := H
  replace H : ((impl_SchemeText.f k t486 t487).bind fun bt495 => ((spec_SchemeText.f k t486 t487).bind fun bt497 => ((impl_FindsAllSingles.f k t486 t487).bind fun bt499 => ((spec_FindsAllSingles.f k t486 t487).bind fun bt501 => ((impl_FindsAllSwaps.f k t486 t487).bind fun bt503 => ((spec_FindsAllSwaps.f k t486 t487).bind fun bt505 => (if (t492 != t494) = true then (none) else (if t491 = t493 then (if (bt495.2 != bt497.2) = true then (none) else (if bt495.1.toList = bt497.1.toList then (if (bt499.2 != bt501.2) = true then (none) else (if (bt499.1 != bt501.1) = true then (none) else (if (bt503.2 != bt505.2) = true then (none) else (if (bt503.1 != bt505.1) = true then (none) else ((impl_IsScheme.f k t486 t487).bind fun t507 => (if (t492 != t507) = true then (none) else (if (bt495.2 != t492) = true then (none) else (if (bt499.2 != t492) = true then (none) else (laws_FnChecksDoubled.j0 k l1 t491 t492 bt495.1 (bt503.2 != t492) t486 t487))))))))) else (none))) else (none))))))))) = some r := H
  have A7 := Aside0.mk A70
  clear A70
  replace H := Option.bind_eq_some_iff.mp H
  obtain ⟨⟨t495, t496⟩, A80, H⟩ := H
  replace H : ((spec_SchemeText.f k t486 t487).bind fun bt497 => ((impl_FindsAllSingles.f k t486 t487).bind fun bt499 => ((spec_FindsAllSingles.f k t486 t487).bind fun bt501 => ((impl_FindsAllSwaps.f k t486 t487).bind fun bt503 => ((spec_FindsAllSwaps.f k t486 t487).bind fun bt505 => (if (t492 != t494) = true then (none) else (if t491 = t493 then (if (t496 != bt497.2) = true then (none) else (if t495.toList = bt497.1.toList then (if (bt499.2 != bt501.2) = true then (none) else (if (bt499.1 != bt501.1) = true then (none) else (if (bt503.2 != bt505.2) = true then (none) else (if (bt503.1 != bt505.1) = true then (none) else ((impl_IsScheme.f k t486 t487).bind fun t507 => (if (t492 != t507) = true then (none) else (if (t496 != t492) = true then (none) else (if (bt499.2 != t492) = true then (none) else (laws_FnChecksDoubled.j0 k l1 t491 t492 t495 (bt503.2 != t492) t486 t487))))))))) else (none))) else (none)))))))) = some r := H
  have A8 := Aside0.mk A80
  clear A80
  replace H := Option.bind_eq_some_iff.mp H
  obtain ⟨⟨t497, t498⟩, A90, H⟩ := H
  replace H : ((impl_FindsAllSingles.f k t486 t487).bind fun bt499 => ((spec_FindsAllSingles.f k t486 t487).bind fun bt501 => ((impl_FindsAllSwaps.f k t486 t487).bind fun bt503 => ((spec_FindsAllSwaps.f k t486 t487).bind fun bt505 => (if (t492 != t494) = true then (none) else (if t491 = t493 then (if (t496 != t498) = true then (none) else (if t495.toList = t497.toList then (if (bt499.2 != bt501.2) = true then (none) else (if (bt499.1 != bt501.1) = true then (none) else (if (bt503.2 != bt505.2) = true then (none) else (if (bt503.1 != bt505.1) = true then (none) else ((impl_IsScheme.f k t486 t487).bind fun t507 => (if (t492 != t507) = true then (none) else (if (t496 != t492) = true then (none) else (if (bt499.2 != t492) = true then (none) else (laws_FnChecksDoubled.j0 k l1 t491 t492 t495 (bt503.2 != t492) t486 t487))))))))) else (none))) else (none))))))) = some r := H
  have A9 := Aside0.mk A90
  clear A90
  replace H := Option.bind_eq_some_iff.mp H
  obtain ⟨⟨t499, t500⟩, A100, H⟩ := H
  replace H : ((spec_FindsAllSingles.f k t486 t487).bind fun bt501 => ((impl_FindsAllSwaps.f k t486 t487).bind fun bt503 => ((spec_FindsAllSwaps.f k t486 t487).bind fun bt505 => (if (t492 != t494) = true then (none) else (if t491 = t493 then (if (t496 != t498) = true then (none) else (if t495.toList = t497.toList then (if (t500 != bt501.2) = true then (none) else (if (t499 != bt501.1) = true then (none) else (if (bt503.2 != bt505.2) = true then (none) else (if (bt503.1 != bt505.1) = true then (none) else ((impl_IsScheme.f k t486 t487).bind fun t507 => (if (t492 != t507) = true then (none) else (if (t496 != t492) = true then (none) else (if (t500 != t492) = true then (none) else (laws_FnChecksDoubled.j0 k l1 t491 t492 t495 (bt503.2 != t492) t486 t487))))))))) else (none))) else (none)))))) = some r := H
  have A10 := Aside0.mk A100
  clear A100
  replace H := Option.bind_eq_some_iff.mp H
  obtain ⟨⟨t501, t502⟩, A110, H⟩ := H
  replace H : ((impl_FindsAllSwaps.f k t486 t487).bind fun bt503 => ((spec_FindsAllSwaps.f k t486 t487).bind fun bt505 => (if (t492 != t494) = true then (none) else (if t491 = t493 then (if (t496 != t498) = true then (none) else (if t495.toList = t497.toList then (if (t500 != t502) = true then (none) else (if (t499 != t501) = true then (none) else (if (bt503.2 != bt505.2) = true then (none) else (if (bt503.1 != bt505.1) = true then (none) else ((impl_IsScheme.f k t486 t487).bind fun t507 => (if (t492 != t507) = true then (none) else (if (t496 != t492) = true then (none) else (if (t500 != t492) = true then (none) else (laws_FnChecksDoubled.j0 k l1 t491 t492 t495 (bt503.2 != t492) t486 t487))))))))) else (none))) else (none))))) = some r := H
  have A11 := Aside0.mk A110
  clear A110
  replace H := Option.bind_eq_some_iff.mp H
  obtain ⟨⟨t503, t504⟩, A120, H⟩ := H
  replace H : ((spec_FindsAllSwaps.f k t486 t487).bind fun bt505 => (if (t492 != t494) = true then (none) else (if t491 = t493 then (if (t496 != t498) = true then (none) else (if t495.toList = t497.toList then (if (t500 != t502) = true then (none) else (if (t499 != t501) = true then (none) else (if (t504 != bt505.2) = true then (none) else (if (t503 != bt505.1) = true then (none) else ((impl_IsScheme.f k t486 t487).bind fun t507 => (if (t492 != t507) = true then (none) else (if (t496 != t492) = true then (none) else (if (t500 != t492) = true then (none) else (laws_FnChecksDoubled.j0 k l1 t491 t492 t495 (t504 != t492) t486 t487))))))))) else (none))) else (none)))) = some r := H
  have A12 := Aside0.mk A120
  clear A120
  replace H := Option.bind_eq_some_iff.mp H
  obtain ⟨⟨t505, t506⟩, A130, H⟩ := H
  replace H : (if (t492 != t494) = true then (none) else (if t491 = t493 then (if (t496 != t498) = true then (none) else (if t495.toList = t497.toList then (if (t500 != t502) = true then (none) else (if (t499 != t501) = true then (none) else (if (t504 != t506) = true then (none) else (if (t503 != t505) = true then (none) else ((impl_IsScheme.f k t486 t487).bind fun t507 => (if (t492 != t507) = true then (none) else (if (t496 != t492) = true then (none) else (if (t500 != t492) = true then (none) else (laws_FnChecksDoubled.j0 k l1 t491 t492 t495 (t504 != t492) t486 t487))))))))) else (none))) else (none))) = some r := H
  have A13 := Aside0.mk A130
  clear A130
  have HC14 := Aside0.mk H
  clear H
  go_enter Tryz.func5, Tryz.ntmps5
  go_upto_region 12 with (first | (go_at_call 6; (with_reducible refine (laws_big.calls _ _ l0 _ _ l1 false _ ?side1 ?side2 ?side3 ?side4 A3.out).mono ?_); (case side1 => exact Z66); (case side2 => exact HC0.out); (case side3 => exact Z141); (case side4 => exact HC1.out); rintro e w' ⟨rfl, ⟨nd, rfl⟩⟩; (try first | exact ⟨rfl, _, World.drewN_drewN _ _ _⟩ | exact ⟨rfl, _, Eq.trans (World.drewN_drewN _ _ _) (congrArg (World.drewN _) (Nat.add_assoc _ _ _))⟩)) | (go_at_call 61; (with_reducible refine (spec_DrawCountRight.calls k _ _ l0 t486 t487 _ ?side1 ?side2 A5.out).mono ?_); (case side1 => exact Z66); (case side2 => exact HC0.out); rintro e w15 ⟨v488, rfl, ho0, hb⟩; have n0_ := Aside0.mk (Kd.R_lower ho0 (below_size Z0)); have n1_ := Aside0.mk (below_step Z0 hb); clear HB; revert n0_ n1_; intro HO489 HB; (try clear hb); (try clear hb2); (try clear hk); (try clear hi); (try clear ho0)) | ((with_reducible refine gate_dst (N := 5) rfl ?_); (try (refine gate_guard (by rfl) ?_; dsimp only)); refine box_event ?hg (N := 5) ?hd (cs := #[.int .i64 0, .slice none 0 0]) (t := 51) ?hr ?_; (case hd => rfl); (case hg => rfl); (case hr => exact Z13); intro gb490 hg w16 hbox hb; have n0_ := Aside0.mk (Kd.R_below Z46 hb); have n1_ := Aside0.mk (below_step Z0 hb); have n2_ := Aside0.mk (hbox); have n3_ := Aside0.mk ((Z18 : w.heap.size ≤ gb490)); have n4_ := Aside0.mk ((Z18 : w.heap.size ≤ gb490)); clear HO489 HB; revert n0_ n1_ n2_ n3_ n4_; intro HO489 HB BK490 GW490 GE490; clear hb hbox hg; have hcz17_0 : w16.cell? ⟨gb490, 0, none⟩ = some (.int .i64 0) := (blk_cell BK490.out 0).trans rfl; have hcz17_1 : w16.cell? ⟨gb490, 1, none⟩ = some (.slice none 0 0) := (blk_cell BK490.out 1).trans rfl; have hfz17_0 := blk_frozen BK490.out 0; have hfz17_1 := blk_frozen BK490.out 1; obtain ⟨Ao18, co18, eo18⟩ := Kd.R_slice HO489.out; subst eo18) | (go_at_call 62; (with_reducible refine (impl_CountRight.calls k t486 _ _ t487 t491 t492 _ ?side1 ?side2 A6.out).mono ?_); (case side1 => refine (Kd.R_reads' (e := 3) (base := w.heap.size) (ok := fun k_ => True) (n := t487.length) (c := co18) ?_).2.2; exact Z108); (case side2 => exact Z118); rintro e w19 ⟨rfl, hb⟩; have n0_ := Aside0.mk (Kd.R_below Z108 hb); have n1_ := Aside0.mk (blk_below (g := gb490) (o := .cells #[.int .i64 t486, .slice Ao18 t487.length co18] 51 (0, 0)) (by (with_reducible repeat (first | refine blk_drewN ?_ _ | refine blk_drew ?_ | refine blk_alloc ?_ _)); refine blk_put (cs := #[.int .i64 t486, .slice none 0 0]) ?_ 1 _ rfl; (with_reducible repeat (first | refine blk_drewN ?_ _ | refine blk_drew ?_ | refine blk_alloc ?_ _)); refine blk_put (cs := #[.int .i64 0, .slice none 0 0]) ?_ 0 _ rfl; (with_reducible repeat (first | refine blk_drewN ?_ _ | refine blk_drew ?_ | refine blk_alloc ?_ _)); exact BK490.out) hb); have n2_ := Aside0.mk (below_step Z10 hb); clear HO489 BK490 HB; revert n0_ n1_ n2_; intro HO489 BK490 HB; (try clear hb); (try clear hb2); (try clear hk); (try clear hi); have hcz20_0 : w19.cell? ⟨gb490, 0, none⟩ = some (.int .i64 t486) := (blk_cell BK490.out 0).trans rfl; have hcz20_1 : w19.cell? ⟨gb490, 1, none⟩ = some (.slice Ao18 t487.length co18) := (blk_cell BK490.out 1).trans rfl; have hfz20_0 := blk_frozen BK490.out 0; have hfz20_1 := blk_frozen BK490.out 1) | (go_at_call 63; (with_reducible refine (spec_CountRight.calls k t486 _ _ t487 t493 t494 _ ?side1 ?side2 A7.out).mono ?_); (case side1 => exact Z30); (case side2 => exact Z118); rintro e w21 ⟨rfl, hb⟩; have n0_ := Aside0.mk (Kd.R_below Z46 hb); have n1_ := Aside0.mk (blk_below (g := gb490) (o := .cells #[.int .i64 t486, .slice Ao18 t487.length co18] 51 (0, 0)) Z8 hb); have n2_ := Aside0.mk (below_step Z10 hb); clear HO489 BK490 HB; revert n0_ n1_ n2_; intro HO489 BK490 HB; (try clear hb); (try clear hb2); (try clear hk); (try clear hi); have hcz22_0 : w21.cell? ⟨gb490, 0, none⟩ = some (.int .i64 t486) := (blk_cell BK490.out 0).trans rfl; have hcz22_1 : w21.cell? ⟨gb490, 1, none⟩ = some (.slice Ao18 t487.length co18) := (blk_cell BK490.out 1).trans rfl; have hfz22_0 := blk_frozen BK490.out 0; have hfz22_1 := blk_frozen BK490.out 1) | (go_at_call 64; (with_reducible refine (impl_SchemeText.calls k t486 _ _ t487 t495 t496 _ ?side1 ?side2 A8.out).mono ?_); (case side1 => exact Z30); (case side2 => exact Z118); rintro e w23 ⟨rfl, hb⟩; have n0_ := Aside0.mk (Kd.R_below Z46 hb); have n1_ := Aside0.mk (blk_below (g := gb490) (o := .cells #[.int .i64 t486, .slice Ao18 t487.length co18] 51 (0, 0)) Z8 hb); have n2_ := Aside0.mk (below_step Z10 hb); clear HO489 BK490 HB; revert n0_ n1_ n2_; intro HO489 BK490 HB; (try clear hb); (try clear hb2); (try clear hk); (try clear hi); have hcz24_0 : w23.cell? ⟨gb490, 0, none⟩ = some (.int .i64 t486) := (blk_cell BK490.out 0).trans rfl; have hcz24_1 : w23.cell? ⟨gb490, 1, none⟩ = some (.slice Ao18 t487.length co18) := (blk_cell BK490.out 1).trans rfl; have hfz24_0 := blk_frozen BK490.out 0; have hfz24_1 := blk_frozen BK490.out 1) | (go_at_call 65; (with_reducible refine (spec_SchemeText.calls k t486 _ _ t487 t497 t498 _ ?side1 ?side2 A9.out).mono ?_); (case side1 => exact Z30); (case side2 => exact Z118); rintro e w25 ⟨rfl, hb⟩; have n0_ := Aside0.mk (Kd.R_below Z46 hb); have n1_ := Aside0.mk (blk_below (g := gb490) (o := .cells #[.int .i64 t486, .slice Ao18 t487.length co18] 51 (0, 0)) Z8 hb); have n2_ := Aside0.mk (below_step Z10 hb); clear HO489 BK490 HB; revert n0_ n1_ n2_; intro HO489 BK490 HB; (try clear hb); (try clear hb2); (try clear hk); (try clear hi); have hcz26_0 : w25.cell? ⟨gb490, 0, none⟩ = some (.int .i64 t486) := (blk_cell BK490.out 0).trans rfl; have hcz26_1 : w25.cell? ⟨gb490, 1, none⟩ = some (.slice Ao18 t487.length co18) := (blk_cell BK490.out 1).trans rfl; have hfz26_0 := blk_frozen BK490.out 0; have hfz26_1 := blk_frozen BK490.out 1) | (go_at_call 47; (with_reducible refine (impl_FindsAllSingles.calls k t486 _ _ t487 t499 t500 _ ?side1 ?side2 A10.out).mono ?_); (case side1 => exact Z30); (case side2 => exact Z118); rintro e w27 ⟨rfl, hb⟩; have n0_ := Aside0.mk (Kd.R_below Z46 hb); have n1_ := Aside0.mk (blk_below (g := gb490) (o := .cells #[.int .i64 t486, .slice Ao18 t487.length co18] 51 (0, 0)) Z8 hb); have n2_ := Aside0.mk (below_step Z10 hb); clear HO489 BK490 HB; revert n0_ n1_ n2_; intro HO489 BK490 HB; (try clear hb); (try clear hb2); (try clear hk); (try clear hi); have hcz28_0 : w27.cell? ⟨gb490, 0, none⟩ = some (.int .i64 t486) := (blk_cell BK490.out 0).trans rfl; have hcz28_1 : w27.cell? ⟨gb490, 1, none⟩ = some (.slice Ao18 t487.length co18) := (blk_cell BK490.out 1).trans rfl; have hfz28_0 := blk_frozen BK490.out 0; have hfz28_1 := blk_frozen BK490.out 1) | (go_at_call 66; (with_reducible refine (spec_FindsAllSingles.calls k t486 _ _ t487 t501 t502 _ ?side1 ?side2 A11.out).mono ?_); (case side1 => exact Z30); (case side2 => exact Z118); rintro e w29 ⟨rfl, hb⟩; have n0_ := Aside0.mk (Kd.R_below Z46 hb); have n1_ := Aside0.mk (blk_below (g := gb490) (o := .cells #[.int .i64 t486, .slice Ao18 t487.length co18] 51 (0, 0)) Z8 hb); have n2_ := Aside0.mk (below_step Z10 hb); clear HO489 BK490 HB; revert n0_ n1_ n2_; intro HO489 BK490 HB; (try clear hb); (try clear hb2); (try clear hk); (try clear hi); have hcz30_0 : w29.cell? ⟨gb490, 0, none⟩ = some (.int .i64 t486) := (blk_cell BK490.out 0).trans rfl; have hcz30_1 : w29.cell? ⟨gb490, 1, none⟩ = some (.slice Ao18 t487.length co18) := (blk_cell BK490.out 1).trans rfl; have hfz30_0 := blk_frozen BK490.out 0; have hfz30_1 := blk_frozen BK490.out 1) | (go_at_call 48; (with_reducible refine (impl_FindsAllSwaps.calls k t486 _ _ t487 t503 t504 _ ?side1 ?side2 A12.out).mono ?_); (case side1 => exact Z30); (case side2 => exact Z118); rintro e w31 ⟨rfl, hb⟩; have n0_ := Aside0.mk (Kd.R_below Z46 hb); have n1_ := Aside0.mk (blk_below (g := gb490) (o := .cells #[.int .i64 t486, .slice Ao18 t487.length co18] 51 (0, 0)) Z8 hb); have n2_ := Aside0.mk (below_step Z10 hb); clear HO489 BK490 HB; revert n0_ n1_ n2_; intro HO489 BK490 HB; (try clear hb); (try clear hb2); (try clear hk); (try clear hi); have hcz32_0 : w31.cell? ⟨gb490, 0, none⟩ = some (.int .i64 t486) := (blk_cell BK490.out 0).trans rfl; have hcz32_1 : w31.cell? ⟨gb490, 1, none⟩ = some (.slice Ao18 t487.length co18) := (blk_cell BK490.out 1).trans rfl; have hfz32_0 := blk_frozen BK490.out 0; have hfz32_1 := blk_frozen BK490.out 1) | (go_at_call 67; (with_reducible refine (spec_FindsAllSwaps.calls k t486 _ _ t487 t505 t506 _ ?side1 ?side2 A13.out).mono ?_); (case side1 => exact Z30); (case side2 => exact Z118); rintro e w33 ⟨rfl, hb⟩; have n0_ := Aside0.mk (Kd.R_below Z46 hb); have n1_ := Aside0.mk (blk_below (g := gb490) (o := .cells #[.int .i64 t486, .slice Ao18 t487.length co18] 51 (0, 0)) Z8 hb); have n2_ := Aside0.mk (below_step Z10 hb); clear HO489 BK490 HB; revert n0_ n1_ n2_; intro HO489 BK490 HB; (try clear hb); (try clear hb2); (try clear hk); (try clear hi)))
  (try simp only [Act.put, List.setIfInBounds_toArray, List.set_cons_zero, List.set_cons_succ])
  go_cut [157] from 1 to 0 (fun v157 wc => ∃ (kq : Nat) (x157_13 : Bool), v157 = .bool x157_13 ∧ Aside0 (laws_FnChecksDoubled.j0 kq l1 t491 t492 t495 x157_13 t486 t487 = some r) ∧ Aside0 (kq ≤ k) ∧ Aside0 (Kd.R (Kd.int .i64) 3 wc w.heap.size (fun _ => True) (.slice Ao18 t487.length co18) t487) ∧ Aside0 (wc.heap[gb490]? = some (.cells #[.int .i64 t486, (.slice Ao18 t487.length co18)] 51 (0, 0))) ∧ Aside0 (Below w.heap.size w wc))
  case first =>
   as_aux_lemma =>
   have H := HC14.out
   clear HC14
   by_cases c34 : (t492 != t494) = true
   ·
    rw [if_pos c34] at H
    exact absurd H (by simp)
   ·
    rw [if_neg c34] at H
    have c34b0 : (t492 != t494) = false := by simpa using c34
    (try (have c34b1 : decide (t492 = t494) = true := by simpa using c34))
    (try (have c34b2 : (t492 == t494) = true := by simpa using c34))
    clear c34
    (first | rw [c34b0] | (simp only [i64_w, i32_w]; rw [c34b0]) | skip)
    by_cases c35 : t491 = t493
    ·
     rw [if_pos c35] at H
     have c35b0 : (t491 == t493) = true := beq_iff_eq.mpr c35
     have c35b1 : (t491 != t493) = false := bne_eq_false_iff_eq.mpr c35
     clear c35
     by_cases c36 : (t496 != t498) = true
     ·
      rw [if_pos c36] at H
      exact absurd H (by simp)
     ·
      rw [if_neg c36] at H
      have c36b0 : (t496 != t498) = false := by simpa using c36
      (try (have c36b1 : decide (t496 = t498) = true := by simpa using c36))
      (try (have c36b2 : (t496 == t498) = true := by simpa using c36))
      clear c36
      by_cases c37 : t495.toList = t497.toList
      ·
       rw [if_pos c37] at H
       have c37b0 : (t495.toList == t497.toList) = true := beq_iff_eq.mpr c37
       have c37b1 : (t495.toList != t497.toList) = false := bne_eq_false_iff_eq.mpr c37
       clear c37
       by_cases c38 : (t500 != t502) = true
       ·
        rw [if_pos c38] at H
        exact absurd H (by simp)
       ·
        rw [if_neg c38] at H
        have c38b0 : (t500 != t502) = false := by simpa using c38
        (try (have c38b1 : decide (t500 = t502) = true := by simpa using c38))
        (try (have c38b2 : (t500 == t502) = true := by simpa using c38))
        clear c38
        by_cases c39 : (t499 != t501) = true
        ·
         rw [if_pos c39] at H
         exact absurd H (by simp)
        ·
         rw [if_neg c39] at H
         have c39b0 : (t499 != t501) = false := by simpa using c39
         (try (have c39b1 : decide (t499 = t501) = true := by simpa using c39))
         (try (have c39b2 : (t499 == t501) = true := by simpa using c39))
         clear c39
         by_cases c40 : (t504 != t506) = true
         ·
          rw [if_pos c40] at H
          exact absurd H (by simp)
         ·
          rw [if_neg c40] at H
          have c40b0 : (t504 != t506) = false := by simpa using c40
          (try (have c40b1 : decide (t504 = t506) = true := by simpa using c40))
          (try (have c40b2 : (t504 == t506) = true := by simpa using c40))
          clear c40
          by_cases c41 : (t503 != t505) = true
          ·
           rw [if_pos c41] at H
           exact absurd H (by simp)
          ·
           rw [if_neg c41] at H
           have c41b0 : (t503 != t505) = false := by simpa using c41
           (try (have c41b1 : decide (t503 = t505) = true := by simpa using c41))
           (try (have c41b2 : (t503 == t505) = true := by simpa using c41))
           clear c41
           replace H := Option.bind_eq_some_iff.mp H
           obtain ⟨t507, A420, H⟩ := H
           replace H : (if (t492 != t507) = true then (none) else (if (t496 != t492) = true then (none) else (if (t500 != t492) = true then (none) else (laws_FnChecksDoubled.j0 k l1 t491 t492 t495 (t504 != t492) t486 t487)))) = some r := H
           have A42 := Aside0.mk A420
           clear A420
           by_cases c43 : (t492 != t507) = true
           ·
            rw [if_pos c43] at H
            exact absurd H (by simp)
           ·
            rw [if_neg c43] at H
            have c43b0 : (t492 != t507) = false := by simpa using c43
            (try (have c43b1 : decide (t492 = t507) = true := by simpa using c43))
            (try (have c43b2 : (t492 == t507) = true := by simpa using c43))
            clear c43
            by_cases c44 : (t496 != t492) = true
            ·
             rw [if_pos c44] at H
             exact absurd H (by simp)
            ·
             rw [if_neg c44] at H
             have c44b0 : (t496 != t492) = false := by simpa using c44
             (try (have c44b1 : decide (t496 = t492) = true := by simpa using c44))
             (try (have c44b2 : (t496 == t492) = true := by simpa using c44))
             clear c44
             by_cases c45 : (t500 != t492) = true
             ·
              rw [if_pos c45] at H
              exact absurd H (by simp)
             ·
              rw [if_neg c45] at H
              have c45b0 : (t500 != t492) = false := by simpa using c45
              (try (have c45b1 : decide (t500 = t492) = true := by simpa using c45))
              (try (have c45b2 : (t500 == t492) = true := by simpa using c45))
              clear c45
              as_aux_lemma =>
              have H' := Aside0.mk H
              clear H
              have hcz46_0 : w33.cell? ⟨gb490, 0, none⟩ = some (.int .i64 t486) := (blk_cell BK490.out 0).trans rfl
              have hcz46_1 : w33.cell? ⟨gb490, 1, none⟩ = some (.slice Ao18 t487.length co18) := (blk_cell BK490.out 1).trans rfl
              have hfz46_0 := blk_frozen BK490.out 0
              have hfz46_1 := blk_frozen BK490.out 1
              go_wp2_with (first | (go_at_call 45; (with_reducible refine (impl_IsScheme.calls k t486 _ _ t487 t507 _ ?side1 ?side2 A42.out).mono ?_); (case side1 => exact Z30); (case side2 => exact Z118); rintro e w47 ⟨rfl, hb⟩; have n0_ := Aside0.mk (Kd.R_below Z46 hb); have n1_ := Aside0.mk (blk_below (g := gb490) (o := .cells #[.int .i64 t486, .slice Ao18 t487.length co18] 51 (0, 0)) Z8 hb); have n2_ := Aside0.mk (below_step Z10 hb); clear HO489 BK490 HB; revert n0_ n1_ n2_; intro HO489 BK490 HB; (try clear hb); (try clear hb2); (try clear hk); (try clear hi)))
              go_meet
              case rel => exact ⟨_, ((t504 != t492)), Z3, H', ⟨by first | omega | exact Nat.le_refl _⟩, ⟨by (with_reducible repeat (first | apply Kd.R_alloc | apply Kd.R_drewN | apply Kd.R_drew)); exact HO489.out⟩, ⟨by (with_reducible repeat (first | refine blk_drewN ?_ _ | refine blk_drew ?_ | refine blk_alloc ?_ _)); exact BK490.out⟩, ⟨by repeat (first | (with_reducible first | exact HB.out | apply below_alloc | apply pw_below_drewN | apply below_drew1 | refine below_set ?_ GE490.out) | exact HB.out)⟩⟩
      ·
       rw [if_neg c37] at H
       exact absurd H (by simp)
    ·
     rw [if_neg c35] at H
     exact absurd H (by simp)
  case rest =>
   as_aux_lemma =>
   clear HC14
   (try clear c1); (try clear p2); (try clear c3); (try clear c4); (try clear c5); (try clear c34); (try clear c34b0); (try clear c34b1); (try clear c34b2); (try clear c35); (try clear c35b0); (try clear c35b1); (try clear c36); (try clear c36b0); (try clear c36b1); (try clear c36b2); (try clear c37); (try clear c37b0); (try clear c37b1); (try clear c38); (try clear c38b0); (try clear c38b1); (try clear c38b2); (try clear c39); (try clear c39b0); (try clear c39b1); (try clear c39b2); (try clear c40); (try clear c40b0); (try clear c40b1); (try clear c40b2); (try clear c41); (try clear c41b0); (try clear c41b1); (try clear c41b2); (try clear c43); (try clear c43b0); (try clear c43b1); (try clear c43b2); (try clear c44); (try clear c44b0); (try clear c44b1); (try clear c44b2); (try clear c45); (try clear c45b0); (try clear c45b1); (try clear c45b2); (try clear hcz17_0); (try clear hcz17_1); (try clear hcz20_0); (try clear hcz20_1); (try clear hcz22_0); (try clear hcz22_1); (try clear hcz24_0); (try clear hcz24_1); (try clear hcz26_0); (try clear hcz26_1); (try clear hcz28_0); (try clear hcz28_1); (try clear hcz30_0); (try clear hcz30_1); (try clear hcz32_0); (try clear hcz32_1); (try clear hcz46_0); (try clear hcz46_1); (try clear hfz17_0); (try clear hfz17_1); (try clear hfz20_0); (try clear hfz20_1); (try clear hfz22_0); (try clear hfz22_1); (try clear hfz24_0); (try clear hfz24_1); (try clear hfz26_0); (try clear hfz26_1); (try clear hfz28_0); (try clear hfz28_1); (try clear hfz30_0); (try clear hfz30_1); (try clear hfz32_0); (try clear hfz32_1); (try clear hfz46_0); (try clear hfz46_1)
   obtain ⟨kq, x157_13, rfl, HA, HJ13, HO_491001, BK490, HB⟩ := hcut
   cases kq with
   | zero => exact absurd HA.out (by simp [laws_FnChecksDoubled.j0])
   | succ kj13 =>
    have H := HA.out
    clear HA
    simp only [laws_FnChecksDoubled.j0] at H
    by_cases c48 : x157_13 = true
    ·
     subst c48
     have H1 : (none) = some r := by rw [if_pos rfl] at H; exact H
     clear H
     have H := H1
     clear H1
     exact absurd H (by simp)
    ·
     replace c48 := Bool.eq_false_iff.mpr c48
     subst c48
     have H1 : (if t492 = true then (laws_FnChecksDoubled.l0 kj13 l1 t491 t495 1 (t487.length : Int) 0 t486 t487) else (laws_FnChecksDoubled.j3 kj13 l1)) = some r := by rw [if_neg (show ¬ (false = true) by decide)] at H; exact H
     clear H
     have H := H1
     clear H1
     have HC49 := Aside0.mk H
     clear H
     go_upto_if 158 with (fail)
     repeat (go_quiet (fail); go_upto_if 158 with (fail))
     go_cut [] from 1 to 0 (fun wc => ∃ (kq : Nat), Aside0 (laws_FnChecksDoubled.j3 kq l1 = some r) ∧ Aside0 (kq ≤ kj13) ∧ Aside0 (Kd.R (Kd.int .i64) 3 wc w.heap.size (fun _ => True) (.slice Ao18 t487.length co18) t487) ∧ Aside0 (wc.heap[gb490]? = some (.cells #[.int .i64 t486, (.slice Ao18 t487.length co18)] 51 (0, 0))) ∧ Aside0 (Below w.heap.size w wc))
     case first =>
      as_aux_lemma =>
      have H := HC49.out
      clear HC49
      by_cases c50 : t492 = true
      ·
       subst c50
       have H1 : (laws_FnChecksDoubled.l0 kj13 l1 t491 t495 1 (t487.length : Int) 0 t486 t487) = some r := by rw [if_pos rfl] at H; exact H
       clear H
       have H := H1
       clear H1
       as_aux_lemma =>
       have H' := Aside0.mk H
       clear H
       have hcz51_0 : wc.cell? ⟨gb490, 0, none⟩ = some (.int .i64 t486) := (blk_cell BK490.out 0).trans rfl
       have hcz51_1 : wc.cell? ⟨gb490, 1, none⟩ = some (.slice Ao18 t487.length co18) := (blk_cell BK490.out 1).trans rfl
       have hfz51_0 := blk_frozen BK490.out 0
       have hfz51_1 := blk_frozen BK490.out 1
       go_wp2
       repeat (go_quiet (fail); try go_wp2)
       go_loopg [22, 162] kj13 (fun kq v22 v162 w' => ∃ (x22_2 : Int) (x162_2 : Int), v22 = .int .i64 x22_2 ∧ v162 = .int .i64 x162_2 ∧ Aside0 (laws_FnChecksDoubled.l0 kq l1 t491 t495 x22_2 (t487.length : Int) x162_2 t486 t487 = some r) ∧ Aside0 (kq ≤ kj13) ∧ Aside0 (Kd.R (Kd.int .i64) 3 w' w.heap.size (fun _ => True) (.slice Ao18 t487.length co18) t487) ∧ Aside0 (w'.heap[gb490]? = some (.cells #[.int .i64 t486, (.slice Ao18 t487.length co18)] 51 (0, 0))) ∧ Aside0 (Below w.heap.size w w'))
       case atStart => exact ⟨(1), (0), Z3, Z3, H', ⟨Nat.le_refl _⟩, ⟨by (with_reducible repeat (first | apply Kd.R_alloc | apply Kd.R_drewN | apply Kd.R_drew)); exact HO_491001.out⟩, ⟨by (with_reducible repeat (first | refine blk_drewN ?_ _ | refine blk_drew ?_ | refine blk_alloc ?_ _)); exact BK490.out⟩, ⟨by repeat (first | (with_reducible first | exact HB.out | apply below_alloc | apply pw_below_drewN | apply below_drew1 | refine below_set ?_ GE490.out) | exact HB.out)⟩⟩
       case round =>
        as_aux_lemma =>
        clear H'
        (try clear c1); (try clear p2); (try clear c3); (try clear c4); (try clear c5); (try clear c34); (try clear c34b0); (try clear c34b1); (try clear c34b2); (try clear c35); (try clear c35b0); (try clear c35b1); (try clear c36); (try clear c36b0); (try clear c36b1); (try clear c36b2); (try clear c37); (try clear c37b0); (try clear c37b1); (try clear c38); (try clear c38b0); (try clear c38b1); (try clear c38b2); (try clear c39); (try clear c39b0); (try clear c39b1); (try clear c39b2); (try clear c40); (try clear c40b0); (try clear c40b1); (try clear c40b2); (try clear c41); (try clear c41b0); (try clear c41b1); (try clear c41b2); (try clear c43); (try clear c43b0); (try clear c43b1); (try clear c43b2); (try clear c44); (try clear c44b0); (try clear c44b1); (try clear c44b2); (try clear c45); (try clear c45b0); (try clear c45b1); (try clear c45b2); (try clear c48); (try clear c50); (try clear hcz17_0); (try clear hcz17_1); (try clear hcz20_0); (try clear hcz20_1); (try clear hcz22_0); (try clear hcz22_1); (try clear hcz24_0); (try clear hcz24_1); (try clear hcz26_0); (try clear hcz26_1); (try clear hcz28_0); (try clear hcz28_1); (try clear hcz30_0); (try clear hcz30_1); (try clear hcz32_0); (try clear hcz32_1); (try clear hcz46_0); (try clear hcz46_1); (try clear hcz51_0); (try clear hcz51_1); (try clear hfz17_0); (try clear hfz17_1); (try clear hfz20_0); (try clear hfz20_1); (try clear hfz22_0); (try clear hfz22_1); (try clear hfz24_0); (try clear hfz24_1); (try clear hfz26_0); (try clear hfz26_1); (try clear hfz28_0); (try clear hfz28_1); (try clear hfz30_0); (try clear hfz30_1); (try clear hfz32_0); (try clear hfz32_1); (try clear hfz46_0); (try clear hfz46_1); (try clear hfz51_0); (try clear hfz51_1); (try clear p2)
        obtain ⟨x22_2, x162_2, rfl, rfl, HA, HK2, HO_491001, BK490, HB⟩ := hrel
        cases gk with
        | zero => exact absurd HA.out (by simp [laws_FnChecksDoubled.l0])
        | succ k2 =>
         have H := HA.out
         clear HA
         simp only [laws_FnChecksDoubled.l0] at H
         by_cases c52 : x162_2 < (t487.length : Int)
         ·
          rw [if_pos c52] at H
          have c52b0 : decide (x162_2 < (t487.length : Int)) = true := decide_eq_true c52
          clear c52
          (first | rw [c52b0] | (simp only [i64_w, i32_w]; rw [c52b0]) | skip)
          as_aux_lemma =>
          have H' := Aside0.mk H
          clear H
          go_wp2
          repeat (go_quiet (fail); try go_wp2)
          go_roundg k2
          case measure => have := HJ13.out; have := HK2.out; omega
          case rel => exact ⟨(wrap64 (x22_2 * 10)), (wrap64 (x162_2 + 1)), Z3, Z3, H', ⟨by have := HJ13.out; have := HK2.out; omega⟩, ⟨by (with_reducible repeat (first | apply Kd.R_alloc | apply Kd.R_drewN | apply Kd.R_drew)); exact HO_491001.out⟩, ⟨by (with_reducible repeat (first | refine blk_drewN ?_ _ | refine blk_drew ?_ | refine blk_alloc ?_ _)); exact BK490.out⟩, ⟨by repeat (first | (with_reducible first | exact HB.out | apply below_alloc | apply pw_below_drewN | apply below_drew1 | refine below_set ?_ GE490.out) | exact HB.out)⟩⟩
         ·
          rw [if_neg c52] at H
          have c52b0 : decide (x162_2 < (t487.length : Int)) = false := decide_eq_false c52
          clear c52
          (first | rw [c52b0] | (simp only [i64_w, i32_w]; rw [c52b0]) | skip)
          have HC53 := Aside0.mk H
          clear H
          go_upto_region 20 with (fail)
          repeat (go_quiet (fail); go_upto_region 20 with (fail))
          go_cut [204] from 1 to 0 (fun v204 wc => ∃ (kq : Nat) (x204_52 : Bool), v204 = .bool x204_52 ∧ Aside0 (laws_FnChecksDoubled.j2 kq l1 t495 x204_52 t486 t487 = some r) ∧ Aside0 (kq ≤ k2) ∧ Aside0 (Kd.R (Kd.int .i64) 3 wc w.heap.size (fun _ => True) (.slice Ao18 t487.length co18) t487) ∧ Aside0 (wc.heap[gb490]? = some (.cells #[.int .i64 t486, (.slice Ao18 t487.length co18)] 51 (0, 0))) ∧ Aside0 (Below w.heap.size w wc))
          case first =>
           as_aux_lemma =>
           have H := HC53.out
           clear HC53
           by_cases c54 : t486 = 11
           ·
            rw [if_pos c54] at H
            have c54b0 : (t486 == 11) = true := beq_iff_eq.mpr c54
            have c54b1 : (t486 != 11) = false := bne_eq_false_iff_eq.mpr c54
            clear c54
            (first | rw [c54b0] | (simp only [i64_w, i32_w]; rw [c54b0]) | skip)
            by_cases c55 : t491 = x22_2
            ·
             rw [if_pos c55] at H
             have c55b0 : (t491 == x22_2) = true := beq_iff_eq.mpr c55
             have c55b1 : (t491 != x22_2) = false := bne_eq_false_iff_eq.mpr c55
             clear c55
             by_cases c56 : t486 = 10
             ·
              rw [if_pos c56] at H
              have c56b0 : (t486 == 10) = true := beq_iff_eq.mpr c56
              have c56b1 : (t486 != 10) = false := bne_eq_false_iff_eq.mpr c56
              clear c56
              by_cases c57 : t491 < x22_2
              ·
               rw [if_pos c57] at H
               exact absurd H (by simp)
              ·
               rw [if_neg c57] at H
               have c57b0 : decide (t491 < x22_2) = false := decide_eq_false c57
               clear c57
               by_cases c58 : t491 > (wrap64 (2 * x22_2))
               ·
                rw [if_pos c58] at H
                exact absurd H (by simp)
               ·
                rw [if_neg c58] at H
                have c58b0 : decide ((wrap64 (2 * x22_2)) < t491) = false := decide_eq_false c58
                clear c58
                by_cases c59 : t486 > 11
                ·
                 rw [if_pos c59] at H
                 have c59b0 : decide (11 < t486) = true := decide_eq_true c59
                 clear c59
                 by_cases c60 : t491 > x22_2
                 ·
                  rw [if_pos c60] at H
                  exact absurd H (by simp)
                 ·
                  rw [if_neg c60] at H
                  have c60b0 : decide (x22_2 < t491) = false := decide_eq_false c60
                  clear c60
                  as_aux_lemma =>
                  have H' := Aside0.mk H
                  clear H
                  have hcz61_0 : wr.cell? ⟨gb490, 0, none⟩ = some (.int .i64 t486) := (blk_cell BK490.out 0).trans rfl
                  have hcz61_1 : wr.cell? ⟨gb490, 1, none⟩ = some (.slice Ao18 t487.length co18) := (blk_cell BK490.out 1).trans rfl
                  have hfz61_0 := blk_frozen BK490.out 0
                  have hfz61_1 := blk_frozen BK490.out 1
                  go_wp2
                  repeat (go_quiet (fail); try go_wp2)
                  go_meet
                  case rel => exact ⟨_, (decide (t491 < 1)), Z3, H', ⟨by have := HJ13.out; have := HK2.out; first | omega | exact Nat.le_refl _⟩, ⟨by (with_reducible repeat (first | apply Kd.R_alloc | apply Kd.R_drewN | apply Kd.R_drew)); exact HO_491001.out⟩, ⟨by (with_reducible repeat (first | refine blk_drewN ?_ _ | refine blk_drew ?_ | refine blk_alloc ?_ _)); exact BK490.out⟩, ⟨by repeat (first | (with_reducible first | exact HB.out | apply below_alloc | apply pw_below_drewN | apply below_drew1 | refine below_set ?_ GE490.out) | exact HB.out)⟩⟩
                ·
                 rw [if_neg c59] at H
                 have c59b0 : decide (11 < t486) = false := decide_eq_false c59
                 clear c59
                 as_aux_lemma =>
                 have H' := Aside0.mk H
                 clear H
                 have hcz62_0 : wr.cell? ⟨gb490, 0, none⟩ = some (.int .i64 t486) := (blk_cell BK490.out 0).trans rfl
                 have hcz62_1 : wr.cell? ⟨gb490, 1, none⟩ = some (.slice Ao18 t487.length co18) := (blk_cell BK490.out 1).trans rfl
                 have hfz62_0 := blk_frozen BK490.out 0
                 have hfz62_1 := blk_frozen BK490.out 1
                 go_wp2
                 repeat (go_quiet (fail); try go_wp2)
                 go_meet
                 case rel => exact ⟨_, (decide (t491 < 1)), Z3, H', ⟨by have := HJ13.out; have := HK2.out; first | omega | exact Nat.le_refl _⟩, ⟨by (with_reducible repeat (first | apply Kd.R_alloc | apply Kd.R_drewN | apply Kd.R_drew)); exact HO_491001.out⟩, ⟨by (with_reducible repeat (first | refine blk_drewN ?_ _ | refine blk_drew ?_ | refine blk_alloc ?_ _)); exact BK490.out⟩, ⟨by repeat (first | (with_reducible first | exact HB.out | apply below_alloc | apply pw_below_drewN | apply below_drew1 | refine below_set ?_ GE490.out) | exact HB.out)⟩⟩
             ·
              rw [if_neg c56] at H
              have c56b0 : (t486 == 10) = false := beq_eq_false_iff_ne.mpr c56
              have c56b1 : (t486 != 10) = true := bne_iff_ne.mpr c56
              by_cases c63 : t486 > 11
              ·
               rw [if_pos c63] at H
               have c63b0 : decide (11 < t486) = true := decide_eq_true c63
               clear c63
               by_cases c64 : t491 > x22_2
               ·
                rw [if_pos c64] at H
                exact absurd H (by simp)
               ·
                rw [if_neg c64] at H
                have c64b0 : decide (x22_2 < t491) = false := decide_eq_false c64
                clear c64
                as_aux_lemma =>
                have H' := Aside0.mk H
                clear H
                have hcz65_0 : wr.cell? ⟨gb490, 0, none⟩ = some (.int .i64 t486) := (blk_cell BK490.out 0).trans rfl
                have hcz65_1 : wr.cell? ⟨gb490, 1, none⟩ = some (.slice Ao18 t487.length co18) := (blk_cell BK490.out 1).trans rfl
                have hfz65_0 := blk_frozen BK490.out 0
                have hfz65_1 := blk_frozen BK490.out 1
                go_wp2
                repeat (go_quiet (fail); try go_wp2)
                go_meet
                case rel => exact ⟨_, (decide (t491 < 1)), Z3, H', ⟨by have := HJ13.out; have := HK2.out; first | omega | exact Nat.le_refl _⟩, ⟨by (with_reducible repeat (first | apply Kd.R_alloc | apply Kd.R_drewN | apply Kd.R_drew)); exact HO_491001.out⟩, ⟨by (with_reducible repeat (first | refine blk_drewN ?_ _ | refine blk_drew ?_ | refine blk_alloc ?_ _)); exact BK490.out⟩, ⟨by repeat (first | (with_reducible first | exact HB.out | apply below_alloc | apply pw_below_drewN | apply below_drew1 | refine below_set ?_ GE490.out) | exact HB.out)⟩⟩
              ·
               rw [if_neg c63] at H
               have c63b0 : decide (11 < t486) = false := decide_eq_false c63
               clear c63
               as_aux_lemma =>
               have H' := Aside0.mk H
               clear H
               have hcz66_0 : wr.cell? ⟨gb490, 0, none⟩ = some (.int .i64 t486) := (blk_cell BK490.out 0).trans rfl
               have hcz66_1 : wr.cell? ⟨gb490, 1, none⟩ = some (.slice Ao18 t487.length co18) := (blk_cell BK490.out 1).trans rfl
               have hfz66_0 := blk_frozen BK490.out 0
               have hfz66_1 := blk_frozen BK490.out 1
               go_wp2
               repeat (go_quiet (fail); try go_wp2)
               go_meet
               case rel => exact ⟨_, (decide (t491 < 1)), Z3, H', ⟨by have := HJ13.out; have := HK2.out; first | omega | exact Nat.le_refl _⟩, ⟨by (with_reducible repeat (first | apply Kd.R_alloc | apply Kd.R_drewN | apply Kd.R_drew)); exact HO_491001.out⟩, ⟨by (with_reducible repeat (first | refine blk_drewN ?_ _ | refine blk_drew ?_ | refine blk_alloc ?_ _)); exact BK490.out⟩, ⟨by repeat (first | (with_reducible first | exact HB.out | apply below_alloc | apply pw_below_drewN | apply below_drew1 | refine below_set ?_ GE490.out) | exact HB.out)⟩⟩
            ·
             rw [if_neg c55] at H
             exact absurd H (by simp)
           ·
            rw [if_neg c54] at H
            have c54b0 : (t486 == 11) = false := beq_eq_false_iff_ne.mpr c54
            have c54b1 : (t486 != 11) = true := bne_iff_ne.mpr c54
            (first | rw [c54b0] | (simp only [i64_w, i32_w]; rw [c54b0]) | skip)
            by_cases c67 : t486 = 10
            ·
             rw [if_pos c67] at H
             have c67b0 : (t486 == 10) = true := beq_iff_eq.mpr c67
             have c67b1 : (t486 != 10) = false := bne_eq_false_iff_eq.mpr c67
             clear c67
             by_cases c68 : t491 < x22_2
             ·
              rw [if_pos c68] at H
              exact absurd H (by simp)
             ·
              rw [if_neg c68] at H
              have c68b0 : decide (t491 < x22_2) = false := decide_eq_false c68
              clear c68
              by_cases c69 : t491 > (wrap64 (2 * x22_2))
              ·
               rw [if_pos c69] at H
               exact absurd H (by simp)
              ·
               rw [if_neg c69] at H
               have c69b0 : decide ((wrap64 (2 * x22_2)) < t491) = false := decide_eq_false c69
               clear c69
               by_cases c70 : t486 > 11
               ·
                rw [if_pos c70] at H
                have c70b0 : decide (11 < t486) = true := decide_eq_true c70
                clear c70
                by_cases c71 : t491 > x22_2
                ·
                 rw [if_pos c71] at H
                 exact absurd H (by simp)
                ·
                 rw [if_neg c71] at H
                 have c71b0 : decide (x22_2 < t491) = false := decide_eq_false c71
                 clear c71
                 as_aux_lemma =>
                 have H' := Aside0.mk H
                 clear H
                 have hcz72_0 : wr.cell? ⟨gb490, 0, none⟩ = some (.int .i64 t486) := (blk_cell BK490.out 0).trans rfl
                 have hcz72_1 : wr.cell? ⟨gb490, 1, none⟩ = some (.slice Ao18 t487.length co18) := (blk_cell BK490.out 1).trans rfl
                 have hfz72_0 := blk_frozen BK490.out 0
                 have hfz72_1 := blk_frozen BK490.out 1
                 go_wp2
                 repeat (go_quiet (fail); try go_wp2)
                 go_meet
                 case rel => exact ⟨_, (decide (t491 < 1)), Z3, H', ⟨by have := HJ13.out; have := HK2.out; first | omega | exact Nat.le_refl _⟩, ⟨by (with_reducible repeat (first | apply Kd.R_alloc | apply Kd.R_drewN | apply Kd.R_drew)); exact HO_491001.out⟩, ⟨by (with_reducible repeat (first | refine blk_drewN ?_ _ | refine blk_drew ?_ | refine blk_alloc ?_ _)); exact BK490.out⟩, ⟨by repeat (first | (with_reducible first | exact HB.out | apply below_alloc | apply pw_below_drewN | apply below_drew1 | refine below_set ?_ GE490.out) | exact HB.out)⟩⟩
               ·
                rw [if_neg c70] at H
                have c70b0 : decide (11 < t486) = false := decide_eq_false c70
                clear c70
                as_aux_lemma =>
                have H' := Aside0.mk H
                clear H
                have hcz73_0 : wr.cell? ⟨gb490, 0, none⟩ = some (.int .i64 t486) := (blk_cell BK490.out 0).trans rfl
                have hcz73_1 : wr.cell? ⟨gb490, 1, none⟩ = some (.slice Ao18 t487.length co18) := (blk_cell BK490.out 1).trans rfl
                have hfz73_0 := blk_frozen BK490.out 0
                have hfz73_1 := blk_frozen BK490.out 1
                go_wp2
                repeat (go_quiet (fail); try go_wp2)
                go_meet
                case rel => exact ⟨_, (decide (t491 < 1)), Z3, H', ⟨by have := HJ13.out; have := HK2.out; first | omega | exact Nat.le_refl _⟩, ⟨by (with_reducible repeat (first | apply Kd.R_alloc | apply Kd.R_drewN | apply Kd.R_drew)); exact HO_491001.out⟩, ⟨by (with_reducible repeat (first | refine blk_drewN ?_ _ | refine blk_drew ?_ | refine blk_alloc ?_ _)); exact BK490.out⟩, ⟨by repeat (first | (with_reducible first | exact HB.out | apply below_alloc | apply pw_below_drewN | apply below_drew1 | refine below_set ?_ GE490.out) | exact HB.out)⟩⟩
            ·
             rw [if_neg c67] at H
             have c67b0 : (t486 == 10) = false := beq_eq_false_iff_ne.mpr c67
             have c67b1 : (t486 != 10) = true := bne_iff_ne.mpr c67
             by_cases c74 : t486 > 11
             ·
              rw [if_pos c74] at H
              have c74b0 : decide (11 < t486) = true := decide_eq_true c74
              clear c74
              by_cases c75 : t491 > x22_2
              ·
               rw [if_pos c75] at H
               exact absurd H (by simp)
              ·
               rw [if_neg c75] at H
               have c75b0 : decide (x22_2 < t491) = false := decide_eq_false c75
               clear c75
               as_aux_lemma =>
               have H' := Aside0.mk H
               clear H
               have hcz76_0 : wr.cell? ⟨gb490, 0, none⟩ = some (.int .i64 t486) := (blk_cell BK490.out 0).trans rfl
               have hcz76_1 : wr.cell? ⟨gb490, 1, none⟩ = some (.slice Ao18 t487.length co18) := (blk_cell BK490.out 1).trans rfl
               have hfz76_0 := blk_frozen BK490.out 0
               have hfz76_1 := blk_frozen BK490.out 1
               go_wp2
               repeat (go_quiet (fail); try go_wp2)
               go_meet
               case rel => exact ⟨_, (decide (t491 < 1)), Z3, H', ⟨by have := HJ13.out; have := HK2.out; first | omega | exact Nat.le_refl _⟩, ⟨by (with_reducible repeat (first | apply Kd.R_alloc | apply Kd.R_drewN | apply Kd.R_drew)); exact HO_491001.out⟩, ⟨by (with_reducible repeat (first | refine blk_drewN ?_ _ | refine blk_drew ?_ | refine blk_alloc ?_ _)); exact BK490.out⟩, ⟨by repeat (first | (with_reducible first | exact HB.out | apply below_alloc | apply pw_below_drewN | apply below_drew1 | refine below_set ?_ GE490.out) | exact HB.out)⟩⟩
             ·
              rw [if_neg c74] at H
              have c74b0 : decide (11 < t486) = false := decide_eq_false c74
              clear c74
              as_aux_lemma =>
              have H' := Aside0.mk H
              clear H
              have hcz77_0 : wr.cell? ⟨gb490, 0, none⟩ = some (.int .i64 t486) := (blk_cell BK490.out 0).trans rfl
              have hcz77_1 : wr.cell? ⟨gb490, 1, none⟩ = some (.slice Ao18 t487.length co18) := (blk_cell BK490.out 1).trans rfl
              have hfz77_0 := blk_frozen BK490.out 0
              have hfz77_1 := blk_frozen BK490.out 1
              go_wp2
              repeat (go_quiet (fail); try go_wp2)
              go_meet
              case rel => exact ⟨_, (decide (t491 < 1)), Z3, H', ⟨by have := HJ13.out; have := HK2.out; first | omega | exact Nat.le_refl _⟩, ⟨by (with_reducible repeat (first | apply Kd.R_alloc | apply Kd.R_drewN | apply Kd.R_drew)); exact HO_491001.out⟩, ⟨by (with_reducible repeat (first | refine blk_drewN ?_ _ | refine blk_drew ?_ | refine blk_alloc ?_ _)); exact BK490.out⟩, ⟨by repeat (first | (with_reducible first | exact HB.out | apply below_alloc | apply pw_below_drewN | apply below_drew1 | refine below_set ?_ GE490.out) | exact HB.out)⟩⟩
          case rest =>
           as_aux_lemma =>
           clear HC53
           (try clear c1); (try clear p2); (try clear c3); (try clear c4); (try clear c5); (try clear c6); (try clear p6); (try clear c7); (try clear c34); (try clear c34b0); (try clear c34b1); (try clear c34b2); (try clear c35); (try clear c35b0); (try clear c35b1); (try clear c36); (try clear c36b0); (try clear c36b1); (try clear c36b2); (try clear c37); (try clear c37b0); (try clear c37b1); (try clear c38); (try clear c38b0); (try clear c38b1); (try clear c38b2); (try clear c39); (try clear c39b0); (try clear c39b1); (try clear c39b2); (try clear c40); (try clear c40b0); (try clear c40b1); (try clear c40b2); (try clear c41); (try clear c41b0); (try clear c41b1); (try clear c41b2); (try clear c43); (try clear c43b0); (try clear c43b1); (try clear c43b2); (try clear c44); (try clear c44b0); (try clear c44b1); (try clear c44b2); (try clear c45); (try clear c45b0); (try clear c45b1); (try clear c45b2); (try clear c48); (try clear c50); (try clear c52); (try clear c52b0); (try clear c54); (try clear c54b0); (try clear c54b1); (try clear c55); (try clear c55b0); (try clear c55b1); (try clear c56); (try clear c56b0); (try clear c56b1); (try clear c57); (try clear c57b0); (try clear c58); (try clear c58b0); (try clear c59); (try clear c59b0); (try clear c60); (try clear c60b0); (try clear c63); (try clear c63b0); (try clear c64); (try clear c64b0); (try clear p64); (try clear c67); (try clear c67b0); (try clear c67b1); (try clear c68); (try clear c68b0); (try clear c69); (try clear c69b0); (try clear c70); (try clear c70b0); (try clear c71); (try clear c71b0); (try clear c74); (try clear c74b0); (try clear c75); (try clear c75b0); (try clear hcz17_0); (try clear hcz17_1); (try clear hcz20_0); (try clear hcz20_1); (try clear hcz22_0); (try clear hcz22_1); (try clear hcz24_0); (try clear hcz24_1); (try clear hcz26_0); (try clear hcz26_1); (try clear hcz28_0); (try clear hcz28_1); (try clear hcz30_0); (try clear hcz30_1); (try clear hcz32_0); (try clear hcz32_1); (try clear hcz46_0); (try clear hcz46_1); (try clear hcz51_0); (try clear hcz51_1); (try clear hcz61_0); (try clear hcz61_1); (try clear hcz62_0); (try clear hcz62_1); (try clear hcz65_0); (try clear hcz65_1); (try clear hcz66_0); (try clear hcz66_1); (try clear hcz72_0); (try clear hcz72_1); (try clear hcz73_0); (try clear hcz73_1); (try clear hcz76_0); (try clear hcz76_1); (try clear hcz77_0); (try clear hcz77_1); (try clear hfz17_0); (try clear hfz17_1); (try clear hfz20_0); (try clear hfz20_1); (try clear hfz22_0); (try clear hfz22_1); (try clear hfz24_0); (try clear hfz24_1); (try clear hfz26_0); (try clear hfz26_1); (try clear hfz28_0); (try clear hfz28_1); (try clear hfz30_0); (try clear hfz30_1); (try clear hfz32_0); (try clear hfz32_1); (try clear hfz46_0); (try clear hfz46_1); (try clear hfz51_0); (try clear hfz51_1); (try clear hfz61_0); (try clear hfz61_1); (try clear hfz62_0); (try clear hfz62_1); (try clear hfz65_0); (try clear hfz65_1); (try clear hfz66_0); (try clear hfz66_1); (try clear hfz72_0); (try clear hfz72_1); (try clear hfz73_0); (try clear hfz73_1); (try clear hfz76_0); (try clear hfz76_1); (try clear hfz77_0); (try clear hfz77_1); (try clear p2)
           obtain ⟨kq, x204_52, rfl, HA, HJ52, HO_491001, BK490, HB⟩ := hcut
           cases kq with
           | zero => exact absurd HA.out (by simp [laws_FnChecksDoubled.j2])
           | succ kj52 =>
            have H := HA.out
            clear HA
            simp only [laws_FnChecksDoubled.j2] at H
            by_cases c78 : x204_52 = true
            ·
             subst c78
             have H1 : (none) = some r := by rw [if_pos rfl] at H; exact H
             clear H
             have H := H1
             clear H1
             exact absurd H (by simp)
            ·
             replace c78 := Bool.eq_false_iff.mpr c78
             subst c78
             have H1 : ((impl_ParseScheme.f kj52 t495).bind fun bt508 => (if bt508.2.2 = true then ((laws_fScheme.f kj52 bt508.1 bt508.2.1 t486 t487).bind fun t514 => (if t514 = true then (laws_FnChecksDoubled.j3 kj52 l1) else (none))) else (none))) = some r := by rw [if_neg (show ¬ (false = true) by decide)] at H; exact H
             clear H
             have H := H1
             clear H1
             replace H := Option.bind_eq_some_iff.mp H
             obtain ⟨⟨t508, t509, t512⟩, A790, H⟩ := H
             replace H : (if t512 = true then ((laws_fScheme.f kj52 t508 t509 t486 t487).bind fun t514 => (if t514 = true then (laws_FnChecksDoubled.j3 kj52 l1) else (none))) else (none)) = some r := H
             have A79 := Aside0.mk A790
             clear A790
             by_cases c80 : t512 = true
             ·
              subst c80
              have H1 : ((laws_fScheme.f kj52 t508 t509 t486 t487).bind fun t514 => (if t514 = true then (laws_FnChecksDoubled.j3 kj52 l1) else (none))) = some r := by rw [if_pos rfl] at H; exact H
              clear H
              have H := H1
              clear H1
              replace H := Option.bind_eq_some_iff.mp H
              obtain ⟨t514, A810, H⟩ := H
              replace H : (if t514 = true then (laws_FnChecksDoubled.j3 kj52 l1) else (none)) = some r := H
              have A81 := Aside0.mk A810
              clear A810
              by_cases c82 : t514 = true
              ·
               subst c82
               have H1 : (laws_FnChecksDoubled.j3 kj52 l1) = some r := by rw [if_pos rfl] at H; exact H
               clear H
               have H := H1
               clear H1
               as_aux_lemma =>
               have H' := Aside0.mk H
               clear H
               go_wp2_with (first | (go_at_call 68; (with_reducible refine (impl_ParseScheme.calls kj52 t495 t508 t509 true _ ?side1 A79.out).mono ?_); (case side1 => exact GV.below HG.out Z10); rintro e w83 ⟨v510, rfl, ho0, hb⟩; have n0_ := Aside0.mk (Kd.R_elder' Z11 (Kd.R_base ho0) hb); have n1_ := Aside0.mk (Kd.R_lower (Kd.R_new' ho0 (Kd.R_lt Z11)) (below_size Z10)); have n2_ := Aside0.mk (blk_below (g := gb490) (o := .cells #[.int .i64 t486, .slice Ao18 t487.length co18] 51 (0, 0)) Z8 hb); have n3_ := Aside0.mk (below_step Z10 hb); clear HO_491001 BK490 HB; revert n0_ n1_ n2_ n3_; intro HO_491001 HO511 BK490 HB; (try clear hb); (try clear hb2); (try clear hk); (try clear hi); (try clear ho0)) | ((with_reducible refine gate_dst (N := 23) rfl ?_); (try (refine gate_guard (by rfl) ?_; dsimp only)); refine box_event ?hg (N := 23) ?hd (cs := #[.int .i64 0, .slice none 0 0]) (t := 51) ?hr ?_; (case hd => rfl); (case hg => rfl); (case hr => exact Z13); intro gb513 hg w84 hbox hb; have n0_ := Aside0.mk (Kd.R_below Z11 hb); have n1_ := Aside0.mk (Kd.R_below (by (with_reducible repeat (first | apply Kd.R_alloc | apply Kd.R_drewN | apply Kd.R_drew)); exact HO511.out) hb); have n2_ := Aside0.mk (blk_below (g := gb490) (o := .cells #[.int .i64 t486, .slice Ao18 t487.length co18] 51 (0, 0)) Z8 hb); have n3_ := Aside0.mk (below_step Z10 hb); have n4_ := Aside0.mk (hbox); have n5_ := Aside0.mk ((by rw [hg]; exact (below_size Z10) : w.heap.size ≤ gb513)); have n6_ := Aside0.mk ((by rw [hg]; exact (below_size Z10) : w.heap.size ≤ gb513)); have n7_ := Aside0.mk ((Z119 : gb490 ≠ gb513)); have n8_ := Aside0.mk ((Z120 : gb513 ≠ gb490)); clear HO_491001 HO511 BK490 HB; revert n0_ n1_ n2_ n3_ n4_ n5_ n6_ n7_ n8_; intro HO_491001 HO511 BK490 HB BK513 GW513 GE513 NB490_513 NB513_490; clear hb hbox hg; have hnb85 := NB513_490.out; have hnc85 := NB490_513.out; have hcz86_0 : w84.cell? ⟨gb513, 0, none⟩ = some (.int .i64 0) := (blk_cell BK513.out 0).trans rfl; have hcz86_1 : w84.cell? ⟨gb513, 1, none⟩ = some (.slice none 0 0) := (blk_cell BK513.out 1).trans rfl; have hfz86_0 := blk_frozen BK513.out 0; have hfz86_1 := blk_frozen BK513.out 1; obtain ⟨Ao87, co87, eo87⟩ := Kd.R_slice HO511.out; subst eo87; have hcz88_0 : w84.cell? ⟨gb490, 0, none⟩ = some (.int .i64 t486) := (blk_cell BK490.out 0).trans rfl; have hcz88_1 : w84.cell? ⟨gb490, 1, none⟩ = some (.slice Ao18 t487.length co18) := (blk_cell BK490.out 1).trans rfl; have hfz88_0 := blk_frozen BK490.out 0; have hfz88_1 := blk_frozen BK490.out 1) | (go_at_call 69; (with_reducible refine (laws_fScheme.calls kj52 t508 _ _ t509 t486 _ _ t487 true _ ?side1 ?side2 ?side3 ?side4 A81.out).mono ?_); (case side1 => refine (Kd.R_reads' (e := 3) (base := w.heap.size) (ok := fun k_ => (True ∧ some k_ ≠ (.slice Ao18 t487.length co18 : Value).ownBlock)) (n := t509.length) (c := co87) ?_).2.2; exact Z109); (case side2 => exact (Kd.R_reads' HO511.out).2.1); (case side3 => refine (Kd.R_reads' (e := 3) (base := w.heap.size) (ok := fun k_ => (True ∧ some k_ ≠ (.slice Ao87 t509.length co87 : Value).ownBlock)) (n := t487.length) (c := co18) ?_).2.2; exact Z103); (case side4 => exact (Kd.R_reads' HO_491001.out).2.1); rintro e w89 ⟨rfl, hb⟩; have n0_ := Aside0.mk (Kd.R_below Z103 hb); have n1_ := Aside0.mk (Kd.R_below Z109 hb); have n2_ := Aside0.mk (blk_below (g := gb490) (o := .cells #[.int .i64 t486, .slice Ao18 t487.length co18] 51 (0, 0)) (by (with_reducible repeat (first | refine blk_drewN ?_ _ | refine blk_drew ?_ | refine blk_alloc ?_ _)); refine blk_far ?_ NB490_513.out _; (with_reducible repeat (first | refine blk_drewN ?_ _ | refine blk_drew ?_ | refine blk_alloc ?_ _)); refine blk_far ?_ NB490_513.out _; (with_reducible repeat (first | refine blk_drewN ?_ _ | refine blk_drew ?_ | refine blk_alloc ?_ _)); exact BK490.out) hb); have n3_ := Aside0.mk (blk_below (g := gb513) (o := .cells #[.int .i64 t508, .slice Ao87 t509.length co87] 51 (0, 0)) (by (with_reducible repeat (first | refine blk_drewN ?_ _ | refine blk_drew ?_ | refine blk_alloc ?_ _)); refine blk_put (cs := #[.int .i64 t508, .slice none 0 0]) ?_ 1 _ rfl; (with_reducible repeat (first | refine blk_drewN ?_ _ | refine blk_drew ?_ | refine blk_alloc ?_ _)); refine blk_put (cs := #[.int .i64 0, .slice none 0 0]) ?_ 0 _ rfl; (with_reducible repeat (first | refine blk_drewN ?_ _ | refine blk_drew ?_ | refine blk_alloc ?_ _)); exact BK513.out) hb); have n4_ := Aside0.mk (below_step (by repeat (first | (with_reducible first | exact HB.out | apply below_alloc | apply pw_below_drewN | apply below_drew1 | refine below_set ?_ GE490.out | refine below_set ?_ GE513.out) | exact HB.out)) hb); clear HO_491001 HO511 BK490 BK513 HB; revert n0_ n1_ n2_ n3_ n4_; intro HO_491001 HO511 BK490 BK513 HB; (try clear hb); (try clear hb2); (try clear hk); (try clear hi)))
               go_meet
               case rel => exact ⟨_, H', ⟨by have := HJ13.out; have := HK2.out; have := HJ52.out; first | omega | exact Nat.le_refl _⟩, ⟨by (with_reducible repeat (first | apply Kd.R_alloc | apply Kd.R_drewN | apply Kd.R_drew)); exact Kd.R_mono HO_491001.out (fun _ hk => trivial)⟩, ⟨by (with_reducible repeat (first | refine blk_drewN ?_ _ | refine blk_drew ?_ | refine blk_alloc ?_ _)); exact BK490.out⟩, ⟨by repeat (first | (with_reducible first | exact HB.out | apply below_alloc | apply pw_below_drewN | apply below_drew1 | refine below_set ?_ GE490.out | refine below_set ?_ GE513.out) | exact HB.out)⟩⟩
              ·
               replace c82 := Bool.eq_false_iff.mpr c82
               subst c82
               have H1 : (none) = some r := by rw [if_neg (show ¬ (false = true) by decide)] at H; exact H
               clear H
               have H := H1
               clear H1
               exact absurd H (by simp)
             ·
              replace c80 := Bool.eq_false_iff.mpr c80
              subst c80
              have H1 : (none) = some r := by rw [if_neg (show ¬ (false = true) by decide)] at H; exact H
              clear H
              have H := H1
              clear H1
              exact absurd H (by simp)
      ·
       replace c50 := Bool.eq_false_iff.mpr c50
       subst c50
       have H1 : (laws_FnChecksDoubled.j3 kj13 l1) = some r := by rw [if_neg (show ¬ (false = true) by decide)] at H; exact H
       clear H
       have H := H1
       clear H1
       as_aux_lemma =>
       have H' := Aside0.mk H
       clear H
       go_wp2
       repeat (go_quiet (fail); try go_wp2)
       go_meet
       case rel => exact ⟨_, H', ⟨by have := HJ13.out; first | omega | exact Nat.le_refl _⟩, ⟨by (with_reducible repeat (first | apply Kd.R_alloc | apply Kd.R_drewN | apply Kd.R_drew)); exact HO_491001.out⟩, ⟨by (with_reducible repeat (first | refine blk_drewN ?_ _ | refine blk_drew ?_ | refine blk_alloc ?_ _)); exact BK490.out⟩, ⟨by repeat (first | (with_reducible first | exact HB.out | apply below_alloc | apply pw_below_drewN | apply below_drew1 | refine below_set ?_ GE490.out) | exact HB.out)⟩⟩
     case rest =>
      as_aux_lemma =>
      clear HC49
      (try clear c1); (try clear p2); (try clear c3); (try clear c4); (try clear c5); (try clear c6); (try clear p6); (try clear c7); (try clear c8); (try clear c34); (try clear c34b0); (try clear c34b1); (try clear c34b2); (try clear c35); (try clear c35b0); (try clear c35b1); (try clear c36); (try clear c36b0); (try clear c36b1); (try clear c36b2); (try clear c37); (try clear c37b0); (try clear c37b1); (try clear c38); (try clear c38b0); (try clear c38b1); (try clear c38b2); (try clear c39); (try clear c39b0); (try clear c39b1); (try clear c39b2); (try clear c40); (try clear c40b0); (try clear c40b1); (try clear c40b2); (try clear c41); (try clear c41b0); (try clear c41b1); (try clear c41b2); (try clear c43); (try clear c43b0); (try clear c43b1); (try clear c43b2); (try clear c44); (try clear c44b0); (try clear c44b1); (try clear c44b2); (try clear c45); (try clear c45b0); (try clear c45b1); (try clear c45b2); (try clear c48); (try clear c50); (try clear c52); (try clear c52b0); (try clear c54); (try clear c54b0); (try clear c54b1); (try clear c55); (try clear c55b0); (try clear c55b1); (try clear c56); (try clear c56b0); (try clear c56b1); (try clear c57); (try clear c57b0); (try clear c58); (try clear c58b0); (try clear c59); (try clear c59b0); (try clear c60); (try clear c60b0); (try clear c63); (try clear c63b0); (try clear c64); (try clear c64b0); (try clear p64); (try clear c67); (try clear c67b0); (try clear c67b1); (try clear c68); (try clear c68b0); (try clear c69); (try clear c69b0); (try clear c70); (try clear c70b0); (try clear c71); (try clear c71b0); (try clear c74); (try clear c74b0); (try clear c75); (try clear c75b0); (try clear c78); (try clear c80); (try clear c82); (try clear c85); (try clear hcz17_0); (try clear hcz17_1); (try clear hcz20_0); (try clear hcz20_1); (try clear hcz22_0); (try clear hcz22_1); (try clear hcz24_0); (try clear hcz24_1); (try clear hcz26_0); (try clear hcz26_1); (try clear hcz28_0); (try clear hcz28_1); (try clear hcz30_0); (try clear hcz30_1); (try clear hcz32_0); (try clear hcz32_1); (try clear hcz46_0); (try clear hcz46_1); (try clear hcz51_0); (try clear hcz51_1); (try clear hcz61_0); (try clear hcz61_1); (try clear hcz62_0); (try clear hcz62_1); (try clear hcz65_0); (try clear hcz65_1); (try clear hcz66_0); (try clear hcz66_1); (try clear hcz72_0); (try clear hcz72_1); (try clear hcz73_0); (try clear hcz73_1); (try clear hcz76_0); (try clear hcz76_1); (try clear hcz77_0); (try clear hcz77_1); (try clear hcz86_0); (try clear hcz86_1); (try clear hcz88_0); (try clear hcz88_1); (try clear hfz17_0); (try clear hfz17_1); (try clear hfz20_0); (try clear hfz20_1); (try clear hfz22_0); (try clear hfz22_1); (try clear hfz24_0); (try clear hfz24_1); (try clear hfz26_0); (try clear hfz26_1); (try clear hfz28_0); (try clear hfz28_1); (try clear hfz30_0); (try clear hfz30_1); (try clear hfz32_0); (try clear hfz32_1); (try clear hfz46_0); (try clear hfz46_1); (try clear hfz51_0); (try clear hfz51_1); (try clear hfz61_0); (try clear hfz61_1); (try clear hfz62_0); (try clear hfz62_1); (try clear hfz65_0); (try clear hfz65_1); (try clear hfz66_0); (try clear hfz66_1); (try clear hfz72_0); (try clear hfz72_1); (try clear hfz73_0); (try clear hfz73_1); (try clear hfz76_0); (try clear hfz76_1); (try clear hfz77_0); (try clear hfz77_1); (try clear hfz86_0); (try clear hfz86_1); (try clear hfz88_0); (try clear hfz88_1); (try clear p2); (try clear p6); (try clear p64)
      obtain ⟨kq, HA, HJ48, HO_491001, BK490, HB⟩ := hcut
      cases kq with
      | zero => exact absurd HA.out (by simp [laws_FnChecksDoubled.j3])
      | succ kj48 =>
       have H := HA.out
       clear HA
       simp only [laws_FnChecksDoubled.j3] at H
       replace H := Option.bind_eq_some_iff.mp H
       obtain ⟨t515, A900, H⟩ := H
       replace H : ((impl_IsDoubledRight.f kj48 t515).bind fun bt516 => ((spec_IsDoubledRight.f kj48 t515).bind fun bt518 => ((impl_DoubledSum.f kj48 t515).bind fun bt520 => ((spec_DoubledSum.f kj48 t515).bind fun bt522 => ((impl_DoubledCheck.f kj48 t515).bind fun bt524 => ((spec_DoubledCheck.f kj48 t515).bind fun bt526 => ((spec_DrawParseScheme.f kj48 l1).bind fun t528 => ((impl_ParseScheme.f kj48 t528).bind fun bt529 => ((spec_ParseScheme.f kj48 t528).bind fun bt535 => ((impl_DoubledMissed.f kj48).bind fun t541 => (if (bt516.2 != bt518.2) = true then (none) else (if (bt516.1 != bt518.1) = true then (none) else (if (bt520.2 != bt522.2) = true then (none) else (if bt520.1 = bt522.1 then (if (bt520.2 != bt516.2) = true then (none) else (if (bt524.2 != bt526.2) = true then (none) else (if bt524.1.toList = bt526.1.toList then (if (bt529.2.2 != bt535.2.2) = true then (none) else ((laws_fScheme.f kj48 bt529.1 bt529.2.1 bt535.1 bt535.2.1).bind fun t544 => (if t544 = true then ((spec_DoubledMissed.f kj48).bind fun t545 => ((laws_fRows.f kj48 t541 t545).bind fun t548 => (if t548 = true then ((laws_fRows.f kj48 t541 (([(([0, 9] : List Int))] : List (List Int)))).bind fun t555 => (laws_FnChecksDoubled.j4 kj48 t515 bt516.1 bt516.2 bt520.1 bt524.1 bt524.2 t528 bt529.2.2 (!t555) bt529.1 bt529.2.1)) else (none)))) else (none)))) else (none)))) else (none))))))))))))))) = some r := H
       have A90 := Aside0.mk A900
       clear A900
       replace H := Option.bind_eq_some_iff.mp H
       obtain ⟨⟨t516, t517⟩, A910, H⟩ := H
       replace H : ((spec_IsDoubledRight.f kj48 t515).bind fun bt518 => ((impl_DoubledSum.f kj48 t515).bind fun bt520 => ((spec_DoubledSum.f kj48 t515).bind fun bt522 => ((impl_DoubledCheck.f kj48 t515).bind fun bt524 => ((spec_DoubledCheck.f kj48 t515).bind fun bt526 => ((spec_DrawParseScheme.f kj48 l1).bind fun t528 => ((impl_ParseScheme.f kj48 t528).bind fun bt529 => ((spec_ParseScheme.f kj48 t528).bind fun bt535 => ((impl_DoubledMissed.f kj48).bind fun t541 => (if (t517 != bt518.2) = true then (none) else (if (t516 != bt518.1) = true then (none) else (if (bt520.2 != bt522.2) = true then (none) else (if bt520.1 = bt522.1 then (if (bt520.2 != t517) = true then (none) else (if (bt524.2 != bt526.2) = true then (none) else (if bt524.1.toList = bt526.1.toList then (if (bt529.2.2 != bt535.2.2) = true then (none) else ((laws_fScheme.f kj48 bt529.1 bt529.2.1 bt535.1 bt535.2.1).bind fun t544 => (if t544 = true then ((spec_DoubledMissed.f kj48).bind fun t545 => ((laws_fRows.f kj48 t541 t545).bind fun t548 => (if t548 = true then ((laws_fRows.f kj48 t541 (([(([0, 9] : List Int))] : List (List Int)))).bind fun t555 => (laws_FnChecksDoubled.j4 kj48 t515 t516 t517 bt520.1 bt524.1 bt524.2 t528 bt529.2.2 (!t555) bt529.1 bt529.2.1)) else (none)))) else (none)))) else (none)))) else (none)))))))))))))) = some r := H
       have A91 := Aside0.mk A910
       clear A910
       replace H := Option.bind_eq_some_iff.mp H
       obtain ⟨⟨t518, t519⟩, A920, H⟩ := H
       replace H : ((impl_DoubledSum.f kj48 t515).bind fun bt520 => ((spec_DoubledSum.f kj48 t515).bind fun bt522 => ((impl_DoubledCheck.f kj48 t515).bind fun bt524 => ((spec_DoubledCheck.f kj48 t515).bind fun bt526 => ((spec_DrawParseScheme.f kj48 l1).bind fun t528 => ((impl_ParseScheme.f kj48 t528).bind fun bt529 => ((spec_ParseScheme.f kj48 t528).bind fun bt535 => ((impl_DoubledMissed.f kj48).bind fun t541 => (if (t517 != t519) = true then (none) else (if (t516 != t518) = true then (none) else (if (bt520.2 != bt522.2) = true then (none) else (if bt520.1 = bt522.1 then (if (bt520.2 != t517) = true then (none) else (if (bt524.2 != bt526.2) = true then (none) else (if bt524.1.toList = bt526.1.toList then (if (bt529.2.2 != bt535.2.2) = true then (none) else ((laws_fScheme.f kj48 bt529.1 bt529.2.1 bt535.1 bt535.2.1).bind fun t544 => (if t544 = true then ((spec_DoubledMissed.f kj48).bind fun t545 => ((laws_fRows.f kj48 t541 t545).bind fun t548 => (if t548 = true then ((laws_fRows.f kj48 t541 (([(([0, 9] : List Int))] : List (List Int)))).bind fun t555 => (laws_FnChecksDoubled.j4 kj48 t515 t516 t517 bt520.1 bt524.1 bt524.2 t528 bt529.2.2 (!t555) bt529.1 bt529.2.1)) else (none)))) else (none)))) else (none)))) else (none))))))))))))) = some r := H
       have A92 := Aside0.mk A920
       clear A920
       replace H := Option.bind_eq_some_iff.mp H
       obtain ⟨⟨t520, t521⟩, A930, H⟩ := H
       replace H : ((spec_DoubledSum.f kj48 t515).bind fun bt522 => ((impl_DoubledCheck.f kj48 t515).bind fun bt524 => ((spec_DoubledCheck.f kj48 t515).bind fun bt526 => ((spec_DrawParseScheme.f kj48 l1).bind fun t528 => ((impl_ParseScheme.f kj48 t528).bind fun bt529 => ((spec_ParseScheme.f kj48 t528).bind fun bt535 => ((impl_DoubledMissed.f kj48).bind fun t541 => (if (t517 != t519) = true then (none) else (if (t516 != t518) = true then (none) else (if (t521 != bt522.2) = true then (none) else (if t520 = bt522.1 then (if (t521 != t517) = true then (none) else (if (bt524.2 != bt526.2) = true then (none) else (if bt524.1.toList = bt526.1.toList then (if (bt529.2.2 != bt535.2.2) = true then (none) else ((laws_fScheme.f kj48 bt529.1 bt529.2.1 bt535.1 bt535.2.1).bind fun t544 => (if t544 = true then ((spec_DoubledMissed.f kj48).bind fun t545 => ((laws_fRows.f kj48 t541 t545).bind fun t548 => (if t548 = true then ((laws_fRows.f kj48 t541 (([(([0, 9] : List Int))] : List (List Int)))).bind fun t555 => (laws_FnChecksDoubled.j4 kj48 t515 t516 t517 t520 bt524.1 bt524.2 t528 bt529.2.2 (!t555) bt529.1 bt529.2.1)) else (none)))) else (none)))) else (none)))) else (none)))))))))))) = some r := H
       have A93 := Aside0.mk A930
       clear A930
       replace H := Option.bind_eq_some_iff.mp H
       obtain ⟨⟨t522, t523⟩, A940, H⟩ := H
       replace H : ((impl_DoubledCheck.f kj48 t515).bind fun bt524 => ((spec_DoubledCheck.f kj48 t515).bind fun bt526 => ((spec_DrawParseScheme.f kj48 l1).bind fun t528 => ((impl_ParseScheme.f kj48 t528).bind fun bt529 => ((spec_ParseScheme.f kj48 t528).bind fun bt535 => ((impl_DoubledMissed.f kj48).bind fun t541 => (if (t517 != t519) = true then (none) else (if (t516 != t518) = true then (none) else (if (t521 != t523) = true then (none) else (if t520 = t522 then (if (t521 != t517) = true then (none) else (if (bt524.2 != bt526.2) = true then (none) else (if bt524.1.toList = bt526.1.toList then (if (bt529.2.2 != bt535.2.2) = true then (none) else ((laws_fScheme.f kj48 bt529.1 bt529.2.1 bt535.1 bt535.2.1).bind fun t544 => (if t544 = true then ((spec_DoubledMissed.f kj48).bind fun t545 => ((laws_fRows.f kj48 t541 t545).bind fun t548 => (if t548 = true then ((laws_fRows.f kj48 t541 (([(([0, 9] : List Int))] : List (List Int)))).bind fun t555 => (laws_FnChecksDoubled.j4 kj48 t515 t516 t517 t520 bt524.1 bt524.2 t528 bt529.2.2 (!t555) bt529.1 bt529.2.1)) else (none)))) else (none)))) else (none)))) else (none))))))))))) = some r := H
       have A94 := Aside0.mk A940
       clear A940
       replace H := Option.bind_eq_some_iff.mp H
       obtain ⟨⟨t524, t525⟩, A950, H⟩ := H
       replace H : ((spec_DoubledCheck.f kj48 t515).bind fun bt526 => ((spec_DrawParseScheme.f kj48 l1).bind fun t528 => ((impl_ParseScheme.f kj48 t528).bind fun bt529 => ((spec_ParseScheme.f kj48 t528).bind fun bt535 => ((impl_DoubledMissed.f kj48).bind fun t541 => (if (t517 != t519) = true then (none) else (if (t516 != t518) = true then (none) else (if (t521 != t523) = true then (none) else (if t520 = t522 then (if (t521 != t517) = true then (none) else (if (t525 != bt526.2) = true then (none) else (if t524.toList = bt526.1.toList then (if (bt529.2.2 != bt535.2.2) = true then (none) else ((laws_fScheme.f kj48 bt529.1 bt529.2.1 bt535.1 bt535.2.1).bind fun t544 => (if t544 = true then ((spec_DoubledMissed.f kj48).bind fun t545 => ((laws_fRows.f kj48 t541 t545).bind fun t548 => (if t548 = true then ((laws_fRows.f kj48 t541 (([(([0, 9] : List Int))] : List (List Int)))).bind fun t555 => (laws_FnChecksDoubled.j4 kj48 t515 t516 t517 t520 t524 t525 t528 bt529.2.2 (!t555) bt529.1 bt529.2.1)) else (none)))) else (none)))) else (none)))) else (none)))))))))) = some r := H
       have A95 := Aside0.mk A950
       clear A950
       replace H := Option.bind_eq_some_iff.mp H
       obtain ⟨⟨t526, t527⟩, A960, H⟩ := H
       replace H : ((spec_DrawParseScheme.f kj48 l1).bind fun t528 => ((impl_ParseScheme.f kj48 t528).bind fun bt529 => ((spec_ParseScheme.f kj48 t528).bind fun bt535 => ((impl_DoubledMissed.f kj48).bind fun t541 => (if (t517 != t519) = true then (none) else (if (t516 != t518) = true then (none) else (if (t521 != t523) = true then (none) else (if t520 = t522 then (if (t521 != t517) = true then (none) else (if (t525 != t527) = true then (none) else (if t524.toList = t526.toList then (if (bt529.2.2 != bt535.2.2) = true then (none) else ((laws_fScheme.f kj48 bt529.1 bt529.2.1 bt535.1 bt535.2.1).bind fun t544 => (if t544 = true then ((spec_DoubledMissed.f kj48).bind fun t545 => ((laws_fRows.f kj48 t541 t545).bind fun t548 => (if t548 = true then ((laws_fRows.f kj48 t541 (([(([0, 9] : List Int))] : List (List Int)))).bind fun t555 => (laws_FnChecksDoubled.j4 kj48 t515 t516 t517 t520 t524 t525 t528 bt529.2.2 (!t555) bt529.1 bt529.2.1)) else (none)))) else (none)))) else (none)))) else (none))))))))) = some r := H
       have A96 := Aside0.mk A960
       clear A960
       replace H := Option.bind_eq_some_iff.mp H
       obtain ⟨t528, A970, H⟩ := H
       replace H : ((impl_ParseScheme.f kj48 t528).bind fun bt529 => ((spec_ParseScheme.f kj48 t528).bind fun bt535 => ((impl_DoubledMissed.f kj48).bind fun t541 => (if (t517 != t519) = true then (none) else (if (t516 != t518) = true then (none) else (if (t521 != t523) = true then (none) else (if t520 = t522 then (if (t521 != t517) = true then (none) else (if (t525 != t527) = true then (none) else (if t524.toList = t526.toList then (if (bt529.2.2 != bt535.2.2) = true then (none) else ((laws_fScheme.f kj48 bt529.1 bt529.2.1 bt535.1 bt535.2.1).bind fun t544 => (if t544 = true then ((spec_DoubledMissed.f kj48).bind fun t545 => ((laws_fRows.f kj48 t541 t545).bind fun t548 => (if t548 = true then ((laws_fRows.f kj48 t541 (([(([0, 9] : List Int))] : List (List Int)))).bind fun t555 => (laws_FnChecksDoubled.j4 kj48 t515 t516 t517 t520 t524 t525 t528 bt529.2.2 (!t555) bt529.1 bt529.2.1)) else (none)))) else (none)))) else (none)))) else (none)))))))) = some r := H
       have A97 := Aside0.mk A970
       clear A970
       replace H := Option.bind_eq_some_iff.mp H
       obtain ⟨⟨t529, t530, t533⟩, A980, H⟩ := H
       replace H : ((spec_ParseScheme.f kj48 t528).bind fun bt535 => ((impl_DoubledMissed.f kj48).bind fun t541 => (if (t517 != t519) = true then (none) else (if (t516 != t518) = true then (none) else (if (t521 != t523) = true then (none) else (if t520 = t522 then (if (t521 != t517) = true then (none) else (if (t525 != t527) = true then (none) else (if t524.toList = t526.toList then (if (t533 != bt535.2.2) = true then (none) else ((laws_fScheme.f kj48 t529 t530 bt535.1 bt535.2.1).bind fun t544 => (if t544 = true then ((spec_DoubledMissed.f kj48).bind fun t545 => ((laws_fRows.f kj48 t541 t545).bind fun t548 => (if t548 = true then ((laws_fRows.f kj48 t541 (([(([0, 9] : List Int))] : List (List Int)))).bind fun t555 => (laws_FnChecksDoubled.j4 kj48 t515 t516 t517 t520 t524 t525 t528 t533 (!t555) t529 t530)) else (none)))) else (none)))) else (none)))) else (none))))))) = some r := H
       have A98 := Aside0.mk A980
       clear A980
       replace H := Option.bind_eq_some_iff.mp H
       obtain ⟨⟨t535, t536, t539⟩, A990, H⟩ := H
       replace H : ((impl_DoubledMissed.f kj48).bind fun t541 => (if (t517 != t519) = true then (none) else (if (t516 != t518) = true then (none) else (if (t521 != t523) = true then (none) else (if t520 = t522 then (if (t521 != t517) = true then (none) else (if (t525 != t527) = true then (none) else (if t524.toList = t526.toList then (if (t533 != t539) = true then (none) else ((laws_fScheme.f kj48 t529 t530 t535 t536).bind fun t544 => (if t544 = true then ((spec_DoubledMissed.f kj48).bind fun t545 => ((laws_fRows.f kj48 t541 t545).bind fun t548 => (if t548 = true then ((laws_fRows.f kj48 t541 (([(([0, 9] : List Int))] : List (List Int)))).bind fun t555 => (laws_FnChecksDoubled.j4 kj48 t515 t516 t517 t520 t524 t525 t528 t533 (!t555) t529 t530)) else (none)))) else (none)))) else (none)))) else (none)))))) = some r := H
       have A99 := Aside0.mk A990
       clear A990
       replace H := Option.bind_eq_some_iff.mp H
       obtain ⟨t541, A1000, H⟩ := H
       replace H : (if (t517 != t519) = true then (none) else (if (t516 != t518) = true then (none) else (if (t521 != t523) = true then (none) else (if t520 = t522 then (if (t521 != t517) = true then (none) else (if (t525 != t527) = true then (none) else (if t524.toList = t526.toList then (if (t533 != t539) = true then (none) else ((laws_fScheme.f kj48 t529 t530 t535 t536).bind fun t544 => (if t544 = true then ((spec_DoubledMissed.f kj48).bind fun t545 => ((laws_fRows.f kj48 t541 t545).bind fun t548 => (if t548 = true then ((laws_fRows.f kj48 t541 (([(([0, 9] : List Int))] : List (List Int)))).bind fun t555 => (laws_FnChecksDoubled.j4 kj48 t515 t516 t517 t520 t524 t525 t528 t533 (!t555) t529 t530)) else (none)))) else (none)))) else (none)))) else (none))))) = some r := H
       have A100 := Aside0.mk A1000
       clear A1000
       have HC101 := Aside0.mk H
       clear H
       go_upto_region 36 with (first | (go_at_call 70; (with_reducible refine (spec_DrawIsDoubledRight.calls kj48 _ _ l1 t515 _ ?side1 ?side2 A90.out).mono ?_); (case side1 => repeat (first | exact (Kd.C_below HR1.out HB.out) | (with_reducible refine Kd.C_alloc ?_ _) | (with_reducible refine Kd.C_drewN ?_ _) | (with_reducible refine Kd.C_drew ?_))); (case side2 => exact HC1.out); rintro e w102 ⟨rfl, hb⟩; have n0_ := Aside0.mk (Kd.R_below Z11 hb); have n1_ := Aside0.mk (blk_below (g := gb490) (o := .cells #[.int .i64 t486, .slice Ao18 t487.length co18] 51 (0, 0)) Z8 hb); have n2_ := Aside0.mk (below_step Z10 hb); clear HO_491001 BK490 HB; revert n0_ n1_ n2_; intro HO_491001 BK490 HB; (try clear hb); (try clear hb2); (try clear hk); (try clear hi)) | (go_at_call 71; (with_reducible refine (impl_IsDoubledRight.calls kj48 t515 t516 t517 _ A91.out).mono ?_); rintro e w103 ⟨rfl, hb⟩; have n0_ := Aside0.mk (Kd.R_below Z11 hb); have n1_ := Aside0.mk (blk_below (g := gb490) (o := .cells #[.int .i64 t486, .slice Ao18 t487.length co18] 51 (0, 0)) Z8 hb); have n2_ := Aside0.mk (below_step Z10 hb); clear HO_491001 BK490 HB; revert n0_ n1_ n2_; intro HO_491001 BK490 HB; (try clear hb); (try clear hb2); (try clear hk); (try clear hi)) | (go_at_call 72; (with_reducible refine (spec_IsDoubledRight.calls kj48 t515 t518 t519 _ A92.out).mono ?_); rintro e w' ⟨rfl, ⟨nd, rfl⟩⟩; (try first | exact ⟨rfl, _, World.drewN_drewN _ _ _⟩ | exact ⟨rfl, _, Eq.trans (World.drewN_drewN _ _ _) (congrArg (World.drewN _) (Nat.add_assoc _ _ _))⟩)) | (go_at_call 73; (with_reducible refine (impl_DoubledSum.calls kj48 t515 t520 t521 _ A93.out).mono ?_); rintro e w104 ⟨rfl, hb⟩; have n0_ := Aside0.mk (Kd.R_below Z11 hb); have n1_ := Aside0.mk (blk_below (g := gb490) (o := .cells #[.int .i64 t486, .slice Ao18 t487.length co18] 51 (0, 0)) Z8 hb); have n2_ := Aside0.mk (below_step Z10 hb); clear HO_491001 BK490 HB; revert n0_ n1_ n2_; intro HO_491001 BK490 HB; (try clear hb); (try clear hb2); (try clear hk); (try clear hi)) | (go_at_call 74; (with_reducible refine (spec_DoubledSum.calls kj48 t515 t522 t523 _ A94.out).mono ?_); rintro e w' ⟨rfl, ⟨nd, rfl⟩⟩; (try first | exact ⟨rfl, _, World.drewN_drewN _ _ _⟩ | exact ⟨rfl, _, Eq.trans (World.drewN_drewN _ _ _) (congrArg (World.drewN _) (Nat.add_assoc _ _ _))⟩)) | (go_at_call 75; (with_reducible refine (impl_DoubledCheck.calls kj48 t515 t524 t525 _ A95.out).mono ?_); rintro e w105 ⟨rfl, hb⟩; have n0_ := Aside0.mk (Kd.R_below Z11 hb); have n1_ := Aside0.mk (blk_below (g := gb490) (o := .cells #[.int .i64 t486, .slice Ao18 t487.length co18] 51 (0, 0)) Z8 hb); have n2_ := Aside0.mk (below_step Z10 hb); clear HO_491001 BK490 HB; revert n0_ n1_ n2_; intro HO_491001 BK490 HB; (try clear hb); (try clear hb2); (try clear hk); (try clear hi)) | (go_at_call 76; (with_reducible refine (spec_DoubledCheck.calls kj48 t515 t526 t527 _ A96.out).mono ?_); rintro e w' ⟨rfl, ⟨nd, rfl⟩⟩; (try first | exact ⟨rfl, _, World.drewN_drewN _ _ _⟩ | exact ⟨rfl, _, Eq.trans (World.drewN_drewN _ _ _) (congrArg (World.drewN _) (Nat.add_assoc _ _ _))⟩)) | (go_at_call 77; (with_reducible refine (spec_DrawParseScheme.calls kj48 _ _ l1 t528 _ ?side1 ?side2 A97.out).mono ?_); (case side1 => repeat (first | exact (Kd.C_below HR1.out Z10) | (with_reducible refine Kd.C_alloc ?_ _) | (with_reducible refine Kd.C_drewN ?_ _) | (with_reducible refine Kd.C_drew ?_))); (case side2 => exact HC1.out); rintro e w106 ⟨rfl, hb⟩; have n0_ := Aside0.mk (Kd.R_below Z11 hb); have n1_ := Aside0.mk (blk_below (g := gb490) (o := .cells #[.int .i64 t486, .slice Ao18 t487.length co18] 51 (0, 0)) Z8 hb); have n2_ := Aside0.mk (below_step Z10 hb); clear HO_491001 BK490 HB; revert n0_ n1_ n2_; intro HO_491001 BK490 HB; (try clear hb); (try clear hb2); (try clear hk); (try clear hi)) | (go_at_call 68; (with_reducible refine (impl_ParseScheme.calls kj48 t528 t529 t530 t533 _ ?side1 A98.out).mono ?_); (case side1 => exact GV.below HG.out Z10); rintro e w107 ⟨v531, rfl, ho0, hb⟩; have n0_ := Aside0.mk (Kd.R_elder' Z11 (Kd.R_base ho0) hb); have n1_ := Aside0.mk (Kd.R_lower (Kd.R_new' ho0 (Kd.R_lt Z11)) (below_size Z10)); have n2_ := Aside0.mk (blk_below (g := gb490) (o := .cells #[.int .i64 t486, .slice Ao18 t487.length co18] 51 (0, 0)) Z8 hb); have n3_ := Aside0.mk (below_step Z10 hb); clear HO_491001 BK490 HB; revert n0_ n1_ n2_ n3_; intro HO_491001 HO532 BK490 HB; (try clear hb); (try clear hb2); (try clear hk); (try clear hi); (try clear ho0)) | ((with_reducible refine gate_dst (N := 39) rfl ?_); (try (refine gate_guard (by rfl) ?_; dsimp only)); refine box_event ?hg (N := 39) ?hd (cs := #[.int .i64 0, .slice none 0 0]) (t := 51) ?hr ?_; (case hd => rfl); (case hg => rfl); (case hr => exact Z13); intro gb534 hg w108 hbox hb; have n0_ := Aside0.mk (Kd.R_below Z11 hb); have n1_ := Aside0.mk (Kd.R_below Z47 hb); have n2_ := Aside0.mk (blk_below (g := gb490) (o := .cells #[.int .i64 t486, .slice Ao18 t487.length co18] 51 (0, 0)) Z8 hb); have n3_ := Aside0.mk (below_step Z10 hb); have n4_ := Aside0.mk (hbox); have n5_ := Aside0.mk ((by rw [hg]; exact (below_size Z10) : w.heap.size ≤ gb534)); have n6_ := Aside0.mk ((by rw [hg]; exact (below_size Z10) : w.heap.size ≤ gb534)); have n7_ := Aside0.mk ((Z119 : gb490 ≠ gb534)); have n8_ := Aside0.mk ((Z120 : gb534 ≠ gb490)); clear HO_491001 HO532 BK490 HB; revert n0_ n1_ n2_ n3_ n4_ n5_ n6_ n7_ n8_; intro HO_491001 HO532 BK490 HB BK534 GW534 GE534 NB490_534 NB534_490; clear hb hbox hg; have hnb109 := NB534_490.out; have hnc109 := NB490_534.out; have hcz110_0 : w108.cell? ⟨gb534, 0, none⟩ = some (.int .i64 0) := (blk_cell BK534.out 0).trans rfl; have hcz110_1 : w108.cell? ⟨gb534, 1, none⟩ = some (.slice none 0 0) := (blk_cell BK534.out 1).trans rfl; have hfz110_0 := blk_frozen BK534.out 0; have hfz110_1 := blk_frozen BK534.out 1; obtain ⟨Ao111, co111, eo111⟩ := Kd.R_slice HO532.out; subst eo111) | (go_at_call 78; (with_reducible refine (spec_ParseScheme.calls kj48 t528 t535 t536 t539 _ A99.out).mono ?_); rintro e w112 ⟨v537, rfl, ho0, hb⟩; have n0_ := Aside0.mk (Kd.R_elder' Z101 (Kd.R_base ho0) hb); have n1_ := Aside0.mk (Kd.R_elder' Z105 (Kd.R_base ho0) hb); have n2_ := Aside0.mk (Kd.R_lower (Kd.R_new' (Kd.R_new' ho0 (Kd.R_lt Z101)) (Kd.R_lt Z105)) (below_size Z58)); have n3_ := Aside0.mk (blk_below (g := gb490) (o := .cells #[.int .i64 t486, .slice Ao18 t487.length co18] 51 (0, 0)) (by (with_reducible repeat (first | refine blk_drewN ?_ _ | refine blk_drew ?_ | refine blk_alloc ?_ _)); refine blk_far ?_ NB490_534.out _; (with_reducible repeat (first | refine blk_drewN ?_ _ | refine blk_drew ?_ | refine blk_alloc ?_ _)); refine blk_far ?_ NB490_534.out _; (with_reducible repeat (first | refine blk_drewN ?_ _ | refine blk_drew ?_ | refine blk_alloc ?_ _)); exact BK490.out) hb); have n4_ := Aside0.mk (blk_below (g := gb534) (o := .cells #[.int .i64 t529, .slice Ao111 t530.length co111] 51 (0, 0)) (by (with_reducible repeat (first | refine blk_drewN ?_ _ | refine blk_drew ?_ | refine blk_alloc ?_ _)); refine blk_put (cs := #[.int .i64 t529, .slice none 0 0]) ?_ 1 _ rfl; (with_reducible repeat (first | refine blk_drewN ?_ _ | refine blk_drew ?_ | refine blk_alloc ?_ _)); refine blk_put (cs := #[.int .i64 0, .slice none 0 0]) ?_ 0 _ rfl; (with_reducible repeat (first | refine blk_drewN ?_ _ | refine blk_drew ?_ | refine blk_alloc ?_ _)); exact BK534.out) hb); have n5_ := Aside0.mk (below_step Z58 hb); clear HO_491001 HO532 BK490 BK534 HB; revert n0_ n1_ n2_ n3_ n4_ n5_; intro HO_491001 HO532 HO538 BK490 BK534 HB; (try clear hb); (try clear hb2); (try clear hk); (try clear hi); (try clear ho0)) | ((with_reducible refine gate_dst (N := 41) rfl ?_); (try (refine gate_guard (by rfl) ?_; dsimp only)); refine box_event ?hg (N := 41) ?hd (cs := #[.int .i64 0, .slice none 0 0]) (t := 51) ?hr ?_; (case hd => rfl); (case hg => rfl); (case hr => exact Z13); intro gb540 hg w113 hbox hb; have n0_ := Aside0.mk (Kd.R_below Z11 hb); have n1_ := Aside0.mk (Kd.R_below Z47 hb); have n2_ := Aside0.mk (Kd.R_below Z61 hb); have n3_ := Aside0.mk (blk_below (g := gb490) (o := .cells #[.int .i64 t486, .slice Ao18 t487.length co18] 51 (0, 0)) Z8 hb); have n4_ := Aside0.mk (blk_below (g := gb534) (o := .cells #[.int .i64 t529, .slice Ao111 t530.length co111] 51 (0, 0)) Z14 hb); have n5_ := Aside0.mk (below_step Z58 hb); have n6_ := Aside0.mk (hbox); have n7_ := Aside0.mk ((by rw [hg]; exact (below_size Z58) : w.heap.size ≤ gb540)); have n8_ := Aside0.mk ((by rw [hg]; exact (below_size Z58) : w.heap.size ≤ gb540)); have n9_ := Aside0.mk ((Z119 : gb490 ≠ gb540)); have n10_ := Aside0.mk ((Z120 : gb540 ≠ gb490)); have n11_ := Aside0.mk ((by rw [hg]; exact Nat.ne_of_lt (blk_lt (g := gb534) (o := .cells #[.int .i64 t529, .slice Ao111 t530.length co111] 51 (0, 0)) Z14) : gb534 ≠ gb540)); have n12_ := Aside0.mk ((by rw [hg]; exact Nat.ne_of_gt (blk_lt (g := gb534) (o := .cells #[.int .i64 t529, .slice Ao111 t530.length co111] 51 (0, 0)) Z14) : gb540 ≠ gb534)); clear HO_491001 HO532 HO538 BK490 BK534 HB; revert n0_ n1_ n2_ n3_ n4_ n5_ n6_ n7_ n8_ n9_ n10_ n11_ n12_; intro HO_491001 HO532 HO538 BK490 BK534 HB BK540 GW540 GE540 NB490_540 NB540_490 NB534_540 NB540_534; clear hb hbox hg; have hnb114 := NB540_490.out; have hnc114 := NB490_540.out; have hnb115 := NB540_534.out; have hnc115 := NB534_540.out; have hcz116_0 : w113.cell? ⟨gb540, 0, none⟩ = some (.int .i64 0) := (blk_cell BK540.out 0).trans rfl; have hcz116_1 : w113.cell? ⟨gb540, 1, none⟩ = some (.slice none 0 0) := (blk_cell BK540.out 1).trans rfl; have hfz116_0 := blk_frozen BK540.out 0; have hfz116_1 := blk_frozen BK540.out 1; obtain ⟨Ao117, co117, eo117⟩ := Kd.R_slice HO538.out; subst eo117) | (go_at_call 79; (with_reducible refine (impl_DoubledMissed.calls kj48  t541 _ A100.out).mono ?_); rintro e w118 ⟨v542, rfl, ho0, hb⟩; have n0_ := Aside0.mk (Kd.R_below Z102 hb); have n1_ := Aside0.mk (Kd.R_below Z106 hb); have n2_ := Aside0.mk (Kd.R_below Z107 hb); have n3_ := Aside0.mk (Kd.N_lower (Kd.N_mono (ok' := fun k_ => some k_ ≠ (.slice Ao18 t487.length co18 : Value).ownBlock ∧ some k_ ≠ (.slice Ao111 t530.length co111 : Value).ownBlock ∧ some k_ ≠ (.slice Ao117 t536.length co117 : Value).ownBlock ∧ k_ ≠ gb490 ∧ k_ ≠ gb534 ∧ k_ ≠ gb540) (Kd.S_N (Kd.S_bound ho0)) (fun k_ hk_ => ⟨(Kd.fresh' (Kd.R_lt Z102) k_ hk_.2.1), (Kd.fresh' (Kd.R_lt Z106) k_ hk_.2.1), (Kd.fresh' (Kd.R_lt Z107) k_ hk_.2.1), (Kd.freshB (g := gb490) (o := .cells #[.int .i64 t486, .slice Ao18 t487.length co18] 51 (0, 0)) Z91 k_ hk_.2.1), (Kd.freshB (g := gb534) (o := .cells #[.int .i64 t529, .slice Ao111 t530.length co111] 51 (0, 0)) Z92 k_ hk_.2.1), (Kd.freshB (g := gb540) (o := .cells #[.int .i64 t535, .slice Ao117 t536.length co117] 51 (0, 0)) Z82 k_ hk_.2.1)⟩)) (below_size Z7)); have n4_ := Aside0.mk (blk_below (g := gb490) (o := .cells #[.int .i64 t486, .slice Ao18 t487.length co18] 51 (0, 0)) Z91 hb); have n5_ := Aside0.mk (blk_below (g := gb534) (o := .cells #[.int .i64 t529, .slice Ao111 t530.length co111] 51 (0, 0)) Z92 hb); have n6_ := Aside0.mk (blk_below (g := gb540) (o := .cells #[.int .i64 t535, .slice Ao117 t536.length co117] 51 (0, 0)) Z82 hb); have n7_ := Aside0.mk (below_step Z7 hb); clear HO_491001 HO532 HO538 BK490 BK534 BK540 HB; revert n0_ n1_ n2_ n3_ n4_ n5_ n6_ n7_; intro HO_491001 HO532 HO538 HO543 BK490 BK534 BK540 HB; (try clear hb); (try clear hb2); (try clear hk); (try clear hi); (try clear ho0)))
       (try simp only [Act.put, List.setIfInBounds_toArray, List.set_cons_zero, List.set_cons_succ])
       go_cut [319] from 1 to 0 (fun v319 wc => ∃ (kq : Nat) (x319_100 : Bool), v319 = .bool x319_100 ∧ Aside0 (laws_FnChecksDoubled.j4 kq t515 t516 t517 t520 t524 t525 t528 t533 x319_100 t529 t530 = some r) ∧ Aside0 (kq ≤ kj48) ∧ Aside0 (Kd.R (Kd.int .i64) 3 wc w.heap.size (fun k_ => some k_ ≠ ((.slice Ao111 t530.length co111) : Value).ownBlock ∧ some k_ ≠ ((.slice Ao117 t536.length co117) : Value).ownBlock) (.slice Ao18 t487.length co18) t487) ∧ Aside0 (Kd.R (Kd.int .i64) 3 wc w.heap.size (fun k_ => some k_ ≠ ((.slice Ao18 t487.length co18) : Value).ownBlock ∧ some k_ ≠ ((.slice Ao117 t536.length co117) : Value).ownBlock) (.slice Ao111 t530.length co111) t530) ∧ Aside0 (Kd.R (Kd.int .i64) 3 wc w.heap.size (fun k_ => some k_ ≠ ((.slice Ao18 t487.length co18) : Value).ownBlock ∧ some k_ ≠ ((.slice Ao111 t530.length co111) : Value).ownBlock) (.slice Ao117 t536.length co117) t536) ∧ Aside0 (wc.heap[gb490]? = some (.cells #[.int .i64 t486, (.slice Ao18 t487.length co18)] 51 (0, 0))) ∧ Aside0 (wc.heap[gb534]? = some (.cells #[.int .i64 t529, (.slice Ao111 t530.length co111)] 51 (0, 0))) ∧ Aside0 (wc.heap[gb540]? = some (.cells #[.int .i64 t535, (.slice Ao117 t536.length co117)] 51 (0, 0))) ∧ Aside0 (Below w.heap.size w wc))
       case first =>
        as_aux_lemma =>
        have H := HC101.out
        clear HC101
        by_cases c119 : (t517 != t519) = true
        ·
         rw [if_pos c119] at H
         exact absurd H (by simp)
        ·
         rw [if_neg c119] at H
         have c119b0 : (t517 != t519) = false := by simpa using c119
         (try (have c119b1 : decide (t517 = t519) = true := by simpa using c119))
         (try (have c119b2 : (t517 == t519) = true := by simpa using c119))
         clear c119
         (first | rw [c119b0] | (simp only [i64_w, i32_w]; rw [c119b0]) | skip)
         by_cases c120 : (t516 != t518) = true
         ·
          rw [if_pos c120] at H
          exact absurd H (by simp)
         ·
          rw [if_neg c120] at H
          have c120b0 : (t516 != t518) = false := by simpa using c120
          (try (have c120b1 : decide (t516 = t518) = true := by simpa using c120))
          (try (have c120b2 : (t516 == t518) = true := by simpa using c120))
          clear c120
          by_cases c121 : (t521 != t523) = true
          ·
           rw [if_pos c121] at H
           exact absurd H (by simp)
          ·
           rw [if_neg c121] at H
           have c121b0 : (t521 != t523) = false := by simpa using c121
           (try (have c121b1 : decide (t521 = t523) = true := by simpa using c121))
           (try (have c121b2 : (t521 == t523) = true := by simpa using c121))
           clear c121
           by_cases c122 : t520 = t522
           ·
            rw [if_pos c122] at H
            have c122b0 : (t520 == t522) = true := beq_iff_eq.mpr c122
            have c122b1 : (t520 != t522) = false := bne_eq_false_iff_eq.mpr c122
            clear c122
            by_cases c123 : (t521 != t517) = true
            ·
             rw [if_pos c123] at H
             exact absurd H (by simp)
            ·
             rw [if_neg c123] at H
             have c123b0 : (t521 != t517) = false := by simpa using c123
             (try (have c123b1 : decide (t521 = t517) = true := by simpa using c123))
             (try (have c123b2 : (t521 == t517) = true := by simpa using c123))
             clear c123
             by_cases c124 : (t525 != t527) = true
             ·
              rw [if_pos c124] at H
              exact absurd H (by simp)
             ·
              rw [if_neg c124] at H
              have c124b0 : (t525 != t527) = false := by simpa using c124
              (try (have c124b1 : decide (t525 = t527) = true := by simpa using c124))
              (try (have c124b2 : (t525 == t527) = true := by simpa using c124))
              clear c124
              by_cases c125 : t524.toList = t526.toList
              ·
               rw [if_pos c125] at H
               have c125b0 : (t524.toList == t526.toList) = true := beq_iff_eq.mpr c125
               have c125b1 : (t524.toList != t526.toList) = false := bne_eq_false_iff_eq.mpr c125
               clear c125
               by_cases c126 : (t533 != t539) = true
               ·
                rw [if_pos c126] at H
                exact absurd H (by simp)
               ·
                rw [if_neg c126] at H
                have c126b0 : (t533 != t539) = false := by simpa using c126
                (try (have c126b1 : decide (t533 = t539) = true := by simpa using c126))
                (try (have c126b2 : (t533 == t539) = true := by simpa using c126))
                clear c126
                replace H := Option.bind_eq_some_iff.mp H
                obtain ⟨t544, A1270, H⟩ := H
                replace H : (if t544 = true then ((spec_DoubledMissed.f kj48).bind fun t545 => ((laws_fRows.f kj48 t541 t545).bind fun t548 => (if t548 = true then ((laws_fRows.f kj48 t541 (([(([0, 9] : List Int))] : List (List Int)))).bind fun t555 => (laws_FnChecksDoubled.j4 kj48 t515 t516 t517 t520 t524 t525 t528 t533 (!t555) t529 t530)) else (none)))) else (none)) = some r := H
                have A127 := Aside0.mk A1270
                clear A1270
                by_cases c128 : t544 = true
                ·
                 subst c128
                 have H1 : ((spec_DoubledMissed.f kj48).bind fun t545 => ((laws_fRows.f kj48 t541 t545).bind fun t548 => (if t548 = true then ((laws_fRows.f kj48 t541 (([(([0, 9] : List Int))] : List (List Int)))).bind fun t555 => (laws_FnChecksDoubled.j4 kj48 t515 t516 t517 t520 t524 t525 t528 t533 (!t555) t529 t530)) else (none)))) = some r := by rw [if_pos rfl] at H; exact H
                 clear H
                 have H := H1
                 clear H1
                 replace H := Option.bind_eq_some_iff.mp H
                 obtain ⟨t545, A1290, H⟩ := H
                 replace H : ((laws_fRows.f kj48 t541 t545).bind fun t548 => (if t548 = true then ((laws_fRows.f kj48 t541 (([(([0, 9] : List Int))] : List (List Int)))).bind fun t555 => (laws_FnChecksDoubled.j4 kj48 t515 t516 t517 t520 t524 t525 t528 t533 (!t555) t529 t530)) else (none))) = some r := H
                 have A129 := Aside0.mk A1290
                 clear A1290
                 replace H := Option.bind_eq_some_iff.mp H
                 obtain ⟨t548, A1300, H⟩ := H
                 replace H : (if t548 = true then ((laws_fRows.f kj48 t541 (([(([0, 9] : List Int))] : List (List Int)))).bind fun t555 => (laws_FnChecksDoubled.j4 kj48 t515 t516 t517 t520 t524 t525 t528 t533 (!t555) t529 t530)) else (none)) = some r := H
                 have A130 := Aside0.mk A1300
                 clear A1300
                 by_cases c131 : t548 = true
                 ·
                  subst c131
                  have H1 : ((laws_fRows.f kj48 t541 (([(([0, 9] : List Int))] : List (List Int)))).bind fun t555 => (laws_FnChecksDoubled.j4 kj48 t515 t516 t517 t520 t524 t525 t528 t533 (!t555) t529 t530)) = some r := by rw [if_pos rfl] at H; exact H
                  clear H
                  have H := H1
                  clear H1
                  obtain ⟨y549, hy549⟩ : ∃ y_ : List Int, y_ = (([0, 9] : List Int)) := ⟨_, rfl⟩
                  replace H : ((laws_fRows.f kj48 t541 (([y549] : List (List Int)))).bind fun t555 => (laws_FnChecksDoubled.j4 kj48 t515 t516 t517 t520 t524 t525 t528 t533 (!t555) t529 t530)) = some r := by first | (rw [hy549]; with_reducible exact H) | (have H2_ := (Option.bind_some _ _).symm.trans H; rw [hy549]; with_reducible exact H2_) | (have H2_ := (Option.bind_some _ _).symm.trans H; with_reducible exact H2_) | with_reducible exact H | (rw [hy549]; exact H) | exact H
                  have Ny549 := Aside0.mk hy549
                  clear hy549
                  obtain ⟨y552, hy552⟩ : ∃ y_ : List (List Int), y_ = (([y549] : List (List Int))) := ⟨_, rfl⟩
                  replace H : ((laws_fRows.f kj48 t541 y552).bind fun t555 => (laws_FnChecksDoubled.j4 kj48 t515 t516 t517 t520 t524 t525 t528 t533 (!t555) t529 t530)) = some r := by first | (rw [hy552]; with_reducible exact H) | (have H2_ := (Option.bind_some _ _).symm.trans H; rw [hy552]; with_reducible exact H2_) | (have H2_ := (Option.bind_some _ _).symm.trans H; with_reducible exact H2_) | with_reducible exact H | (rw [hy552]; exact H) | exact H
                  have Ny552 := Aside0.mk hy552
                  clear hy552
                  replace H := Option.bind_eq_some_iff.mp H
                  obtain ⟨t555, A1320, H⟩ := H
                  replace H : (laws_FnChecksDoubled.j4 kj48 t515 t516 t517 t520 t524 t525 t528 t533 (!t555) t529 t530) = some r := H
                  have A132 := Aside0.mk A1320
                  clear A1320
                  as_aux_lemma =>
                  have H' := Aside0.mk H
                  clear H
                  have hnb133 := NB534_490.out
                  have hnc133 := NB490_534.out
                  have hnb134 := NB534_540.out
                  have hnc134 := NB540_534.out
                  have hcz135_0 : w118.cell? ⟨gb534, 0, none⟩ = some (.int .i64 t529) := (blk_cell BK534.out 0).trans rfl
                  have hcz135_1 : w118.cell? ⟨gb534, 1, none⟩ = some (.slice Ao111 t530.length co111) := (blk_cell BK534.out 1).trans rfl
                  have hfz135_0 := blk_frozen BK534.out 0
                  have hfz135_1 := blk_frozen BK534.out 1
                  have hnb136 := NB540_490.out
                  have hnc136 := NB490_540.out
                  have hcz137_0 : w118.cell? ⟨gb540, 0, none⟩ = some (.int .i64 t535) := (blk_cell BK540.out 0).trans rfl
                  have hcz137_1 : w118.cell? ⟨gb540, 1, none⟩ = some (.slice Ao117 t536.length co117) := (blk_cell BK540.out 1).trans rfl
                  have hfz137_0 := blk_frozen BK540.out 0
                  have hfz137_1 := blk_frozen BK540.out 1
                  go_wp2_with (first | (go_at_call 69; (with_reducible refine (laws_fScheme.calls kj48 t529 _ _ t530 t535 _ _ t536 true _ ?side1 ?side2 ?side3 ?side4 A127.out).mono ?_); (case side1 => repeat (first | exact (Kd.R_reads' HO532.out).2.2 | (with_reducible refine Kd.C_alloc ?_ _) | (with_reducible refine Kd.C_drewN ?_ _) | (with_reducible refine Kd.C_drew ?_))); (case side2 => exact (Kd.R_reads' HO532.out).2.1); (case side3 => repeat (first | exact (Kd.R_reads' HO538.out).2.2 | (with_reducible refine Kd.C_alloc ?_ _) | (with_reducible refine Kd.C_drewN ?_ _) | (with_reducible refine Kd.C_drew ?_))); (case side4 => exact (Kd.R_reads' HO538.out).2.1); rintro e w138 ⟨rfl, hb⟩; have n0_ := Aside0.mk (Kd.R_below Z11 hb); have n1_ := Aside0.mk (Kd.R_below Z47 hb); have n2_ := Aside0.mk (Kd.R_below Z61 hb); have n3_ := Aside0.mk (Kd.N_below Z72 hb); have n4_ := Aside0.mk (blk_below (g := gb490) (o := .cells #[.int .i64 t486, .slice Ao18 t487.length co18] 51 (0, 0)) Z8 hb); have n5_ := Aside0.mk (blk_below (g := gb534) (o := .cells #[.int .i64 t529, .slice Ao111 t530.length co111] 51 (0, 0)) Z14 hb); have n6_ := Aside0.mk (blk_below (g := gb540) (o := .cells #[.int .i64 t535, .slice Ao117 t536.length co117] 51 (0, 0)) Z15 hb); have n7_ := Aside0.mk (below_step Z7 hb); clear HO_491001 HO532 HO538 HO543 BK490 BK534 BK540 HB; revert n0_ n1_ n2_ n3_ n4_ n5_ n6_ n7_; intro HO_491001 HO532 HO538 HO543 BK490 BK534 BK540 HB; (try clear hb); (try clear hb2); (try clear hk); (try clear hi)) | (go_at_call 80; (with_reducible refine (spec_DoubledMissed.calls kj48  t545 _ A129.out).mono ?_); rintro e w139 ⟨v546, rfl, ho0, hb⟩; have n0_ := Aside0.mk (Kd.R_below Z11 hb); have n1_ := Aside0.mk (Kd.R_below Z47 hb); have n2_ := Aside0.mk (Kd.R_below Z61 hb); have n3_ := Aside0.mk (Kd.N_elder' Z72 (Kd.S_base ho0) hb); have n4_ := Aside0.mk (Kd.N_lower (Kd.N_mono (ok' := fun k_ => some k_ ≠ (.slice Ao18 t487.length co18 : Value).ownBlock ∧ some k_ ≠ (.slice Ao111 t530.length co111 : Value).ownBlock ∧ some k_ ≠ (.slice Ao117 t536.length co117 : Value).ownBlock ∧ some k_ ≠ (v542 : Value).ownBlock ∧ k_ ≠ gb490 ∧ k_ ≠ gb534 ∧ k_ ≠ gb540) (Kd.S_N (Kd.S_bound ho0)) (fun k_ hk_ => ⟨(Kd.fresh' (Kd.R_lt Z11) k_ hk_.2.1), (Kd.fresh' (Kd.R_lt Z47) k_ hk_.2.1), (Kd.fresh' (Kd.R_lt Z61) k_ hk_.2.1), (Kd.fresh' (Kd.N_lt Z72) k_ hk_.2.1), (Kd.freshB (g := gb490) (o := .cells #[.int .i64 t486, .slice Ao18 t487.length co18] 51 (0, 0)) Z8 k_ hk_.2.1), (Kd.freshB (g := gb534) (o := .cells #[.int .i64 t529, .slice Ao111 t530.length co111] 51 (0, 0)) Z14 k_ hk_.2.1), (Kd.freshB (g := gb540) (o := .cells #[.int .i64 t535, .slice Ao117 t536.length co117] 51 (0, 0)) Z15 k_ hk_.2.1)⟩)) (below_size Z7)); have n5_ := Aside0.mk (blk_below (g := gb490) (o := .cells #[.int .i64 t486, .slice Ao18 t487.length co18] 51 (0, 0)) Z8 hb); have n6_ := Aside0.mk (blk_below (g := gb534) (o := .cells #[.int .i64 t529, .slice Ao111 t530.length co111] 51 (0, 0)) Z14 hb); have n7_ := Aside0.mk (blk_below (g := gb540) (o := .cells #[.int .i64 t535, .slice Ao117 t536.length co117] 51 (0, 0)) Z15 hb); have n8_ := Aside0.mk (below_step Z7 hb); clear HO_491001 HO532 HO538 HO543 BK490 BK534 BK540 HB; revert n0_ n1_ n2_ n3_ n4_ n5_ n6_ n7_ n8_; intro HO_491001 HO532 HO538 HO543 HO547 BK490 BK534 BK540 HB; (try clear hb); (try clear hb2); (try clear hk); (try clear hi); (try clear ho0); obtain ⟨Ao140, co140, eo140⟩ := Kd.N_slice HO543.out; subst eo140; obtain ⟨Ao141, co141, eo141⟩ := Kd.N_slice HO547.out; subst eo141) | (go_at_call 60; (with_reducible refine (laws_fRows.calls kj48 _ _ t541 _ _ t545 true _ ?side1 ?side2 ?side3 ?side4 A130.out).mono ?_); (case side1 => exact Z134); (case side2 => exact (Kd.N_reads' HO543.out).2.1); (case side3 => repeat (first | exact (Kd.N_reads' HO547.out).2.2 | (with_reducible refine Kd.C_alloc ?_ _) | (with_reducible refine Kd.C_drewN ?_ _) | (with_reducible refine Kd.C_drew ?_))); (case side4 => exact (Kd.N_reads' HO547.out).2.1); rintro e w' ⟨rfl, ⟨nd, rfl⟩⟩; (try first | exact ⟨rfl, _, World.drewN_drewN _ _ _⟩ | exact ⟨rfl, _, Eq.trans (World.drewN_drewN _ _ _) (congrArg (World.drewN _) (Nat.add_assoc _ _ _))⟩)) | ((with_reducible refine gate_dst (N := 315) rfl ?_); (try (refine gate_guard (by rfl) ?_; dsimp only)); refine Kd.R_lit (Kd.int .i64) _ 3 ?hg (N := 315) ?hd (xs := ([0, 9] : List Int)) (inner := [.int .i64 0, .int .i64 9]) (ok := fun _ => True) (okp := fun _ => True) ?hr ?hp (fun _ hk => hk) trivial (Below.refl _ _) (Nat.le_refl _) (by simp) ?_; (case hd => rfl); (case hg => rfl); (case hr => exact Z13); (case hp => exact (Reps.one (show Kd.M (Kd.int .i64) _ _ _ 0 [.int .i64 0] from rfl) (Reps.one (show Kd.M (Kd.int .i64) _ _ _ 9 [.int .i64 9] from rfl) (Reps.none _ _)))); intro v550 w142 ho143 hb hg_ hnew_; clear hg_ hnew_; (first | rw [← Ny549.out] at ho143 | (simp only [Int.reduceToNat] at ho143; rw [← Ny549.out] at ho143)); have n0_ := Aside0.mk (Kd.R_elder' Z11 (Kd.R_base ho143) hb); have n1_ := Aside0.mk (Kd.R_elder' Z47 (Kd.R_base ho143) hb); have n2_ := Aside0.mk (Kd.R_elder' Z61 (Kd.R_base ho143) hb); have n3_ := Aside0.mk (Kd.N_elder' Z72 (Kd.R_base ho143) hb); have n4_ := Aside0.mk (Kd.N_elder' Z127 (Kd.R_base ho143) hb); have n5_ := Aside0.mk (Kd.R_lower (Kd.R_new' (Kd.R_new' (Kd.R_new' ho143 (Kd.R_lt Z11)) (Kd.R_lt Z47)) (Kd.R_lt Z61)) (below_size Z7)); have n6_ := Aside0.mk (blk_below (g := gb490) (o := .cells #[.int .i64 t486, .slice Ao18 t487.length co18] 51 (0, 0)) Z8 hb); have n7_ := Aside0.mk (blk_below (g := gb534) (o := .cells #[.int .i64 t529, .slice Ao111 t530.length co111] 51 (0, 0)) Z14 hb); have n8_ := Aside0.mk (blk_below (g := gb540) (o := .cells #[.int .i64 t535, .slice Ao117 t536.length co117] 51 (0, 0)) Z15 hb); have n9_ := Aside0.mk (below_step Z7 hb); clear HO_491001 HO532 HO538 HO543 HO547 BK490 BK534 BK540 HB; revert n0_ n1_ n2_ n3_ n4_ n5_ n6_ n7_ n8_ n9_; intro HO_491001 HO532 HO538 HO543 HO547 HO551 BK490 BK534 BK540 HB; clear hb ho143; obtain ⟨Ao144, co144, eo144⟩ := Kd.R_slice HO551.out; subst eo144) | ((with_reducible refine gate_dst (N := 316) rfl ?_); (try (refine gate_guard (by rfl) ?_; dsimp only)); refine Kd.N_lit (Kd.slice 3 (Kd.int .i64)) _ 40 ?hg (N' := 316) ?hd (xs := ([y549] : List (List Int))) (inner := [.slice Ao144 y549.length co144]) (ok := (fun k_ => some k_ ≠ (.slice Ao18 t487.length co18 : Value).ownBlock ∧ some k_ ≠ (.slice Ao111 t530.length co111 : Value).ownBlock ∧ some k_ ≠ (.slice Ao117 t536.length co117 : Value).ownBlock ∧ some k_ ≠ (.slice Ao140 t541.length co140 : Value).ownBlock ∧ some k_ ≠ (.slice Ao141 t545.length co141 : Value).ownBlock ∧ k_ ≠ gb490 ∧ k_ ≠ gb534 ∧ k_ ≠ gb540)) (okp := (fun k_ => some k_ ≠ (.slice Ao18 t487.length co18 : Value).ownBlock ∧ some k_ ≠ (.slice Ao111 t530.length co111 : Value).ownBlock ∧ some k_ ≠ (.slice Ao117 t536.length co117 : Value).ownBlock ∧ some k_ ≠ (.slice Ao140 t541.length co140 : Value).ownBlock ∧ some k_ ≠ (.slice Ao141 t545.length co141 : Value).ownBlock ∧ k_ ≠ gb490 ∧ k_ ≠ gb534 ∧ k_ ≠ gb540)) ?hr ?hp (fun _ hk => hk) ((show ∀ k_, w142.heap.size ≤ k_ → (fun k_ => some k_ ≠ (.slice Ao18 t487.length co18 : Value).ownBlock ∧ some k_ ≠ (.slice Ao111 t530.length co111 : Value).ownBlock ∧ some k_ ≠ (.slice Ao117 t536.length co117 : Value).ownBlock ∧ some k_ ≠ (.slice Ao140 t541.length co140 : Value).ownBlock ∧ some k_ ≠ (.slice Ao141 t545.length co141 : Value).ownBlock ∧ k_ ≠ gb490 ∧ k_ ≠ gb534 ∧ k_ ≠ gb540) k_ from fun k_ hk => ⟨Kd.fresh' (Kd.R_lt Z11) k_ hk, Kd.fresh' (Kd.R_lt Z47) k_ hk, Kd.fresh' (Kd.R_lt Z61) k_ hk, Kd.fresh' (Kd.N_lt Z72) k_ hk, Kd.fresh' (Kd.N_lt Z127) k_ hk, Kd.freshB (g := gb490) (o := .cells #[.int .i64 t486, .slice Ao18 t487.length co18] 51 (0, 0)) Z8 k_ hk, Kd.freshB (g := gb534) (o := .cells #[.int .i64 t529, .slice Ao111 t530.length co111] 51 (0, 0)) Z14 k_ hk, Kd.freshB (g := gb540) (o := .cells #[.int .i64 t535, .slice Ao117 t536.length co117] 51 (0, 0)) Z15 k_ hk⟩) _ (Nat.le_refl _)) (Below.refl _ _) (Nat.le_refl _) (by simp) ?_; (case hd => rfl); (case hg => rfl); (case hr => exact Z13); (case hp => exact (Reps.one (show Kd.FK (Kd.slice 3 (Kd.int .i64)) _ _ y549 [.slice Ao144 y549.length co144] from (Kd.FK_slice_mk (Kd.R_reads' (Kd.R_mono (ok' := (fun k_ => some k_ ≠ (.slice Ao18 t487.length co18 : Value).ownBlock ∧ some k_ ≠ (.slice Ao111 t530.length co111 : Value).ownBlock ∧ some k_ ≠ (.slice Ao117 t536.length co117 : Value).ownBlock ∧ some k_ ≠ (.slice Ao140 t541.length co140 : Value).ownBlock ∧ some k_ ≠ (.slice Ao141 t545.length co141 : Value).ownBlock ∧ k_ ≠ gb490 ∧ k_ ≠ gb534 ∧ k_ ≠ gb540)) (Kd.R_types (Kd.R_types (Kd.R_types (Kd.R_apart' (Kd.R_apart' (HO551.out) (Kd.N_typed HO543.out) (by decide)) (Kd.N_typed HO547.out) (by decide)) BK490.out (by decide)) BK534.out (by decide)) BK540.out (by decide)) (fun k_ hk => ⟨hk.1.1.1.1.1.1.1.2, ⟨hk.1.1.1.1.1.1.2, ⟨hk.1.1.1.1.1.2, ⟨hk.1.1.1.1.2, ⟨hk.1.1.1.2, ⟨hk.1.1.2, ⟨hk.1.2, hk.2⟩⟩⟩⟩⟩⟩⟩))).2.1 (Kd.R_F (Kd.R_mono (ok' := (fun k_ => some k_ ≠ (.slice Ao18 t487.length co18 : Value).ownBlock ∧ some k_ ≠ (.slice Ao111 t530.length co111 : Value).ownBlock ∧ some k_ ≠ (.slice Ao117 t536.length co117 : Value).ownBlock ∧ some k_ ≠ (.slice Ao140 t541.length co140 : Value).ownBlock ∧ some k_ ≠ (.slice Ao141 t545.length co141 : Value).ownBlock ∧ k_ ≠ gb490 ∧ k_ ≠ gb534 ∧ k_ ≠ gb540)) (Kd.R_types (Kd.R_types (Kd.R_types (Kd.R_apart' (Kd.R_apart' (HO551.out) (Kd.N_typed HO543.out) (by decide)) (Kd.N_typed HO547.out) (by decide)) BK490.out (by decide)) BK534.out (by decide)) BK540.out (by decide)) (fun k_ hk => ⟨hk.1.1.1.1.1.1.1.2, ⟨hk.1.1.1.1.1.1.2, ⟨hk.1.1.1.1.1.2, ⟨hk.1.1.1.1.2, ⟨hk.1.1.1.2, ⟨hk.1.1.2, ⟨hk.1.2, hk.2⟩⟩⟩⟩⟩⟩⟩))))) (Reps.none _ _))); intro v553 w145 ho146 hb hg_ hnew_; clear hg_ hnew_; (first | rw [← Ny552.out] at ho146 | (simp only [Int.reduceToNat] at ho146; rw [← Ny552.out] at ho146)); have n0_ := Aside0.mk (Kd.R_below Z11 hb); have n1_ := Aside0.mk (Kd.R_below Z47 hb); have n2_ := Aside0.mk (Kd.R_below Z61 hb); have n3_ := Aside0.mk (Kd.N_elder' Z72 (Kd.N_base ho146) hb); have n4_ := Aside0.mk (Kd.N_elder' Z127 (Kd.N_base ho146) hb); have n5_ := Aside0.mk (Kd.N_lower ho146 (below_size Z7)); have n6_ := Aside0.mk (blk_below (g := gb490) (o := .cells #[.int .i64 t486, .slice Ao18 t487.length co18] 51 (0, 0)) Z8 hb); have n7_ := Aside0.mk (blk_below (g := gb534) (o := .cells #[.int .i64 t529, .slice Ao111 t530.length co111] 51 (0, 0)) Z14 hb); have n8_ := Aside0.mk (blk_below (g := gb540) (o := .cells #[.int .i64 t535, .slice Ao117 t536.length co117] 51 (0, 0)) Z15 hb); have n9_ := Aside0.mk (below_step Z7 hb); clear HO_491001 HO532 HO538 HO543 HO547 BK490 BK534 BK540 HB HO551; revert n0_ n1_ n2_ n3_ n4_ n5_ n6_ n7_ n8_ n9_; intro HO_491001 HO532 HO538 HO543 HO547 HO554 BK490 BK534 BK540 HB; clear hb ho146; obtain ⟨Ao147, co147, eo147⟩ := Kd.N_slice HO554.out; subst eo147) | (go_at_call 60; (with_reducible refine (laws_fRows.calls kj48 _ _ t541 _ _ y552 t555 _ ?side1 ?side2 ?side3 ?side4 A132.out).mono ?_); (case side1 => exact Z134); (case side2 => exact (Kd.N_reads' HO543.out).2.1); (case side3 => repeat (first | exact (Kd.N_reads' HO554.out).2.2 | (with_reducible refine Kd.C_alloc ?_ _) | (with_reducible refine Kd.C_drewN ?_ _) | (with_reducible refine Kd.C_drew ?_))); (case side4 => exact (Kd.N_reads' HO554.out).2.1); rintro e w' ⟨rfl, ⟨nd, rfl⟩⟩; (try first | exact ⟨rfl, _, World.drewN_drewN _ _ _⟩ | exact ⟨rfl, _, Eq.trans (World.drewN_drewN _ _ _) (congrArg (World.drewN _) (Nat.add_assoc _ _ _))⟩)))
                  go_meet
                  case rel => exact ⟨_, (!t555), Z3, H', ⟨by have := HJ13.out; have := HJ48.out; first | omega | exact Nat.le_refl _⟩, ⟨by (with_reducible repeat (first | apply Kd.R_alloc | apply Kd.R_drewN | apply Kd.R_drew)); exact Kd.R_mono HO_491001.out (fun _ hk => ⟨hk.1.1.2, hk.1.2⟩)⟩, ⟨by (with_reducible repeat (first | apply Kd.R_alloc | apply Kd.R_drewN | apply Kd.R_drew)); exact Kd.R_mono HO532.out (fun _ hk => ⟨hk.1.1.2, hk.1.2⟩)⟩, ⟨by (with_reducible repeat (first | apply Kd.R_alloc | apply Kd.R_drewN | apply Kd.R_drew)); exact Kd.R_mono HO538.out (fun _ hk => ⟨hk.1.1.2, hk.1.2⟩)⟩, ⟨by (with_reducible repeat (first | refine blk_drewN ?_ _ | refine blk_drew ?_ | refine blk_alloc ?_ _)); exact BK490.out⟩, ⟨by (with_reducible repeat (first | refine blk_drewN ?_ _ | refine blk_drew ?_ | refine blk_alloc ?_ _)); exact BK534.out⟩, ⟨by (with_reducible repeat (first | refine blk_drewN ?_ _ | refine blk_drew ?_ | refine blk_alloc ?_ _)); exact BK540.out⟩, ⟨by repeat (first | (with_reducible first | exact HB.out | apply below_alloc | apply pw_below_drewN | apply below_drew1 | refine below_set ?_ GE490.out | refine below_set ?_ GE534.out | refine below_set ?_ GE540.out) | exact HB.out)⟩⟩
                 ·
                  replace c131 := Bool.eq_false_iff.mpr c131
                  subst c131
                  have H1 : (none) = some r := by rw [if_neg (show ¬ (false = true) by decide)] at H; exact H
                  clear H
                  have H := H1
                  clear H1
                  exact absurd H (by simp)
                ·
                 replace c128 := Bool.eq_false_iff.mpr c128
                 subst c128
                 have H1 : (none) = some r := by rw [if_neg (show ¬ (false = true) by decide)] at H; exact H
                 clear H
                 have H := H1
                 clear H1
                 exact absurd H (by simp)
              ·
               rw [if_neg c125] at H
               exact absurd H (by simp)
           ·
            rw [if_neg c122] at H
            exact absurd H (by simp)
       case rest =>
        as_aux_lemma =>
        clear HC101
        (try clear c1); (try clear p2); (try clear c3); (try clear c4); (try clear c5); (try clear c6); (try clear p6); (try clear c7); (try clear c8); (try clear c10); (try clear c11); (try clear c12); (try clear c13); (try clear c34); (try clear c34b0); (try clear c34b1); (try clear c34b2); (try clear c35); (try clear c35b0); (try clear c35b1); (try clear c36); (try clear c36b0); (try clear c36b1); (try clear c36b2); (try clear c37); (try clear c37b0); (try clear c37b1); (try clear c38); (try clear c38b0); (try clear c38b1); (try clear c38b2); (try clear c39); (try clear c39b0); (try clear c39b1); (try clear c39b2); (try clear c40); (try clear c40b0); (try clear c40b1); (try clear c40b2); (try clear c41); (try clear c41b0); (try clear c41b1); (try clear c41b2); (try clear c43); (try clear c43b0); (try clear c43b1); (try clear c43b2); (try clear c44); (try clear c44b0); (try clear c44b1); (try clear c44b2); (try clear c45); (try clear c45b0); (try clear c45b1); (try clear c45b2); (try clear c48); (try clear c50); (try clear c52); (try clear c52b0); (try clear c54); (try clear c54b0); (try clear c54b1); (try clear c55); (try clear c55b0); (try clear c55b1); (try clear c56); (try clear c56b0); (try clear c56b1); (try clear c57); (try clear c57b0); (try clear c58); (try clear c58b0); (try clear c59); (try clear c59b0); (try clear c60); (try clear c60b0); (try clear c63); (try clear c63b0); (try clear c64); (try clear c64b0); (try clear p64); (try clear c67); (try clear c67b0); (try clear c67b1); (try clear c68); (try clear c68b0); (try clear c69); (try clear c69b0); (try clear c70); (try clear c70b0); (try clear c71); (try clear c71b0); (try clear c74); (try clear c74b0); (try clear c75); (try clear c75b0); (try clear c78); (try clear c80); (try clear c82); (try clear c85); (try clear c109); (try clear c114); (try clear c115); (try clear c119); (try clear c119b0); (try clear c119b1); (try clear c119b2); (try clear c120); (try clear c120b0); (try clear c120b1); (try clear c120b2); (try clear c121); (try clear c121b0); (try clear c121b1); (try clear c121b2); (try clear c122); (try clear c122b0); (try clear c122b1); (try clear c123); (try clear c123b0); (try clear c123b1); (try clear c123b2); (try clear c124); (try clear c124b0); (try clear c124b1); (try clear c124b2); (try clear c125); (try clear c125b0); (try clear c125b1); (try clear c126); (try clear c126b0); (try clear c126b1); (try clear c126b2); (try clear c128); (try clear c131); (try clear c133); (try clear c134); (try clear c136); (try clear hcz110_0); (try clear hcz110_1); (try clear hcz116_0); (try clear hcz116_1); (try clear hcz135_0); (try clear hcz135_1); (try clear hcz137_0); (try clear hcz137_1); (try clear hcz17_0); (try clear hcz17_1); (try clear hcz20_0); (try clear hcz20_1); (try clear hcz22_0); (try clear hcz22_1); (try clear hcz24_0); (try clear hcz24_1); (try clear hcz26_0); (try clear hcz26_1); (try clear hcz28_0); (try clear hcz28_1); (try clear hcz30_0); (try clear hcz30_1); (try clear hcz32_0); (try clear hcz32_1); (try clear hcz46_0); (try clear hcz46_1); (try clear hcz51_0); (try clear hcz51_1); (try clear hcz61_0); (try clear hcz61_1); (try clear hcz62_0); (try clear hcz62_1); (try clear hcz65_0); (try clear hcz65_1); (try clear hcz66_0); (try clear hcz66_1); (try clear hcz72_0); (try clear hcz72_1); (try clear hcz73_0); (try clear hcz73_1); (try clear hcz76_0); (try clear hcz76_1); (try clear hcz77_0); (try clear hcz77_1); (try clear hcz86_0); (try clear hcz86_1); (try clear hcz88_0); (try clear hcz88_1); (try clear hfz110_0); (try clear hfz110_1); (try clear hfz116_0); (try clear hfz116_1); (try clear hfz135_0); (try clear hfz135_1); (try clear hfz137_0); (try clear hfz137_1); (try clear hfz17_0); (try clear hfz17_1); (try clear hfz20_0); (try clear hfz20_1); (try clear hfz22_0); (try clear hfz22_1); (try clear hfz24_0); (try clear hfz24_1); (try clear hfz26_0); (try clear hfz26_1); (try clear hfz28_0); (try clear hfz28_1); (try clear hfz30_0); (try clear hfz30_1); (try clear hfz32_0); (try clear hfz32_1); (try clear hfz46_0); (try clear hfz46_1); (try clear hfz51_0); (try clear hfz51_1); (try clear hfz61_0); (try clear hfz61_1); (try clear hfz62_0); (try clear hfz62_1); (try clear hfz65_0); (try clear hfz65_1); (try clear hfz66_0); (try clear hfz66_1); (try clear hfz72_0); (try clear hfz72_1); (try clear hfz73_0); (try clear hfz73_1); (try clear hfz76_0); (try clear hfz76_1); (try clear hfz77_0); (try clear hfz77_1); (try clear hfz86_0); (try clear hfz86_1); (try clear hfz88_0); (try clear hfz88_1); (try clear p2); (try clear p6); (try clear p64)
        obtain ⟨kq, x319_100, rfl, HA, HJ100, HO_491001, HO_535001, HO_541001, BK490, BK534, BK540, HB⟩ := hcut
        cases kq with
        | zero => exact absurd HA.out (by simp [laws_FnChecksDoubled.j4])
        | succ kj100 =>
         have H := HA.out
         clear HA
         simp only [laws_FnChecksDoubled.j4] at H
         by_cases c148 : x319_100 = true
         ·
          subst c148
          have H1 : (none) = some r := by rw [if_pos rfl] at H; exact H
          clear H
          have H := H1
          clear H1
          exact absurd H (by simp)
         ·
          replace c148 := Bool.eq_false_iff.mpr c148
          subst c148
          have H1 : (if t517 = true then (if (t516 != ((Int.tmod t520 10) == 0)) = true then (none) else (if t520 < 0 then (none) else (laws_FnChecksDoubled.j5 kj100 t515 t516 t524 t525 t528 t533 (decide (t520 > (wrap64 (9 * (t515.size : Int))))) t529 t530))) else (laws_FnChecksDoubled.j7 kj100 t515 t524 t525 t528 t533 t529 t530)) = some r := by rw [if_neg (show ¬ (false = true) by decide)] at H; exact H
          clear H
          have H := H1
          clear H1
          have HC149 := Aside0.mk H
          clear H
          go_upto_if 320 with (fail)
          repeat (go_quiet (fail); go_upto_if 320 with (fail))
          go_cut [] from 1 to 0 (fun wc => ∃ (kq : Nat), Aside0 (laws_FnChecksDoubled.j7 kq t515 t524 t525 t528 t533 t529 t530 = some r) ∧ Aside0 (kq ≤ kj100) ∧ Aside0 (Kd.R (Kd.int .i64) 3 wc w.heap.size (fun k_ => some k_ ≠ ((.slice Ao111 t530.length co111) : Value).ownBlock ∧ some k_ ≠ ((.slice Ao117 t536.length co117) : Value).ownBlock) (.slice Ao18 t487.length co18) t487) ∧ Aside0 (Kd.R (Kd.int .i64) 3 wc w.heap.size (fun k_ => some k_ ≠ ((.slice Ao18 t487.length co18) : Value).ownBlock ∧ some k_ ≠ ((.slice Ao117 t536.length co117) : Value).ownBlock) (.slice Ao111 t530.length co111) t530) ∧ Aside0 (Kd.R (Kd.int .i64) 3 wc w.heap.size (fun k_ => some k_ ≠ ((.slice Ao18 t487.length co18) : Value).ownBlock ∧ some k_ ≠ ((.slice Ao111 t530.length co111) : Value).ownBlock) (.slice Ao117 t536.length co117) t536) ∧ Aside0 (wc.heap[gb490]? = some (.cells #[.int .i64 t486, (.slice Ao18 t487.length co18)] 51 (0, 0))) ∧ Aside0 (wc.heap[gb534]? = some (.cells #[.int .i64 t529, (.slice Ao111 t530.length co111)] 51 (0, 0))) ∧ Aside0 (wc.heap[gb540]? = some (.cells #[.int .i64 t535, (.slice Ao117 t536.length co117)] 51 (0, 0))) ∧ Aside0 (Below w.heap.size w wc))
          case first =>
           as_aux_lemma =>
           have H := HC149.out
           clear HC149
           by_cases c150 : t517 = true
           ·
            subst c150
            have H1 : (if (t516 != ((Int.tmod t520 10) == 0)) = true then (none) else (if t520 < 0 then (none) else (laws_FnChecksDoubled.j5 kj100 t515 t516 t524 t525 t528 t533 (decide (t520 > (wrap64 (9 * (t515.size : Int))))) t529 t530))) = some r := by rw [if_pos rfl] at H; exact H
            clear H
            have H := H1
            clear H1
            have HC151 := Aside0.mk H
            clear H
            go_upto_region 39 with (fail)
            repeat (go_quiet (fail); go_upto_region 39 with (fail))
            go_cut [336] from 1 to 0 (fun v336 wc => ∃ (kq : Nat) (x336_150 : Bool), v336 = .bool x336_150 ∧ Aside0 (laws_FnChecksDoubled.j5 kq t515 t516 t524 t525 t528 t533 x336_150 t529 t530 = some r) ∧ Aside0 (kq ≤ kj100) ∧ Aside0 (Kd.R (Kd.int .i64) 3 wc w.heap.size (fun k_ => some k_ ≠ ((.slice Ao111 t530.length co111) : Value).ownBlock ∧ some k_ ≠ ((.slice Ao117 t536.length co117) : Value).ownBlock) (.slice Ao18 t487.length co18) t487) ∧ Aside0 (Kd.R (Kd.int .i64) 3 wc w.heap.size (fun k_ => some k_ ≠ ((.slice Ao18 t487.length co18) : Value).ownBlock ∧ some k_ ≠ ((.slice Ao117 t536.length co117) : Value).ownBlock) (.slice Ao111 t530.length co111) t530) ∧ Aside0 (Kd.R (Kd.int .i64) 3 wc w.heap.size (fun k_ => some k_ ≠ ((.slice Ao18 t487.length co18) : Value).ownBlock ∧ some k_ ≠ ((.slice Ao111 t530.length co111) : Value).ownBlock) (.slice Ao117 t536.length co117) t536) ∧ Aside0 (wc.heap[gb490]? = some (.cells #[.int .i64 t486, (.slice Ao18 t487.length co18)] 51 (0, 0))) ∧ Aside0 (wc.heap[gb534]? = some (.cells #[.int .i64 t529, (.slice Ao111 t530.length co111)] 51 (0, 0))) ∧ Aside0 (wc.heap[gb540]? = some (.cells #[.int .i64 t535, (.slice Ao117 t536.length co117)] 51 (0, 0))) ∧ Aside0 (Below w.heap.size w wc))
            case first =>
             as_aux_lemma =>
             have H := HC151.out
             clear HC151
             by_cases c152 : (t516 != ((Int.tmod t520 10) == 0)) = true
             ·
              rw [if_pos c152] at H
              exact absurd H (by simp)
             ·
              rw [if_neg c152] at H
              have c152b0 : (t516 != ((Int.tmod t520 10) == 0)) = false := by simpa using c152
              (try (have c152b1 : decide (t516 = ((Int.tmod t520 10) == 0)) = true := by simpa using c152))
              (try (have c152b2 : (t516 == ((Int.tmod t520 10) == 0)) = true := by simpa using c152))
              clear c152
              (first | rw [c152b0] | (simp only [i64_w, i32_w]; rw [c152b0]) | skip)
              by_cases c153 : t520 < 0
              ·
               rw [if_pos c153] at H
               exact absurd H (by simp)
              ·
               rw [if_neg c153] at H
               have c153b0 : decide (t520 < 0) = false := decide_eq_false c153
               clear c153
               as_aux_lemma =>
               have H' := Aside0.mk H
               clear H
               go_wp2
               repeat (go_quiet (fail); try go_wp2)
               go_meet
               case rel => exact ⟨_, (decide (t520 > (wrap64 (9 * (t515.size : Int))))), Z3, H', ⟨by have := HJ13.out; have := HJ48.out; have := HJ100.out; first | omega | exact Nat.le_refl _⟩, ⟨by (with_reducible repeat (first | apply Kd.R_alloc | apply Kd.R_drewN | apply Kd.R_drew)); exact HO_491001.out⟩, ⟨by (with_reducible repeat (first | apply Kd.R_alloc | apply Kd.R_drewN | apply Kd.R_drew)); exact HO_535001.out⟩, ⟨by (with_reducible repeat (first | apply Kd.R_alloc | apply Kd.R_drewN | apply Kd.R_drew)); exact HO_541001.out⟩, ⟨by (with_reducible repeat (first | refine blk_drewN ?_ _ | refine blk_drew ?_ | refine blk_alloc ?_ _)); exact BK490.out⟩, ⟨by (with_reducible repeat (first | refine blk_drewN ?_ _ | refine blk_drew ?_ | refine blk_alloc ?_ _)); exact BK534.out⟩, ⟨by (with_reducible repeat (first | refine blk_drewN ?_ _ | refine blk_drew ?_ | refine blk_alloc ?_ _)); exact BK540.out⟩, ⟨by repeat (first | (with_reducible first | exact HB.out | apply below_alloc | apply pw_below_drewN | apply below_drew1 | refine below_set ?_ GE490.out | refine below_set ?_ GE534.out | refine below_set ?_ GE540.out) | exact HB.out)⟩⟩
            case rest =>
             as_aux_lemma =>
             clear HC151
             (try clear c1); (try clear p2); (try clear c3); (try clear c4); (try clear c5); (try clear c6); (try clear p6); (try clear c7); (try clear c8); (try clear c10); (try clear c11); (try clear c12); (try clear c13); (try clear c14); (try clear c15); (try clear c34); (try clear c34b0); (try clear c34b1); (try clear c34b2); (try clear c35); (try clear c35b0); (try clear c35b1); (try clear c36); (try clear c36b0); (try clear c36b1); (try clear c36b2); (try clear c37); (try clear c37b0); (try clear c37b1); (try clear c38); (try clear c38b0); (try clear c38b1); (try clear c38b2); (try clear c39); (try clear c39b0); (try clear c39b1); (try clear c39b2); (try clear c40); (try clear c40b0); (try clear c40b1); (try clear c40b2); (try clear c41); (try clear c41b0); (try clear c41b1); (try clear c41b2); (try clear c43); (try clear c43b0); (try clear c43b1); (try clear c43b2); (try clear c44); (try clear c44b0); (try clear c44b1); (try clear c44b2); (try clear c45); (try clear c45b0); (try clear c45b1); (try clear c45b2); (try clear c48); (try clear c50); (try clear c52); (try clear c52b0); (try clear c54); (try clear c54b0); (try clear c54b1); (try clear c55); (try clear c55b0); (try clear c55b1); (try clear c56); (try clear c56b0); (try clear c56b1); (try clear c57); (try clear c57b0); (try clear c58); (try clear c58b0); (try clear c59); (try clear c59b0); (try clear c60); (try clear c60b0); (try clear c63); (try clear c63b0); (try clear c64); (try clear c64b0); (try clear p64); (try clear c67); (try clear c67b0); (try clear c67b1); (try clear c68); (try clear c68b0); (try clear c69); (try clear c69b0); (try clear c70); (try clear c70b0); (try clear c71); (try clear c71b0); (try clear c74); (try clear c74b0); (try clear c75); (try clear c75b0); (try clear c78); (try clear c80); (try clear c82); (try clear c85); (try clear c109); (try clear c114); (try clear c115); (try clear c119); (try clear c119b0); (try clear c119b1); (try clear c119b2); (try clear c120); (try clear c120b0); (try clear c120b1); (try clear c120b2); (try clear c121); (try clear c121b0); (try clear c121b1); (try clear c121b2); (try clear c122); (try clear c122b0); (try clear c122b1); (try clear c123); (try clear c123b0); (try clear c123b1); (try clear c123b2); (try clear c124); (try clear c124b0); (try clear c124b1); (try clear c124b2); (try clear c125); (try clear c125b0); (try clear c125b1); (try clear c126); (try clear c126b0); (try clear c126b1); (try clear c126b2); (try clear c128); (try clear c131); (try clear c133); (try clear c134); (try clear c136); (try clear c148); (try clear c150); (try clear c152); (try clear c152b0); (try clear c152b1); (try clear c152b2); (try clear c153); (try clear c153b0); (try clear hcz110_0); (try clear hcz110_1); (try clear hcz116_0); (try clear hcz116_1); (try clear hcz135_0); (try clear hcz135_1); (try clear hcz137_0); (try clear hcz137_1); (try clear hcz17_0); (try clear hcz17_1); (try clear hcz20_0); (try clear hcz20_1); (try clear hcz22_0); (try clear hcz22_1); (try clear hcz24_0); (try clear hcz24_1); (try clear hcz26_0); (try clear hcz26_1); (try clear hcz28_0); (try clear hcz28_1); (try clear hcz30_0); (try clear hcz30_1); (try clear hcz32_0); (try clear hcz32_1); (try clear hcz46_0); (try clear hcz46_1); (try clear hcz51_0); (try clear hcz51_1); (try clear hcz61_0); (try clear hcz61_1); (try clear hcz62_0); (try clear hcz62_1); (try clear hcz65_0); (try clear hcz65_1); (try clear hcz66_0); (try clear hcz66_1); (try clear hcz72_0); (try clear hcz72_1); (try clear hcz73_0); (try clear hcz73_1); (try clear hcz76_0); (try clear hcz76_1); (try clear hcz77_0); (try clear hcz77_1); (try clear hcz86_0); (try clear hcz86_1); (try clear hcz88_0); (try clear hcz88_1); (try clear hfz110_0); (try clear hfz110_1); (try clear hfz116_0); (try clear hfz116_1); (try clear hfz135_0); (try clear hfz135_1); (try clear hfz137_0); (try clear hfz137_1); (try clear hfz17_0); (try clear hfz17_1); (try clear hfz20_0); (try clear hfz20_1); (try clear hfz22_0); (try clear hfz22_1); (try clear hfz24_0); (try clear hfz24_1); (try clear hfz26_0); (try clear hfz26_1); (try clear hfz28_0); (try clear hfz28_1); (try clear hfz30_0); (try clear hfz30_1); (try clear hfz32_0); (try clear hfz32_1); (try clear hfz46_0); (try clear hfz46_1); (try clear hfz51_0); (try clear hfz51_1); (try clear hfz61_0); (try clear hfz61_1); (try clear hfz62_0); (try clear hfz62_1); (try clear hfz65_0); (try clear hfz65_1); (try clear hfz66_0); (try clear hfz66_1); (try clear hfz72_0); (try clear hfz72_1); (try clear hfz73_0); (try clear hfz73_1); (try clear hfz76_0); (try clear hfz76_1); (try clear hfz77_0); (try clear hfz77_1); (try clear hfz86_0); (try clear hfz86_1); (try clear hfz88_0); (try clear hfz88_1); (try clear p2); (try clear p6); (try clear p64)
             obtain ⟨kq, x336_150, rfl, HA, HJ150, HO_491001, HO_535001, HO_541001, BK490, BK534, BK540, HB⟩ := hcut
             cases kq with
             | zero => exact absurd HA.out (by simp [laws_FnChecksDoubled.j5])
             | succ kj150 =>
              have H := HA.out
              clear HA
              simp only [laws_FnChecksDoubled.j5] at H
              by_cases c154 : x336_150 = true
              ·
               subst c154
               have H1 : (none) = some r := by rw [if_pos rfl] at H; exact H
               clear H
               have H := H1
               clear H1
               exact absurd H (by simp)
              ·
               replace c154 := Bool.eq_false_iff.mpr c154
               subst c154
               have H1 : (if t516 = true then (laws_FnChecksDoubled.l1 kj150 t515 t524 t525 t528 t533 1 t529 t530) else (laws_FnChecksDoubled.j7 kj150 t515 t524 t525 t528 t533 t529 t530)) = some r := by rw [if_neg (show ¬ (false = true) by decide)] at H; exact H
               clear H
               have H := H1
               clear H1
               by_cases c155 : t516 = true
               ·
                subst c155
                have H1 : (laws_FnChecksDoubled.l1 kj150 t515 t524 t525 t528 t533 1 t529 t530) = some r := by rw [if_pos rfl] at H; exact H
                clear H
                have H := H1
                clear H1
                as_aux_lemma =>
                have H' := Aside0.mk H
                clear H
                go_wp2
                repeat (go_quiet (fail); try go_wp2)
                go_loopg [44] kj150 (fun kq v44 w' => ∃ (x44_5 : Int), v44 = .int .i64 x44_5 ∧ Aside0 (laws_FnChecksDoubled.l1 kq t515 t524 t525 t528 t533 x44_5 t529 t530 = some r) ∧ Aside0 (kq ≤ kj150) ∧ Aside0 (Kd.R (Kd.int .i64) 3 w' w.heap.size (fun k_ => some k_ ≠ ((.slice Ao111 t530.length co111) : Value).ownBlock ∧ some k_ ≠ ((.slice Ao117 t536.length co117) : Value).ownBlock) (.slice Ao18 t487.length co18) t487) ∧ Aside0 (Kd.R (Kd.int .i64) 3 w' w.heap.size (fun k_ => some k_ ≠ ((.slice Ao18 t487.length co18) : Value).ownBlock ∧ some k_ ≠ ((.slice Ao117 t536.length co117) : Value).ownBlock) (.slice Ao111 t530.length co111) t530) ∧ Aside0 (Kd.R (Kd.int .i64) 3 w' w.heap.size (fun k_ => some k_ ≠ ((.slice Ao18 t487.length co18) : Value).ownBlock ∧ some k_ ≠ ((.slice Ao111 t530.length co111) : Value).ownBlock) (.slice Ao117 t536.length co117) t536) ∧ Aside0 (w'.heap[gb490]? = some (.cells #[.int .i64 t486, (.slice Ao18 t487.length co18)] 51 (0, 0))) ∧ Aside0 (w'.heap[gb534]? = some (.cells #[.int .i64 t529, (.slice Ao111 t530.length co111)] 51 (0, 0))) ∧ Aside0 (w'.heap[gb540]? = some (.cells #[.int .i64 t535, (.slice Ao117 t536.length co117)] 51 (0, 0))) ∧ Aside0 (Below w.heap.size w w'))
                case atStart => exact ⟨(1), Z3, H', ⟨Nat.le_refl _⟩, ⟨by (with_reducible repeat (first | apply Kd.R_alloc | apply Kd.R_drewN | apply Kd.R_drew)); exact HO_491001.out⟩, ⟨by (with_reducible repeat (first | apply Kd.R_alloc | apply Kd.R_drewN | apply Kd.R_drew)); exact HO_535001.out⟩, ⟨by (with_reducible repeat (first | apply Kd.R_alloc | apply Kd.R_drewN | apply Kd.R_drew)); exact HO_541001.out⟩, ⟨by (with_reducible repeat (first | refine blk_drewN ?_ _ | refine blk_drew ?_ | refine blk_alloc ?_ _)); exact BK490.out⟩, ⟨by (with_reducible repeat (first | refine blk_drewN ?_ _ | refine blk_drew ?_ | refine blk_alloc ?_ _)); exact BK534.out⟩, ⟨by (with_reducible repeat (first | refine blk_drewN ?_ _ | refine blk_drew ?_ | refine blk_alloc ?_ _)); exact BK540.out⟩, ⟨by repeat (first | (with_reducible first | exact HB.out | apply below_alloc | apply pw_below_drewN | apply below_drew1 | refine below_set ?_ GE490.out | refine below_set ?_ GE534.out | refine below_set ?_ GE540.out) | exact HB.out)⟩⟩
                case round =>
                 as_aux_lemma =>
                 clear H'
                 (try clear c1); (try clear p2); (try clear c3); (try clear c4); (try clear c5); (try clear c6); (try clear p6); (try clear c7); (try clear c8); (try clear c10); (try clear c11); (try clear c12); (try clear c13); (try clear c14); (try clear c15); (try clear c34); (try clear c34b0); (try clear c34b1); (try clear c34b2); (try clear c35); (try clear c35b0); (try clear c35b1); (try clear c36); (try clear c36b0); (try clear c36b1); (try clear c36b2); (try clear c37); (try clear c37b0); (try clear c37b1); (try clear c38); (try clear c38b0); (try clear c38b1); (try clear c38b2); (try clear c39); (try clear c39b0); (try clear c39b1); (try clear c39b2); (try clear c40); (try clear c40b0); (try clear c40b1); (try clear c40b2); (try clear c41); (try clear c41b0); (try clear c41b1); (try clear c41b2); (try clear c43); (try clear c43b0); (try clear c43b1); (try clear c43b2); (try clear c44); (try clear c44b0); (try clear c44b1); (try clear c44b2); (try clear c45); (try clear c45b0); (try clear c45b1); (try clear c45b2); (try clear c48); (try clear c50); (try clear c52); (try clear c52b0); (try clear c54); (try clear c54b0); (try clear c54b1); (try clear c55); (try clear c55b0); (try clear c55b1); (try clear c56); (try clear c56b0); (try clear c56b1); (try clear c57); (try clear c57b0); (try clear c58); (try clear c58b0); (try clear c59); (try clear c59b0); (try clear c60); (try clear c60b0); (try clear c63); (try clear c63b0); (try clear c64); (try clear c64b0); (try clear p64); (try clear c67); (try clear c67b0); (try clear c67b1); (try clear c68); (try clear c68b0); (try clear c69); (try clear c69b0); (try clear c70); (try clear c70b0); (try clear c71); (try clear c71b0); (try clear c74); (try clear c74b0); (try clear c75); (try clear c75b0); (try clear c78); (try clear c80); (try clear c82); (try clear c85); (try clear c109); (try clear c114); (try clear c115); (try clear c119); (try clear c119b0); (try clear c119b1); (try clear c119b2); (try clear c120); (try clear c120b0); (try clear c120b1); (try clear c120b2); (try clear c121); (try clear c121b0); (try clear c121b1); (try clear c121b2); (try clear c122); (try clear c122b0); (try clear c122b1); (try clear c123); (try clear c123b0); (try clear c123b1); (try clear c123b2); (try clear c124); (try clear c124b0); (try clear c124b1); (try clear c124b2); (try clear c125); (try clear c125b0); (try clear c125b1); (try clear c126); (try clear c126b0); (try clear c126b1); (try clear c126b2); (try clear c128); (try clear c131); (try clear c133); (try clear c134); (try clear c136); (try clear c148); (try clear c150); (try clear c152); (try clear c152b0); (try clear c152b1); (try clear c152b2); (try clear c153); (try clear c153b0); (try clear c154); (try clear c155); (try clear hcz110_0); (try clear hcz110_1); (try clear hcz116_0); (try clear hcz116_1); (try clear hcz135_0); (try clear hcz135_1); (try clear hcz137_0); (try clear hcz137_1); (try clear hcz17_0); (try clear hcz17_1); (try clear hcz20_0); (try clear hcz20_1); (try clear hcz22_0); (try clear hcz22_1); (try clear hcz24_0); (try clear hcz24_1); (try clear hcz26_0); (try clear hcz26_1); (try clear hcz28_0); (try clear hcz28_1); (try clear hcz30_0); (try clear hcz30_1); (try clear hcz32_0); (try clear hcz32_1); (try clear hcz46_0); (try clear hcz46_1); (try clear hcz51_0); (try clear hcz51_1); (try clear hcz61_0); (try clear hcz61_1); (try clear hcz62_0); (try clear hcz62_1); (try clear hcz65_0); (try clear hcz65_1); (try clear hcz66_0); (try clear hcz66_1); (try clear hcz72_0); (try clear hcz72_1); (try clear hcz73_0); (try clear hcz73_1); (try clear hcz76_0); (try clear hcz76_1); (try clear hcz77_0); (try clear hcz77_1); (try clear hcz86_0); (try clear hcz86_1); (try clear hcz88_0); (try clear hcz88_1); (try clear hfz110_0); (try clear hfz110_1); (try clear hfz116_0); (try clear hfz116_1); (try clear hfz135_0); (try clear hfz135_1); (try clear hfz137_0); (try clear hfz137_1); (try clear hfz17_0); (try clear hfz17_1); (try clear hfz20_0); (try clear hfz20_1); (try clear hfz22_0); (try clear hfz22_1); (try clear hfz24_0); (try clear hfz24_1); (try clear hfz26_0); (try clear hfz26_1); (try clear hfz28_0); (try clear hfz28_1); (try clear hfz30_0); (try clear hfz30_1); (try clear hfz32_0); (try clear hfz32_1); (try clear hfz46_0); (try clear hfz46_1); (try clear hfz51_0); (try clear hfz51_1); (try clear hfz61_0); (try clear hfz61_1); (try clear hfz62_0); (try clear hfz62_1); (try clear hfz65_0); (try clear hfz65_1); (try clear hfz66_0); (try clear hfz66_1); (try clear hfz72_0); (try clear hfz72_1); (try clear hfz73_0); (try clear hfz73_1); (try clear hfz76_0); (try clear hfz76_1); (try clear hfz77_0); (try clear hfz77_1); (try clear hfz86_0); (try clear hfz86_1); (try clear hfz88_0); (try clear hfz88_1); (try clear p2); (try clear p6); (try clear p64)
                 obtain ⟨x44_5, rfl, HA, HK5, HO_491001, HO_535001, HO_541001, BK490, BK534, BK540, HB⟩ := hrel
                 cases gk with
                 | zero => exact absurd HA.out (by simp [laws_FnChecksDoubled.l1])
                 | succ k5 =>
                  have H := HA.out
                  clear HA
                  simp only [laws_FnChecksDoubled.l1] at H
                  by_cases c156 : x44_5 < (t515.size : Int)
                  ·
                   rw [if_pos c156] at H
                   have c156b0 : decide (x44_5 < (t515.size : Int)) = true := decide_eq_true c156
                   clear c156
                   obtain ⟨ji157, hji157⟩ : ∃ j_ : Int, (wrap64 (x44_5 - 1)) = j_ := ⟨_, rfl⟩
                   replace H : (if 0 ≤ (ji157) then (if (ji157) < (t515.size : Int) then (if 0 ≤ x44_5 then (if (bt t515 (ji157)) = (bt t515 x44_5) then (laws_FnChecksDoubled.l1 k5 t515 t524 t525 t528 t533 (wrap64 (x44_5 + 1)) t529 t530) else (if (ji157) ≤ (t515.size : Int) then (if x44_5 ≤ (wrap64 (x44_5 + 1)) then (if (wrap64 (x44_5 + 1)) ≤ (t515.size : Int) then (if (t515.extract 0 ((ji157) : Int).toNat).size + (t515.extract (x44_5 : Int).toNat ((wrap64 (x44_5 + 1)) : Int).toNat).size ≤ 9223372036854775807 then (if (ji157) ≤ x44_5 then (if x44_5 ≤ (t515.size : Int) then (if ((t515.extract 0 ((ji157) : Int).toNat) ++ (t515.extract (x44_5 : Int).toNat ((wrap64 (x44_5 + 1)) : Int).toNat)).size + (t515.extract ((ji157) : Int).toNat (x44_5 : Int).toNat).size ≤ 9223372036854775807 then (if 0 ≤ (wrap64 (x44_5 + 1)) then (if (((t515.extract 0 ((ji157) : Int).toNat) ++ (t515.extract (x44_5 : Int).toNat ((wrap64 (x44_5 + 1)) : Int).toNat)) ++ (t515.extract ((ji157) : Int).toNat (x44_5 : Int).toNat)).size + (t515.extract ((wrap64 (x44_5 + 1)) : Int).toNat t515.size).size ≤ 9223372036854775807 then ((impl_IsDoubledRight.f k5 ((((t515.extract 0 ((ji157) : Int).toNat) ++ (t515.extract (x44_5 : Int).toNat ((wrap64 (x44_5 + 1)) : Int).toNat)) ++ (t515.extract ((ji157) : Int).toNat (x44_5 : Int).toNat)) ++ (t515.extract ((wrap64 (x44_5 + 1)) : Int).toNat t515.size))).bind fun bt556 => (if bt556.2 = true then (if (bt t515 (ji157)) = 48 then (if (bt t515 x44_5) = 57 then (if (bt556.1 != true) = true then (none) else (laws_FnChecksDoubled.l1 k5 t515 t524 t525 t528 t533 (wrap64 (x44_5 + 1)) t529 t530)) else (if (bt t515 (ji157)) = 57 then (if (bt556.1 != ((bt t515 x44_5) == 48)) = true then (none) else (laws_FnChecksDoubled.l1 k5 t515 t524 t525 t528 t533 (wrap64 (x44_5 + 1)) t529 t530)) else (if (bt556.1 != false) = true then (none) else (laws_FnChecksDoubled.l1 k5 t515 t524 t525 t528 t533 (wrap64 (x44_5 + 1)) t529 t530)))) else (if (bt t515 (ji157)) = 57 then (if (bt556.1 != ((bt t515 x44_5) == 48)) = true then (none) else (laws_FnChecksDoubled.l1 k5 t515 t524 t525 t528 t533 (wrap64 (x44_5 + 1)) t529 t530)) else (if (bt556.1 != false) = true then (none) else (laws_FnChecksDoubled.l1 k5 t515 t524 t525 t528 t533 (wrap64 (x44_5 + 1)) t529 t530)))) else (none))) else (none)) else (none)) else (none)) else (none)) else (none)) else (none)) else (none)) else (none)) else (none))) else (none)) else (none)) else (none)) = some r := by first | (rw [hji157] at H; exact H) | (simp only [hji157] at H ⊢; exact H)
                   have hji157w : (IntKind.i64.wrap (x44_5 - 1)) = ji157 := (i64_w _).trans hji157
                   by_cases c158 : 0 ≤ (ji157)
                   ·
                    rw [if_pos c158] at H
                    have c158b0 : decide (0 ≤ (ji157)) = true := decide_eq_true c158
                    clear c158
                    by_cases c159 : (ji157) < (t515.size : Int)
                    ·
                     rw [if_pos c159] at H
                     have c159b0 : decide ((ji157) < (t515.size : Int)) = true := decide_eq_true c159
                     clear c159
                     by_cases c161 : 0 ≤ x44_5
                     ·
                      rw [if_pos c161] at H
                      have c161b0 : decide (0 ≤ x44_5) = true := decide_eq_true c161
                      clear c161
                      by_cases c163 : (bt t515 (ji157)) = (bt t515 x44_5)
                      ·
                       rw [if_pos c163] at H
                       have c163b0 : ((bt t515 (ji157)) == (bt t515 x44_5)) = true := beq_iff_eq.mpr c163
                       have c163b1 : ((bt t515 (ji157)) != (bt t515 x44_5)) = false := bne_eq_false_iff_eq.mpr c163
                       clear c163
                       as_aux_lemma =>
                       have H' := Aside0.mk H
                       clear H
                       have p160 : 0 ≤ ((ji157) : Int) := Z2
                       have q160 : (ji157) < (t515.size : Int) := Z2
                       have hx160 := bt_at t515 (ji157)
                       replace p160 := eq_true p160
                       replace q160 := eq_true q160
                       have p162 : 0 ≤ (x44_5 : Int) := Z2
                       have q162 : x44_5 < (t515.size : Int) := Z2
                       have hx162 := bt_at t515 x44_5
                       replace p162 := eq_true p162
                       replace q162 := eq_true q162
                       go_wp2
                       repeat (go_quiet (fail); try go_wp2)
                       go_roundg k5
                       case measure => have := HJ13.out; have := HJ48.out; have := HJ100.out; have := HJ150.out; have := HK5.out; omega
                       case rel => exact ⟨(wrap64 (x44_5 + 1)), Z3, H', ⟨by have := HJ13.out; have := HJ48.out; have := HJ100.out; have := HJ150.out; have := HK5.out; omega⟩, ⟨by (with_reducible repeat (first | apply Kd.R_alloc | apply Kd.R_drewN | apply Kd.R_drew)); exact HO_491001.out⟩, ⟨by (with_reducible repeat (first | apply Kd.R_alloc | apply Kd.R_drewN | apply Kd.R_drew)); exact HO_535001.out⟩, ⟨by (with_reducible repeat (first | apply Kd.R_alloc | apply Kd.R_drewN | apply Kd.R_drew)); exact HO_541001.out⟩, ⟨by (with_reducible repeat (first | refine blk_drewN ?_ _ | refine blk_drew ?_ | refine blk_alloc ?_ _)); exact BK490.out⟩, ⟨by (with_reducible repeat (first | refine blk_drewN ?_ _ | refine blk_drew ?_ | refine blk_alloc ?_ _)); exact BK534.out⟩, ⟨by (with_reducible repeat (first | refine blk_drewN ?_ _ | refine blk_drew ?_ | refine blk_alloc ?_ _)); exact BK540.out⟩, ⟨by repeat (first | (with_reducible first | exact HB.out | apply below_alloc | apply pw_below_drewN | apply below_drew1 | refine below_set ?_ GE490.out | refine below_set ?_ GE534.out | refine below_set ?_ GE540.out) | exact HB.out)⟩⟩
                      ·
                       rw [if_neg c163] at H
                       have c163b0 : ((bt t515 (ji157)) == (bt t515 x44_5)) = false := beq_eq_false_iff_ne.mpr c163
                       have c163b1 : ((bt t515 (ji157)) != (bt t515 x44_5)) = true := bne_iff_ne.mpr c163
                       have c164b0 := eq_true (Z2 : 0 ≤ (ji157))
                       by_cases c165 : (ji157) ≤ (t515.size : Int)
                       ·
                        rw [if_pos c165] at H
                        have c165b0 := eq_true c165
                        have c165b1 : decide ((ji157) ≤ (t515.size : Int)) = true := decide_eq_true c165
                        clear c165
                        have c166b0 := eq_true (Z2 : 0 ≤ x44_5)
                        by_cases c167 : x44_5 ≤ (wrap64 (x44_5 + 1))
                        ·
                         rw [if_pos c167] at H
                         have c167b0 := eq_true c167
                         have c167b1 : decide (x44_5 ≤ (wrap64 (x44_5 + 1))) = true := decide_eq_true c167
                         by_cases c168 : (wrap64 (x44_5 + 1)) ≤ (t515.size : Int)
                         ·
                          rw [if_pos c168] at H
                          have c168b0 := eq_true c168
                          have c168b1 : decide ((wrap64 (x44_5 + 1)) ≤ (t515.size : Int)) = true := decide_eq_true c168
                          by_cases c169 : (t515.extract 0 ((ji157) : Int).toNat).size + (t515.extract (x44_5 : Int).toNat ((wrap64 (x44_5 + 1)) : Int).toNat).size ≤ 9223372036854775807
                          ·
                           rw [if_pos c169] at H
                           have c169b0 := eq_true c169
                           have c169b1 : decide ((t515.extract 0 ((ji157) : Int).toNat).size + (t515.extract (x44_5 : Int).toNat ((wrap64 (x44_5 + 1)) : Int).toNat).size ≤ 9223372036854775807) = true := decide_eq_true c169
                           try have c169b2 : (9223372036854775807 < (t515.extract 0 ((ji157) : Int).toNat).size + (t515.extract (x44_5 : Int).toNat ((wrap64 (x44_5 + 1)) : Int).toNat).size) = False := eq_false (Nat.not_lt.2 c169)
                           have c169b3 : ∀ z_ : Nat, z_ = (t515.extract 0 ((ji157) : Int).toNat).size + (t515.extract (x44_5 : Int).toNat ((wrap64 (x44_5 + 1)) : Int).toNat).size → (9223372036854775807 < z_) = False := fun z_ hz_ => by rw [hz_]; exact eq_false (Nat.not_lt.2 c169)
                           have c170b0 := eq_true (Z2 : 0 ≤ (ji157))
                           by_cases c171 : (ji157) ≤ x44_5
                           ·
                            rw [if_pos c171] at H
                            have c171b0 := eq_true c171
                            have c171b1 : decide ((ji157) ≤ x44_5) = true := decide_eq_true c171
                            clear c171
                            by_cases c172 : x44_5 ≤ (t515.size : Int)
                            ·
                             rw [if_pos c172] at H
                             have c172b0 := eq_true c172
                             have c172b1 : decide (x44_5 ≤ (t515.size : Int)) = true := decide_eq_true c172
                             clear c172
                             by_cases c173 : ((t515.extract 0 ((ji157) : Int).toNat) ++ (t515.extract (x44_5 : Int).toNat ((wrap64 (x44_5 + 1)) : Int).toNat)).size + (t515.extract ((ji157) : Int).toNat (x44_5 : Int).toNat).size ≤ 9223372036854775807
                             ·
                              rw [if_pos c173] at H
                              have c173b0 := eq_true c173
                              have c173b1 : decide (((t515.extract 0 ((ji157) : Int).toNat) ++ (t515.extract (x44_5 : Int).toNat ((wrap64 (x44_5 + 1)) : Int).toNat)).size + (t515.extract ((ji157) : Int).toNat (x44_5 : Int).toNat).size ≤ 9223372036854775807) = true := decide_eq_true c173
                              try have c173b2 : (9223372036854775807 < ((t515.extract 0 ((ji157) : Int).toNat) ++ (t515.extract (x44_5 : Int).toNat ((wrap64 (x44_5 + 1)) : Int).toNat)).size + (t515.extract ((ji157) : Int).toNat (x44_5 : Int).toNat).size) = False := eq_false (Nat.not_lt.2 c173)
                              have c173b3 : ∀ z_ : Nat, z_ = ((t515.extract 0 ((ji157) : Int).toNat) ++ (t515.extract (x44_5 : Int).toNat ((wrap64 (x44_5 + 1)) : Int).toNat)).size + (t515.extract ((ji157) : Int).toNat (x44_5 : Int).toNat).size → (9223372036854775807 < z_) = False := fun z_ hz_ => by rw [hz_]; exact eq_false (Nat.not_lt.2 c173)
                              obtain ⟨ji174, hji174⟩ : ∃ j_ : Int, (wrap64 (x44_5 + 1)) = j_ := ⟨_, rfl⟩
                              replace H : (if 0 ≤ (ji174) then (if (((t515.extract 0 ((ji157) : Int).toNat) ++ (t515.extract (x44_5 : Int).toNat ((ji174) : Int).toNat)) ++ (t515.extract ((ji157) : Int).toNat (x44_5 : Int).toNat)).size + (t515.extract ((ji174) : Int).toNat t515.size).size ≤ 9223372036854775807 then ((impl_IsDoubledRight.f k5 ((((t515.extract 0 ((ji157) : Int).toNat) ++ (t515.extract (x44_5 : Int).toNat ((ji174) : Int).toNat)) ++ (t515.extract ((ji157) : Int).toNat (x44_5 : Int).toNat)) ++ (t515.extract ((ji174) : Int).toNat t515.size))).bind fun bt556 => (if bt556.2 = true then (if (bt t515 (ji157)) = 48 then (if (bt t515 x44_5) = 57 then (if (bt556.1 != true) = true then (none) else (laws_FnChecksDoubled.l1 k5 t515 t524 t525 t528 t533 ji174 t529 t530)) else (if (bt t515 (ji157)) = 57 then (if (bt556.1 != ((bt t515 x44_5) == 48)) = true then (none) else (laws_FnChecksDoubled.l1 k5 t515 t524 t525 t528 t533 ji174 t529 t530)) else (if (bt556.1 != false) = true then (none) else (laws_FnChecksDoubled.l1 k5 t515 t524 t525 t528 t533 ji174 t529 t530)))) else (if (bt t515 (ji157)) = 57 then (if (bt556.1 != ((bt t515 x44_5) == 48)) = true then (none) else (laws_FnChecksDoubled.l1 k5 t515 t524 t525 t528 t533 ji174 t529 t530)) else (if (bt556.1 != false) = true then (none) else (laws_FnChecksDoubled.l1 k5 t515 t524 t525 t528 t533 ji174 t529 t530)))) else (none))) else (none)) else (none)) = some r := by first | (rw [hji174] at H; exact H) | (simp only [hji174] at H ⊢; exact H)
                              (try rw [hji174] at c167b0)
                              (try rw [hji174] at c167b1)
                              (try rw [hji174] at c167)
                              (try rw [hji174] at c168b0)
                              (try rw [hji174] at c168b1)
                              (try rw [hji174] at c168)
                              (try rw [hji174] at c169b0)
                              (try rw [hji174] at c169b1)
                              (try rw [hji174] at c169)
                              (try rw [hji174] at c173b0)
                              (try rw [hji174] at c173b1)
                              (try rw [hji174] at c173)
                              have hji174w : (IntKind.i64.wrap (x44_5 + 1)) = ji174 := (i64_w _).trans hji174
                              by_cases c175 : 0 ≤ (ji174)
                              ·
                               rw [if_pos c175] at H
                               have c175b0 := eq_true c175
                               have c175b1 : decide (0 ≤ (ji174)) = true := decide_eq_true c175
                               clear c175
                               have c176b0 := eq_true (Z2 : (ji174) ≤ (t515.size : Int))
                               by_cases c177 : (((t515.extract 0 ((ji157) : Int).toNat) ++ (t515.extract (x44_5 : Int).toNat ((ji174) : Int).toNat)) ++ (t515.extract ((ji157) : Int).toNat (x44_5 : Int).toNat)).size + (t515.extract ((ji174) : Int).toNat t515.size).size ≤ 9223372036854775807
                               ·
                                rw [if_pos c177] at H
                                have c177b0 := eq_true c177
                                have c177b1 : decide ((((t515.extract 0 ((ji157) : Int).toNat) ++ (t515.extract (x44_5 : Int).toNat ((ji174) : Int).toNat)) ++ (t515.extract ((ji157) : Int).toNat (x44_5 : Int).toNat)).size + (t515.extract ((ji174) : Int).toNat t515.size).size ≤ 9223372036854775807) = true := decide_eq_true c177
                                try have c177b2 : (9223372036854775807 < (((t515.extract 0 ((ji157) : Int).toNat) ++ (t515.extract (x44_5 : Int).toNat ((ji174) : Int).toNat)) ++ (t515.extract ((ji157) : Int).toNat (x44_5 : Int).toNat)).size + (t515.extract ((ji174) : Int).toNat t515.size).size) = False := eq_false (Nat.not_lt.2 c177)
                                have c177b3 : ∀ z_ : Nat, z_ = (((t515.extract 0 ((ji157) : Int).toNat) ++ (t515.extract (x44_5 : Int).toNat ((ji174) : Int).toNat)) ++ (t515.extract ((ji157) : Int).toNat (x44_5 : Int).toNat)).size + (t515.extract ((ji174) : Int).toNat t515.size).size → (9223372036854775807 < z_) = False := fun z_ hz_ => by rw [hz_]; exact eq_false (Nat.not_lt.2 c177)
                                replace H := Option.bind_eq_some_iff.mp H
                                obtain ⟨⟨t556, t557⟩, A1780, H⟩ := H
                                replace H : (if t557 = true then (if (bt t515 (ji157)) = 48 then (if (bt t515 x44_5) = 57 then (if (t556 != true) = true then (none) else (laws_FnChecksDoubled.l1 k5 t515 t524 t525 t528 t533 ji174 t529 t530)) else (if (bt t515 (ji157)) = 57 then (if (t556 != ((bt t515 x44_5) == 48)) = true then (none) else (laws_FnChecksDoubled.l1 k5 t515 t524 t525 t528 t533 ji174 t529 t530)) else (if (t556 != false) = true then (none) else (laws_FnChecksDoubled.l1 k5 t515 t524 t525 t528 t533 ji174 t529 t530)))) else (if (bt t515 (ji157)) = 57 then (if (t556 != ((bt t515 x44_5) == 48)) = true then (none) else (laws_FnChecksDoubled.l1 k5 t515 t524 t525 t528 t533 ji174 t529 t530)) else (if (t556 != false) = true then (none) else (laws_FnChecksDoubled.l1 k5 t515 t524 t525 t528 t533 ji174 t529 t530)))) else (none)) = some r := H
                                have A178 := Aside0.mk A1780
                                clear A1780
                                by_cases c179 : t557 = true
                                ·
                                 subst c179
                                 have H1 : (if (bt t515 (ji157)) = 48 then (if (bt t515 x44_5) = 57 then (if (t556 != true) = true then (none) else (laws_FnChecksDoubled.l1 k5 t515 t524 t525 t528 t533 ji174 t529 t530)) else (if (bt t515 (ji157)) = 57 then (if (t556 != ((bt t515 x44_5) == 48)) = true then (none) else (laws_FnChecksDoubled.l1 k5 t515 t524 t525 t528 t533 ji174 t529 t530)) else (if (t556 != false) = true then (none) else (laws_FnChecksDoubled.l1 k5 t515 t524 t525 t528 t533 ji174 t529 t530)))) else (if (bt t515 (ji157)) = 57 then (if (t556 != ((bt t515 x44_5) == 48)) = true then (none) else (laws_FnChecksDoubled.l1 k5 t515 t524 t525 t528 t533 ji174 t529 t530)) else (if (t556 != false) = true then (none) else (laws_FnChecksDoubled.l1 k5 t515 t524 t525 t528 t533 ji174 t529 t530)))) = some r := by rw [if_pos rfl] at H; exact H
                                 clear H
                                 have H := H1
                                 clear H1
                                 by_cases c180 : (bt t515 (ji157)) = 48
                                 ·
                                  rw [if_pos c180] at H
                                  have c180b0 : ((bt t515 (ji157)) == 48) = true := beq_iff_eq.mpr c180
                                  have c180b1 : ((bt t515 (ji157)) != 48) = false := bne_eq_false_iff_eq.mpr c180
                                  clear c180
                                  by_cases c181 : (bt t515 x44_5) = 57
                                  ·
                                   rw [if_pos c181] at H
                                   have c181b0 : ((bt t515 x44_5) == 57) = true := beq_iff_eq.mpr c181
                                   have c181b1 : ((bt t515 x44_5) != 57) = false := bne_eq_false_iff_eq.mpr c181
                                   clear c181
                                   by_cases c182 : (t556 != true) = true
                                   ·
                                    rw [if_pos c182] at H
                                    exact absurd H (by simp)
                                   ·
                                    rw [if_neg c182] at H
                                    have c182b0 : (t556 != true) = false := by simpa using c182
                                    (try (have c182b1 : decide (t556 = true) = true := by simpa using c182))
                                    (try (have c182b2 : (t556 == true) = true := by simpa using c182))
                                    clear c182
                                    as_aux_lemma =>
                                    have H' := Aside0.mk H
                                    clear H
                                    have p160 : 0 ≤ ((ji157) : Int) := Z2
                                    have q160 : (ji157) < (t515.size : Int) := Z2
                                    have hx160 := bt_at t515 (ji157)
                                    replace p160 := eq_true p160
                                    replace q160 := eq_true q160
                                    have p162 : 0 ≤ (x44_5 : Int) := Z2
                                    have q162 : x44_5 < (t515.size : Int) := Z2
                                    have hx162 := bt_at t515 x44_5
                                    replace p162 := eq_true p162
                                    replace q162 := eq_true q162
                                    go_wp2_with (first | (go_at_call 71; (with_reducible refine (impl_IsDoubledRight.calls k5 ((((t515.extract 0 ((ji157) : Int).toNat) ++ (t515.extract (x44_5 : Int).toNat ((ji174) : Int).toNat)) ++ (t515.extract ((ji157) : Int).toNat (x44_5 : Int).toNat)) ++ (t515.extract ((ji174) : Int).toNat t515.size)) t556 true _ A178.out).mono ?_); rintro e w183 ⟨rfl, hb⟩; have n0_ := Aside0.mk (Kd.R_below Z11 hb); have n1_ := Aside0.mk (Kd.R_below Z21 hb); have n2_ := Aside0.mk (Kd.R_below Z22 hb); have n3_ := Aside0.mk (blk_below (g := gb490) (o := .cells #[.int .i64 t486, .slice Ao18 t487.length co18] 51 (0, 0)) Z8 hb); have n4_ := Aside0.mk (blk_below (g := gb534) (o := .cells #[.int .i64 t529, .slice Ao111 t530.length co111] 51 (0, 0)) Z14 hb); have n5_ := Aside0.mk (blk_below (g := gb540) (o := .cells #[.int .i64 t535, .slice Ao117 t536.length co117] 51 (0, 0)) Z15 hb); have n6_ := Aside0.mk (below_step Z7 hb); clear HO_491001 HO_535001 HO_541001 BK490 BK534 BK540 HB; revert n0_ n1_ n2_ n3_ n4_ n5_ n6_; intro HO_491001 HO_535001 HO_541001 BK490 BK534 BK540 HB; (try clear hb); (try clear hb2); (try clear hk); (try clear hi)))
                                    repeat (go_quiet (first | (go_at_call 71; (with_reducible refine (impl_IsDoubledRight.calls k5 ((((t515.extract 0 ((ji157) : Int).toNat) ++ (t515.extract (x44_5 : Int).toNat ((ji174) : Int).toNat)) ++ (t515.extract ((ji157) : Int).toNat (x44_5 : Int).toNat)) ++ (t515.extract ((ji174) : Int).toNat t515.size)) t556 true _ A178.out).mono ?_); rintro e w183 ⟨rfl, hb⟩; have n0_ := Aside0.mk (Kd.R_below Z11 hb); have n1_ := Aside0.mk (Kd.R_below Z21 hb); have n2_ := Aside0.mk (Kd.R_below Z22 hb); have n3_ := Aside0.mk (blk_below (g := gb490) (o := .cells #[.int .i64 t486, .slice Ao18 t487.length co18] 51 (0, 0)) Z8 hb); have n4_ := Aside0.mk (blk_below (g := gb534) (o := .cells #[.int .i64 t529, .slice Ao111 t530.length co111] 51 (0, 0)) Z14 hb); have n5_ := Aside0.mk (blk_below (g := gb540) (o := .cells #[.int .i64 t535, .slice Ao117 t536.length co117] 51 (0, 0)) Z15 hb); have n6_ := Aside0.mk (below_step Z7 hb); clear HO_491001 HO_535001 HO_541001 BK490 BK534 BK540 HB; revert n0_ n1_ n2_ n3_ n4_ n5_ n6_; intro HO_491001 HO_535001 HO_541001 BK490 BK534 BK540 HB; (try clear hb); (try clear hb2); (try clear hk); (try clear hi))); try go_wp2_with (first | (go_at_call 71; (with_reducible refine (impl_IsDoubledRight.calls k5 ((((t515.extract 0 ((ji157) : Int).toNat) ++ (t515.extract (x44_5 : Int).toNat ((ji174) : Int).toNat)) ++ (t515.extract ((ji157) : Int).toNat (x44_5 : Int).toNat)) ++ (t515.extract ((ji174) : Int).toNat t515.size)) t556 true _ A178.out).mono ?_); rintro e w183 ⟨rfl, hb⟩; have n0_ := Aside0.mk (Kd.R_below Z11 hb); have n1_ := Aside0.mk (Kd.R_below Z21 hb); have n2_ := Aside0.mk (Kd.R_below Z22 hb); have n3_ := Aside0.mk (blk_below (g := gb490) (o := .cells #[.int .i64 t486, .slice Ao18 t487.length co18] 51 (0, 0)) Z8 hb); have n4_ := Aside0.mk (blk_below (g := gb534) (o := .cells #[.int .i64 t529, .slice Ao111 t530.length co111] 51 (0, 0)) Z14 hb); have n5_ := Aside0.mk (blk_below (g := gb540) (o := .cells #[.int .i64 t535, .slice Ao117 t536.length co117] 51 (0, 0)) Z15 hb); have n6_ := Aside0.mk (below_step Z7 hb); clear HO_491001 HO_535001 HO_541001 BK490 BK534 BK540 HB; revert n0_ n1_ n2_ n3_ n4_ n5_ n6_; intro HO_491001 HO_535001 HO_541001 BK490 BK534 BK540 HB; (try clear hb); (try clear hb2); (try clear hk); (try clear hi))))
                                    go_roundg k5
                                    case measure => have := HJ13.out; have := HJ48.out; have := HJ100.out; have := HJ150.out; have := HK5.out; omega
                                    case rel => exact ⟨(ji174), Z65, H', ⟨by have := HJ13.out; have := HJ48.out; have := HJ100.out; have := HJ150.out; have := HK5.out; omega⟩, ⟨by (with_reducible repeat (first | apply Kd.R_alloc | apply Kd.R_drewN | apply Kd.R_drew)); exact HO_491001.out⟩, ⟨by (with_reducible repeat (first | apply Kd.R_alloc | apply Kd.R_drewN | apply Kd.R_drew)); exact HO_535001.out⟩, ⟨by (with_reducible repeat (first | apply Kd.R_alloc | apply Kd.R_drewN | apply Kd.R_drew)); exact HO_541001.out⟩, ⟨by (with_reducible repeat (first | refine blk_drewN ?_ _ | refine blk_drew ?_ | refine blk_alloc ?_ _)); exact BK490.out⟩, ⟨by (with_reducible repeat (first | refine blk_drewN ?_ _ | refine blk_drew ?_ | refine blk_alloc ?_ _)); exact BK534.out⟩, ⟨by (with_reducible repeat (first | refine blk_drewN ?_ _ | refine blk_drew ?_ | refine blk_alloc ?_ _)); exact BK540.out⟩, ⟨by repeat (first | (with_reducible first | exact HB.out | apply below_alloc | apply pw_below_drewN | apply below_drew1 | refine below_set ?_ GE490.out | refine below_set ?_ GE534.out | refine below_set ?_ GE540.out) | exact HB.out)⟩⟩
                                  ·
                                   rw [if_neg c181] at H
                                   have c181b0 : ((bt t515 x44_5) == 57) = false := beq_eq_false_iff_ne.mpr c181
                                   have c181b1 : ((bt t515 x44_5) != 57) = true := bne_iff_ne.mpr c181
                                   by_cases c184 : (bt t515 (ji157)) = 57
                                   ·
                                    rw [if_pos c184] at H
                                    have c184b0 : ((bt t515 (ji157)) == 57) = true := beq_iff_eq.mpr c184
                                    have c184b1 : ((bt t515 (ji157)) != 57) = false := bne_eq_false_iff_eq.mpr c184
                                    clear c184
                                    by_cases c185 : (t556 != ((bt t515 x44_5) == 48)) = true
                                    ·
                                     rw [if_pos c185] at H
                                     exact absurd H (by simp)
                                    ·
                                     rw [if_neg c185] at H
                                     have c185b0 : (t556 != ((bt t515 x44_5) == 48)) = false := by simpa using c185
                                     (try (have c185b1 : decide (t556 = ((bt t515 x44_5) == 48)) = true := by simpa using c185))
                                     (try (have c185b2 : (t556 == ((bt t515 x44_5) == 48)) = true := by simpa using c185))
                                     clear c185
                                     as_aux_lemma =>
                                     have H' := Aside0.mk H
                                     clear H
                                     have p160 : 0 ≤ ((ji157) : Int) := Z2
                                     have q160 : (ji157) < (t515.size : Int) := Z2
                                     have hx160 := bt_at t515 (ji157)
                                     replace p160 := eq_true p160
                                     replace q160 := eq_true q160
                                     have p162 : 0 ≤ (x44_5 : Int) := Z2
                                     have q162 : x44_5 < (t515.size : Int) := Z2
                                     have hx162 := bt_at t515 x44_5
                                     replace p162 := eq_true p162
                                     replace q162 := eq_true q162
                                     go_wp2_with (first | (go_at_call 71; (with_reducible refine (impl_IsDoubledRight.calls k5 ((((t515.extract 0 ((ji157) : Int).toNat) ++ (t515.extract (x44_5 : Int).toNat ((ji174) : Int).toNat)) ++ (t515.extract ((ji157) : Int).toNat (x44_5 : Int).toNat)) ++ (t515.extract ((ji174) : Int).toNat t515.size)) t556 true _ A178.out).mono ?_); rintro e w186 ⟨rfl, hb⟩; have n0_ := Aside0.mk (Kd.R_below Z11 hb); have n1_ := Aside0.mk (Kd.R_below Z21 hb); have n2_ := Aside0.mk (Kd.R_below Z22 hb); have n3_ := Aside0.mk (blk_below (g := gb490) (o := .cells #[.int .i64 t486, .slice Ao18 t487.length co18] 51 (0, 0)) Z8 hb); have n4_ := Aside0.mk (blk_below (g := gb534) (o := .cells #[.int .i64 t529, .slice Ao111 t530.length co111] 51 (0, 0)) Z14 hb); have n5_ := Aside0.mk (blk_below (g := gb540) (o := .cells #[.int .i64 t535, .slice Ao117 t536.length co117] 51 (0, 0)) Z15 hb); have n6_ := Aside0.mk (below_step Z7 hb); clear HO_491001 HO_535001 HO_541001 BK490 BK534 BK540 HB; revert n0_ n1_ n2_ n3_ n4_ n5_ n6_; intro HO_491001 HO_535001 HO_541001 BK490 BK534 BK540 HB; (try clear hb); (try clear hb2); (try clear hk); (try clear hi)))
                                     repeat (go_quiet (first | (go_at_call 71; (with_reducible refine (impl_IsDoubledRight.calls k5 ((((t515.extract 0 ((ji157) : Int).toNat) ++ (t515.extract (x44_5 : Int).toNat ((ji174) : Int).toNat)) ++ (t515.extract ((ji157) : Int).toNat (x44_5 : Int).toNat)) ++ (t515.extract ((ji174) : Int).toNat t515.size)) t556 true _ A178.out).mono ?_); rintro e w186 ⟨rfl, hb⟩; have n0_ := Aside0.mk (Kd.R_below Z11 hb); have n1_ := Aside0.mk (Kd.R_below Z21 hb); have n2_ := Aside0.mk (Kd.R_below Z22 hb); have n3_ := Aside0.mk (blk_below (g := gb490) (o := .cells #[.int .i64 t486, .slice Ao18 t487.length co18] 51 (0, 0)) Z8 hb); have n4_ := Aside0.mk (blk_below (g := gb534) (o := .cells #[.int .i64 t529, .slice Ao111 t530.length co111] 51 (0, 0)) Z14 hb); have n5_ := Aside0.mk (blk_below (g := gb540) (o := .cells #[.int .i64 t535, .slice Ao117 t536.length co117] 51 (0, 0)) Z15 hb); have n6_ := Aside0.mk (below_step Z7 hb); clear HO_491001 HO_535001 HO_541001 BK490 BK534 BK540 HB; revert n0_ n1_ n2_ n3_ n4_ n5_ n6_; intro HO_491001 HO_535001 HO_541001 BK490 BK534 BK540 HB; (try clear hb); (try clear hb2); (try clear hk); (try clear hi))); try go_wp2_with (first | (go_at_call 71; (with_reducible refine (impl_IsDoubledRight.calls k5 ((((t515.extract 0 ((ji157) : Int).toNat) ++ (t515.extract (x44_5 : Int).toNat ((ji174) : Int).toNat)) ++ (t515.extract ((ji157) : Int).toNat (x44_5 : Int).toNat)) ++ (t515.extract ((ji174) : Int).toNat t515.size)) t556 true _ A178.out).mono ?_); rintro e w186 ⟨rfl, hb⟩; have n0_ := Aside0.mk (Kd.R_below Z11 hb); have n1_ := Aside0.mk (Kd.R_below Z21 hb); have n2_ := Aside0.mk (Kd.R_below Z22 hb); have n3_ := Aside0.mk (blk_below (g := gb490) (o := .cells #[.int .i64 t486, .slice Ao18 t487.length co18] 51 (0, 0)) Z8 hb); have n4_ := Aside0.mk (blk_below (g := gb534) (o := .cells #[.int .i64 t529, .slice Ao111 t530.length co111] 51 (0, 0)) Z14 hb); have n5_ := Aside0.mk (blk_below (g := gb540) (o := .cells #[.int .i64 t535, .slice Ao117 t536.length co117] 51 (0, 0)) Z15 hb); have n6_ := Aside0.mk (below_step Z7 hb); clear HO_491001 HO_535001 HO_541001 BK490 BK534 BK540 HB; revert n0_ n1_ n2_ n3_ n4_ n5_ n6_; intro HO_491001 HO_535001 HO_541001 BK490 BK534 BK540 HB; (try clear hb); (try clear hb2); (try clear hk); (try clear hi))))
                                     go_roundg k5
                                     case measure => have := HJ13.out; have := HJ48.out; have := HJ100.out; have := HJ150.out; have := HK5.out; omega
                                     case rel => exact ⟨(ji174), Z65, H', ⟨by have := HJ13.out; have := HJ48.out; have := HJ100.out; have := HJ150.out; have := HK5.out; omega⟩, ⟨by (with_reducible repeat (first | apply Kd.R_alloc | apply Kd.R_drewN | apply Kd.R_drew)); exact HO_491001.out⟩, ⟨by (with_reducible repeat (first | apply Kd.R_alloc | apply Kd.R_drewN | apply Kd.R_drew)); exact HO_535001.out⟩, ⟨by (with_reducible repeat (first | apply Kd.R_alloc | apply Kd.R_drewN | apply Kd.R_drew)); exact HO_541001.out⟩, ⟨by (with_reducible repeat (first | refine blk_drewN ?_ _ | refine blk_drew ?_ | refine blk_alloc ?_ _)); exact BK490.out⟩, ⟨by (with_reducible repeat (first | refine blk_drewN ?_ _ | refine blk_drew ?_ | refine blk_alloc ?_ _)); exact BK534.out⟩, ⟨by (with_reducible repeat (first | refine blk_drewN ?_ _ | refine blk_drew ?_ | refine blk_alloc ?_ _)); exact BK540.out⟩, ⟨by repeat (first | (with_reducible first | exact HB.out | apply below_alloc | apply pw_below_drewN | apply below_drew1 | refine below_set ?_ GE490.out | refine below_set ?_ GE534.out | refine below_set ?_ GE540.out) | exact HB.out)⟩⟩
                                   ·
                                    rw [if_neg c184] at H
                                    have c184b0 : ((bt t515 (ji157)) == 57) = false := beq_eq_false_iff_ne.mpr c184
                                    have c184b1 : ((bt t515 (ji157)) != 57) = true := bne_iff_ne.mpr c184
                                    by_cases c187 : (t556 != false) = true
                                    ·
                                     rw [if_pos c187] at H
                                     exact absurd H (by simp)
                                    ·
                                     rw [if_neg c187] at H
                                     have c187b0 : (t556 != false) = false := by simpa using c187
                                     (try (have c187b1 : decide (t556 = false) = true := by simpa using c187))
                                     (try (have c187b2 : (t556 == false) = true := by simpa using c187))
                                     clear c187
                                     as_aux_lemma =>
                                     have H' := Aside0.mk H
                                     clear H
                                     have p160 : 0 ≤ ((ji157) : Int) := Z2
                                     have q160 : (ji157) < (t515.size : Int) := Z2
                                     have hx160 := bt_at t515 (ji157)
                                     replace p160 := eq_true p160
                                     replace q160 := eq_true q160
                                     have p162 : 0 ≤ (x44_5 : Int) := Z2
                                     have q162 : x44_5 < (t515.size : Int) := Z2
                                     have hx162 := bt_at t515 x44_5
                                     replace p162 := eq_true p162
                                     replace q162 := eq_true q162
                                     go_wp2_with (first | (go_at_call 71; (with_reducible refine (impl_IsDoubledRight.calls k5 ((((t515.extract 0 ((ji157) : Int).toNat) ++ (t515.extract (x44_5 : Int).toNat ((ji174) : Int).toNat)) ++ (t515.extract ((ji157) : Int).toNat (x44_5 : Int).toNat)) ++ (t515.extract ((ji174) : Int).toNat t515.size)) t556 true _ A178.out).mono ?_); rintro e w188 ⟨rfl, hb⟩; have n0_ := Aside0.mk (Kd.R_below Z11 hb); have n1_ := Aside0.mk (Kd.R_below Z21 hb); have n2_ := Aside0.mk (Kd.R_below Z22 hb); have n3_ := Aside0.mk (blk_below (g := gb490) (o := .cells #[.int .i64 t486, .slice Ao18 t487.length co18] 51 (0, 0)) Z8 hb); have n4_ := Aside0.mk (blk_below (g := gb534) (o := .cells #[.int .i64 t529, .slice Ao111 t530.length co111] 51 (0, 0)) Z14 hb); have n5_ := Aside0.mk (blk_below (g := gb540) (o := .cells #[.int .i64 t535, .slice Ao117 t536.length co117] 51 (0, 0)) Z15 hb); have n6_ := Aside0.mk (below_step Z7 hb); clear HO_491001 HO_535001 HO_541001 BK490 BK534 BK540 HB; revert n0_ n1_ n2_ n3_ n4_ n5_ n6_; intro HO_491001 HO_535001 HO_541001 BK490 BK534 BK540 HB; (try clear hb); (try clear hb2); (try clear hk); (try clear hi)))
                                     repeat (go_quiet (first | (go_at_call 71; (with_reducible refine (impl_IsDoubledRight.calls k5 ((((t515.extract 0 ((ji157) : Int).toNat) ++ (t515.extract (x44_5 : Int).toNat ((ji174) : Int).toNat)) ++ (t515.extract ((ji157) : Int).toNat (x44_5 : Int).toNat)) ++ (t515.extract ((ji174) : Int).toNat t515.size)) t556 true _ A178.out).mono ?_); rintro e w188 ⟨rfl, hb⟩; have n0_ := Aside0.mk (Kd.R_below Z11 hb); have n1_ := Aside0.mk (Kd.R_below Z21 hb); have n2_ := Aside0.mk (Kd.R_below Z22 hb); have n3_ := Aside0.mk (blk_below (g := gb490) (o := .cells #[.int .i64 t486, .slice Ao18 t487.length co18] 51 (0, 0)) Z8 hb); have n4_ := Aside0.mk (blk_below (g := gb534) (o := .cells #[.int .i64 t529, .slice Ao111 t530.length co111] 51 (0, 0)) Z14 hb); have n5_ := Aside0.mk (blk_below (g := gb540) (o := .cells #[.int .i64 t535, .slice Ao117 t536.length co117] 51 (0, 0)) Z15 hb); have n6_ := Aside0.mk (below_step Z7 hb); clear HO_491001 HO_535001 HO_541001 BK490 BK534 BK540 HB; revert n0_ n1_ n2_ n3_ n4_ n5_ n6_; intro HO_491001 HO_535001 HO_541001 BK490 BK534 BK540 HB; (try clear hb); (try clear hb2); (try clear hk); (try clear hi))); try go_wp2_with (first | (go_at_call 71; (with_reducible refine (impl_IsDoubledRight.calls k5 ((((t515.extract 0 ((ji157) : Int).toNat) ++ (t515.extract (x44_5 : Int).toNat ((ji174) : Int).toNat)) ++ (t515.extract ((ji157) : Int).toNat (x44_5 : Int).toNat)) ++ (t515.extract ((ji174) : Int).toNat t515.size)) t556 true _ A178.out).mono ?_); rintro e w188 ⟨rfl, hb⟩; have n0_ := Aside0.mk (Kd.R_below Z11 hb); have n1_ := Aside0.mk (Kd.R_below Z21 hb); have n2_ := Aside0.mk (Kd.R_below Z22 hb); have n3_ := Aside0.mk (blk_below (g := gb490) (o := .cells #[.int .i64 t486, .slice Ao18 t487.length co18] 51 (0, 0)) Z8 hb); have n4_ := Aside0.mk (blk_below (g := gb534) (o := .cells #[.int .i64 t529, .slice Ao111 t530.length co111] 51 (0, 0)) Z14 hb); have n5_ := Aside0.mk (blk_below (g := gb540) (o := .cells #[.int .i64 t535, .slice Ao117 t536.length co117] 51 (0, 0)) Z15 hb); have n6_ := Aside0.mk (below_step Z7 hb); clear HO_491001 HO_535001 HO_541001 BK490 BK534 BK540 HB; revert n0_ n1_ n2_ n3_ n4_ n5_ n6_; intro HO_491001 HO_535001 HO_541001 BK490 BK534 BK540 HB; (try clear hb); (try clear hb2); (try clear hk); (try clear hi))))
                                     go_roundg k5
                                     case measure => have := HJ13.out; have := HJ48.out; have := HJ100.out; have := HJ150.out; have := HK5.out; omega
                                     case rel => exact ⟨(ji174), Z65, H', ⟨by have := HJ13.out; have := HJ48.out; have := HJ100.out; have := HJ150.out; have := HK5.out; omega⟩, ⟨by (with_reducible repeat (first | apply Kd.R_alloc | apply Kd.R_drewN | apply Kd.R_drew)); exact HO_491001.out⟩, ⟨by (with_reducible repeat (first | apply Kd.R_alloc | apply Kd.R_drewN | apply Kd.R_drew)); exact HO_535001.out⟩, ⟨by (with_reducible repeat (first | apply Kd.R_alloc | apply Kd.R_drewN | apply Kd.R_drew)); exact HO_541001.out⟩, ⟨by (with_reducible repeat (first | refine blk_drewN ?_ _ | refine blk_drew ?_ | refine blk_alloc ?_ _)); exact BK490.out⟩, ⟨by (with_reducible repeat (first | refine blk_drewN ?_ _ | refine blk_drew ?_ | refine blk_alloc ?_ _)); exact BK534.out⟩, ⟨by (with_reducible repeat (first | refine blk_drewN ?_ _ | refine blk_drew ?_ | refine blk_alloc ?_ _)); exact BK540.out⟩, ⟨by repeat (first | (with_reducible first | exact HB.out | apply below_alloc | apply pw_below_drewN | apply below_drew1 | refine below_set ?_ GE490.out | refine below_set ?_ GE534.out | refine below_set ?_ GE540.out) | exact HB.out)⟩⟩
                                 ·
                                  rw [if_neg c180] at H
                                  have c180b0 : ((bt t515 (ji157)) == 48) = false := beq_eq_false_iff_ne.mpr c180
                                  have c180b1 : ((bt t515 (ji157)) != 48) = true := bne_iff_ne.mpr c180
                                  by_cases c189 : (bt t515 (ji157)) = 57
                                  ·
                                   rw [if_pos c189] at H
                                   have c189b0 : ((bt t515 (ji157)) == 57) = true := beq_iff_eq.mpr c189
                                   have c189b1 : ((bt t515 (ji157)) != 57) = false := bne_eq_false_iff_eq.mpr c189
                                   clear c189
                                   by_cases c190 : (t556 != ((bt t515 x44_5) == 48)) = true
                                   ·
                                    rw [if_pos c190] at H
                                    exact absurd H (by simp)
                                   ·
                                    rw [if_neg c190] at H
                                    have c190b0 : (t556 != ((bt t515 x44_5) == 48)) = false := by simpa using c190
                                    (try (have c190b1 : decide (t556 = ((bt t515 x44_5) == 48)) = true := by simpa using c190))
                                    (try (have c190b2 : (t556 == ((bt t515 x44_5) == 48)) = true := by simpa using c190))
                                    clear c190
                                    as_aux_lemma =>
                                    have H' := Aside0.mk H
                                    clear H
                                    have p160 : 0 ≤ ((ji157) : Int) := Z2
                                    have q160 : (ji157) < (t515.size : Int) := Z2
                                    have hx160 := bt_at t515 (ji157)
                                    replace p160 := eq_true p160
                                    replace q160 := eq_true q160
                                    have p162 : 0 ≤ (x44_5 : Int) := Z2
                                    have q162 : x44_5 < (t515.size : Int) := Z2
                                    have hx162 := bt_at t515 x44_5
                                    replace p162 := eq_true p162
                                    replace q162 := eq_true q162
                                    go_wp2_with (first | (go_at_call 71; (with_reducible refine (impl_IsDoubledRight.calls k5 ((((t515.extract 0 ((ji157) : Int).toNat) ++ (t515.extract (x44_5 : Int).toNat ((ji174) : Int).toNat)) ++ (t515.extract ((ji157) : Int).toNat (x44_5 : Int).toNat)) ++ (t515.extract ((ji174) : Int).toNat t515.size)) t556 true _ A178.out).mono ?_); rintro e w191 ⟨rfl, hb⟩; have n0_ := Aside0.mk (Kd.R_below Z11 hb); have n1_ := Aside0.mk (Kd.R_below Z21 hb); have n2_ := Aside0.mk (Kd.R_below Z22 hb); have n3_ := Aside0.mk (blk_below (g := gb490) (o := .cells #[.int .i64 t486, .slice Ao18 t487.length co18] 51 (0, 0)) Z8 hb); have n4_ := Aside0.mk (blk_below (g := gb534) (o := .cells #[.int .i64 t529, .slice Ao111 t530.length co111] 51 (0, 0)) Z14 hb); have n5_ := Aside0.mk (blk_below (g := gb540) (o := .cells #[.int .i64 t535, .slice Ao117 t536.length co117] 51 (0, 0)) Z15 hb); have n6_ := Aside0.mk (below_step Z7 hb); clear HO_491001 HO_535001 HO_541001 BK490 BK534 BK540 HB; revert n0_ n1_ n2_ n3_ n4_ n5_ n6_; intro HO_491001 HO_535001 HO_541001 BK490 BK534 BK540 HB; (try clear hb); (try clear hb2); (try clear hk); (try clear hi)))
                                    repeat (go_quiet (first | (go_at_call 71; (with_reducible refine (impl_IsDoubledRight.calls k5 ((((t515.extract 0 ((ji157) : Int).toNat) ++ (t515.extract (x44_5 : Int).toNat ((ji174) : Int).toNat)) ++ (t515.extract ((ji157) : Int).toNat (x44_5 : Int).toNat)) ++ (t515.extract ((ji174) : Int).toNat t515.size)) t556 true _ A178.out).mono ?_); rintro e w191 ⟨rfl, hb⟩; have n0_ := Aside0.mk (Kd.R_below Z11 hb); have n1_ := Aside0.mk (Kd.R_below Z21 hb); have n2_ := Aside0.mk (Kd.R_below Z22 hb); have n3_ := Aside0.mk (blk_below (g := gb490) (o := .cells #[.int .i64 t486, .slice Ao18 t487.length co18] 51 (0, 0)) Z8 hb); have n4_ := Aside0.mk (blk_below (g := gb534) (o := .cells #[.int .i64 t529, .slice Ao111 t530.length co111] 51 (0, 0)) Z14 hb); have n5_ := Aside0.mk (blk_below (g := gb540) (o := .cells #[.int .i64 t535, .slice Ao117 t536.length co117] 51 (0, 0)) Z15 hb); have n6_ := Aside0.mk (below_step Z7 hb); clear HO_491001 HO_535001 HO_541001 BK490 BK534 BK540 HB; revert n0_ n1_ n2_ n3_ n4_ n5_ n6_; intro HO_491001 HO_535001 HO_541001 BK490 BK534 BK540 HB; (try clear hb); (try clear hb2); (try clear hk); (try clear hi))); try go_wp2_with (first | (go_at_call 71; (with_reducible refine (impl_IsDoubledRight.calls k5 ((((t515.extract 0 ((ji157) : Int).toNat) ++ (t515.extract (x44_5 : Int).toNat ((ji174) : Int).toNat)) ++ (t515.extract ((ji157) : Int).toNat (x44_5 : Int).toNat)) ++ (t515.extract ((ji174) : Int).toNat t515.size)) t556 true _ A178.out).mono ?_); rintro e w191 ⟨rfl, hb⟩; have n0_ := Aside0.mk (Kd.R_below Z11 hb); have n1_ := Aside0.mk (Kd.R_below Z21 hb); have n2_ := Aside0.mk (Kd.R_below Z22 hb); have n3_ := Aside0.mk (blk_below (g := gb490) (o := .cells #[.int .i64 t486, .slice Ao18 t487.length co18] 51 (0, 0)) Z8 hb); have n4_ := Aside0.mk (blk_below (g := gb534) (o := .cells #[.int .i64 t529, .slice Ao111 t530.length co111] 51 (0, 0)) Z14 hb); have n5_ := Aside0.mk (blk_below (g := gb540) (o := .cells #[.int .i64 t535, .slice Ao117 t536.length co117] 51 (0, 0)) Z15 hb); have n6_ := Aside0.mk (below_step Z7 hb); clear HO_491001 HO_535001 HO_541001 BK490 BK534 BK540 HB; revert n0_ n1_ n2_ n3_ n4_ n5_ n6_; intro HO_491001 HO_535001 HO_541001 BK490 BK534 BK540 HB; (try clear hb); (try clear hb2); (try clear hk); (try clear hi))))
                                    go_roundg k5
                                    case measure => have := HJ13.out; have := HJ48.out; have := HJ100.out; have := HJ150.out; have := HK5.out; omega
                                    case rel => exact ⟨(ji174), Z65, H', ⟨by have := HJ13.out; have := HJ48.out; have := HJ100.out; have := HJ150.out; have := HK5.out; omega⟩, ⟨by (with_reducible repeat (first | apply Kd.R_alloc | apply Kd.R_drewN | apply Kd.R_drew)); exact HO_491001.out⟩, ⟨by (with_reducible repeat (first | apply Kd.R_alloc | apply Kd.R_drewN | apply Kd.R_drew)); exact HO_535001.out⟩, ⟨by (with_reducible repeat (first | apply Kd.R_alloc | apply Kd.R_drewN | apply Kd.R_drew)); exact HO_541001.out⟩, ⟨by (with_reducible repeat (first | refine blk_drewN ?_ _ | refine blk_drew ?_ | refine blk_alloc ?_ _)); exact BK490.out⟩, ⟨by (with_reducible repeat (first | refine blk_drewN ?_ _ | refine blk_drew ?_ | refine blk_alloc ?_ _)); exact BK534.out⟩, ⟨by (with_reducible repeat (first | refine blk_drewN ?_ _ | refine blk_drew ?_ | refine blk_alloc ?_ _)); exact BK540.out⟩, ⟨by repeat (first | (with_reducible first | exact HB.out | apply below_alloc | apply pw_below_drewN | apply below_drew1 | refine below_set ?_ GE490.out | refine below_set ?_ GE534.out | refine below_set ?_ GE540.out) | exact HB.out)⟩⟩
                                  ·
                                   rw [if_neg c189] at H
                                   have c189b0 : ((bt t515 (ji157)) == 57) = false := beq_eq_false_iff_ne.mpr c189
                                   have c189b1 : ((bt t515 (ji157)) != 57) = true := bne_iff_ne.mpr c189
                                   by_cases c192 : (t556 != false) = true
                                   ·
                                    rw [if_pos c192] at H
                                    exact absurd H (by simp)
                                   ·
                                    rw [if_neg c192] at H
                                    have c192b0 : (t556 != false) = false := by simpa using c192
                                    (try (have c192b1 : decide (t556 = false) = true := by simpa using c192))
                                    (try (have c192b2 : (t556 == false) = true := by simpa using c192))
                                    clear c192
                                    as_aux_lemma =>
                                    have H' := Aside0.mk H
                                    clear H
                                    have p160 : 0 ≤ ((ji157) : Int) := Z2
                                    have q160 : (ji157) < (t515.size : Int) := Z2
                                    have hx160 := bt_at t515 (ji157)
                                    replace p160 := eq_true p160
                                    replace q160 := eq_true q160
                                    have p162 : 0 ≤ (x44_5 : Int) := Z2
                                    have q162 : x44_5 < (t515.size : Int) := Z2
                                    have hx162 := bt_at t515 x44_5
                                    replace p162 := eq_true p162
                                    replace q162 := eq_true q162
                                    go_wp2_with (first | (go_at_call 71; (with_reducible refine (impl_IsDoubledRight.calls k5 ((((t515.extract 0 ((ji157) : Int).toNat) ++ (t515.extract (x44_5 : Int).toNat ((ji174) : Int).toNat)) ++ (t515.extract ((ji157) : Int).toNat (x44_5 : Int).toNat)) ++ (t515.extract ((ji174) : Int).toNat t515.size)) t556 true _ A178.out).mono ?_); rintro e w193 ⟨rfl, hb⟩; have n0_ := Aside0.mk (Kd.R_below Z11 hb); have n1_ := Aside0.mk (Kd.R_below Z21 hb); have n2_ := Aside0.mk (Kd.R_below Z22 hb); have n3_ := Aside0.mk (blk_below (g := gb490) (o := .cells #[.int .i64 t486, .slice Ao18 t487.length co18] 51 (0, 0)) Z8 hb); have n4_ := Aside0.mk (blk_below (g := gb534) (o := .cells #[.int .i64 t529, .slice Ao111 t530.length co111] 51 (0, 0)) Z14 hb); have n5_ := Aside0.mk (blk_below (g := gb540) (o := .cells #[.int .i64 t535, .slice Ao117 t536.length co117] 51 (0, 0)) Z15 hb); have n6_ := Aside0.mk (below_step Z7 hb); clear HO_491001 HO_535001 HO_541001 BK490 BK534 BK540 HB; revert n0_ n1_ n2_ n3_ n4_ n5_ n6_; intro HO_491001 HO_535001 HO_541001 BK490 BK534 BK540 HB; (try clear hb); (try clear hb2); (try clear hk); (try clear hi)))
                                    repeat (go_quiet (first | (go_at_call 71; (with_reducible refine (impl_IsDoubledRight.calls k5 ((((t515.extract 0 ((ji157) : Int).toNat) ++ (t515.extract (x44_5 : Int).toNat ((ji174) : Int).toNat)) ++ (t515.extract ((ji157) : Int).toNat (x44_5 : Int).toNat)) ++ (t515.extract ((ji174) : Int).toNat t515.size)) t556 true _ A178.out).mono ?_); rintro e w193 ⟨rfl, hb⟩; have n0_ := Aside0.mk (Kd.R_below Z11 hb); have n1_ := Aside0.mk (Kd.R_below Z21 hb); have n2_ := Aside0.mk (Kd.R_below Z22 hb); have n3_ := Aside0.mk (blk_below (g := gb490) (o := .cells #[.int .i64 t486, .slice Ao18 t487.length co18] 51 (0, 0)) Z8 hb); have n4_ := Aside0.mk (blk_below (g := gb534) (o := .cells #[.int .i64 t529, .slice Ao111 t530.length co111] 51 (0, 0)) Z14 hb); have n5_ := Aside0.mk (blk_below (g := gb540) (o := .cells #[.int .i64 t535, .slice Ao117 t536.length co117] 51 (0, 0)) Z15 hb); have n6_ := Aside0.mk (below_step Z7 hb); clear HO_491001 HO_535001 HO_541001 BK490 BK534 BK540 HB; revert n0_ n1_ n2_ n3_ n4_ n5_ n6_; intro HO_491001 HO_535001 HO_541001 BK490 BK534 BK540 HB; (try clear hb); (try clear hb2); (try clear hk); (try clear hi))); try go_wp2_with (first | (go_at_call 71; (with_reducible refine (impl_IsDoubledRight.calls k5 ((((t515.extract 0 ((ji157) : Int).toNat) ++ (t515.extract (x44_5 : Int).toNat ((ji174) : Int).toNat)) ++ (t515.extract ((ji157) : Int).toNat (x44_5 : Int).toNat)) ++ (t515.extract ((ji174) : Int).toNat t515.size)) t556 true _ A178.out).mono ?_); rintro e w193 ⟨rfl, hb⟩; have n0_ := Aside0.mk (Kd.R_below Z11 hb); have n1_ := Aside0.mk (Kd.R_below Z21 hb); have n2_ := Aside0.mk (Kd.R_below Z22 hb); have n3_ := Aside0.mk (blk_below (g := gb490) (o := .cells #[.int .i64 t486, .slice Ao18 t487.length co18] 51 (0, 0)) Z8 hb); have n4_ := Aside0.mk (blk_below (g := gb534) (o := .cells #[.int .i64 t529, .slice Ao111 t530.length co111] 51 (0, 0)) Z14 hb); have n5_ := Aside0.mk (blk_below (g := gb540) (o := .cells #[.int .i64 t535, .slice Ao117 t536.length co117] 51 (0, 0)) Z15 hb); have n6_ := Aside0.mk (below_step Z7 hb); clear HO_491001 HO_535001 HO_541001 BK490 BK534 BK540 HB; revert n0_ n1_ n2_ n3_ n4_ n5_ n6_; intro HO_491001 HO_535001 HO_541001 BK490 BK534 BK540 HB; (try clear hb); (try clear hb2); (try clear hk); (try clear hi))))
                                    go_roundg k5
                                    case measure => have := HJ13.out; have := HJ48.out; have := HJ100.out; have := HJ150.out; have := HK5.out; omega
                                    case rel => exact ⟨(ji174), Z65, H', ⟨by have := HJ13.out; have := HJ48.out; have := HJ100.out; have := HJ150.out; have := HK5.out; omega⟩, ⟨by (with_reducible repeat (first | apply Kd.R_alloc | apply Kd.R_drewN | apply Kd.R_drew)); exact HO_491001.out⟩, ⟨by (with_reducible repeat (first | apply Kd.R_alloc | apply Kd.R_drewN | apply Kd.R_drew)); exact HO_535001.out⟩, ⟨by (with_reducible repeat (first | apply Kd.R_alloc | apply Kd.R_drewN | apply Kd.R_drew)); exact HO_541001.out⟩, ⟨by (with_reducible repeat (first | refine blk_drewN ?_ _ | refine blk_drew ?_ | refine blk_alloc ?_ _)); exact BK490.out⟩, ⟨by (with_reducible repeat (first | refine blk_drewN ?_ _ | refine blk_drew ?_ | refine blk_alloc ?_ _)); exact BK534.out⟩, ⟨by (with_reducible repeat (first | refine blk_drewN ?_ _ | refine blk_drew ?_ | refine blk_alloc ?_ _)); exact BK540.out⟩, ⟨by repeat (first | (with_reducible first | exact HB.out | apply below_alloc | apply pw_below_drewN | apply below_drew1 | refine below_set ?_ GE490.out | refine below_set ?_ GE534.out | refine below_set ?_ GE540.out) | exact HB.out)⟩⟩
                                ·
                                 replace c179 := Bool.eq_false_iff.mpr c179
                                 subst c179
                                 have H1 : (none) = some r := by rw [if_neg (show ¬ (false = true) by decide)] at H; exact H
                                 clear H
                                 have H := H1
                                 clear H1
                                 exact absurd H (by simp)
                               ·
                                rw [if_neg c177] at H
                                exact absurd H (by simp)
                              ·
                               rw [if_neg c175] at H
                               exact absurd H (by simp)
                             ·
                              rw [if_neg c173] at H
                              exact absurd H (by simp)
                            ·
                             rw [if_neg c172] at H
                             exact absurd H (by simp)
                           ·
                            rw [if_neg c171] at H
                            exact absurd H (by simp)
                          ·
                           rw [if_neg c169] at H
                           exact absurd H (by simp)
                         ·
                          rw [if_neg c168] at H
                          exact absurd H (by simp)
                        ·
                         rw [if_neg c167] at H
                         exact absurd H (by simp)
                       ·
                        rw [if_neg c165] at H
                        exact absurd H (by simp)
                     ·
                      rw [if_neg c161] at H
                      exact absurd H (by simp)
                    ·
                     rw [if_neg c159] at H
                     exact absurd H (by simp)
                   ·
                    rw [if_neg c158] at H
                    exact absurd H (by simp)
                  ·
                   rw [if_neg c156] at H
                   have c156b0 : decide (x44_5 < (t515.size : Int)) = false := decide_eq_false c156
                   clear c156
                   as_aux_lemma =>
                   have H' := Aside0.mk H
                   clear H
                   go_wp2
                   repeat (go_quiet (fail); try go_wp2)
                   go_meet
                   case rel => exact ⟨_, H', ⟨by have := HJ13.out; have := HJ48.out; have := HJ100.out; have := HJ150.out; have := HK5.out; first | omega | exact Nat.le_refl _⟩, ⟨by (with_reducible repeat (first | apply Kd.R_alloc | apply Kd.R_drewN | apply Kd.R_drew)); exact HO_491001.out⟩, ⟨by (with_reducible repeat (first | apply Kd.R_alloc | apply Kd.R_drewN | apply Kd.R_drew)); exact HO_535001.out⟩, ⟨by (with_reducible repeat (first | apply Kd.R_alloc | apply Kd.R_drewN | apply Kd.R_drew)); exact HO_541001.out⟩, ⟨by (with_reducible repeat (first | refine blk_drewN ?_ _ | refine blk_drew ?_ | refine blk_alloc ?_ _)); exact BK490.out⟩, ⟨by (with_reducible repeat (first | refine blk_drewN ?_ _ | refine blk_drew ?_ | refine blk_alloc ?_ _)); exact BK534.out⟩, ⟨by (with_reducible repeat (first | refine blk_drewN ?_ _ | refine blk_drew ?_ | refine blk_alloc ?_ _)); exact BK540.out⟩, ⟨by repeat (first | (with_reducible first | exact HB.out | apply below_alloc | apply pw_below_drewN | apply below_drew1 | refine below_set ?_ GE490.out | refine below_set ?_ GE534.out | refine below_set ?_ GE540.out) | exact HB.out)⟩⟩
               ·
                replace c155 := Bool.eq_false_iff.mpr c155
                subst c155
                have H1 : (laws_FnChecksDoubled.j7 kj150 t515 t524 t525 t528 t533 t529 t530) = some r := by rw [if_neg (show ¬ (false = true) by decide)] at H; exact H
                clear H
                have H := H1
                clear H1
                as_aux_lemma =>
                have H' := Aside0.mk H
                clear H
                go_wp2
                repeat (go_quiet (fail); try go_wp2)
                go_meet
                case rel => exact ⟨_, H', ⟨by have := HJ13.out; have := HJ48.out; have := HJ100.out; have := HJ150.out; first | omega | exact Nat.le_refl _⟩, ⟨by (with_reducible repeat (first | apply Kd.R_alloc | apply Kd.R_drewN | apply Kd.R_drew)); exact HO_491001.out⟩, ⟨by (with_reducible repeat (first | apply Kd.R_alloc | apply Kd.R_drewN | apply Kd.R_drew)); exact HO_535001.out⟩, ⟨by (with_reducible repeat (first | apply Kd.R_alloc | apply Kd.R_drewN | apply Kd.R_drew)); exact HO_541001.out⟩, ⟨by (with_reducible repeat (first | refine blk_drewN ?_ _ | refine blk_drew ?_ | refine blk_alloc ?_ _)); exact BK490.out⟩, ⟨by (with_reducible repeat (first | refine blk_drewN ?_ _ | refine blk_drew ?_ | refine blk_alloc ?_ _)); exact BK534.out⟩, ⟨by (with_reducible repeat (first | refine blk_drewN ?_ _ | refine blk_drew ?_ | refine blk_alloc ?_ _)); exact BK540.out⟩, ⟨by repeat (first | (with_reducible first | exact HB.out | apply below_alloc | apply pw_below_drewN | apply below_drew1 | refine below_set ?_ GE490.out | refine below_set ?_ GE534.out | refine below_set ?_ GE540.out) | exact HB.out)⟩⟩
           ·
            replace c150 := Bool.eq_false_iff.mpr c150
            subst c150
            have H1 : (laws_FnChecksDoubled.j7 kj100 t515 t524 t525 t528 t533 t529 t530) = some r := by rw [if_neg (show ¬ (false = true) by decide)] at H; exact H
            clear H
            have H := H1
            clear H1
            as_aux_lemma =>
            have H' := Aside0.mk H
            clear H
            go_wp2
            repeat (go_quiet (fail); try go_wp2)
            go_meet
            case rel => exact ⟨_, H', ⟨by have := HJ13.out; have := HJ48.out; have := HJ100.out; first | omega | exact Nat.le_refl _⟩, ⟨by (with_reducible repeat (first | apply Kd.R_alloc | apply Kd.R_drewN | apply Kd.R_drew)); exact HO_491001.out⟩, ⟨by (with_reducible repeat (first | apply Kd.R_alloc | apply Kd.R_drewN | apply Kd.R_drew)); exact HO_535001.out⟩, ⟨by (with_reducible repeat (first | apply Kd.R_alloc | apply Kd.R_drewN | apply Kd.R_drew)); exact HO_541001.out⟩, ⟨by (with_reducible repeat (first | refine blk_drewN ?_ _ | refine blk_drew ?_ | refine blk_alloc ?_ _)); exact BK490.out⟩, ⟨by (with_reducible repeat (first | refine blk_drewN ?_ _ | refine blk_drew ?_ | refine blk_alloc ?_ _)); exact BK534.out⟩, ⟨by (with_reducible repeat (first | refine blk_drewN ?_ _ | refine blk_drew ?_ | refine blk_alloc ?_ _)); exact BK540.out⟩, ⟨by repeat (first | (with_reducible first | exact HB.out | apply below_alloc | apply pw_below_drewN | apply below_drew1 | refine below_set ?_ GE490.out | refine below_set ?_ GE534.out | refine below_set ?_ GE540.out) | exact HB.out)⟩⟩
          case rest =>
           as_aux_lemma =>
           clear HC149
           (try clear c1); (try clear p1); (try clear q1); (try clear hx1); (try clear p2); (try clear c3); (try clear c4); (try clear c5); (try clear c6); (try clear p6); (try clear c7); (try clear c8); (try clear c10); (try clear c11); (try clear c12); (try clear c13); (try clear c14); (try clear c15); (try clear c16); (try clear p16); (try clear q16); (try clear hx16); (try clear c17); (try clear c18); (try clear c19); (try clear c34); (try clear c34b0); (try clear c34b1); (try clear c34b2); (try clear c35); (try clear c35b0); (try clear c35b1); (try clear c36); (try clear c36b0); (try clear c36b1); (try clear c36b2); (try clear c37); (try clear c37b0); (try clear c37b1); (try clear c38); (try clear c38b0); (try clear c38b1); (try clear c38b2); (try clear c39); (try clear c39b0); (try clear c39b1); (try clear c39b2); (try clear c40); (try clear c40b0); (try clear c40b1); (try clear c40b2); (try clear c41); (try clear c41b0); (try clear c41b1); (try clear c41b2); (try clear c43); (try clear c43b0); (try clear c43b1); (try clear c43b2); (try clear c44); (try clear c44b0); (try clear c44b1); (try clear c44b2); (try clear c45); (try clear c45b0); (try clear c45b1); (try clear c45b2); (try clear c48); (try clear c50); (try clear c52); (try clear c52b0); (try clear c54); (try clear c54b0); (try clear c54b1); (try clear c55); (try clear c55b0); (try clear c55b1); (try clear c56); (try clear c56b0); (try clear c56b1); (try clear c57); (try clear c57b0); (try clear c58); (try clear c58b0); (try clear c59); (try clear c59b0); (try clear c60); (try clear c60b0); (try clear c63); (try clear c63b0); (try clear c64); (try clear c64b0); (try clear p64); (try clear c67); (try clear c67b0); (try clear c67b1); (try clear c68); (try clear c68b0); (try clear c69); (try clear c69b0); (try clear c70); (try clear c70b0); (try clear c71); (try clear c71b0); (try clear c74); (try clear c74b0); (try clear c75); (try clear c75b0); (try clear c78); (try clear c80); (try clear c82); (try clear c85); (try clear c109); (try clear c114); (try clear c115); (try clear c119); (try clear c119b0); (try clear c119b1); (try clear c119b2); (try clear c120); (try clear c120b0); (try clear c120b1); (try clear c120b2); (try clear c121); (try clear c121b0); (try clear c121b1); (try clear c121b2); (try clear c122); (try clear c122b0); (try clear c122b1); (try clear c123); (try clear c123b0); (try clear c123b1); (try clear c123b2); (try clear c124); (try clear c124b0); (try clear c124b1); (try clear c124b2); (try clear c125); (try clear c125b0); (try clear c125b1); (try clear c126); (try clear c126b0); (try clear c126b1); (try clear c126b2); (try clear c128); (try clear c131); (try clear c133); (try clear c134); (try clear c136); (try clear c148); (try clear c150); (try clear c152); (try clear c152b0); (try clear c152b1); (try clear c152b2); (try clear c153); (try clear c153b0); (try clear c154); (try clear c155); (try clear c156); (try clear c156b0); (try clear c158); (try clear c158b0); (try clear c159); (try clear c159b0); (try clear p160); (try clear q160); (try clear hx160); (try clear c161); (try clear c161b0); (try clear p162); (try clear q162); (try clear hx162); (try clear c163); (try clear c163b0); (try clear c163b1); (try clear c164); (try clear c164b0); (try clear c165); (try clear c165b0); (try clear c165b1); (try clear c166); (try clear c166b0); (try clear c167); (try clear c167b0); (try clear c167b1); (try clear c168); (try clear c168b0); (try clear c168b1); (try clear c169); (try clear c169b0); (try clear c169b1); (try clear c169b2); (try clear c170); (try clear c170b0); (try clear c171); (try clear c171b0); (try clear c171b1); (try clear c172); (try clear c172b0); (try clear c172b1); (try clear c173); (try clear c173b0); (try clear c173b1); (try clear c173b2); (try clear c175); (try clear c175b0); (try clear c175b1); (try clear c176); (try clear c176b0); (try clear c177); (try clear c177b0); (try clear c177b1); (try clear c177b2); (try clear c179); (try clear c180); (try clear c180b0); (try clear c180b1); (try clear c181); (try clear c181b0); (try clear c181b1); (try clear c182); (try clear c182b0); (try clear c182b1); (try clear c182b2); (try clear c184); (try clear c184b0); (try clear c184b1); (try clear c185); (try clear c185b0); (try clear c185b1); (try clear c185b2); (try clear c187); (try clear c187b0); (try clear c187b1); (try clear c187b2); (try clear c189); (try clear c189b0); (try clear c189b1); (try clear c190); (try clear c190b0); (try clear c190b1); (try clear c190b2); (try clear c192); (try clear c192b0); (try clear c192b1); (try clear c192b2); (try clear hcz110_0); (try clear hcz110_1); (try clear hcz116_0); (try clear hcz116_1); (try clear hcz135_0); (try clear hcz135_1); (try clear hcz137_0); (try clear hcz137_1); (try clear hcz17_0); (try clear hcz17_1); (try clear hcz20_0); (try clear hcz20_1); (try clear hcz22_0); (try clear hcz22_1); (try clear hcz24_0); (try clear hcz24_1); (try clear hcz26_0); (try clear hcz26_1); (try clear hcz28_0); (try clear hcz28_1); (try clear hcz30_0); (try clear hcz30_1); (try clear hcz32_0); (try clear hcz32_1); (try clear hcz46_0); (try clear hcz46_1); (try clear hcz51_0); (try clear hcz51_1); (try clear hcz61_0); (try clear hcz61_1); (try clear hcz62_0); (try clear hcz62_1); (try clear hcz65_0); (try clear hcz65_1); (try clear hcz66_0); (try clear hcz66_1); (try clear hcz72_0); (try clear hcz72_1); (try clear hcz73_0); (try clear hcz73_1); (try clear hcz76_0); (try clear hcz76_1); (try clear hcz77_0); (try clear hcz77_1); (try clear hcz86_0); (try clear hcz86_1); (try clear hcz88_0); (try clear hcz88_1); (try clear hfz110_0); (try clear hfz110_1); (try clear hfz116_0); (try clear hfz116_1); (try clear hfz135_0); (try clear hfz135_1); (try clear hfz137_0); (try clear hfz137_1); (try clear hfz17_0); (try clear hfz17_1); (try clear hfz20_0); (try clear hfz20_1); (try clear hfz22_0); (try clear hfz22_1); (try clear hfz24_0); (try clear hfz24_1); (try clear hfz26_0); (try clear hfz26_1); (try clear hfz28_0); (try clear hfz28_1); (try clear hfz30_0); (try clear hfz30_1); (try clear hfz32_0); (try clear hfz32_1); (try clear hfz46_0); (try clear hfz46_1); (try clear hfz51_0); (try clear hfz51_1); (try clear hfz61_0); (try clear hfz61_1); (try clear hfz62_0); (try clear hfz62_1); (try clear hfz65_0); (try clear hfz65_1); (try clear hfz66_0); (try clear hfz66_1); (try clear hfz72_0); (try clear hfz72_1); (try clear hfz73_0); (try clear hfz73_1); (try clear hfz76_0); (try clear hfz76_1); (try clear hfz77_0); (try clear hfz77_1); (try clear hfz86_0); (try clear hfz86_1); (try clear hfz88_0); (try clear hfz88_1); (try clear p160); (try clear p162); (try clear p2); (try clear p6); (try clear p64); (try clear q160); (try clear q162)
           obtain ⟨kq, HA, HJ148, HO_491001, HO_535001, HO_541001, BK490, BK534, BK540, HB⟩ := hcut
           cases kq with
           | zero => exact absurd HA.out (by simp [laws_FnChecksDoubled.j7])
           | succ kj148 =>
            have H := HA.out
            clear HA
            simp only [laws_FnChecksDoubled.j7] at H
            by_cases c194 : t525 = true
            ·
             subst c194
             have H1 : (if t515.size + t524.size ≤ 9223372036854775807 then ((impl_IsDoubledRight.f kj148 (t515 ++ t524)).bind fun bt558 => (if (t524.size : Int) = 1 then (if bt558.2 = true then (laws_FnChecksDoubled.j8 kj148 t528 t533 (!bt558.1) t529 t530) else (none)) else (none))) else (none)) = some r := by rw [if_pos rfl] at H; exact H
             clear H
             have H := H1
             clear H1
             by_cases c195 : t515.size + t524.size ≤ 9223372036854775807
             ·
              rw [if_pos c195] at H
              have c195b0 := eq_true c195
              have c195b1 : decide (t515.size + t524.size ≤ 9223372036854775807) = true := decide_eq_true c195
              try have c195b2 : (9223372036854775807 < t515.size + t524.size) = False := eq_false (Nat.not_lt.2 c195)
              have c195b3 : ∀ z_ : Nat, z_ = t515.size + t524.size → (9223372036854775807 < z_) = False := fun z_ hz_ => by rw [hz_]; exact eq_false (Nat.not_lt.2 c195)
              replace H := Option.bind_eq_some_iff.mp H
              obtain ⟨⟨t558, t559⟩, A1960, H⟩ := H
              replace H : (if (t524.size : Int) = 1 then (if t559 = true then (laws_FnChecksDoubled.j8 kj148 t528 t533 (!t558) t529 t530) else (none)) else (none)) = some r := H
              have A196 := Aside0.mk A1960
              clear A1960
              have HC197 := Aside0.mk H
              clear H
              go_upto_region 53 with (first | (go_at_call 71; (with_reducible refine (impl_IsDoubledRight.calls kj148 (t515 ++ t524) t558 t559 _ A196.out).mono ?_); rintro e w198 ⟨rfl, hb⟩; have n0_ := Aside0.mk (Kd.R_below Z11 hb); have n1_ := Aside0.mk (Kd.R_below Z21 hb); have n2_ := Aside0.mk (Kd.R_below Z22 hb); have n3_ := Aside0.mk (blk_below (g := gb490) (o := .cells #[.int .i64 t486, .slice Ao18 t487.length co18] 51 (0, 0)) Z8 hb); have n4_ := Aside0.mk (blk_below (g := gb534) (o := .cells #[.int .i64 t529, .slice Ao111 t530.length co111] 51 (0, 0)) Z14 hb); have n5_ := Aside0.mk (blk_below (g := gb540) (o := .cells #[.int .i64 t535, .slice Ao117 t536.length co117] 51 (0, 0)) Z15 hb); have n6_ := Aside0.mk (below_step Z7 hb); clear HO_491001 HO_535001 HO_541001 BK490 BK534 BK540 HB; revert n0_ n1_ n2_ n3_ n4_ n5_ n6_; intro HO_491001 HO_535001 HO_541001 BK490 BK534 BK540 HB; (try clear hb); (try clear hb2); (try clear hk); (try clear hi)))
              (try simp only [Act.put, List.setIfInBounds_toArray, List.set_cons_zero, List.set_cons_succ])
              go_cut [418] from 1 to 0 (fun v418 wc => ∃ (kq : Nat) (x418_196 : Bool), v418 = .bool x418_196 ∧ Aside0 (laws_FnChecksDoubled.j8 kq t528 t533 x418_196 t529 t530 = some r) ∧ Aside0 (kq ≤ kj148) ∧ Aside0 (Kd.R (Kd.int .i64) 3 wc w.heap.size (fun k_ => some k_ ≠ ((.slice Ao111 t530.length co111) : Value).ownBlock ∧ some k_ ≠ ((.slice Ao117 t536.length co117) : Value).ownBlock) (.slice Ao18 t487.length co18) t487) ∧ Aside0 (Kd.R (Kd.int .i64) 3 wc w.heap.size (fun k_ => some k_ ≠ ((.slice Ao18 t487.length co18) : Value).ownBlock ∧ some k_ ≠ ((.slice Ao117 t536.length co117) : Value).ownBlock) (.slice Ao111 t530.length co111) t530) ∧ Aside0 (Kd.R (Kd.int .i64) 3 wc w.heap.size (fun k_ => some k_ ≠ ((.slice Ao18 t487.length co18) : Value).ownBlock ∧ some k_ ≠ ((.slice Ao111 t530.length co111) : Value).ownBlock) (.slice Ao117 t536.length co117) t536) ∧ Aside0 (wc.heap[gb490]? = some (.cells #[.int .i64 t486, (.slice Ao18 t487.length co18)] 51 (0, 0))) ∧ Aside0 (wc.heap[gb534]? = some (.cells #[.int .i64 t529, (.slice Ao111 t530.length co111)] 51 (0, 0))) ∧ Aside0 (wc.heap[gb540]? = some (.cells #[.int .i64 t535, (.slice Ao117 t536.length co117)] 51 (0, 0))) ∧ Aside0 (Below w.heap.size w wc))
              case first =>
               as_aux_lemma =>
               have H := HC197.out
               clear HC197
               by_cases c199 : (t524.size : Int) = 1
               ·
                rw [if_pos c199] at H
                have c199b0 : ((t524.size : Int) == 1) = true := beq_iff_eq.mpr c199
                have c199b1 : ((t524.size : Int) != 1) = false := bne_eq_false_iff_eq.mpr c199
                clear c199
                (first | rw [c199b0] | (simp only [i64_w, i32_w]; rw [c199b0]) | skip)
                by_cases c200 : t559 = true
                ·
                 subst c200
                 have H1 : (laws_FnChecksDoubled.j8 kj148 t528 t533 (!t558) t529 t530) = some r := by rw [if_pos rfl] at H; exact H
                 clear H
                 have H := H1
                 clear H1
                 as_aux_lemma =>
                 have H' := Aside0.mk H
                 clear H
                 go_wp2
                 repeat (go_quiet (fail); try go_wp2)
                 go_meet
                 case rel => exact ⟨_, (!t558), Z3, H', ⟨by have := HJ13.out; have := HJ48.out; have := HJ100.out; have := HJ148.out; first | omega | exact Nat.le_refl _⟩, ⟨by (with_reducible repeat (first | apply Kd.R_alloc | apply Kd.R_drewN | apply Kd.R_drew)); exact HO_491001.out⟩, ⟨by (with_reducible repeat (first | apply Kd.R_alloc | apply Kd.R_drewN | apply Kd.R_drew)); exact HO_535001.out⟩, ⟨by (with_reducible repeat (first | apply Kd.R_alloc | apply Kd.R_drewN | apply Kd.R_drew)); exact HO_541001.out⟩, ⟨by (with_reducible repeat (first | refine blk_drewN ?_ _ | refine blk_drew ?_ | refine blk_alloc ?_ _)); exact BK490.out⟩, ⟨by (with_reducible repeat (first | refine blk_drewN ?_ _ | refine blk_drew ?_ | refine blk_alloc ?_ _)); exact BK534.out⟩, ⟨by (with_reducible repeat (first | refine blk_drewN ?_ _ | refine blk_drew ?_ | refine blk_alloc ?_ _)); exact BK540.out⟩, ⟨by repeat (first | (with_reducible first | exact HB.out | apply below_alloc | apply pw_below_drewN | apply below_drew1 | refine below_set ?_ GE490.out | refine below_set ?_ GE534.out | refine below_set ?_ GE540.out) | exact HB.out)⟩⟩
                ·
                 replace c200 := Bool.eq_false_iff.mpr c200
                 subst c200
                 have H1 : (none) = some r := by rw [if_neg (show ¬ (false = true) by decide)] at H; exact H
                 clear H
                 have H := H1
                 clear H1
                 exact absurd H (by simp)
               ·
                rw [if_neg c199] at H
                exact absurd H (by simp)
              case rest =>
               as_aux_lemma =>
               clear HC197
               (try clear c1); (try clear p1); (try clear q1); (try clear hx1); (try clear c2); (try clear p2); (try clear c3); (try clear c4); (try clear c5); (try clear c6); (try clear p6); (try clear c7); (try clear c8); (try clear c10); (try clear c11); (try clear c12); (try clear c13); (try clear c14); (try clear c15); (try clear c16); (try clear p16); (try clear q16); (try clear hx16); (try clear c17); (try clear c18); (try clear c19); (try clear c20); (try clear c34); (try clear c34b0); (try clear c34b1); (try clear c34b2); (try clear c35); (try clear c35b0); (try clear c35b1); (try clear c36); (try clear c36b0); (try clear c36b1); (try clear c36b2); (try clear c37); (try clear c37b0); (try clear c37b1); (try clear c38); (try clear c38b0); (try clear c38b1); (try clear c38b2); (try clear c39); (try clear c39b0); (try clear c39b1); (try clear c39b2); (try clear c40); (try clear c40b0); (try clear c40b1); (try clear c40b2); (try clear c41); (try clear c41b0); (try clear c41b1); (try clear c41b2); (try clear c43); (try clear c43b0); (try clear c43b1); (try clear c43b2); (try clear c44); (try clear c44b0); (try clear c44b1); (try clear c44b2); (try clear c45); (try clear c45b0); (try clear c45b1); (try clear c45b2); (try clear c48); (try clear c50); (try clear c52); (try clear c52b0); (try clear c54); (try clear c54b0); (try clear c54b1); (try clear c55); (try clear c55b0); (try clear c55b1); (try clear c56); (try clear c56b0); (try clear c56b1); (try clear c57); (try clear c57b0); (try clear c58); (try clear c58b0); (try clear c59); (try clear c59b0); (try clear c60); (try clear c60b0); (try clear c63); (try clear c63b0); (try clear c64); (try clear c64b0); (try clear p64); (try clear c67); (try clear c67b0); (try clear c67b1); (try clear c68); (try clear c68b0); (try clear c69); (try clear c69b0); (try clear c70); (try clear c70b0); (try clear c71); (try clear c71b0); (try clear c74); (try clear c74b0); (try clear c75); (try clear c75b0); (try clear c78); (try clear c80); (try clear c82); (try clear c85); (try clear c109); (try clear c114); (try clear c115); (try clear c119); (try clear c119b0); (try clear c119b1); (try clear c119b2); (try clear c120); (try clear c120b0); (try clear c120b1); (try clear c120b2); (try clear c121); (try clear c121b0); (try clear c121b1); (try clear c121b2); (try clear c122); (try clear c122b0); (try clear c122b1); (try clear c123); (try clear c123b0); (try clear c123b1); (try clear c123b2); (try clear c124); (try clear c124b0); (try clear c124b1); (try clear c124b2); (try clear c125); (try clear c125b0); (try clear c125b1); (try clear c126); (try clear c126b0); (try clear c126b1); (try clear c126b2); (try clear c128); (try clear c131); (try clear c133); (try clear c134); (try clear c136); (try clear c148); (try clear c150); (try clear c152); (try clear c152b0); (try clear c152b1); (try clear c152b2); (try clear c153); (try clear c153b0); (try clear c154); (try clear c155); (try clear c156); (try clear c156b0); (try clear c158); (try clear c158b0); (try clear c159); (try clear c159b0); (try clear p160); (try clear q160); (try clear hx160); (try clear c161); (try clear c161b0); (try clear p162); (try clear q162); (try clear hx162); (try clear c163); (try clear c163b0); (try clear c163b1); (try clear c164); (try clear c164b0); (try clear c165); (try clear c165b0); (try clear c165b1); (try clear c166); (try clear c166b0); (try clear c167); (try clear c167b0); (try clear c167b1); (try clear c168); (try clear c168b0); (try clear c168b1); (try clear c169); (try clear c169b0); (try clear c169b1); (try clear c169b2); (try clear c170); (try clear c170b0); (try clear c171); (try clear c171b0); (try clear c171b1); (try clear c172); (try clear c172b0); (try clear c172b1); (try clear c173); (try clear c173b0); (try clear c173b1); (try clear c173b2); (try clear c175); (try clear c175b0); (try clear c175b1); (try clear c176); (try clear c176b0); (try clear c177); (try clear c177b0); (try clear c177b1); (try clear c177b2); (try clear c179); (try clear c180); (try clear c180b0); (try clear c180b1); (try clear c181); (try clear c181b0); (try clear c181b1); (try clear c182); (try clear c182b0); (try clear c182b1); (try clear c182b2); (try clear c184); (try clear c184b0); (try clear c184b1); (try clear c185); (try clear c185b0); (try clear c185b1); (try clear c185b2); (try clear c187); (try clear c187b0); (try clear c187b1); (try clear c187b2); (try clear c189); (try clear c189b0); (try clear c189b1); (try clear c190); (try clear c190b0); (try clear c190b1); (try clear c190b2); (try clear c192); (try clear c192b0); (try clear c192b1); (try clear c192b2); (try clear c194); (try clear c195); (try clear c195b0); (try clear c195b1); (try clear c195b2); (try clear c199); (try clear c199b0); (try clear c199b1); (try clear c200); (try clear hcz110_0); (try clear hcz110_1); (try clear hcz116_0); (try clear hcz116_1); (try clear hcz135_0); (try clear hcz135_1); (try clear hcz137_0); (try clear hcz137_1); (try clear hcz17_0); (try clear hcz17_1); (try clear hcz20_0); (try clear hcz20_1); (try clear hcz22_0); (try clear hcz22_1); (try clear hcz24_0); (try clear hcz24_1); (try clear hcz26_0); (try clear hcz26_1); (try clear hcz28_0); (try clear hcz28_1); (try clear hcz30_0); (try clear hcz30_1); (try clear hcz32_0); (try clear hcz32_1); (try clear hcz46_0); (try clear hcz46_1); (try clear hcz51_0); (try clear hcz51_1); (try clear hcz61_0); (try clear hcz61_1); (try clear hcz62_0); (try clear hcz62_1); (try clear hcz65_0); (try clear hcz65_1); (try clear hcz66_0); (try clear hcz66_1); (try clear hcz72_0); (try clear hcz72_1); (try clear hcz73_0); (try clear hcz73_1); (try clear hcz76_0); (try clear hcz76_1); (try clear hcz77_0); (try clear hcz77_1); (try clear hcz86_0); (try clear hcz86_1); (try clear hcz88_0); (try clear hcz88_1); (try clear hfz110_0); (try clear hfz110_1); (try clear hfz116_0); (try clear hfz116_1); (try clear hfz135_0); (try clear hfz135_1); (try clear hfz137_0); (try clear hfz137_1); (try clear hfz17_0); (try clear hfz17_1); (try clear hfz20_0); (try clear hfz20_1); (try clear hfz22_0); (try clear hfz22_1); (try clear hfz24_0); (try clear hfz24_1); (try clear hfz26_0); (try clear hfz26_1); (try clear hfz28_0); (try clear hfz28_1); (try clear hfz30_0); (try clear hfz30_1); (try clear hfz32_0); (try clear hfz32_1); (try clear hfz46_0); (try clear hfz46_1); (try clear hfz51_0); (try clear hfz51_1); (try clear hfz61_0); (try clear hfz61_1); (try clear hfz62_0); (try clear hfz62_1); (try clear hfz65_0); (try clear hfz65_1); (try clear hfz66_0); (try clear hfz66_1); (try clear hfz72_0); (try clear hfz72_1); (try clear hfz73_0); (try clear hfz73_1); (try clear hfz76_0); (try clear hfz76_1); (try clear hfz77_0); (try clear hfz77_1); (try clear hfz86_0); (try clear hfz86_1); (try clear hfz88_0); (try clear hfz88_1); (try clear p1); (try clear p16); (try clear p160); (try clear p162); (try clear p2); (try clear p6); (try clear p64); (try clear q1); (try clear q16); (try clear q160); (try clear q162)
               obtain ⟨kq, x418_196, rfl, HA, HJ196, HO_491001, HO_535001, HO_541001, BK490, BK534, BK540, HB⟩ := hcut
               cases kq with
               | zero => exact absurd HA.out (by simp [laws_FnChecksDoubled.j8])
               | succ kj196 =>
                have H := HA.out
                clear HA
                simp only [laws_FnChecksDoubled.j8] at H
                by_cases c201 : x418_196 = true
                ·
                 subst c201
                 have H1 : (none) = some r := by rw [if_pos rfl] at H; exact H
                 clear H
                 have H := H1
                 clear H1
                 exact absurd H (by simp)
                ·
                 replace c201 := Bool.eq_false_iff.mpr c201
                 subst c201
                 have H1 : (if t533 = true then ((impl_SchemeText.f kj196 t529 t530).bind fun bt560 => (if bt560.2 = true then (some (bt560.1.toList == t528.toList)) else (none))) else (some true)) = some r := by rw [if_neg (show ¬ (false = true) by decide)] at H; exact H
                 clear H
                 have H := H1
                 clear H1
                 by_cases c202 : t533 = true
                 ·
                  subst c202
                  have H1 : ((impl_SchemeText.f kj196 t529 t530).bind fun bt560 => (if bt560.2 = true then (some (bt560.1.toList == t528.toList)) else (none))) = some r := by rw [if_pos rfl] at H; exact H
                  clear H
                  have H := H1
                  clear H1
                  replace H := Option.bind_eq_some_iff.mp H
                  obtain ⟨⟨t560, t561⟩, A2030, H⟩ := H
                  replace H : (if t561 = true then (some (t560.toList == t528.toList)) else (none)) = some r := H
                  have A203 := Aside0.mk A2030
                  clear A2030
                  by_cases c204 : t561 = true
                  ·
                   subst c204
                   have H1 : (some (t560.toList == t528.toList)) = some r := by rw [if_pos rfl] at H; exact H
                   clear H
                   have H := H1
                   clear H1
                   obtain rfl := Option.some.inj H
                   have hnb205 := NB534_490.out
                   have hnc205 := NB490_534.out
                   have hnb206 := NB534_540.out
                   have hnc206 := NB540_534.out
                   have hcz207_0 : wc.cell? ⟨gb534, 0, none⟩ = some (.int .i64 t529) := (blk_cell BK534.out 0).trans rfl
                   have hcz207_1 : wc.cell? ⟨gb534, 1, none⟩ = some (.slice Ao111 t530.length co111) := (blk_cell BK534.out 1).trans rfl
                   have hfz207_0 := blk_frozen BK534.out 0
                   have hfz207_1 := blk_frozen BK534.out 1
                   go_wp2_with (first | (go_at_call 64; (with_reducible refine (impl_SchemeText.calls kj196 t529 _ _ t530 t560 true _ ?side1 ?side2 A203.out).mono ?_); (case side1 => exact Z132); (case side2 => exact (Kd.R_reads' HO_535001.out).2.1); rintro e w208 ⟨rfl, hb⟩; have n0_ := Aside0.mk (Kd.R_below Z11 hb); have n1_ := Aside0.mk (Kd.R_below Z21 hb); have n2_ := Aside0.mk (Kd.R_below Z22 hb); have n3_ := Aside0.mk (blk_below (g := gb490) (o := .cells #[.int .i64 t486, .slice Ao18 t487.length co18] 51 (0, 0)) Z8 hb); have n4_ := Aside0.mk (blk_below (g := gb534) (o := .cells #[.int .i64 t529, .slice Ao111 t530.length co111] 51 (0, 0)) Z14 hb); have n5_ := Aside0.mk (blk_below (g := gb540) (o := .cells #[.int .i64 t535, .slice Ao117 t536.length co117] 51 (0, 0)) Z15 hb); have n6_ := Aside0.mk (below_step Z7 hb); clear HO_491001 HO_535001 HO_541001 BK490 BK534 BK540 HB; revert n0_ n1_ n2_ n3_ n4_ n5_ n6_; intro HO_491001 HO_535001 HO_541001 BK490 BK534 BK540 HB; (try clear hb); (try clear hb2); (try clear hk); (try clear hi)))
                   go_ret
                   exact ⟨by first | rfl | (simp [errW_none, errW_some] <;> rfl) | (simp [*, errW_none, errW_some] <;> rfl), by repeat (first | (with_reducible first | exact HB.out | apply below_alloc | apply pw_below_drewN | apply below_drew1 | refine below_set ?_ GE490.out | refine below_set ?_ GE534.out | refine below_set ?_ GE540.out) | exact HB.out)⟩
                  ·
                   replace c204 := Bool.eq_false_iff.mpr c204
                   subst c204
                   have H1 : (none) = some r := by rw [if_neg (show ¬ (false = true) by decide)] at H; exact H
                   clear H
                   have H := H1
                   clear H1
                   exact absurd H (by simp)
                 ·
                  replace c202 := Bool.eq_false_iff.mpr c202
                  subst c202
                  have H1 : (some true) = some r := by rw [if_neg (show ¬ (false = true) by decide)] at H; exact H
                  clear H
                  have H := H1
                  clear H1
                  obtain rfl := Option.some.inj H
                  go_wp2
                  repeat (go_quiet (fail); try go_wp2)
                  go_ret
                  exact ⟨by first | rfl | (simp [errW_none, errW_some] <;> rfl) | (simp [*, errW_none, errW_some] <;> rfl), by repeat (first | (with_reducible first | exact HB.out | apply below_alloc | apply pw_below_drewN | apply below_drew1 | refine below_set ?_ GE490.out | refine below_set ?_ GE534.out | refine below_set ?_ GE540.out) | exact HB.out)⟩
             ·
              rw [if_neg c195] at H
              exact absurd H (by simp)
            ·
             replace c194 := Bool.eq_false_iff.mpr c194
             subst c194
             have H1 : (if t533 = true then ((impl_SchemeText.f kj148 t529 t530).bind fun bt562 => (if bt562.2 = true then (some (bt562.1.toList == t528.toList)) else (none))) else (some true)) = some r := by rw [if_neg (show ¬ (false = true) by decide)] at H; exact H
             clear H
             have H := H1
             clear H1
             by_cases c209 : t533 = true
             ·
              subst c209
              have H1 : ((impl_SchemeText.f kj148 t529 t530).bind fun bt562 => (if bt562.2 = true then (some (bt562.1.toList == t528.toList)) else (none))) = some r := by rw [if_pos rfl] at H; exact H
              clear H
              have H := H1
              clear H1
              replace H := Option.bind_eq_some_iff.mp H
              obtain ⟨⟨t562, t563⟩, A2100, H⟩ := H
              replace H : (if t563 = true then (some (t562.toList == t528.toList)) else (none)) = some r := H
              have A210 := Aside0.mk A2100
              clear A2100
              by_cases c211 : t563 = true
              ·
               subst c211
               have H1 : (some (t562.toList == t528.toList)) = some r := by rw [if_pos rfl] at H; exact H
               clear H
               have H := H1
               clear H1
               obtain rfl := Option.some.inj H
               have hnb212 := NB534_490.out
               have hnc212 := NB490_534.out
               have hnb213 := NB534_540.out
               have hnc213 := NB540_534.out
               have hcz214_0 : wc.cell? ⟨gb534, 0, none⟩ = some (.int .i64 t529) := (blk_cell BK534.out 0).trans rfl
               have hcz214_1 : wc.cell? ⟨gb534, 1, none⟩ = some (.slice Ao111 t530.length co111) := (blk_cell BK534.out 1).trans rfl
               have hfz214_0 := blk_frozen BK534.out 0
               have hfz214_1 := blk_frozen BK534.out 1
               go_wp2_with (first | (go_at_call 64; (with_reducible refine (impl_SchemeText.calls kj148 t529 _ _ t530 t562 true _ ?side1 ?side2 A210.out).mono ?_); (case side1 => exact Z132); (case side2 => exact (Kd.R_reads' HO_535001.out).2.1); rintro e w215 ⟨rfl, hb⟩; have n0_ := Aside0.mk (Kd.R_below Z11 hb); have n1_ := Aside0.mk (Kd.R_below Z21 hb); have n2_ := Aside0.mk (Kd.R_below Z22 hb); have n3_ := Aside0.mk (blk_below (g := gb490) (o := .cells #[.int .i64 t486, .slice Ao18 t487.length co18] 51 (0, 0)) Z8 hb); have n4_ := Aside0.mk (blk_below (g := gb534) (o := .cells #[.int .i64 t529, .slice Ao111 t530.length co111] 51 (0, 0)) Z14 hb); have n5_ := Aside0.mk (blk_below (g := gb540) (o := .cells #[.int .i64 t535, .slice Ao117 t536.length co117] 51 (0, 0)) Z15 hb); have n6_ := Aside0.mk (below_step Z7 hb); clear HO_491001 HO_535001 HO_541001 BK490 BK534 BK540 HB; revert n0_ n1_ n2_ n3_ n4_ n5_ n6_; intro HO_491001 HO_535001 HO_541001 BK490 BK534 BK540 HB; (try clear hb); (try clear hb2); (try clear hk); (try clear hi)))
               go_ret
               exact ⟨by first | rfl | (simp [errW_none, errW_some] <;> rfl) | (simp [*, errW_none, errW_some] <;> rfl), by repeat (first | (with_reducible first | exact HB.out | apply below_alloc | apply pw_below_drewN | apply below_drew1 | refine below_set ?_ GE490.out | refine below_set ?_ GE534.out | refine below_set ?_ GE540.out) | exact HB.out)⟩
              ·
               replace c211 := Bool.eq_false_iff.mpr c211
               subst c211
               have H1 : (none) = some r := by rw [if_neg (show ¬ (false = true) by decide)] at H; exact H
               clear H
               have H := H1
               clear H1
               exact absurd H (by simp)
             ·
              replace c209 := Bool.eq_false_iff.mpr c209
              subst c209
              have H1 : (some true) = some r := by rw [if_neg (show ¬ (false = true) by decide)] at H; exact H
              clear H
              have H := H1
              clear H1
              obtain rfl := Option.some.inj H
              go_wp2
              repeat (go_quiet (fail); try go_wp2)
              go_ret
              exact ⟨by first | rfl | (simp [errW_none, errW_some] <;> rfl) | (simp [*, errW_none, errW_some] <;> rfl), by repeat (first | (with_reducible first | exact HB.out | apply below_alloc | apply pw_below_drewN | apply below_drew1 | refine below_set ?_ GE490.out | refine below_set ?_ GE534.out | refine below_set ?_ GE540.out) | exact HB.out)⟩
end Go.Proofs.YtemhkdpokbmmcaaGreatDoor.MCD
