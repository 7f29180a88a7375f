-- Walks: printed by a program of this session (wip/mk.py) over the kit's printer, made smaller by wip/squeeze.py.
import Derived.Test.YtemhkdpokbmmcaaGreatDoorA1
namespace Go.Proofs.YtemhkdpokbmmcaaGreatDoor.MCD
open Go.RowKit Go.Proofs.YtemhkdpokbmmcaaGreatDoorW.PrintWords Go.Proofs.YtemhkdpokbmmcaaGreatDoorW.PrintLast Go.Proofs.YtemhkdpokbmmcaaGreatDoorW.PrintMore
attribute [local go_sem] max2_int min2_int max_two min_two max_three min_three max_four min_four   -- for this text's walks alone
set_option linter.unusedVariables false
set_option linter.unusedSimpArgs false
/-! ### impl_ParseScheme: function 68 -/
def impl_ParseScheme.l0 : Nat → ByteArray → List ByteArray → Int → Int → Int → List Int → Option (Int × List Int × Bool)
 | 0, _, _, _, _, _, _ => none
 | k + 1, x0, x30, x31, x32, x343000, x343001 => if x32 < x31 then (if 0 ≤ x32 then (if x32 < (x30.length : Int) then ((strconv_Atoi_153.f (rdOf ByteArray.empty x30 x32)).bind fun t347 => (if x343001.length < 17592186044416 then (impl_ParseScheme.l0 k x0 x30 x31 (wrap64 (x32 + 1)) x343000 (x343001 ++ [t347])) else (none))) else (none)) else (none)) else ((impl_SchemeText.f k x343000 x343001).bind fun bt353 => (if bt353.2 = true then (if bt353.1.toList = x0.toList then (some (x343000, x343001, true)) else (some (0, ([] : List Int), false))) else (some (0, ([] : List Int), false))))
def impl_ParseScheme.f (k : Nat) (a0 : ByteArray) : Option (Int × List Int × Bool) := (strings_Cut.f a0 (⟨#[58]⟩ : ByteArray)).bind fun bt336 => ((strconv_Atoi_153.f bt336.1).bind fun t339 => ((strings_Split.f bt336.2.1 (⟨#[44]⟩ : ByteArray)).bind fun t343 => (impl_ParseScheme.l0 k a0 t343 (t343.length : Int) 0 t339 ([] : List Int))))
set_option maxHeartbeats 8000000 in
set_option maxRecDepth 100000 in
theorem impl_ParseScheme.calls (k : Nat) (a0 : ByteArray) (r1 : Int) (r2 : List Int) (r3 : Bool) (w : World) (hG : GV w) (h : impl_ParseScheme.f k a0 = some (r1, r2, r3)) :
  Calls Tryz.prog 68 #[.string a0] w fun e w' => ∃ v1_ : Value, e = .returned (.tuple #[.agg #[.int .i64 r1, v1_], .bool r3]) ∧ Kd.R (Kd.int .i64) 3 w' w.heap.size (fun _ => True) v1_ r2 ∧ Below w.heap.size w w' := by
 have hu51 := Tryz.underlying51
 have HG := Aside0.mk hG
 clear hG
 have HB := Aside0.mk (Below.refl w.heap.size w)
 have H : ((strings_Cut.f a0 (⟨#[58]⟩ : ByteArray)).bind fun bt336 => ((strconv_Atoi_153.f bt336.1).bind fun t339 => ((strings_Split.f bt336.2.1 (⟨#[44]⟩ : ByteArray)).bind fun t343 => (impl_ParseScheme.l0 k a0 t343 (t343.length : Int) 0 t339 ([] : List Int))))) = some (r1, r2, r3) := h
 clear h
 replace H := Option.bind_eq_some_iff.mp H
 obtain ⟨⟨t336, t337, t338⟩, A20, H⟩ := H
 replace H : ((strconv_Atoi_153.f t336).bind fun t339 => ((strings_Split.f t337 (⟨#[44]⟩ : ByteArray)).bind fun t343 => (impl_ParseScheme.l0 k a0 t343 (t343.length : Int) 0 t339 ([] : List Int)))) = some (r1, r2, r3) := H
 have A2 := Aside0.mk A20
 clear A20
 replace H := Option.bind_eq_some_iff.mp H
 obtain ⟨t339, A30, H⟩ := H
 replace H : ((strings_Split.f t337 (⟨#[44]⟩ : ByteArray)).bind fun t343 => (impl_ParseScheme.l0 k a0 t343 (t343.length : Int) 0 t339 ([] : List Int))) = some (r1, r2, r3) := H
 have A3 := Aside0.mk A30
 clear A30
 replace H := Option.bind_eq_some_iff.mp H
 obtain ⟨t343, A40, H⟩ := H
 replace H : (impl_ParseScheme.l0 k a0 t343 (t343.length : Int) 0 t339 ([] : List Int)) = some (r1, r2, r3) := H
 have A4 := Aside0.mk A40
 clear A40
 have H' := Aside0.mk H
 clear H
 go_enter Tryz.func68, Tryz.ntmps68
 go_wp2_with (first | ((with_reducible refine gate_dst (N := 2) rfl ?_); refine box_event ?hg (N := 2) ?hd (cs := #[.int .i64 0, .slice none 0 0]) (t := 51) ?hr ?_; (case hd => rfl); (case hg => rfl); (case hr => exact Z13); intro gb335 hg w5 hbox hb; have n0_ := Aside0.mk (below_step Z0 hb); have n1_ := Aside0.mk (hbox); have n2_ := Aside0.mk ((Z18 : w.heap.size ≤ gb335)); have n3_ := Aside0.mk ((Z18 : w.heap.size ≤ gb335)); clear HB; revert n0_ n1_ n2_ n3_; intro HB BK335 GW335 GE335; clear hb hbox hg) | ((with_reducible refine gate_callee (f := 152) rfl ?_); refine goesL_ (some 18) rfl rfl Tryz.func152 (by kernel_rfl) rfl #[.string a0, .string (⟨#[58]⟩ : ByteArray)] rfl Z1 ?_; (with_reducible refine (strings_Cut.calls a0 (⟨#[58]⟩ : ByteArray) t336 t337 t338 _ A2.out).mono ?_); rintro e w' ⟨rfl, ⟨nd, rfl⟩⟩; refine ⟨_, rfl, ?_⟩; (try (rw [drewN_self w5]; generalize hq_ : World.drewN w5 _ = w5; have n0_ : Aside0 (w5.heap[gb335]? = some (.cells #[.int .i64 0, .slice none 0 0] 51 (0, 0))) := ⟨by rw [← hq_]; exact Z34⟩; have n1_ : Aside0 (Below w.heap.size w w5) := ⟨by rw [← hq_]; exact Z51⟩; clear BK335 HB hq_; revert n0_ n1_; intro BK335 HB))) | ((with_reducible refine gate_callee (f := 153) rfl ?_); refine goesL_ (some 24) rfl rfl Tryz.func153 (by kernel_rfl) rfl #[.string t336] rfl Z1 ?_; (with_reducible refine (strconv_Atoi_153.calls t336 t339 _ ?side1 A3.out).mono ?_); (case side1 => exact GV.below HG.out Z51); rintro e w6 ⟨zA3_1, rfl, hb⟩; refine ⟨_, rfl, ?_⟩; have n0_ := Aside0.mk (blk_below (g := gb335) (o := .cells #[.int .i64 0, .slice none 0 0] 51 (0, 0)) Z34 hb); have n1_ := Aside0.mk (below_step Z51 hb); clear BK335 HB; revert n0_ n1_; intro BK335 HB; (try clear hb); (try clear hb2); (try clear hk); (try clear hi)) | ((with_reducible refine gate_dst (N := 9) rfl ?_); refine box_event ?hg (N := 9) ?hd (cs := #[.int .i64 0, .slice none 0 0]) (t := 51) ?hr ?_; (case hd => rfl); (case hg => rfl); (case hr => exact Z13); intro gb342 hg w7 hbox hb; have n0_ := Aside0.mk (blk_below (g := gb335) (o := .cells #[.int .i64 0, .slice none 0 0] 51 (0, 0)) Z34 hb); have n1_ := Aside0.mk (below_step Z51 hb); have n2_ := Aside0.mk (hbox); have n3_ := Aside0.mk ((by rw [hg]; exact (below_size Z51) : w.heap.size ≤ gb342)); have n4_ := Aside0.mk ((by rw [hg]; exact (below_size Z51) : w.heap.size ≤ gb342)); have n5_ := Aside0.mk ((by rw [hg]; exact Nat.ne_of_lt (blk_lt (g := gb335) (o := .cells #[.int .i64 0, .slice none 0 0] 51 (0, 0)) Z34) : gb335 ≠ gb342)); have n6_ := Aside0.mk ((by rw [hg]; exact Nat.ne_of_gt (blk_lt (g := gb335) (o := .cells #[.int .i64 0, .slice none 0 0] 51 (0, 0)) Z34) : gb342 ≠ gb335)); clear BK335 HB; revert n0_ n1_ n2_ n3_ n4_ n5_ n6_; intro BK335 HB BK342 GW342 GE342 NB335_342 NB342_335; clear hb hbox hg; have hnb8 := NB342_335.out; have hnc8 := NB335_342.out; have hcz9_0 : w7.cell? ⟨gb342, 0, none⟩ = some (.int .i64 0) := (blk_cell BK342.out 0).trans rfl; have hcz9_1 : w7.cell? ⟨gb342, 1, none⟩ = some (.slice none 0 0) := (blk_cell BK342.out 1).trans rfl; have hfz9_0 := blk_frozen BK342.out 0; have hfz9_1 := blk_frozen BK342.out 1) | ((with_reducible refine gate_callee (f := 154) rfl ?_); refine goesL_ (some 30) rfl rfl Tryz.func154 (by kernel_rfl) rfl #[.string t337, .string (⟨#[44]⟩ : ByteArray)] rfl Z1 ?_; (with_reducible refine (strings_Split.calls t337 (⟨#[44]⟩ : ByteArray) t343 _ ?side1 A4.out).mono ?_); (case side1 => exact GV.below HG.out Z23); rintro e w10 ⟨v344, rfl, ho0, hb⟩; refine ⟨_, rfl, ?_⟩; have n0_ := Aside0.mk (Kd.R_lower ho0 (below_size Z23)); have n1_ := Aside0.mk (blk_below (g := gb335) (o := .cells #[.int .i64 0, .slice none 0 0] 51 (0, 0)) (by (with_reducible repeat (first | refine blk_drewN ?_ _ | refine blk_drew ?_ | refine blk_alloc ?_ _)); refine blk_far ?_ NB335_342.out _; (with_reducible repeat (first | refine blk_drewN ?_ _ | refine blk_drew ?_ | refine blk_alloc ?_ _)); refine blk_far ?_ NB335_342.out _; (with_reducible repeat (first | refine blk_drewN ?_ _ | refine blk_drew ?_ | refine blk_alloc ?_ _)); exact BK335.out) hb); have n2_ := Aside0.mk (blk_below (g := gb342) (o := .cells #[.int .i64 t339, .slice none 0 0] 51 (0, 0)) (by (with_reducible repeat (first | refine blk_drewN ?_ _ | refine blk_drew ?_ | refine blk_alloc ?_ _)); refine blk_put (cs := #[.int .i64 t339, .slice none 0 0]) ?_ 1 _ rfl; (with_reducible repeat (first | refine blk_drewN ?_ _ | refine blk_drew ?_ | refine blk_alloc ?_ _)); refine blk_put (cs := #[.int .i64 0, .slice none 0 0]) ?_ 0 _ rfl; (with_reducible repeat (first | refine blk_drewN ?_ _ | refine blk_drew ?_ | refine blk_alloc ?_ _)); exact BK342.out) hb); have n3_ := Aside0.mk (below_step Z23 hb); clear BK335 BK342 HB; revert n0_ n1_ n2_ n3_; intro HO345 BK335 BK342 HB; (try clear hb); (try clear hb2); (try clear hk); (try clear hi); (try clear ho0); obtain ⟨Ao11, co11, eo11⟩ := Kd.R_slice HO345.out; subst eo11))
 go_loopg [32] k (fun kq v32 w' => ∃ (x32_1 : Int) (x343001_1 : List Int) (u343001 : Value), v32 = .int .i64 x32_1 ∧ Aside0 (impl_ParseScheme.l0 kq a0 t343 (t343.length : Int) x32_1 t339 x343001_1 = some (r1, r2, r3)) ∧ Aside0 (kq ≤ k) ∧ Aside0 (Kd.R Kd.string 9 w' w.heap.size (fun _ => True) (.slice Ao11 t343.length co11) t343) ∧ Aside0 (Kd.R (Kd.int .i64) 3 w' w.heap.size (fun _ => True) u343001 x343001_1) ∧ Aside0 (w'.heap[gb335]? = some (.cells #[.int .i64 0, (.slice none 0 0)] 51 (0, 0))) ∧ Aside0 (w'.heap[gb342]? = some (.cells #[.int .i64 t339, u343001] 51 (0, 0))) ∧ Aside0 (Below w.heap.size w w'))
 case atStart => exact ⟨(0), (([] : List Int)), (.slice none 0 0), Z3, H', ⟨Nat.le_refl _⟩, ⟨by (with_reducible repeat (first | apply Kd.R_alloc | apply Kd.R_drewN | apply Kd.R_drew)); exact HO345.out⟩, ⟨by first | exact Kd.R_nil _ _ _ _ _ | exact Kd.N_nil _ _ _ _ _ | exact Kd.V_nil _ _ _ _ _ | exact Kd.Q_nil _ _ _ _ _ | exact Kd.S_nil _ _ _ _ _⟩, ⟨by (with_reducible repeat (first | refine blk_drewN ?_ _ | refine blk_drew ?_ | refine blk_alloc ?_ _)); exact BK335.out⟩, ⟨by (with_reducible repeat (first | refine blk_drewN ?_ _ | refine blk_drew ?_ | refine blk_alloc ?_ _)); exact BK342.out⟩, ⟨by repeat (first | (with_reducible first | exact HB.out | apply below_alloc | apply pw_below_drewN | apply below_drew1 | refine below_set ?_ GE335.out | refine below_set ?_ GE342.out) | exact HB.out)⟩⟩
 case round =>
  clear H'
  (try clear c1); (try clear p2); (try clear c6); (try clear c8); (try clear hcz9_0); (try clear hcz9_1); (try clear hfz9_0); (try clear hfz9_1)
  obtain ⟨x32_1, x343001_1, u343001, rfl, HA, HK1, HO_30, HO_343001, BK335, BK342, HB⟩ := hrel
  cases gk with
  | zero => exact absurd HA.out (by simp [impl_ParseScheme.l0])
  | succ k1 =>
   have H := HA.out
   clear HA
   simp only [impl_ParseScheme.l0] at H
   by_cases c12 : x32_1 < (t343.length : Int)
   ·
    rw [if_pos c12] at H
    have c12b0 : decide (x32_1 < (t343.length : Int)) = true := decide_eq_true c12
    clear c12
    by_cases c13 : 0 ≤ x32_1
    ·
     rw [if_pos c13] at H
     have c13b0 : decide (0 ≤ x32_1) = true := decide_eq_true c13
     clear c13
     by_cases c14 : x32_1 < (t343.length : Int)
     ·
      rw [if_pos c14] at H
      have c14b0 : decide (x32_1 < (t343.length : Int)) = true := decide_eq_true c14
      clear c14
      replace H := Option.bind_eq_some_iff.mp H
      obtain ⟨t347, A150, H⟩ := H
      replace H : (if x343001_1.length < 17592186044416 then (impl_ParseScheme.l0 k1 a0 t343 (t343.length : Int) (wrap64 (x32_1 + 1)) t339 (x343001_1 ++ [t347])) else (none)) = some (r1, r2, r3) := H
      have A15 := Aside0.mk A150
      clear A150
      by_cases c16 : x343001_1.length < 17592186044416
      ·
       rw [if_pos c16] at H
       have LMc16 := Aside0.mk c16
       clear c16
       obtain ⟨y350, hy350⟩ : ∃ y_ : List Int, y_ = (x343001_1 ++ [t347]) := ⟨_, rfl⟩
       replace H : (impl_ParseScheme.l0 k1 a0 t343 (t343.length : Int) (wrap64 (x32_1 + 1)) t339 y350) = some (r1, r2, r3) := by first | (rw [hy350]; with_reducible exact H) | (have H2_ := (Option.bind_some _ _).symm.trans H; rw [hy350]; with_reducible exact H2_) | (have H2_ := (Option.bind_some _ _).symm.trans H; with_reducible exact H2_) | with_reducible exact H | (rw [hy350]; exact H) | exact H
       have Ny350 := Aside0.mk hy350
       clear hy350
       have H' := Aside0.mk H
       clear H
       have p346 : 0 ≤ (x32_1 : Int) := Z2
       have q346 : x32_1 < (t343.length : Int) := Z2
       obtain ⟨ad346, e346, hx346_0⟩ := Kd.at_string (Kd.R_reads' HO_30.out).2.2 x32_1 p346 q346
       cases e346
       replace p346 := eq_true p346
       replace q346 := eq_true q346
       go_wp2_with (first | ((with_reducible refine gate_callee (f := 153) rfl ?_); refine goesL_ (some 38) rfl rfl Tryz.func153 (by kernel_rfl) rfl #[.string (rdOf ByteArray.empty t343 x32_1)] rfl Z1 ?_; (with_reducible refine (strconv_Atoi_153.calls (rdOf ByteArray.empty t343 x32_1) t347 _ ?side1 A15.out).mono ?_); (case side1 => exact GV.below HG.out Z23); rintro e w17 ⟨zA15_1, rfl, hb⟩; refine ⟨_, rfl, ?_⟩; have n0_ := Aside0.mk (Kd.R_below Z88 hb); have n1_ := Aside0.mk (Kd.R_below Z71 hb); have n2_ := Aside0.mk (blk_below (g := gb335) (o := .cells #[.int .i64 0, .slice none 0 0] 51 (0, 0)) Z34 hb); have n3_ := Aside0.mk (blk_below (g := gb342) (o := .cells #[.int .i64 t339, u343001] 51 (0, 0)) Z80 hb); have n4_ := Aside0.mk (below_step Z23 hb); clear HO_30 HO_343001 BK335 BK342 HB; revert n0_ n1_ n2_ n3_ n4_; intro HO_30 HO_343001 BK335 BK342 HB; (try clear hb); (try clear hb2); (try clear hk); (try clear hi); have hnb18 := NB342_335.out; have hnc18 := NB335_342.out; have hcz19_0 : w17.cell? ⟨gb342, 0, none⟩ = some (.int .i64 t339) := (blk_cell BK342.out 0).trans rfl; have hcz19_1 : w17.cell? ⟨gb342, 1, none⟩ = some (u343001) := (blk_cell BK342.out 1).trans rfl; have hfz19_0 := blk_frozen BK342.out 0; have hfz19_1 := blk_frozen BK342.out 1) | ((with_reducible refine gate_builtin (b := .append) (xs := #[.tmp 42, .tmp 44]) rfl ?_); at_builtin; refine Kd.R_append (Kd.int .i64) (w0 := w) w.heap.size rfl (.tmp 42) (.tmp 44) 40 3 (.int .i64 0) 8 rfl Tryz.underlying40 info3 rfl (by decide) (by omega) u343001 x343001_1 t347 [.int .i64 t347] (fun _ => True) (fun _ => False) rfl rfl ?aP (fun _ hk => hk.elim) ?aF ?aO ?aB ?aS ?aL ?_; (case aP => exact rfl); (case aB => exact Z23); (case aF => exact (fun _ _ => trivial)); (case aO => exact Z71); (case aS => exact (below_size Z23)); (case aL => have := LMc16.out; omega); intro v351 w20 ho hb hg hat; rw [← Ny350.out] at ho; have n0_ := Aside0.mk (Kd.R_over' Z88 (Kd.R_typed Z71) (by decide) hg); have n1_ := Aside0.mk (blk_grown (g := gb335) (o := .cells #[.int .i64 0, .slice none 0 0] 51 (0, 0)) Z34 hg (Kd.R_ne HO_343001.out BK335.out (by decide))); have n2_ := Aside0.mk (blk_grown (g := gb342) (o := .cells #[.int .i64 t339, u343001] 51 (0, 0)) Z80 hg (Kd.R_ne HO_343001.out BK342.out (by decide))); have n3_ := Aside0.mk (hb); have n4_ := Aside0.mk (ho); clear HO_30 BK335 BK342 HB HO_343001; revert n0_ n1_ n2_ n3_ n4_; intro HO_30 BK335 BK342 HB HO352; clear ho hb hg hat; obtain ⟨Ao21, co21, eo21⟩ := Kd.R_slice HO352.out; subst eo21; have hcz22_0 : w20.cell? ⟨gb342, 0, none⟩ = some (.int .i64 t339) := (blk_cell BK342.out 0).trans rfl; have hcz22_1 : w20.cell? ⟨gb342, 1, none⟩ = some (u343001) := (blk_cell BK342.out 1).trans rfl; have hfz22_0 := blk_frozen BK342.out 0; have hfz22_1 := blk_frozen BK342.out 1))
       go_roundg k1
       case measure => have := HK1.out; omega
       case rel => exact ⟨(wrap64 (x32_1 + 1)), (y350), (.slice Ao21 y350.length co21), Z3, H', ⟨by have := HK1.out; omega⟩, ⟨by (with_reducible repeat (first | apply Kd.R_alloc | apply Kd.R_drewN | apply Kd.R_drew)); exact Kd.R_mono (Kd.R_far (p := ⟨gb342, 1, none⟩) (Kd.R_types HO_30.out BK342.out (by decide)) (fun _ hk => hk.2) (.slice Ao21 y350.length co21)) (fun _ hk => trivial)⟩, ⟨by (with_reducible repeat (first | apply Kd.R_alloc | apply Kd.R_drewN | apply Kd.R_drew)); exact Kd.R_mono (Kd.R_far (p := ⟨gb342, 1, none⟩) (Kd.R_types HO352.out BK342.out (by decide)) (fun _ hk => hk.2) (.slice Ao21 y350.length co21)) (fun _ hk => trivial)⟩, ⟨by (with_reducible repeat (first | refine blk_drewN ?_ _ | refine blk_drew ?_ | refine blk_alloc ?_ _)); refine blk_far ?_ NB335_342.out _; (with_reducible repeat (first | refine blk_drewN ?_ _ | refine blk_drew ?_ | refine blk_alloc ?_ _)); exact BK335.out⟩, ⟨by (with_reducible repeat (first | refine blk_drewN ?_ _ | refine blk_drew ?_ | refine blk_alloc ?_ _)); refine blk_put (cs := #[.int .i64 t339, u343001]) ?_ 1 _ rfl; (with_reducible repeat (first | refine blk_drewN ?_ _ | refine blk_drew ?_ | refine blk_alloc ?_ _)); exact BK342.out⟩, ⟨by repeat (first | (with_reducible first | exact HB.out | apply below_alloc | apply pw_below_drewN | apply below_drew1 | refine below_set ?_ GE335.out | refine below_set ?_ GE342.out) | exact HB.out)⟩⟩
      ·
       rw [if_neg c16] at H
       exact absurd H (by simp)
     ·
      rw [if_neg c14] at H
      exact absurd H (by simp)
    ·
     rw [if_neg c13] at H
     exact absurd H (by simp)
   ·
    rw [if_neg c12] at H
    have c12b0 : decide (x32_1 < (t343.length : Int)) = false := decide_eq_false c12
    clear c12
    replace H := Option.bind_eq_some_iff.mp H
    obtain ⟨⟨t353, t354⟩, A230, H⟩ := H
    replace H : (if t354 = true then (if t353.toList = a0.toList then (some (t339, x343001_1, true)) else (some (0, ([] : List Int), false))) else (some (0, ([] : List Int), false))) = some (r1, r2, r3) := H
    have A23 := Aside0.mk A230
    clear A230
    by_cases c24 : t354 = true
    ·
     subst c24
     have H1 : (if t353.toList = a0.toList then (some (t339, x343001_1, true)) else (some (0, ([] : List Int), false))) = some (r1, r2, r3) := by rw [if_pos rfl] at H; exact H
     clear H
     have H := H1
     clear H1
     by_cases c25 : t353.toList = a0.toList
     ·
      rw [if_pos c25] at H
      have c25b0 : (t353.toList == a0.toList) = true := beq_iff_eq.mpr c25
      have c25b1 : (t353.toList != a0.toList) = false := bne_eq_false_iff_eq.mpr c25
      clear c25
      simp only [Option.some.injEq, Prod.mk.injEq] at H
      obtain ⟨rfl, rfl, rfl⟩ := H
      have hnb26 := NB342_335.out
      have hnc26 := NB335_342.out
      have hcz27_0 : wr.cell? ⟨gb342, 0, none⟩ = some (.int .i64 t339) := (blk_cell BK342.out 0).trans rfl
      have hcz27_1 : wr.cell? ⟨gb342, 1, none⟩ = some (u343001) := (blk_cell BK342.out 1).trans rfl
      have hfz27_0 := blk_frozen BK342.out 0
      have hfz27_1 := blk_frozen BK342.out 1
      obtain ⟨Ao28, co28, eo28⟩ := Kd.R_slice HO_343001.out
      subst eo28
      go_wp2_with (first | ((with_reducible refine gate_callee (f := 64) rfl ?_); refine goesL_ (some 50) rfl rfl Tryz.func64 (by kernel_rfl) rfl #[.agg #[.int .i64 t339, .slice Ao28 x343001_1.length co28]] rfl Z1 ?_; (with_reducible refine (impl_SchemeText.calls k1 t339 _ _ x343001_1 t353 true _ ?side1 ?side2 A23.out).mono ?_); (case side1 => exact Z93); (case side2 => exact (Kd.R_reads' HO_343001.out).2.1); rintro e w29 ⟨rfl, hb⟩; refine ⟨_, rfl, ?_⟩; have n0_ := Aside0.mk (Kd.R_below Z88 hb); have n1_ := Aside0.mk (Kd.R_below Z71 hb); have n2_ := Aside0.mk (blk_below (g := gb335) (o := .cells #[.int .i64 0, .slice none 0 0] 51 (0, 0)) Z34 hb); have n3_ := Aside0.mk (blk_below (g := gb342) (o := .cells #[.int .i64 t339, .slice Ao28 x343001_1.length co28] 51 (0, 0)) Z80 hb); have n4_ := Aside0.mk (below_step Z23 hb); clear HO_30 HO_343001 BK335 BK342 HB; revert n0_ n1_ n2_ n3_ n4_; intro HO_30 HO_343001 BK335 BK342 HB; (try clear hb); (try clear hb2); (try clear hk); (try clear hi); have hcz30_0 : w29.cell? ⟨gb342, 0, none⟩ = some (.int .i64 t339) := (blk_cell BK342.out 0).trans rfl; have hcz30_1 : w29.cell? ⟨gb342, 1, none⟩ = some (.slice Ao28 x343001_1.length co28) := (blk_cell BK342.out 1).trans rfl; have hfz30_0 := blk_frozen BK342.out 0; have hfz30_1 := blk_frozen BK342.out 1; have hcz31_0 : w29.cell? ⟨gb335, 0, none⟩ = some (.int .i64 0) := (blk_cell BK335.out 0).trans rfl; have hcz31_1 : w29.cell? ⟨gb335, 1, none⟩ = some (.slice none 0 0) := (blk_cell BK335.out 1).trans rfl; have hfz31_0 := blk_frozen BK335.out 0; have hfz31_1 := blk_frozen BK335.out 1))
      refine bodyPost_ret (results_ct rfl _ _ gb335 51 #[.int .i64 t339, .slice Ao28 x343001_1.length co28] (0, 0) _ rfl (by (with_reducible repeat (first | refine blk_drewN ?_ _ | refine blk_drew ?_ | refine blk_alloc ?_ _)); refine blk_put (cs := #[.int .i64 t339, .slice none 0 0]) ?_ 1 _ rfl; (with_reducible repeat (first | refine blk_drewN ?_ _ | refine blk_drew ?_ | refine blk_alloc ?_ _)); refine blk_put (cs := #[.int .i64 0, .slice none 0 0]) ?_ 0 _ rfl; (with_reducible repeat (first | refine blk_drewN ?_ _ | refine blk_drew ?_ | refine blk_alloc ?_ _)); exact BK335.out) Tryz.underlying51 rfl (by kernel_rfl)) rfl ?_
      exact ⟨_, by first | rfl | (simp [errW_none, errW_some] <;> rfl) | (simp [*, errW_none, errW_some] <;> rfl), by (with_reducible repeat (first | apply Kd.R_alloc | apply Kd.R_drewN | apply Kd.R_drew)); exact Kd.R_mono (Kd.R_far (p := ⟨gb335, 1, none⟩) (Kd.R_far (p := ⟨gb335, 0, none⟩) (Kd.R_types HO_343001.out BK335.out (by decide)) (fun _ hk => hk.2) (.int .i64 t339)) (fun _ hk => hk.2) (.slice Ao28 x343001_1.length co28)) (fun _ hk => trivial), by repeat (first | (with_reducible first | exact HB.out | apply below_alloc | apply pw_below_drewN | apply below_drew1 | refine below_set ?_ GE335.out | refine below_set ?_ GE342.out) | exact HB.out)⟩
     ·
      rw [if_neg c25] at H
      have c25b0 : (t353.toList == a0.toList) = false := beq_eq_false_iff_ne.mpr c25
      have c25b1 : (t353.toList != a0.toList) = true := bne_iff_ne.mpr c25
      simp only [Option.some.injEq, Prod.mk.injEq] at H
      obtain ⟨rfl, rfl, rfl⟩ := H
      have hnb32 := NB342_335.out
      have hnc32 := NB335_342.out
      have hcz33_0 : wr.cell? ⟨gb342, 0, none⟩ = some (.int .i64 t339) := (blk_cell BK342.out 0).trans rfl
      have hcz33_1 : wr.cell? ⟨gb342, 1, none⟩ = some (u343001) := (blk_cell BK342.out 1).trans rfl
      have hfz33_0 := blk_frozen BK342.out 0
      have hfz33_1 := blk_frozen BK342.out 1
      obtain ⟨Ao34, co34, eo34⟩ := Kd.R_slice HO_343001.out
      subst eo34
      go_wp2_with (first | ((with_reducible refine gate_callee (f := 64) rfl ?_); refine goesL_ (some 50) rfl rfl Tryz.func64 (by kernel_rfl) rfl #[.agg #[.int .i64 t339, .slice Ao34 x343001_1.length co34]] rfl Z1 ?_; (with_reducible refine (impl_SchemeText.calls k1 t339 _ _ x343001_1 t353 true _ ?side1 ?side2 A23.out).mono ?_); (case side1 => exact Z93); (case side2 => exact (Kd.R_reads' HO_343001.out).2.1); rintro e w35 ⟨rfl, hb⟩; refine ⟨_, rfl, ?_⟩; have n0_ := Aside0.mk (Kd.R_below Z88 hb); have n1_ := Aside0.mk (Kd.R_below Z71 hb); have n2_ := Aside0.mk (blk_below (g := gb335) (o := .cells #[.int .i64 0, .slice none 0 0] 51 (0, 0)) Z34 hb); have n3_ := Aside0.mk (blk_below (g := gb342) (o := .cells #[.int .i64 t339, .slice Ao34 x343001_1.length co34] 51 (0, 0)) Z80 hb); have n4_ := Aside0.mk (below_step Z23 hb); clear HO_30 HO_343001 BK335 BK342 HB; revert n0_ n1_ n2_ n3_ n4_; intro HO_30 HO_343001 BK335 BK342 HB; (try clear hb); (try clear hb2); (try clear hk); (try clear hi); have hcz36_0 : w35.cell? ⟨gb335, 0, none⟩ = some (.int .i64 0) := (blk_cell BK335.out 0).trans rfl; have hcz36_1 : w35.cell? ⟨gb335, 1, none⟩ = some (.slice none 0 0) := (blk_cell BK335.out 1).trans rfl; have hfz36_0 := blk_frozen BK335.out 0; have hfz36_1 := blk_frozen BK335.out 1))
      refine bodyPost_ret (results_ct rfl _ _ gb335 51 #[.int .i64 0, .slice none 0 0] (0, 0) _ rfl Z83 Tryz.underlying51 rfl (by kernel_rfl)) rfl ?_
      exact ⟨_, by first | rfl | (simp [errW_none, errW_some] <;> rfl) | (simp [*, errW_none, errW_some] <;> rfl), by first | exact Kd.R_nil _ _ _ _ _ | exact Kd.N_nil _ _ _ _ _ | exact Kd.V_nil _ _ _ _ _ | exact Kd.Q_nil _ _ _ _ _ | exact Kd.S_nil _ _ _ _ _, by repeat (first | (with_reducible first | exact HB.out | apply below_alloc | apply pw_below_drewN | apply below_drew1 | refine below_set ?_ GE335.out | refine below_set ?_ GE342.out) | exact HB.out)⟩
    ·
     replace c24 := Bool.eq_false_iff.mpr c24
     subst c24
     have H1 : (some (0, ([] : List Int), false)) = some (r1, r2, r3) := by rw [if_neg (show ¬ (false = true) by decide)] at H; exact H
     clear H
     have H := H1
     clear H1
     simp only [Option.some.injEq, Prod.mk.injEq] at H
     obtain ⟨rfl, rfl, rfl⟩ := H
     have hnb37 := NB342_335.out
     have hnc37 := NB335_342.out
     have hcz38_0 : wr.cell? ⟨gb342, 0, none⟩ = some (.int .i64 t339) := (blk_cell BK342.out 0).trans rfl
     have hcz38_1 : wr.cell? ⟨gb342, 1, none⟩ = some (u343001) := (blk_cell BK342.out 1).trans rfl
     have hfz38_0 := blk_frozen BK342.out 0
     have hfz38_1 := blk_frozen BK342.out 1
     obtain ⟨Ao39, co39, eo39⟩ := Kd.R_slice HO_343001.out
     subst eo39
     go_wp2_with (first | ((with_reducible refine gate_callee (f := 64) rfl ?_); refine goesL_ (some 50) rfl rfl Tryz.func64 (by kernel_rfl) rfl #[.agg #[.int .i64 t339, .slice Ao39 x343001_1.length co39]] rfl Z1 ?_; (with_reducible refine (impl_SchemeText.calls k1 t339 _ _ x343001_1 t353 false _ ?side1 ?side2 A23.out).mono ?_); (case side1 => exact Z93); (case side2 => exact (Kd.R_reads' HO_343001.out).2.1); rintro e w40 ⟨rfl, hb⟩; refine ⟨_, rfl, ?_⟩; have n0_ := Aside0.mk (Kd.R_below Z88 hb); have n1_ := Aside0.mk (Kd.R_below Z71 hb); have n2_ := Aside0.mk (blk_below (g := gb335) (o := .cells #[.int .i64 0, .slice none 0 0] 51 (0, 0)) Z34 hb); have n3_ := Aside0.mk (blk_below (g := gb342) (o := .cells #[.int .i64 t339, .slice Ao39 x343001_1.length co39] 51 (0, 0)) Z80 hb); have n4_ := Aside0.mk (below_step Z23 hb); clear HO_30 HO_343001 BK335 BK342 HB; revert n0_ n1_ n2_ n3_ n4_; intro HO_30 HO_343001 BK335 BK342 HB; (try clear hb); (try clear hb2); (try clear hk); (try clear hi); have hcz41_0 : w40.cell? ⟨gb335, 0, none⟩ = some (.int .i64 0) := (blk_cell BK335.out 0).trans rfl; have hcz41_1 : w40.cell? ⟨gb335, 1, none⟩ = some (.slice none 0 0) := (blk_cell BK335.out 1).trans rfl; have hfz41_0 := blk_frozen BK335.out 0; have hfz41_1 := blk_frozen BK335.out 1))
     refine bodyPost_ret (results_ct rfl _ _ gb335 51 #[.int .i64 0, .slice none 0 0] (0, 0) _ rfl Z83 Tryz.underlying51 rfl (by kernel_rfl)) rfl ?_
     exact ⟨_, by first | rfl | (simp [errW_none, errW_some] <;> rfl) | (simp [*, errW_none, errW_some] <;> rfl), by first | exact Kd.R_nil _ _ _ _ _ | exact Kd.N_nil _ _ _ _ _ | exact Kd.V_nil _ _ _ _ _ | exact Kd.Q_nil _ _ _ _ _ | exact Kd.S_nil _ _ _ _ _, by repeat (first | (with_reducible first | exact HB.out | apply below_alloc | apply pw_below_drewN | apply below_drew1 | refine below_set ?_ GE335.out | refine below_set ?_ GE342.out) | exact HB.out)⟩

/-! ### laws_fScheme: function 69 -/
def laws_fScheme.f (k : Nat) (a0_0 : Int) (l0_1 : List Int) (a1_0 : Int) (l1_1 : List Int) : Option (Bool) := if a0_0 = a1_0 then ((laws_fSame.f k l0_1 l1_1).bind fun t357 => (some t357)) else (some false)
set_option maxHeartbeats 8000000 in
set_option maxRecDepth 100000 in
theorem laws_fScheme.calls (k : Nat) (a0_0 : Int) (A0_1 : Option Addr) (c0_1 : Nat) (l0_1 : List Int) (a1_0 : Int) (A1_1 : Option Addr) (c1_1 : Nat) (l1_1 : List Int) (r : Bool) (w : World) (hr0_1 : Kd.C (Kd.int .i64) w A0_1 l0_1.length l0_1) (hc0_1 : l0_1.length ≤ c0_1) (hr1_1 : Kd.C (Kd.int .i64) w A1_1 l1_1.length l1_1) (hc1_1 : l1_1.length ≤ c1_1) (h : laws_fScheme.f k a0_0 l0_1 a1_0 l1_1 = some r) :
  Calls Tryz.prog 69 #[.agg #[.int .i64 a0_0, .slice A0_1 l0_1.length c0_1], .agg #[.int .i64 a1_0, .slice A1_1 l1_1.length c1_1]] w fun e w' => e = .returned (.bool r) ∧ Below w.heap.size w w' := by
 have hu51 := Tryz.underlying51
 have HR0_1 := Aside0.mk hr0_1
 have HC0_1 := Aside0.mk hc0_1
 clear hr0_1 hc0_1
 have HR1_1 := Aside0.mk hr1_1
 have HC1_1 := Aside0.mk hc1_1
 clear hr1_1 hc1_1
 have HB := Aside0.mk (Below.refl w.heap.size w)
 have H : (if a0_0 = a1_0 then ((laws_fSame.f k l0_1 l1_1).bind fun t357 => (some t357)) else (some false)) = some r := h
 clear h
 by_cases c3 : a0_0 = a1_0
 ·
  rw [if_pos c3] at H
  have c3b0 : (a0_0 == a1_0) = true := beq_iff_eq.mpr c3
  have c3b1 : (a0_0 != a1_0) = false := bne_eq_false_iff_eq.mpr c3
  clear c3
  replace H := Option.bind_eq_some_iff.mp H
  obtain ⟨t357, A40, H⟩ := H
  replace H : (some t357) = some r := H
  have A4 := Aside0.mk A40
  clear A40
  obtain rfl := Option.some.inj H
  go_enter Tryz.func69, Tryz.ntmps69
  go_wp2_with (first | ((with_reducible refine gate_dst (N := 2) rfl ?_); refine box_event ?hg (N := 2) ?hd (cs := #[.int .i64 a0_0, .slice A0_1 l0_1.length c0_1]) (t := 51) ?hr ?_; (case hd => rfl); (case hg => rfl); (case hr => exact Z13); intro gb355 hg w5 hbox hb; have n0_ := Aside0.mk (below_step Z0 hb); have n1_ := Aside0.mk (hbox); have n2_ := Aside0.mk ((Z18 : w.heap.size ≤ gb355)); have n3_ := Aside0.mk ((Z18 : w.heap.size ≤ gb355)); clear HB; revert n0_ n1_ n2_ n3_; intro HB BK355 GW355 GE355; clear hb hbox hg) | ((with_reducible refine gate_dst (N := 3) rfl ?_); refine box_event ?hg (N := 3) ?hd (cs := #[.int .i64 a1_0, .slice A1_1 l1_1.length c1_1]) (t := 51) ?hr ?_; (case hd => rfl); (case hg => rfl); (case hr => exact Z13); intro gb356 hg w6 hbox hb; have n0_ := Aside0.mk (blk_below (g := gb355) (o := .cells #[.int .i64 a0_0, .slice A0_1 l0_1.length c0_1] 51 (0, 0)) Z68 hb); have n1_ := Aside0.mk (below_step Z52 hb); have n2_ := Aside0.mk (hbox); have n3_ := Aside0.mk ((by rw [hg]; exact (below_size Z52) : w.heap.size ≤ gb356)); have n4_ := Aside0.mk ((by rw [hg]; exact (below_size Z52) : w.heap.size ≤ gb356)); have n5_ := Aside0.mk ((Z142 : gb355 ≠ gb356)); have n6_ := Aside0.mk ((Z143 : gb356 ≠ gb355)); clear BK355 HB; revert n0_ n1_ n2_ n3_ n4_ n5_ n6_; intro BK355 HB BK356 GW356 GE356 NB355_356 NB356_355; clear hb hbox hg; have hnb7 := NB355_356.out; have hnc7 := NB356_355.out; have hcz8_0 : w6.cell? ⟨gb355, 0, none⟩ = some (.int .i64 a0_0) := (blk_cell BK355.out 0).trans rfl; have hcz8_1 : w6.cell? ⟨gb355, 1, none⟩ = some (.slice A0_1 l0_1.length c0_1) := (blk_cell BK355.out 1).trans rfl; have hfz8_0 := blk_frozen BK355.out 0; have hfz8_1 := blk_frozen BK355.out 1; have hcz9_0 : w6.cell? ⟨gb356, 0, none⟩ = some (.int .i64 a1_0) := (blk_cell BK356.out 0).trans rfl; have hcz9_1 : w6.cell? ⟨gb356, 1, none⟩ = some (.slice A1_1 l1_1.length c1_1) := (blk_cell BK356.out 1).trans rfl; have hfz9_0 := blk_frozen BK356.out 0; have hfz9_1 := blk_frozen BK356.out 1) | (go_at_call 29; (with_reducible refine (laws_fSame.calls k _ _ l0_1 _ _ l1_1 t357 _ ?side1 ?side2 ?side3 ?side4 A4.out).mono ?_); (case side1 => exact Z9); (case side2 => exact HC0_1.out); (case side3 => repeat (first | exact (Kd.C_below HR1_1.out HB.out) | (with_reducible refine Kd.C_alloc ?_ _) | (with_reducible refine Kd.C_drewN ?_ _) | (with_reducible refine Kd.C_drew ?_))); (case side4 => exact HC1_1.out); rintro e w' ⟨rfl, ⟨nd, rfl⟩⟩))
  go_ret
  exact ⟨by first | rfl | (simp [errW_none, errW_some] <;> rfl) | (simp [*, errW_none, errW_some] <;> rfl), by repeat (first | (with_reducible first | exact HB.out | apply below_alloc | apply pw_below_drewN | apply below_drew1 | refine below_set ?_ GE355.out | refine below_set ?_ GE356.out) | exact HB.out)⟩
 ·
  rw [if_neg c3] at H
  have c3b0 : (a0_0 == a1_0) = false := beq_eq_false_iff_ne.mpr c3
  have c3b1 : (a0_0 != a1_0) = true := bne_iff_ne.mpr c3
  obtain rfl := Option.some.inj H
  go_enter Tryz.func69, Tryz.ntmps69
  go_wp2_with (first | ((with_reducible refine gate_dst (N := 2) rfl ?_); refine box_event ?hg (N := 2) ?hd (cs := #[.int .i64 a0_0, .slice A0_1 l0_1.length c0_1]) (t := 51) ?hr ?_; (case hd => rfl); (case hg => rfl); (case hr => exact Z13); intro gb355 hg w10 hbox hb; have n0_ := Aside0.mk (below_step Z0 hb); have n1_ := Aside0.mk (hbox); have n2_ := Aside0.mk ((Z18 : w.heap.size ≤ gb355)); have n3_ := Aside0.mk ((Z18 : w.heap.size ≤ gb355)); clear HB; revert n0_ n1_ n2_ n3_; intro HB BK355 GW355 GE355; clear hb hbox hg) | ((with_reducible refine gate_dst (N := 3) rfl ?_); refine box_event ?hg (N := 3) ?hd (cs := #[.int .i64 a1_0, .slice A1_1 l1_1.length c1_1]) (t := 51) ?hr ?_; (case hd => rfl); (case hg => rfl); (case hr => exact Z13); intro gb356 hg w11 hbox hb; have n0_ := Aside0.mk (blk_below (g := gb355) (o := .cells #[.int .i64 a0_0, .slice A0_1 l0_1.length c0_1] 51 (0, 0)) Z68 hb); have n1_ := Aside0.mk (below_step Z52 hb); have n2_ := Aside0.mk (hbox); have n3_ := Aside0.mk ((by rw [hg]; exact (below_size Z52) : w.heap.size ≤ gb356)); have n4_ := Aside0.mk ((by rw [hg]; exact (below_size Z52) : w.heap.size ≤ gb356)); have n5_ := Aside0.mk ((Z142 : gb355 ≠ gb356)); have n6_ := Aside0.mk ((Z143 : gb356 ≠ gb355)); clear BK355 HB; revert n0_ n1_ n2_ n3_ n4_ n5_ n6_; intro BK355 HB BK356 GW356 GE356 NB355_356 NB356_355; clear hb hbox hg; have hnb12 := NB355_356.out; have hnc12 := NB356_355.out; have hcz13_0 : w11.cell? ⟨gb355, 0, none⟩ = some (.int .i64 a0_0) := (blk_cell BK355.out 0).trans rfl; have hcz13_1 : w11.cell? ⟨gb355, 1, none⟩ = some (.slice A0_1 l0_1.length c0_1) := (blk_cell BK355.out 1).trans rfl; have hfz13_0 := blk_frozen BK355.out 0; have hfz13_1 := blk_frozen BK355.out 1; have hcz14_0 : w11.cell? ⟨gb356, 0, none⟩ = some (.int .i64 a1_0) := (blk_cell BK356.out 0).trans rfl; have hcz14_1 : w11.cell? ⟨gb356, 1, none⟩ = some (.slice A1_1 l1_1.length c1_1) := (blk_cell BK356.out 1).trans rfl; have hfz14_0 := blk_frozen BK356.out 0; have hfz14_1 := blk_frozen BK356.out 1))
  go_ret
  exact ⟨by first | rfl | (simp [errW_none, errW_some] <;> rfl) | (simp [*, errW_none, errW_some] <;> rfl), by repeat (first | (with_reducible first | exact HB.out | apply below_alloc | apply pw_below_drewN | apply below_drew1 | refine below_set ?_ GE355.out | refine below_set ?_ GE356.out) | exact HB.out)⟩

/-! ### spec_ckDigits: function 143 -/
def spec_ckDigits.l0 : Nat → ByteArray → Int → Option (Bool)
 | 0, _, _ => none
 | k + 1, x0, x3 => if x3 < (x0.size : Int) then (if 0 ≤ x3 then (if (bt x0 x3) < 48 then (some false) else (if (bt x0 x3) > 57 then (some false) else (spec_ckDigits.l0 k x0 (wrap64 (x3 + 1))))) else (none)) else (some true)
def spec_ckDigits.f (k : Nat) (a0 : ByteArray) : Option (Bool) := spec_ckDigits.l0 k a0 0
set_option maxHeartbeats 8000000 in
set_option maxRecDepth 100000 in
theorem spec_ckDigits.calls (k : Nat) (a0 : ByteArray) (r : Bool) (w : World) (h : spec_ckDigits.f k a0 = some r) :
  Calls Tryz.prog 143 #[.string a0] w fun e w' => e = .returned (.bool r) ∧ Drawn0 w w' := by
 have H : (spec_ckDigits.l0 k a0 0) = some r := h
 clear h
 have H' := Aside0.mk H
 clear H
 go_enter Tryz.func143, Tryz.ntmps143
 go_wp2
 go_loopg [3] k (fun kq v3 w' => ∃ (x3_1 : Int), v3 = .int .i64 x3_1 ∧ Aside0 (spec_ckDigits.l0 kq a0 x3_1 = some r) ∧ Aside0 (kq ≤ k) ∧ Drawn0 w w')
 case atStart => exact ⟨(0), Z3, H', ⟨Nat.le_refl _⟩, by repeat (first | exact Drawn0.refl _ | apply Drawn0.step)⟩
 case round =>
  clear H'
  try clear c1
  obtain ⟨x3_1, rfl, HA, HK1, ⟨m1, rfl⟩⟩ := hrel
  cases gk with
  | zero => exact absurd HA.out (by simp [spec_ckDigits.l0])
  | succ k1 =>
   have H := HA.out
   clear HA
   simp only [spec_ckDigits.l0] at H
   by_cases c2 : x3_1 < (a0.size : Int)
   ·
    rw [if_pos c2] at H
    have c2b0 : decide (x3_1 < (a0.size : Int)) = true := decide_eq_true c2
    clear c2
    by_cases c3 : 0 ≤ x3_1
    ·
     rw [if_pos c3] at H
     have c3b0 : decide (0 ≤ x3_1) = true := decide_eq_true c3
     clear c3
     by_cases c5 : (bt a0 x3_1) < 48
     ·
      rw [if_pos c5] at H
      have c5b0 : decide ((bt a0 x3_1) < 48) = true := decide_eq_true c5
      clear c5
      obtain rfl := Option.some.inj H
      have p4 : 0 ≤ (x3_1 : Int) := Z2
      have q4 : x3_1 < (a0.size : Int) := Z2
      have hx4 := bt_at a0 x3_1
      replace p4 := eq_true p4
      replace q4 := eq_true q4
      go_wp2
      go_ret
      exact ⟨by first | rfl | (simp; done) | (simp only [Go.IntWalk.i64_left]; done) | (simp [*]; done) | (simp; omega), by repeat (first | exact Drawn0.refl _ | apply Drawn0.step)⟩
     ·
      rw [if_neg c5] at H
      have c5b0 : decide ((bt a0 x3_1) < 48) = false := decide_eq_false c5
      clear c5
      by_cases c7 : (bt a0 x3_1) > 57
      ·
       rw [if_pos c7] at H
       have c7b0 : decide (57 < (bt a0 x3_1)) = true := decide_eq_true c7
       clear c7
       obtain rfl := Option.some.inj H
       have p4 : 0 ≤ (x3_1 : Int) := Z2
       have q4 : x3_1 < (a0.size : Int) := Z2
       have hx4 := bt_at a0 x3_1
       replace p4 := eq_true p4
       replace q4 := eq_true q4
       have p6 : 0 ≤ (x3_1 : Int) := Z2
       have q6 : x3_1 < (a0.size : Int) := Z2
       have hx6 := bt_at a0 x3_1
       replace p6 := eq_true p6
       replace q6 := eq_true q6
       go_wp2
       go_ret
       exact ⟨by first | rfl | (simp; done) | (simp only [Go.IntWalk.i64_left]; done) | (simp [*]; done) | (simp; omega), by repeat (first | exact Drawn0.refl _ | apply Drawn0.step)⟩
      ·
       rw [if_neg c7] at H
       have c7b0 : decide (57 < (bt a0 x3_1)) = false := decide_eq_false c7
       clear c7
       have H' := Aside0.mk H
       clear H
       have p4 : 0 ≤ (x3_1 : Int) := Z2
       have q4 : x3_1 < (a0.size : Int) := Z2
       have hx4 := bt_at a0 x3_1
       replace p4 := eq_true p4
       replace q4 := eq_true q4
       have p6 : 0 ≤ (x3_1 : Int) := Z2
       have q6 : x3_1 < (a0.size : Int) := Z2
       have hx6 := bt_at a0 x3_1
       replace p6 := eq_true p6
       replace q6 := eq_true q6
       go_wp2
       go_roundg k1
       case measure => have := HK1.out; omega
       case rel => exact ⟨(wrap64 (x3_1 + 1)), Z3, H', ⟨by have := HK1.out; omega⟩, by repeat (first | exact Drawn0.refl _ | apply Drawn0.step)⟩
    ·
     rw [if_neg c3] at H
     exact absurd H (by simp)
   ·
    rw [if_neg c2] at H
    have c2b0 : decide (x3_1 < (a0.size : Int)) = false := decide_eq_false c2
    clear c2
    obtain rfl := Option.some.inj H
    go_wp2
    go_ret
    exact ⟨by first | rfl | (simp; done) | (simp only [Go.IntWalk.i64_left]; done) | (simp [*]; done) | (simp; omega), by repeat (first | exact Drawn0.refl _ | apply Drawn0.step)⟩

/-! ### spec_ckLong: function 156 -/
def spec_ckLong.f (k : Nat) (a0 : ByteArray) (a1 : Int) (a2 : Int) : Option (Bool) := (spec_l1In.f (a0.size : Int) a1 a2).bind fun t358 => (if t358 = true then ((spec_ckDigits.f k a0).bind fun t359 => (some t359)) else (some false))
set_option maxHeartbeats 8000000 in
set_option maxRecDepth 100000 in
theorem spec_ckLong.calls (k : Nat) (a0 : ByteArray) (a1 : Int) (a2 : Int) (r : Bool) (w : World) (h : spec_ckLong.f k a0 a1 a2 = some r) :
  Calls Tryz.prog 156 #[.string a0, .int .i64 a1, .int .i64 a2] w fun e w' => e = .returned (.bool r) ∧ Drawn0 w w' := by
 have H : ((spec_l1In.f (a0.size : Int) a1 a2).bind fun t358 => (if t358 = true then ((spec_ckDigits.f k a0).bind fun t359 => (some t359)) else (some false))) = some r := h
 clear h
 replace H := Option.bind_eq_some_iff.mp H
 obtain ⟨t358, A40, H⟩ := H
 replace H : (if t358 = true then ((spec_ckDigits.f k a0).bind fun t359 => (some t359)) else (some false)) = some r := H
 have A4 := Aside0.mk A40
 clear A40
 by_cases c5 : t358 = true
 ·
  subst c5
  have H1 : ((spec_ckDigits.f k a0).bind fun t359 => (some t359)) = some r := by rw [if_pos rfl] at H; exact H
  clear H
  have H := H1
  clear H1
  replace H := Option.bind_eq_some_iff.mp H
  obtain ⟨t359, A60, H⟩ := H
  replace H : (some t359) = some r := H
  have A6 := Aside0.mk A60
  clear A60
  obtain rfl := Option.some.inj H
  go_enter Tryz.func156, Tryz.ntmps156
  go_wp2_with (first | ((with_reducible refine gate_callee (f := 110) rfl ?_); refine goesL_ (some 11) rfl rfl Tryz.func110 (by kernel_rfl) rfl #[.int .i64 (a0.size : Int), .int .i64 a1, .int .i64 a2] rfl Z1 ?_; (with_reducible refine (spec_l1In.calls (a0.size : Int) a1 a2 true _ A4.out).mono ?_); rintro e w' ⟨rfl, ⟨nd, rfl⟩⟩; refine ⟨_, rfl, ?_⟩) | (go_at_call 143; (with_reducible refine (spec_ckDigits.calls k a0 t359 _ A6.out).mono ?_); rintro e w' ⟨rfl, ⟨nd, rfl⟩⟩))
  go_ret
  exact ⟨by first | rfl | (simp; done) | (simp only [Go.IntWalk.i64_left]; done) | (simp [*]; done) | (simp; omega), by repeat (first | exact Drawn0.refl _ | apply Drawn0.step)⟩
 ·
  replace c5 := Bool.eq_false_iff.mpr c5
  subst c5
  have H1 : (some false) = some r := by rw [if_neg (show ¬ (false = true) by decide)] at H; exact H
  clear H
  have H := H1
  clear H1
  obtain rfl := Option.some.inj H
  go_enter Tryz.func156, Tryz.ntmps156
  go_wp2_with (first | ((with_reducible refine gate_callee (f := 110) rfl ?_); refine goesL_ (some 11) rfl rfl Tryz.func110 (by kernel_rfl) rfl #[.int .i64 (a0.size : Int), .int .i64 a1, .int .i64 a2] rfl Z1 ?_; (with_reducible refine (spec_l1In.calls (a0.size : Int) a1 a2 false _ A4.out).mono ?_); rintro e w' ⟨rfl, ⟨nd, rfl⟩⟩; refine ⟨_, rfl, ?_⟩))
  go_ret
  exact ⟨by first | rfl | (simp; done) | (simp only [Go.IntWalk.i64_left]; done) | (simp [*]; done) | (simp; omega), by repeat (first | exact Drawn0.refl _ | apply Drawn0.step)⟩

/-! ### spec_ckDoubled: function 157 -/
def spec_ckDoubled.l0 : Nat → ByteArray → Int → Int → Option (Int)
 | 0, _, _, _ => none
 | k + 1, x0, x3, x4 => if x4 < (x0.size : Int) then (if 0 ≤ (wrap64 ((wrap64 ((x0.size : Int) - 1)) - x4)) then (if (wrap64 ((wrap64 ((x0.size : Int) - 1)) - x4)) < (x0.size : Int) then (if (Int.tmod x4 2) = 1 then (spec_ckDoubled.l0 k x0 (wrap64 (x3 + (((2 * (((bt x0 (wrap64 ((wrap64 ((x0.size : Int) - 1)) - x4))) - 48) % 256)) / 10) + ((2 * (((bt x0 (wrap64 ((wrap64 ((x0.size : Int) - 1)) - x4))) - 48) % 256)) % 10)))) (wrap64 (x4 + 1))) else (spec_ckDoubled.l0 k x0 (wrap64 (x3 + (((bt x0 (wrap64 ((wrap64 ((x0.size : Int) - 1)) - x4))) - 48) % 256))) (wrap64 (x4 + 1)))) else (none)) else (none)) else (some x3)
def spec_ckDoubled.f (k : Nat) (a0 : ByteArray) : Option (Int) := spec_ckDoubled.l0 k a0 0 0
set_option maxHeartbeats 8000000 in
set_option maxRecDepth 100000 in
theorem spec_ckDoubled.calls (k : Nat) (a0 : ByteArray) (r : Int) (w : World) (h : spec_ckDoubled.f k a0 = some r) :
  Calls Tryz.prog 157 #[.string a0] w fun e w' => e = .returned (.int .i64 r) ∧ Drawn0 w w' := by
 have H : (spec_ckDoubled.l0 k a0 0 0) = some r := h
 clear h
 have H' := Aside0.mk H
 clear H
 go_enter Tryz.func157, Tryz.ntmps157
 go_wp2
 go_loopg [3, 4] k (fun kq v3 v4 w' => ∃ (x3_1 : Int) (x4_1 : Int), v3 = .int .i64 x3_1 ∧ v4 = .int .i64 x4_1 ∧ Aside0 (spec_ckDoubled.l0 kq a0 x3_1 x4_1 = some r) ∧ Aside0 (kq ≤ k) ∧ Drawn0 w w')
 case atStart => exact ⟨(0), (0), Z3, Z3, H', ⟨Nat.le_refl _⟩, by repeat (first | exact Drawn0.refl _ | apply Drawn0.step)⟩
 case round =>
  clear H'
  try clear c1
  obtain ⟨x3_1, x4_1, rfl, rfl, HA, HK1, ⟨m1, rfl⟩⟩ := hrel
  cases gk with
  | zero => exact absurd HA.out (by simp [spec_ckDoubled.l0])
  | succ k1 =>
   have H := HA.out
   clear HA
   simp only [spec_ckDoubled.l0] at H
   by_cases c2 : x4_1 < (a0.size : Int)
   ·
    rw [if_pos c2] at H
    have c2b0 : decide (x4_1 < (a0.size : Int)) = true := decide_eq_true c2
    clear c2
    obtain ⟨ji3, hji3⟩ : ∃ j_ : Int, (wrap64 ((wrap64 ((a0.size : Int) - 1)) - x4_1)) = j_ := ⟨_, rfl⟩
    replace H : (if 0 ≤ (ji3) then (if (ji3) < (a0.size : Int) then (if (Int.tmod x4_1 2) = 1 then (spec_ckDoubled.l0 k1 a0 (wrap64 (x3_1 + (((2 * (((bt a0 (ji3)) - 48) % 256)) / 10) + ((2 * (((bt a0 (ji3)) - 48) % 256)) % 10)))) (wrap64 (x4_1 + 1))) else (spec_ckDoubled.l0 k1 a0 (wrap64 (x3_1 + (((bt a0 (ji3)) - 48) % 256))) (wrap64 (x4_1 + 1)))) else (none)) else (none)) = some r := by first | (rw [hji3] at H; exact H) | (simp only [hji3] at H ⊢; exact H)
    have hji3w : (IntKind.i64.wrap ((wrap64 ((a0.size : Int) - 1)) - x4_1)) = ji3 := (i64_w _).trans hji3
    by_cases c4 : 0 ≤ (ji3)
    ·
     rw [if_pos c4] at H
     have c4b0 : decide (0 ≤ (ji3)) = true := decide_eq_true c4
     clear c4
     by_cases c5 : (ji3) < (a0.size : Int)
     ·
      rw [if_pos c5] at H
      have c5b0 : decide ((ji3) < (a0.size : Int)) = true := decide_eq_true c5
      clear c5
      by_cases c7 : (Int.tmod x4_1 2) = 1
      ·
       rw [if_pos c7] at H
       have c7b0 : ((Int.tmod x4_1 2) == 1) = true := beq_iff_eq.mpr c7
       have c7b1 : ((Int.tmod x4_1 2) != 1) = false := bne_eq_false_iff_eq.mpr c7
       clear c7
       have H' := Aside0.mk H
       clear H
       have p6 : 0 ≤ ((ji3) : Int) := Z2
       have q6 : (ji3) < (a0.size : Int) := Z2
       have hx6 := bt_at a0 (ji3)
       replace p6 := eq_true p6
       replace q6 := eq_true q6
       go_wp2
       go_roundg k1
       case measure => have := HK1.out; omega
       case rel => exact ⟨(wrap64 (x3_1 + (((2 * (((bt a0 (ji3)) - 48) % 256)) / 10) + ((2 * (((bt a0 (ji3)) - 48) % 256)) % 10)))), (wrap64 (x4_1 + 1)), Z140, Z3, H', ⟨by have := HK1.out; omega⟩, by repeat (first | exact Drawn0.refl _ | apply Drawn0.step)⟩
      ·
       rw [if_neg c7] at H
       have c7b0 : ((Int.tmod x4_1 2) == 1) = false := beq_eq_false_iff_ne.mpr c7
       have c7b1 : ((Int.tmod x4_1 2) != 1) = true := bne_iff_ne.mpr c7
       have H' := Aside0.mk H
       clear H
       have p6 : 0 ≤ ((ji3) : Int) := Z2
       have q6 : (ji3) < (a0.size : Int) := Z2
       have hx6 := bt_at a0 (ji3)
       replace p6 := eq_true p6
       replace q6 := eq_true q6
       go_wp2
       go_roundg k1
       case measure => have := HK1.out; omega
       case rel => exact ⟨(wrap64 (x3_1 + (((bt a0 (ji3)) - 48) % 256))), (wrap64 (x4_1 + 1)), Z140, Z3, H', ⟨by have := HK1.out; omega⟩, by repeat (first | exact Drawn0.refl _ | apply Drawn0.step)⟩
     ·
      rw [if_neg c5] at H
      exact absurd H (by simp)
    ·
     rw [if_neg c4] at H
     exact absurd H (by simp)
   ·
    rw [if_neg c2] at H
    have c2b0 : decide (x4_1 < (a0.size : Int)) = false := decide_eq_false c2
    clear c2
    obtain rfl := Option.some.inj H
    go_wp2
    go_ret
    exact ⟨by first | rfl | (simp; done) | (simp only [Go.IntWalk.i64_left]; done) | (simp [*]; done) | (simp; omega), by repeat (first | exact Drawn0.refl _ | apply Drawn0.step)⟩

/-! ### spec_DoubledCheck: function 76 -/
def spec_DoubledCheck.f (k : Nat) (a0 : ByteArray) : Option (ByteArray × Bool) := (spec_ckLong.f k a0 1 11).bind fun t360 => (if t360 = true then (if a0.size + 1 ≤ 9223372036854775807 then ((spec_ckDoubled.f k (a0 ++ (⟨#[48]⟩ : ByteArray))).bind fun t361 => (if 0 ≤ (Int.tmod (wrap64 (10 - (Int.tmod t361 10))) 10) then (if (Int.tmod (wrap64 (10 - (Int.tmod t361 10))) 10) ≤ (wrap64 ((Int.tmod (wrap64 (10 - (Int.tmod t361 10))) 10) + 1)) then (if (wrap64 ((Int.tmod (wrap64 (10 - (Int.tmod t361 10))) 10) + 1)) ≤ 11 then (some ((⟨#[48, 49, 50, 51, 52, 53, 54, 55, 56, 57, 88]⟩ : ByteArray).extract ((Int.tmod (wrap64 (10 - (Int.tmod t361 10))) 10) : Int).toNat ((wrap64 ((Int.tmod (wrap64 (10 - (Int.tmod t361 10))) 10) + 1)) : Int).toNat, true)) else (none)) else (none)) else (none))) else (none)) else (some ((⟨#[]⟩ : ByteArray), false)))
set_option maxHeartbeats 8000000 in
set_option maxRecDepth 100000 in
theorem spec_DoubledCheck.calls (k : Nat) (a0 : ByteArray) (r1 : ByteArray) (r2 : Bool) (w : World) (h : spec_DoubledCheck.f k a0 = some (r1, r2)) :
  Calls Tryz.prog 76 #[.string a0] w fun e w' => e = .returned (.tuple #[.string r1, .bool r2]) ∧ Drawn0 w w' := by
 have H : ((spec_ckLong.f k a0 1 11).bind fun t360 => (if t360 = true then (if a0.size + 1 ≤ 9223372036854775807 then ((spec_ckDoubled.f k (a0 ++ (⟨#[48]⟩ : ByteArray))).bind fun t361 => (if 0 ≤ (Int.tmod (wrap64 (10 - (Int.tmod t361 10))) 10) then (if (Int.tmod (wrap64 (10 - (Int.tmod t361 10))) 10) ≤ (wrap64 ((Int.tmod (wrap64 (10 - (Int.tmod t361 10))) 10) + 1)) then (if (wrap64 ((Int.tmod (wrap64 (10 - (Int.tmod t361 10))) 10) + 1)) ≤ 11 then (some ((⟨#[48, 49, 50, 51, 52, 53, 54, 55, 56, 57, 88]⟩ : ByteArray).extract ((Int.tmod (wrap64 (10 - (Int.tmod t361 10))) 10) : Int).toNat ((wrap64 ((Int.tmod (wrap64 (10 - (Int.tmod t361 10))) 10) + 1)) : Int).toNat, true)) else (none)) else (none)) else (none))) else (none)) else (some ((⟨#[]⟩ : ByteArray), false)))) = some (r1, r2) := h
 clear h
 replace H := Option.bind_eq_some_iff.mp H
 obtain ⟨t360, A20, H⟩ := H
 replace H : (if t360 = true then (if a0.size + 1 ≤ 9223372036854775807 then ((spec_ckDoubled.f k (a0 ++ (⟨#[48]⟩ : ByteArray))).bind fun t361 => (if 0 ≤ (Int.tmod (wrap64 (10 - (Int.tmod t361 10))) 10) then (if (Int.tmod (wrap64 (10 - (Int.tmod t361 10))) 10) ≤ (wrap64 ((Int.tmod (wrap64 (10 - (Int.tmod t361 10))) 10) + 1)) then (if (wrap64 ((Int.tmod (wrap64 (10 - (Int.tmod t361 10))) 10) + 1)) ≤ 11 then (some ((⟨#[48, 49, 50, 51, 52, 53, 54, 55, 56, 57, 88]⟩ : ByteArray).extract ((Int.tmod (wrap64 (10 - (Int.tmod t361 10))) 10) : Int).toNat ((wrap64 ((Int.tmod (wrap64 (10 - (Int.tmod t361 10))) 10) + 1)) : Int).toNat, true)) else (none)) else (none)) else (none))) else (none)) else (some ((⟨#[]⟩ : ByteArray), false))) = some (r1, r2) := H
 have A2 := Aside0.mk A20
 clear A20
 by_cases c3 : t360 = true
 ·
  subst c3
  have H1 : (if a0.size + 1 ≤ 9223372036854775807 then ((spec_ckDoubled.f k (a0 ++ (⟨#[48]⟩ : ByteArray))).bind fun t361 => (if 0 ≤ (Int.tmod (wrap64 (10 - (Int.tmod t361 10))) 10) then (if (Int.tmod (wrap64 (10 - (Int.tmod t361 10))) 10) ≤ (wrap64 ((Int.tmod (wrap64 (10 - (Int.tmod t361 10))) 10) + 1)) then (if (wrap64 ((Int.tmod (wrap64 (10 - (Int.tmod t361 10))) 10) + 1)) ≤ 11 then (some ((⟨#[48, 49, 50, 51, 52, 53, 54, 55, 56, 57, 88]⟩ : ByteArray).extract ((Int.tmod (wrap64 (10 - (Int.tmod t361 10))) 10) : Int).toNat ((wrap64 ((Int.tmod (wrap64 (10 - (Int.tmod t361 10))) 10) + 1)) : Int).toNat, true)) else (none)) else (none)) else (none))) else (none)) = some (r1, r2) := by rw [if_pos rfl] at H; exact H
  clear H
  have H := H1
  clear H1
  by_cases c4 : a0.size + 1 ≤ 9223372036854775807
  ·
   rw [if_pos c4] at H
   have c4b0 := eq_true c4
   have c4b1 : decide (a0.size + 1 ≤ 9223372036854775807) = true := decide_eq_true c4
   try have c4b2 : (9223372036854775807 < a0.size + 1) = False := eq_false (Nat.not_lt.2 c4)
   have c4b3 : ∀ z_ : Nat, z_ = a0.size + 1 → (9223372036854775807 < z_) = False := fun z_ hz_ => by rw [hz_]; exact eq_false (Nat.not_lt.2 c4)
   replace H := Option.bind_eq_some_iff.mp H
   obtain ⟨t361, A50, H⟩ := H
   replace H : (if 0 ≤ (Int.tmod (wrap64 (10 - (Int.tmod t361 10))) 10) then (if (Int.tmod (wrap64 (10 - (Int.tmod t361 10))) 10) ≤ (wrap64 ((Int.tmod (wrap64 (10 - (Int.tmod t361 10))) 10) + 1)) then (if (wrap64 ((Int.tmod (wrap64 (10 - (Int.tmod t361 10))) 10) + 1)) ≤ 11 then (some ((⟨#[48, 49, 50, 51, 52, 53, 54, 55, 56, 57, 88]⟩ : ByteArray).extract ((Int.tmod (wrap64 (10 - (Int.tmod t361 10))) 10) : Int).toNat ((wrap64 ((Int.tmod (wrap64 (10 - (Int.tmod t361 10))) 10) + 1)) : Int).toNat, true)) else (none)) else (none)) else (none)) = some (r1, r2) := H
   have A5 := Aside0.mk A50
   clear A50
   obtain ⟨ji6, hji6⟩ : ∃ j_ : Int, (Int.tmod (wrap64 (10 - (Int.tmod t361 10))) 10) = j_ := ⟨_, rfl⟩
   replace H : (if 0 ≤ (ji6) then (if (ji6) ≤ (wrap64 ((ji6) + 1)) then (if (wrap64 ((ji6) + 1)) ≤ 11 then (some ((⟨#[48, 49, 50, 51, 52, 53, 54, 55, 56, 57, 88]⟩ : ByteArray).extract ((ji6) : Int).toNat ((wrap64 ((ji6) + 1)) : Int).toNat, true)) else (none)) else (none)) else (none)) = some (r1, r2) := by first | (rw [hji6] at H; exact H) | (simp only [hji6] at H ⊢; exact H)
   (try rw [hji6] at A2)
   (try rw [hji6] at A5)
   by_cases c7 : 0 ≤ (ji6)
   ·
    rw [if_pos c7] at H
    have c7b0 := eq_true c7
    have c7b1 : decide (0 ≤ (ji6)) = true := decide_eq_true c7
    clear c7
    by_cases c8 : (ji6) ≤ (wrap64 ((ji6) + 1))
    ·
     rw [if_pos c8] at H
     have c8b0 := eq_true c8
     have c8b1 : decide ((ji6) ≤ (wrap64 ((ji6) + 1))) = true := decide_eq_true c8
     by_cases c9 : (wrap64 ((ji6) + 1)) ≤ 11
     ·
      rw [if_pos c9] at H
      have c9b0 := eq_true c9
      have c9b1 : decide ((wrap64 ((ji6) + 1)) ≤ 11) = true := decide_eq_true c9
      simp only [Option.some.injEq, Prod.mk.injEq] at H
      obtain ⟨rfl, rfl⟩ := H
      go_enter Tryz.func76, Tryz.ntmps76
      go_wp2_with (first | ((with_reducible refine gate_callee (f := 156) rfl ?_); refine goesL_ (some 6) rfl rfl Tryz.func156 (by kernel_rfl) rfl #[.string a0, .int .i64 1, .int .i64 11] rfl Z1 ?_; (with_reducible refine (spec_ckLong.calls k a0 1 11 true _ A2.out).mono ?_); rintro e w' ⟨rfl, ⟨nd, rfl⟩⟩; refine ⟨_, rfl, ?_⟩) | ((with_reducible refine gate_callee (f := 157) rfl ?_); refine goesL_ (some 10) rfl rfl Tryz.func157 (by kernel_rfl) rfl #[.string (a0 ++ (⟨#[48]⟩ : ByteArray))] rfl Z1 ?_; (with_reducible refine (spec_ckDoubled.calls k (a0 ++ (⟨#[48]⟩ : ByteArray)) t361 _ A5.out).mono ?_); rintro e w' ⟨rfl, ⟨nd, rfl⟩⟩; refine ⟨_, rfl, ?_⟩))
      go_ret2
      exact ⟨by first | rfl | (simp; done) | (simp only [← hji6] <;> (first | rfl | simp)) | (simp only [Go.IntWalk.i64_left]; done) | (simp [*]; done) | (simp; omega), by repeat (first | exact Drawn0.refl _ | apply Drawn0.step)⟩
     ·
      rw [if_neg c9] at H
      exact absurd H (by simp)
    ·
     rw [if_neg c8] at H
     exact absurd H (by simp)
   ·
    rw [if_neg c7] at H
    exact absurd H (by simp)
  ·
   rw [if_neg c4] at H
   exact absurd H (by simp)
 ·
  replace c3 := Bool.eq_false_iff.mpr c3
  subst c3
  have H1 : (some ((⟨#[]⟩ : ByteArray), false)) = some (r1, r2) := by rw [if_neg (show ¬ (false = true) by decide)] at H; exact H
  clear H
  have H := H1
  clear H1
  simp only [Option.some.injEq, Prod.mk.injEq] at H
  obtain ⟨rfl, rfl⟩ := H
  go_enter Tryz.func76, Tryz.ntmps76
  go_wp2_with (first | ((with_reducible refine gate_callee (f := 156) rfl ?_); refine goesL_ (some 6) rfl rfl Tryz.func156 (by kernel_rfl) rfl #[.string a0, .int .i64 1, .int .i64 11] rfl Z1 ?_; (with_reducible refine (spec_ckLong.calls k a0 1 11 false _ A2.out).mono ?_); rintro e w' ⟨rfl, ⟨nd, rfl⟩⟩; refine ⟨_, rfl, ?_⟩))
  go_ret2
  exact ⟨by first | rfl | (simp; done) | (simp only [Go.IntWalk.i64_left]; done) | (simp [*]; done) | (simp; omega), by repeat (first | exact Drawn0.refl _ | apply Drawn0.step)⟩

/-! ### spec_l1Cur_one: function 98 -/
def spec_l1Cur_one.f (s0_0 : List Int) (s0_1 : Int) (s0_2 : Int) (a1 : Int) : Option (Bool × Int × Int) := (spec_l1Cur_pick.f s0_0 s0_1 s0_2 a1).bind fun bt362 => (some ((bt362.1 == 0), bt362.2.1, bt362.2.2))
set_option maxHeartbeats 8000000 in
set_option maxRecDepth 100000 in
theorem spec_l1Cur_one.calls (g : Nat) (s0_0 : List Int) (s0_1 : Int) (s0_2 : Int) (a1 : Int) (r1 : Bool) (r2 : Int) (r3 : Int) (w0 w : World) (hI : IsS80 w0 w g s0_0 s0_1 s0_2) (hB : Below w0.heap.size w0 w) (h : spec_l1Cur_one.f s0_0 s0_1 s0_2 a1 = some (r1, r2, r3)) :
  Calls Tryz.prog 98 #[.pointer (some ⟨g, 0, none⟩), .int .i64 a1] w fun e w' => e = .returned (.bool r1) ∧ IsS80 w0 w' g s0_0 r2 r3 ∧ Below w0.heap.size w0 w' ∧ KeepBut w w' g none := by
 have HI0 := Aside0.mk hI
 have HK := Aside0.mk (KeepBut.refl w g none)
 have HL := Aside0.mk hB.size
 clear hI
 have HW0 := Aside0.mk hB.size
 have HB := Aside0.mk hB
 clear hB
 have H : ((spec_l1Cur_pick.f s0_0 s0_1 s0_2 a1).bind fun bt362 => (some ((bt362.1 == 0), bt362.2.1, bt362.2.2))) = some (r1, r2, r3) := h
 clear h
 replace H := Option.bind_eq_some_iff.mp H
 obtain ⟨⟨t362, t363, t364⟩, A30, H⟩ := H
 replace H : (some ((t362 == 0), t363, t364)) = some (r1, r2, r3) := H
 have A3 := Aside0.mk A30
 clear A30
 simp only [Option.some.injEq, Prod.mk.injEq] at H
 obtain ⟨rfl, rfl, rfl⟩ := H
 go_enter Tryz.func98, Tryz.ntmps98
 go_wp2_with (first | ((with_reducible refine gate_callee (f := 104) rfl ?_); refine goesL_ (some 7) rfl rfl Tryz.func104 (by kernel_rfl) rfl #[.pointer (some ⟨g, 0, none⟩), .int .i64 a1] rfl Z1 ?_; (with_reducible refine (spec_l1Cur_pick.calls g s0_0 s0_1 s0_2 a1 t362 t363 t364 w0 _ ?side1 ?side2 A3.out).mono ?_); (case side1 => exact Z6); (case side2 => exact Z5); rintro e w4 ⟨rfl, hi, hb, hk⟩; refine ⟨_, rfl, ?_⟩; have n0_ := Aside0.mk (KeepBut.trans Z4 hk (.inl rfl)); have n1_ := Aside0.mk (hb); have n2_ := Aside0.mk (hi); clear HK HB HI0; revert n0_ n1_ n2_; intro HK HB HI0; (try clear hb); (try clear hb2); (try clear hk); (try clear hi)))
 go_ret
 exact ⟨by first | rfl | (simp [errW_none, errW_some] <;> rfl) | (simp [*, errW_none, errW_some] <;> rfl), by repeat (first | (with_reducible first | exact HI0.out | apply IsS80.alloc | apply IsS80.drewN | apply IsS80.drew | apply IsS80.set_1 | apply IsS80.set_2) | exact HI0.out), by repeat (first | (with_reducible first | exact HB.out | apply below_alloc | apply pw_below_drewN | apply below_drew1 | refine below_set ?_ (IsS80.ge HI0.out)) | exact HB.out), by repeat (first | (with_reducible first | exact HK.out | apply KeepBut.set_ | apply keep_drewN | apply keep_drew | apply keep_alloc) | exact HK.out)⟩

/-! ### spec_l1Cur_digits: function 139 -/
def spec_l1Cur_digits.l0 : Nat → Int → ByteArray → List Int → Int → Int → Option (ByteArray × Int × Int)
 | 0, _, _, _, _, _ => none
 | k + 1, x1, x5, x1000, x1001, x1002 => if x1 > 0 then ((spec_l1Cur_pick.f x1000 x1001 x1002 10).bind fun bt365 => ((spec_l1Num.f k bt365.1).bind fun t368 => (if x5.size + t368.size ≤ 9223372036854775807 then (spec_l1Cur_digits.l0 k (wrap64 (x1 - 1)) (x5 ++ t368) x1000 bt365.2.1 bt365.2.2) else (none)))) else (some (x5, x1001, x1002))
def spec_l1Cur_digits.f (k : Nat) (s0_0 : List Int) (s0_1 : Int) (s0_2 : Int) (a1 : Int) : Option (ByteArray × Int × Int) := spec_l1Cur_digits.l0 k a1 (⟨#[]⟩ : ByteArray) s0_0 s0_1 s0_2
set_option maxHeartbeats 8000000 in
set_option maxRecDepth 100000 in
theorem spec_l1Cur_digits.calls (k : Nat) (g : Nat) (s0_0 : List Int) (s0_1 : Int) (s0_2 : Int) (a1 : Int) (r1 : ByteArray) (r2 : Int) (r3 : Int) (w0 w : World) (hI : IsS80 w0 w g s0_0 s0_1 s0_2) (hB : Below w0.heap.size w0 w) (h : spec_l1Cur_digits.f k s0_0 s0_1 s0_2 a1 = some (r1, r2, r3)) :
  Calls Tryz.prog 139 #[.pointer (some ⟨g, 0, none⟩), .int .i64 a1] w fun e w' => e = .returned (.string r1) ∧ IsS80 w0 w' g s0_0 r2 r3 ∧ Below w0.heap.size w0 w' ∧ KeepBut w w' g none := by
 have HI0 := Aside0.mk hI
 have HK := Aside0.mk (KeepBut.refl w g none)
 have HL := Aside0.mk hB.size
 clear hI
 have HW0 := Aside0.mk hB.size
 have HB := Aside0.mk hB
 clear hB
 have H : (spec_l1Cur_digits.l0 k a1 (⟨#[]⟩ : ByteArray) s0_0 s0_1 s0_2) = some (r1, r2, r3) := h
 clear h
 have H' := Aside0.mk H
 clear H
 go_enter Tryz.func139, Tryz.ntmps139
 go_wp2
 go_loopg [1, 5] k (fun kq v1 v5 w' => ∃ (x1_1 : Int) (x5_1 : ByteArray) (x1001_1 : Int) (x1002_1 : Int), v1 = .int .i64 x1_1 ∧ v5 = .string x5_1 ∧ Aside0 (spec_l1Cur_digits.l0 kq x1_1 x5_1 s0_0 x1001_1 x1002_1 = some (r1, r2, r3)) ∧ Aside0 (kq ≤ k) ∧ Aside0 (IsS80 w0 w' g s0_0 x1001_1 x1002_1) ∧ Aside0 (KeepBut w w' g none) ∧ Aside0 (Below w0.heap.size w0 w'))
 case atStart => exact ⟨(a1), ((⟨#[]⟩ : ByteArray)), (s0_1), (s0_2), Z3, Z3, H', ⟨Nat.le_refl _⟩, ⟨by repeat (first | (with_reducible first | exact HI0.out | apply IsS80.alloc | apply IsS80.drewN | apply IsS80.drew | apply IsS80.set_1 | apply IsS80.set_2) | exact HI0.out)⟩, ⟨by repeat (first | (with_reducible first | exact HK.out | apply KeepBut.set_ | apply keep_drewN | apply keep_drew | apply keep_alloc) | exact HK.out)⟩, ⟨by repeat (first | (with_reducible first | exact HB.out | apply below_alloc | apply pw_below_drewN | apply below_drew1 | refine below_set ?_ (IsS80.ge HI0.out)) | exact HB.out)⟩⟩
 case round =>
  clear H'
  (try clear c1); (try clear p2)
  obtain ⟨x1_1, x5_1, x1001_1, x1002_1, rfl, rfl, HA, HK1, HI0, HK, HB⟩ := hrel
  cases gk with
  | zero => exact absurd HA.out (by simp [spec_l1Cur_digits.l0])
  | succ k1 =>
   have H := HA.out
   clear HA
   simp only [spec_l1Cur_digits.l0] at H
   by_cases c3 : x1_1 > 0
   ·
    rw [if_pos c3] at H
    have c3b0 : decide (0 < x1_1) = true := decide_eq_true c3
    clear c3
    replace H := Option.bind_eq_some_iff.mp H
    obtain ⟨⟨t365, t366, t367⟩, A40, H⟩ := H
    replace H : ((spec_l1Num.f k1 t365).bind fun t368 => (if x5_1.size + t368.size ≤ 9223372036854775807 then (spec_l1Cur_digits.l0 k1 (wrap64 (x1_1 - 1)) (x5_1 ++ t368) s0_0 t366 t367) else (none))) = some (r1, r2, r3) := H
    have A4 := Aside0.mk A40
    clear A40
    replace H := Option.bind_eq_some_iff.mp H
    obtain ⟨t368, A50, H⟩ := H
    replace H : (if x5_1.size + t368.size ≤ 9223372036854775807 then (spec_l1Cur_digits.l0 k1 (wrap64 (x1_1 - 1)) (x5_1 ++ t368) s0_0 t366 t367) else (none)) = some (r1, r2, r3) := H
    have A5 := Aside0.mk A50
    clear A50
    by_cases c6 : x5_1.size + t368.size ≤ 9223372036854775807
    ·
     rw [if_pos c6] at H
     have c6b0 := eq_true c6
     have c6b1 : decide (x5_1.size + t368.size ≤ 9223372036854775807) = true := decide_eq_true c6
     try have c6b2 : (9223372036854775807 < x5_1.size + t368.size) = False := eq_false (Nat.not_lt.2 c6)
     have c6b3 : ∀ z_ : Nat, z_ = x5_1.size + t368.size → (9223372036854775807 < z_) = False := fun z_ hz_ => by rw [hz_]; exact eq_false (Nat.not_lt.2 c6)
     have H' := Aside0.mk H
     clear H
     go_wp2_with (first | ((with_reducible refine gate_callee (f := 104) rfl ?_); refine goesL_ (some 12) rfl rfl Tryz.func104 (by kernel_rfl) rfl #[.pointer (some ⟨g, 0, none⟩), .int .i64 10] rfl Z1 ?_; (with_reducible refine (spec_l1Cur_pick.calls g s0_0 x1001_1 x1002_1 10 t365 t366 t367 w0 _ ?side1 ?side2 A4.out).mono ?_); (case side1 => exact Z6); (case side2 => exact Z5); rintro e w7 ⟨rfl, hi, hb, hk⟩; refine ⟨_, rfl, ?_⟩; have n0_ := Aside0.mk (KeepBut.trans Z4 hk (.inl rfl)); have n1_ := Aside0.mk (hb); have n2_ := Aside0.mk (hi); clear HK HB HI0; revert n0_ n1_ n2_; intro HK HB HI0; (try clear hb); (try clear hb2); (try clear hk); (try clear hi)) | ((with_reducible refine gate_callee (f := 185) rfl ?_); refine goesL_ (some 13) rfl rfl Tryz.func185 (by kernel_rfl) rfl #[.int .i64 t365] rfl Z1 ?_; (with_reducible refine (spec_l1Num.calls k1 t365 t368 _ A5.out).mono ?_); rintro e w8 ⟨rfl, hb⟩; refine ⟨_, rfl, ?_⟩; have n0_ := Aside0.mk (IsS80.below Z6 hb); have n1_ := Aside0.mk (KeepBut.trans Z4 (KeepBut.of_below hb g none) (.inl rfl)); have n2_ := Aside0.mk (below_step Z5 hb); clear HI0 HK HB; revert n0_ n1_ n2_; intro HI0 HK HB; (try clear hb); (try clear hb2); (try clear hk); (try clear hi)))
     go_roundg k1
     case measure => have := HK1.out; omega
     case rel => exact ⟨(wrap64 (x1_1 - 1)), (x5_1 ++ t368), (t366), (t367), Z3, Z3, H', ⟨by have := HK1.out; omega⟩, ⟨by repeat (first | (with_reducible first | exact HI0.out | apply IsS80.alloc | apply IsS80.drewN | apply IsS80.drew | apply IsS80.set_1 | apply IsS80.set_2) | exact HI0.out)⟩, ⟨by repeat (first | (with_reducible first | exact HK.out | apply KeepBut.set_ | apply keep_drewN | apply keep_drew | apply keep_alloc) | exact HK.out)⟩, ⟨by repeat (first | (with_reducible first | exact HB.out | apply below_alloc | apply pw_below_drewN | apply below_drew1 | refine below_set ?_ (IsS80.ge HI0.out)) | exact HB.out)⟩⟩
    ·
     rw [if_neg c6] at H
     exact absurd H (by simp)
   ·
    rw [if_neg c3] at H
    have c3b0 : decide (0 < x1_1) = false := decide_eq_false c3
    clear c3
    simp only [Option.some.injEq, Prod.mk.injEq] at H
    obtain ⟨rfl, rfl, rfl⟩ := H
    go_wp2
    go_ret
    exact ⟨by first | rfl | (simp [errW_none, errW_some] <;> rfl) | (simp [*, errW_none, errW_some] <;> rfl), by repeat (first | (with_reducible first | exact HI0.out | apply IsS80.alloc | apply IsS80.drewN | apply IsS80.drew | apply IsS80.set_1 | apply IsS80.set_2) | exact HI0.out), by repeat (first | (with_reducible first | exact HB.out | apply below_alloc | apply pw_below_drewN | apply below_drew1 | refine below_set ?_ (IsS80.ge HI0.out)) | exact HB.out), by repeat (first | (with_reducible first | exact HK.out | apply KeepBut.set_ | apply keep_drewN | apply keep_drew | apply keep_alloc) | exact HK.out)⟩

/-! ### spec_l1Cur_of: function 140 -/
def spec_l1Cur_of.f (s0_0 : List Int) (s0_1 : Int) (s0_2 : Int) (l1 : List ByteArray) : Option (ByteArray × Int × Int) := (spec_l1Cur_pick.f s0_0 s0_1 s0_2 (l1.length : Int)).bind fun bt369 => (if 0 ≤ bt369.1 then (if bt369.1 < (l1.length : Int) then (some (rdOf ByteArray.empty l1 bt369.1, bt369.2.1, bt369.2.2)) else (none)) else (none))
set_option maxHeartbeats 8000000 in
set_option maxRecDepth 100000 in
theorem spec_l1Cur_of.calls (g : Nat) (s0_0 : List Int) (s0_1 : Int) (s0_2 : Int) (A1 : Option Addr) (c1 : Nat) (l1 : List ByteArray) (r1 : ByteArray) (r2 : Int) (r3 : Int) (w0 w : World) (hI : IsS80 w0 w g s0_0 s0_1 s0_2) (hB : Below w0.heap.size w0 w) (hr1 : Kd.C Kd.string w A1 l1.length l1) (hc1 : l1.length ≤ c1) (hf1 : ∀ ad, A1 = some ad → 0 < l1.length → ad.block ≠ g) (h : spec_l1Cur_of.f s0_0 s0_1 s0_2 l1 = some (r1, r2, r3)) :
  Calls Tryz.prog 140 #[.pointer (some ⟨g, 0, none⟩), .slice A1 l1.length c1] w fun e w' => e = .returned (.string r1) ∧ IsS80 w0 w' g s0_0 r2 r3 ∧ Below w0.heap.size w0 w' ∧ KeepBut w w' g none := by
 have HR1 := Aside0.mk hr1
 have HC1 := Aside0.mk hc1
 clear hr1 hc1
 have HI0 := Aside0.mk hI
 have HK := Aside0.mk (KeepBut.refl w g none)
 have HL := Aside0.mk hB.size
 clear hI
 have HW0 := Aside0.mk hB.size
 have HB := Aside0.mk hB
 clear hB
 have H : ((spec_l1Cur_pick.f s0_0 s0_1 s0_2 (l1.length : Int)).bind fun bt369 => (if 0 ≤ bt369.1 then (if bt369.1 < (l1.length : Int) then (some (rdOf ByteArray.empty l1 bt369.1, bt369.2.1, bt369.2.2)) else (none)) else (none))) = some (r1, r2, r3) := h
 clear h
 replace H := Option.bind_eq_some_iff.mp H
 obtain ⟨⟨t369, t370, t371⟩, A30, H⟩ := H
 replace H : (if 0 ≤ t369 then (if t369 < (l1.length : Int) then (some (rdOf ByteArray.empty l1 t369, t370, t371)) else (none)) else (none)) = some (r1, r2, r3) := H
 have A3 := Aside0.mk A30
 clear A30
 by_cases c4 : 0 ≤ t369
 ·
  rw [if_pos c4] at H
  have c4b0 : decide (0 ≤ t369) = true := decide_eq_true c4
  clear c4
  by_cases c5 : t369 < (l1.length : Int)
  ·
   rw [if_pos c5] at H
   have c5b0 : decide (t369 < (l1.length : Int)) = true := decide_eq_true c5
   clear c5
   simp only [Option.some.injEq, Prod.mk.injEq] at H
   obtain ⟨rfl, rfl, rfl⟩ := H
   go_enter Tryz.func140, Tryz.ntmps140
   go_wp2_with (first | ((with_reducible refine gate_callee (f := 104) rfl ?_); refine goesL_ (some 9) rfl rfl Tryz.func104 (by kernel_rfl) rfl #[.pointer (some ⟨g, 0, none⟩), .int .i64 (l1.length : Int)] rfl Z1 ?_; (with_reducible refine (spec_l1Cur_pick.calls g s0_0 s0_1 s0_2 (l1.length : Int) t369 t370 t371 w0 _ ?side1 ?side2 A3.out).mono ?_); (case side1 => exact Z6); (case side2 => exact Z5); rintro e w6 ⟨rfl, hi, hb, hk⟩; refine ⟨_, rfl, ?_⟩; have n0_ := Aside0.mk (KeepBut.trans Z4 hk (.inl rfl)); have n1_ := Aside0.mk (hb); have n2_ := Aside0.mk (hi); clear HK HB HI0; revert n0_ n1_ n2_; intro HK HB HI0; (try clear hb); (try clear hb2); (try clear hk); (try clear hi); have p372 : 0 ≤ (t369 : Int) := Z2; have q372 : t369 < (l1.length : Int) := Z2; obtain ⟨ad372, e372, hx372_0⟩ := Kd.at_string HR1.out t369 p372 q372; cases e372; replace hx372_0 := keep_cell HK.out hx372_0 (by first | (rw [add_block]; exact hf1 _ rfl (by omega)) | exact hf1 _ rfl (by omega) | exact hf1 ad372 rfl (by omega)); replace p372 := eq_true p372; replace q372 := eq_true q372))
   go_ret
   exact ⟨by first | rfl | (simp [errW_none, errW_some] <;> rfl) | (simp [*, errW_none, errW_some] <;> rfl), by repeat (first | (with_reducible first | exact HI0.out | apply IsS80.alloc | apply IsS80.drewN | apply IsS80.drew | apply IsS80.set_1 | apply IsS80.set_2) | exact HI0.out), by repeat (first | (with_reducible first | exact HB.out | apply below_alloc | apply pw_below_drewN | apply below_drew1 | refine below_set ?_ (IsS80.ge HI0.out)) | exact HB.out), by repeat (first | (with_reducible first | exact HK.out | apply KeepBut.set_ | apply keep_drewN | apply keep_drew | apply keep_alloc) | exact HK.out)⟩
  ·
   rw [if_neg c5] at H
   exact absurd H (by simp)
 ·
  rw [if_neg c4] at H
  exact absurd H (by simp)

/-! ### spec_DrawDoubledSum: function 155 -/
def spec_DrawDoubledSum.f (k : Nat) (l0 : List Int) : Option (ByteArray) := (spec_l1Cur_one.f l0 0 0 10).bind fun bt374 => (if bt374.1 = true then ((spec_l1Cur_of.f l0 bt374.2.1 bt374.2.2 (([(⟨#[]⟩ : ByteArray), (⟨#[49]⟩ : ByteArray), (⟨#[49, 50, 120]⟩ : ByteArray), (⟨#[49, 50, 51, 52, 53, 54, 55, 56, 57, 48, 49, 50, 51]⟩ : ByteArray), (⟨#[48, 48]⟩ : ByteArray), (⟨#[55, 57, 57, 50, 55, 51, 57, 56, 55, 49, 51]⟩ : ByteArray)] : List ByteArray))).bind fun bt380 => (some bt380.1)) else ((spec_l1Cur_pick.f l0 bt374.2.1 bt374.2.2 9).bind fun bt383 => ((spec_l1Cur_digits.f k l0 bt383.2.1 bt383.2.2 (wrap64 (1 + bt383.1))).bind fun bt386 => ((spec_DoubledCheck.f k bt386.1).bind fun bt389 => (if bt389.2 = true then ((spec_l1Cur_one.f l0 bt386.2.1 bt386.2.2 2).bind fun bt391 => (if bt391.1 = true then (if bt386.1.size + bt389.1.size ≤ 9223372036854775807 then (some (bt386.1 ++ bt389.1)) else (none)) else (some bt386.1))) else (some bt386.1))))))
set_option maxHeartbeats 8000000 in
set_option maxRecDepth 100000 in
theorem spec_DrawDoubledSum.calls (k : Nat) (A0 : Option Addr) (c0 : Nat) (l0 : List Int) (r : ByteArray) (w : World) (hr0 : Kd.C (Kd.int .u8) w A0 l0.length l0) (hc0 : l0.length ≤ c0) (h : spec_DrawDoubledSum.f k l0 = some r) :
  Calls Tryz.prog 155 #[.slice A0 l0.length c0] w fun e w' => e = .returned (.string r) ∧ Below w.heap.size w w' := by
 have hu80 := Tryz.underlying80
 have HR0 := Aside0.mk hr0
 have HC0 := Aside0.mk hc0
 clear hr0 hc0
 have HB := Aside0.mk (Below.refl w.heap.size w)
 have H : ((spec_l1Cur_one.f l0 0 0 10).bind fun bt374 => (if bt374.1 = true then ((spec_l1Cur_of.f l0 bt374.2.1 bt374.2.2 (([(⟨#[]⟩ : ByteArray), (⟨#[49]⟩ : ByteArray), (⟨#[49, 50, 120]⟩ : ByteArray), (⟨#[49, 50, 51, 52, 53, 54, 55, 56, 57, 48, 49, 50, 51]⟩ : ByteArray), (⟨#[48, 48]⟩ : ByteArray), (⟨#[55, 57, 57, 50, 55, 51, 57, 56, 55, 49, 51]⟩ : ByteArray)] : List ByteArray))).bind fun bt380 => (some bt380.1)) else ((spec_l1Cur_pick.f l0 bt374.2.1 bt374.2.2 9).bind fun bt383 => ((spec_l1Cur_digits.f k l0 bt383.2.1 bt383.2.2 (wrap64 (1 + bt383.1))).bind fun bt386 => ((spec_DoubledCheck.f k bt386.1).bind fun bt389 => (if bt389.2 = true then ((spec_l1Cur_one.f l0 bt386.2.1 bt386.2.2 2).bind fun bt391 => (if bt391.1 = true then (if bt386.1.size + bt389.1.size ≤ 9223372036854775807 then (some (bt386.1 ++ bt389.1)) else (none)) else (some bt386.1))) else (some bt386.1))))))) = some r := h
 clear h
 replace H := Option.bind_eq_some_iff.mp H
 obtain ⟨⟨t374, t375, t376⟩, A20, H⟩ := H
 replace H : (if t374 = true then ((spec_l1Cur_of.f l0 t375 t376 (([(⟨#[]⟩ : ByteArray), (⟨#[49]⟩ : ByteArray), (⟨#[49, 50, 120]⟩ : ByteArray), (⟨#[49, 50, 51, 52, 53, 54, 55, 56, 57, 48, 49, 50, 51]⟩ : ByteArray), (⟨#[48, 48]⟩ : ByteArray), (⟨#[55, 57, 57, 50, 55, 51, 57, 56, 55, 49, 51]⟩ : ByteArray)] : List ByteArray))).bind fun bt380 => (some bt380.1)) else ((spec_l1Cur_pick.f l0 t375 t376 9).bind fun bt383 => ((spec_l1Cur_digits.f k l0 bt383.2.1 bt383.2.2 (wrap64 (1 + bt383.1))).bind fun bt386 => ((spec_DoubledCheck.f k bt386.1).bind fun bt389 => (if bt389.2 = true then ((spec_l1Cur_one.f l0 bt386.2.1 bt386.2.2 2).bind fun bt391 => (if bt391.1 = true then (if bt386.1.size + bt389.1.size ≤ 9223372036854775807 then (some (bt386.1 ++ bt389.1)) else (none)) else (some bt386.1))) else (some bt386.1)))))) = some r := H
 have A2 := Aside0.mk A20
 clear A20
 by_cases c3 : t374 = true
 ·
  subst c3
  have H1 : ((spec_l1Cur_of.f l0 t375 t376 (([(⟨#[]⟩ : ByteArray), (⟨#[49]⟩ : ByteArray), (⟨#[49, 50, 120]⟩ : ByteArray), (⟨#[49, 50, 51, 52, 53, 54, 55, 56, 57, 48, 49, 50, 51]⟩ : ByteArray), (⟨#[48, 48]⟩ : ByteArray), (⟨#[55, 57, 57, 50, 55, 51, 57, 56, 55, 49, 51]⟩ : ByteArray)] : List ByteArray))).bind fun bt380 => (some bt380.1)) = some r := by rw [if_pos rfl] at H; exact H
  clear H
  have H := H1
  clear H1
  obtain ⟨y377, hy377⟩ : ∃ y_ : List ByteArray, y_ = (([(⟨#[]⟩ : ByteArray), (⟨#[49]⟩ : ByteArray), (⟨#[49, 50, 120]⟩ : ByteArray), (⟨#[49, 50, 51, 52, 53, 54, 55, 56, 57, 48, 49, 50, 51]⟩ : ByteArray), (⟨#[48, 48]⟩ : ByteArray), (⟨#[55, 57, 57, 50, 55, 51, 57, 56, 55, 49, 51]⟩ : ByteArray)] : List ByteArray)) := ⟨_, rfl⟩
  replace H : ((spec_l1Cur_of.f l0 t375 t376 y377).bind fun bt380 => (some bt380.1)) = some r := by first | (rw [hy377]; with_reducible exact H) | (have H2_ := (Option.bind_some _ _).symm.trans H; rw [hy377]; with_reducible exact H2_) | (have H2_ := (Option.bind_some _ _).symm.trans H; with_reducible exact H2_) | with_reducible exact H | (rw [hy377]; exact H) | exact H
  have Ny377 := Aside0.mk hy377
  clear hy377
  replace H := Option.bind_eq_some_iff.mp H
  obtain ⟨⟨t380, t381, t382⟩, A40, H⟩ := H
  replace H : (some t380) = some r := H
  have A4 := Aside0.mk A40
  clear A40
  obtain rfl := Option.some.inj H
  go_enter Tryz.func155, Tryz.ntmps155
  go_wp2_with (first | ((with_reducible refine gate_dst (N := 9) rfl ?_); refine box_event ?hg (N := 9) ?hd (cs := #[.slice A0 l0.length c0, .int .i64 0, .int .u64 0]) (t := 80) ?hr ?_; (case hd => rfl); (case hg => rfl); (case hr => exact Z13); intro gb373 hg w5 hbox hb; have n0_ := Aside0.mk (below_step Z0 hb); have n1_ := Aside0.mk ((Z18 : w.heap.size ≤ gb373)); have n2_ := Aside0.mk ((Z18 : w.heap.size ≤ gb373)); have n3_ := Aside0.mk ((show IsS80 w _ gb373 l0 0 0 from ⟨_, _, hbox, Z18, HR0.out⟩)); clear HB; revert n0_ n1_ n2_ n3_; intro HB GW373 GE373 HI373; clear hb hbox hg) | ((with_reducible refine gate_callee (f := 98) rfl ?_); refine goesL_ (some 11) rfl rfl Tryz.func98 (by kernel_rfl) rfl #[.pointer (some ⟨gb373, 0, none⟩), .int .i64 10] rfl Z1 ?_; (with_reducible refine (spec_l1Cur_one.calls gb373 l0 0 0 10 true t375 t376 w _ ?side1 ?side2 A2.out).mono ?_); (case side1 => exact Z17); (case side2 => exact Z16); rintro e w6 ⟨rfl, hi, hb, hk⟩; refine ⟨_, rfl, ?_⟩; have n0_ := Aside0.mk (hb); have n1_ := Aside0.mk (hi); clear HB HI373; revert n0_ n1_; intro HB HI373; (try clear hb); (try clear hb2); (try clear hk); (try clear hi)) | ((with_reducible refine gate_dst (N := 13) rfl ?_); refine Kd.R_lit Kd.string _ 9 ?hg (N := 13) ?hd (xs := ([(⟨#[]⟩ : ByteArray), (⟨#[49]⟩ : ByteArray), (⟨#[49, 50, 120]⟩ : ByteArray), (⟨#[49, 50, 51, 52, 53, 54, 55, 56, 57, 48, 49, 50, 51]⟩ : ByteArray), (⟨#[48, 48]⟩ : ByteArray), (⟨#[55, 57, 57, 50, 55, 51, 57, 56, 55, 49, 51]⟩ : ByteArray)] : List ByteArray)) (inner := [.string (⟨#[]⟩ : ByteArray), .string (⟨#[49]⟩ : ByteArray), .string (⟨#[49, 50, 120]⟩ : ByteArray), .string (⟨#[49, 50, 51, 52, 53, 54, 55, 56, 57, 48, 49, 50, 51]⟩ : ByteArray), .string (⟨#[48, 48]⟩ : ByteArray), .string (⟨#[55, 57, 57, 50, 55, 51, 57, 56, 55, 49, 51]⟩ : ByteArray)]) (ok := fun _ => True) (okp := fun _ => True) ?hr ?hp (fun _ hk => hk) trivial (Below.refl _ _) (Nat.le_refl _) (by simp) ?_; (case hd => rfl); (case hg => rfl); (case hr => exact Z13); (case hp => exact (Reps.one (show Kd.M Kd.string _ _ _ (⟨#[]⟩ : ByteArray) [.string (⟨#[]⟩ : ByteArray)] from rfl) (Reps.one (show Kd.M Kd.string _ _ _ (⟨#[49]⟩ : ByteArray) [.string (⟨#[49]⟩ : ByteArray)] from rfl) (Reps.one (show Kd.M Kd.string _ _ _ (⟨#[49, 50, 120]⟩ : ByteArray) [.string (⟨#[49, 50, 120]⟩ : ByteArray)] from rfl) (Reps.one (show Kd.M Kd.string _ _ _ (⟨#[49, 50, 51, 52, 53, 54, 55, 56, 57, 48, 49, 50, 51]⟩ : ByteArray) [.string (⟨#[49, 50, 51, 52, 53, 54, 55, 56, 57, 48, 49, 50, 51]⟩ : ByteArray)] from rfl) (Reps.one (show Kd.M Kd.string _ _ _ (⟨#[48, 48]⟩ : ByteArray) [.string (⟨#[48, 48]⟩ : ByteArray)] from rfl) (Reps.one (show Kd.M Kd.string _ _ _ (⟨#[55, 57, 57, 50, 55, 51, 57, 56, 55, 49, 51]⟩ : ByteArray) [.string (⟨#[55, 57, 57, 50, 55, 51, 57, 56, 55, 49, 51]⟩ : ByteArray)] from rfl) (Reps.none _ _)))))))); intro v378 w7 ho8 hb hg_ hnew_; clear hg_ hnew_; (first | rw [← Ny377.out] at ho8 | (simp only [Int.reduceToNat] at ho8; rw [← Ny377.out] at ho8)); have n0_ := Aside0.mk (Kd.R_lower ho8 (below_size Z16)); have n1_ := Aside0.mk (IsS80.below Z17 hb); have n2_ := Aside0.mk (below_step Z16 hb); clear HI373 HB; revert n0_ n1_ n2_; intro HO379 HI373 HB; clear hb ho8; obtain ⟨Ao9, co9, eo9⟩ := Kd.R_slice HO379.out; subst eo9) | ((with_reducible refine gate_callee (f := 140) rfl ?_); refine goesL_ (some 14) rfl rfl Tryz.func140 (by kernel_rfl) rfl #[.pointer (some ⟨gb373, 0, none⟩), .slice Ao9 y377.length co9] rfl Z1 ?_; (with_reducible refine (spec_l1Cur_of.calls gb373 l0 t375 t376 _ _ y377 t380 t381 t382 w _ ?side1 ?side2 ?side3 ?side4 ?side5 A4.out).mono ?_); (case side1 => exact Z17); (case side2 => exact Z16); (case side3 => repeat (first | exact (Kd.R_reads' HO379.out).2.2 | (with_reducible refine Kd.C_alloc ?_ _) | (with_reducible refine Kd.C_drewN ?_ _) | (with_reducible refine Kd.C_drew ?_))); (case side4 => exact (Kd.R_reads' HO379.out).2.1); (case side5 => exact far_slice (IsS80.own_ne HI373.out HO379.out (by decide))); rintro e w10 ⟨rfl, hi, hb, hk⟩; refine ⟨_, rfl, ?_⟩; have n0_ := Aside0.mk (Kd.R_mono (Kd.R_keep (IsS80.apart (show IsS80 w _ gb373 l0 t375 t376 from by repeat (first | (with_reducible first | exact HI373.out | apply IsS80.alloc | apply IsS80.drewN | apply IsS80.drew | apply IsS80.set_1 | apply IsS80.set_2) | exact HI373.out)) (by (with_reducible repeat (first | apply Kd.R_alloc | apply Kd.R_drewN | apply Kd.R_drew)); exact HO379.out) (by decide)) hk (fun _ h => h.2)) (fun _ h => h.1)); have n1_ := Aside0.mk (hb); have n2_ := Aside0.mk (hi); clear HO379 HB HI373; revert n0_ n1_ n2_; intro HO379 HB HI373; (try clear hb); (try clear hb2); (try clear hk); (try clear hi)))
  go_ret
  exact ⟨by first | rfl | (simp [errW_none, errW_some] <;> rfl) | (simp [*, errW_none, errW_some] <;> rfl), by repeat (first | (with_reducible first | exact HB.out | apply below_alloc | apply pw_below_drewN | apply below_drew1 | refine below_set ?_ (IsS80.ge HI373.out)) | exact HB.out)⟩
 ·
  replace c3 := Bool.eq_false_iff.mpr c3
  subst c3
  have H1 : ((spec_l1Cur_pick.f l0 t375 t376 9).bind fun bt383 => ((spec_l1Cur_digits.f k l0 bt383.2.1 bt383.2.2 (wrap64 (1 + bt383.1))).bind fun bt386 => ((spec_DoubledCheck.f k bt386.1).bind fun bt389 => (if bt389.2 = true then ((spec_l1Cur_one.f l0 bt386.2.1 bt386.2.2 2).bind fun bt391 => (if bt391.1 = true then (if bt386.1.size + bt389.1.size ≤ 9223372036854775807 then (some (bt386.1 ++ bt389.1)) else (none)) else (some bt386.1))) else (some bt386.1))))) = some r := by rw [if_neg (show ¬ (false = true) by decide)] at H; exact H
  clear H
  have H := H1
  clear H1
  replace H := Option.bind_eq_some_iff.mp H
  obtain ⟨⟨t383, t384, t385⟩, A110, H⟩ := H
  replace H : ((spec_l1Cur_digits.f k l0 t384 t385 (wrap64 (1 + t383))).bind fun bt386 => ((spec_DoubledCheck.f k bt386.1).bind fun bt389 => (if bt389.2 = true then ((spec_l1Cur_one.f l0 bt386.2.1 bt386.2.2 2).bind fun bt391 => (if bt391.1 = true then (if bt386.1.size + bt389.1.size ≤ 9223372036854775807 then (some (bt386.1 ++ bt389.1)) else (none)) else (some bt386.1))) else (some bt386.1)))) = some r := H
  have A11 := Aside0.mk A110
  clear A110
  replace H := Option.bind_eq_some_iff.mp H
  obtain ⟨⟨t386, t387, t388⟩, A120, H⟩ := H
  replace H : ((spec_DoubledCheck.f k t386).bind fun bt389 => (if bt389.2 = true then ((spec_l1Cur_one.f l0 t387 t388 2).bind fun bt391 => (if bt391.1 = true then (if t386.size + bt389.1.size ≤ 9223372036854775807 then (some (t386 ++ bt389.1)) else (none)) else (some t386))) else (some t386))) = some r := H
  have A12 := Aside0.mk A120
  clear A120
  replace H := Option.bind_eq_some_iff.mp H
  obtain ⟨⟨t389, t390⟩, A130, H⟩ := H
  replace H : (if t390 = true then ((spec_l1Cur_one.f l0 t387 t388 2).bind fun bt391 => (if bt391.1 = true then (if t386.size + t389.size ≤ 9223372036854775807 then (some (t386 ++ t389)) else (none)) else (some t386))) else (some t386)) = some r := H
  have A13 := Aside0.mk A130
  clear A130
  by_cases c14 : t390 = true
  ·
   subst c14
   have H1 : ((spec_l1Cur_one.f l0 t387 t388 2).bind fun bt391 => (if bt391.1 = true then (if t386.size + t389.size ≤ 9223372036854775807 then (some (t386 ++ t389)) else (none)) else (some t386))) = some r := by rw [if_pos rfl] at H; exact H
   clear H
   have H := H1
   clear H1
   replace H := Option.bind_eq_some_iff.mp H
   obtain ⟨⟨t391, t392, t393⟩, A150, H⟩ := H
   replace H : (if t391 = true then (if t386.size + t389.size ≤ 9223372036854775807 then (some (t386 ++ t389)) else (none)) else (some t386)) = some r := H
   have A15 := Aside0.mk A150
   clear A150
   by_cases c16 : t391 = true
   ·
    subst c16
    have H1 : (if t386.size + t389.size ≤ 9223372036854775807 then (some (t386 ++ t389)) else (none)) = some r := by rw [if_pos rfl] at H; exact H
    clear H
    have H := H1
    clear H1
    by_cases c17 : t386.size + t389.size ≤ 9223372036854775807
    ·
     rw [if_pos c17] at H
     have c17b0 := eq_true c17
     have c17b1 : decide (t386.size + t389.size ≤ 9223372036854775807) = true := decide_eq_true c17
     try have c17b2 : (9223372036854775807 < t386.size + t389.size) = False := eq_false (Nat.not_lt.2 c17)
     have c17b3 : ∀ z_ : Nat, z_ = t386.size + t389.size → (9223372036854775807 < z_) = False := fun z_ hz_ => by rw [hz_]; exact eq_false (Nat.not_lt.2 c17)
     obtain rfl := Option.some.inj H
     go_enter Tryz.func155, Tryz.ntmps155
     go_wp2_with (first | ((with_reducible refine gate_dst (N := 9) rfl ?_); refine box_event ?hg (N := 9) ?hd (cs := #[.slice A0 l0.length c0, .int .i64 0, .int .u64 0]) (t := 80) ?hr ?_; (case hd => rfl); (case hg => rfl); (case hr => exact Z13); intro gb373 hg w18 hbox hb; have n0_ := Aside0.mk (below_step Z0 hb); have n1_ := Aside0.mk ((Z18 : w.heap.size ≤ gb373)); have n2_ := Aside0.mk ((Z18 : w.heap.size ≤ gb373)); have n3_ := Aside0.mk ((show IsS80 w _ gb373 l0 0 0 from ⟨_, _, hbox, Z18, HR0.out⟩)); clear HB; revert n0_ n1_ n2_ n3_; intro HB GW373 GE373 HI373; clear hb hbox hg) | ((with_reducible refine gate_callee (f := 98) rfl ?_); refine goesL_ (some 11) rfl rfl Tryz.func98 (by kernel_rfl) rfl #[.pointer (some ⟨gb373, 0, none⟩), .int .i64 10] rfl Z1 ?_; (with_reducible refine (spec_l1Cur_one.calls gb373 l0 0 0 10 false t375 t376 w _ ?side1 ?side2 A2.out).mono ?_); (case side1 => exact Z17); (case side2 => exact Z16); rintro e w19 ⟨rfl, hi, hb, hk⟩; refine ⟨_, rfl, ?_⟩; have n0_ := Aside0.mk (hb); have n1_ := Aside0.mk (hi); clear HB HI373; revert n0_ n1_; intro HB HI373; (try clear hb); (try clear hb2); (try clear hk); (try clear hi)) | ((with_reducible refine gate_callee (f := 104) rfl ?_); refine goesL_ (some 17) rfl rfl Tryz.func104 (by kernel_rfl) rfl #[.pointer (some ⟨gb373, 0, none⟩), .int .i64 9] rfl Z1 ?_; (with_reducible refine (spec_l1Cur_pick.calls gb373 l0 t375 t376 9 t383 t384 t385 w _ ?side1 ?side2 A11.out).mono ?_); (case side1 => exact Z17); (case side2 => exact Z16); rintro e w20 ⟨rfl, hi, hb, hk⟩; refine ⟨_, rfl, ?_⟩; have n0_ := Aside0.mk (hb); have n1_ := Aside0.mk (hi); clear HB HI373; revert n0_ n1_; intro HB HI373; (try clear hb); (try clear hb2); (try clear hk); (try clear hi)) | ((with_reducible refine gate_callee (f := 139) rfl ?_); refine goesL_ (some 19) rfl rfl Tryz.func139 (by kernel_rfl) rfl #[.pointer (some ⟨gb373, 0, none⟩), .int .i64 (wrap64 (1 + t383))] rfl Z1 ?_; (with_reducible refine (spec_l1Cur_digits.calls k gb373 l0 t384 t385 (wrap64 (1 + t383)) t386 t387 t388 w _ ?side1 ?side2 A12.out).mono ?_); (case side1 => exact Z17); (case side2 => exact Z16); rintro e w21 ⟨rfl, hi, hb, hk⟩; refine ⟨_, rfl, ?_⟩; have n0_ := Aside0.mk (hb); have n1_ := Aside0.mk (hi); clear HB HI373; revert n0_ n1_; intro HB HI373; (try clear hb); (try clear hb2); (try clear hk); (try clear hi)) | ((with_reducible refine gate_callee (f := 76) rfl ?_); refine goesL_ (some 22) rfl rfl Tryz.func76 (by kernel_rfl) rfl #[.string t386] rfl Z1 ?_; (with_reducible refine (spec_DoubledCheck.calls k t386 t389 true _ A13.out).mono ?_); rintro e w' ⟨rfl, ⟨nd, rfl⟩⟩; refine ⟨_, rfl, ?_⟩) | (go_at_call 98; (with_reducible refine (spec_l1Cur_one.calls gb373 l0 t387 t388 2 true t392 t393 w _ ?side1 ?side2 A15.out).mono ?_); (case side1 => exact Z17); (case side2 => exact Z16); rintro e w22 ⟨rfl, hi, hb, hk⟩; have n0_ := Aside0.mk (hb); have n1_ := Aside0.mk (hi); clear HB HI373; revert n0_ n1_; intro HB HI373; (try clear hb); (try clear hb2); (try clear hk); (try clear hi)))
     go_ret
     exact ⟨by first | rfl | (simp [errW_none, errW_some] <;> rfl) | (simp [*, errW_none, errW_some] <;> rfl), by repeat (first | (with_reducible first | exact HB.out | apply below_alloc | apply pw_below_drewN | apply below_drew1 | refine below_set ?_ (IsS80.ge HI373.out)) | exact HB.out)⟩
    ·
     rw [if_neg c17] at H
     exact absurd H (by simp)
   ·
    replace c16 := Bool.eq_false_iff.mpr c16
    subst c16
    have H1 : (some t386) = some r := by rw [if_neg (show ¬ (false = true) by decide)] at H; exact H
    clear H
    have H := H1
    clear H1
    obtain rfl := Option.some.inj H
    go_enter Tryz.func155, Tryz.ntmps155
    go_wp2_with (first | ((with_reducible refine gate_dst (N := 9) rfl ?_); refine box_event ?hg (N := 9) ?hd (cs := #[.slice A0 l0.length c0, .int .i64 0, .int .u64 0]) (t := 80) ?hr ?_; (case hd => rfl); (case hg => rfl); (case hr => exact Z13); intro gb373 hg w23 hbox hb; have n0_ := Aside0.mk (below_step Z0 hb); have n1_ := Aside0.mk ((Z18 : w.heap.size ≤ gb373)); have n2_ := Aside0.mk ((Z18 : w.heap.size ≤ gb373)); have n3_ := Aside0.mk ((show IsS80 w _ gb373 l0 0 0 from ⟨_, _, hbox, Z18, HR0.out⟩)); clear HB; revert n0_ n1_ n2_ n3_; intro HB GW373 GE373 HI373; clear hb hbox hg) | ((with_reducible refine gate_callee (f := 98) rfl ?_); refine goesL_ (some 11) rfl rfl Tryz.func98 (by kernel_rfl) rfl #[.pointer (some ⟨gb373, 0, none⟩), .int .i64 10] rfl Z1 ?_; (with_reducible refine (spec_l1Cur_one.calls gb373 l0 0 0 10 false t375 t376 w _ ?side1 ?side2 A2.out).mono ?_); (case side1 => exact Z17); (case side2 => exact Z16); rintro e w24 ⟨rfl, hi, hb, hk⟩; refine ⟨_, rfl, ?_⟩; have n0_ := Aside0.mk (hb); have n1_ := Aside0.mk (hi); clear HB HI373; revert n0_ n1_; intro HB HI373; (try clear hb); (try clear hb2); (try clear hk); (try clear hi)) | ((with_reducible refine gate_callee (f := 104) rfl ?_); refine goesL_ (some 17) rfl rfl Tryz.func104 (by kernel_rfl) rfl #[.pointer (some ⟨gb373, 0, none⟩), .int .i64 9] rfl Z1 ?_; (with_reducible refine (spec_l1Cur_pick.calls gb373 l0 t375 t376 9 t383 t384 t385 w _ ?side1 ?side2 A11.out).mono ?_); (case side1 => exact Z17); (case side2 => exact Z16); rintro e w25 ⟨rfl, hi, hb, hk⟩; refine ⟨_, rfl, ?_⟩; have n0_ := Aside0.mk (hb); have n1_ := Aside0.mk (hi); clear HB HI373; revert n0_ n1_; intro HB HI373; (try clear hb); (try clear hb2); (try clear hk); (try clear hi)) | ((with_reducible refine gate_callee (f := 139) rfl ?_); refine goesL_ (some 19) rfl rfl Tryz.func139 (by kernel_rfl) rfl #[.pointer (some ⟨gb373, 0, none⟩), .int .i64 (wrap64 (1 + t383))] rfl Z1 ?_; (with_reducible refine (spec_l1Cur_digits.calls k gb373 l0 t384 t385 (wrap64 (1 + t383)) t386 t387 t388 w _ ?side1 ?side2 A12.out).mono ?_); (case side1 => exact Z17); (case side2 => exact Z16); rintro e w26 ⟨rfl, hi, hb, hk⟩; refine ⟨_, rfl, ?_⟩; have n0_ := Aside0.mk (hb); have n1_ := Aside0.mk (hi); clear HB HI373; revert n0_ n1_; intro HB HI373; (try clear hb); (try clear hb2); (try clear hk); (try clear hi)) | ((with_reducible refine gate_callee (f := 76) rfl ?_); refine goesL_ (some 22) rfl rfl Tryz.func76 (by kernel_rfl) rfl #[.string t386] rfl Z1 ?_; (with_reducible refine (spec_DoubledCheck.calls k t386 t389 true _ A13.out).mono ?_); rintro e w' ⟨rfl, ⟨nd, rfl⟩⟩; refine ⟨_, rfl, ?_⟩) | (go_at_call 98; (with_reducible refine (spec_l1Cur_one.calls gb373 l0 t387 t388 2 false t392 t393 w _ ?side1 ?side2 A15.out).mono ?_); (case side1 => exact Z17); (case side2 => exact Z16); rintro e w27 ⟨rfl, hi, hb, hk⟩; have n0_ := Aside0.mk (hb); have n1_ := Aside0.mk (hi); clear HB HI373; revert n0_ n1_; intro HB HI373; (try clear hb); (try clear hb2); (try clear hk); (try clear hi)))
    go_ret
    exact ⟨by first | rfl | (simp [errW_none, errW_some] <;> rfl) | (simp [*, errW_none, errW_some] <;> rfl), by repeat (first | (with_reducible first | exact HB.out | apply below_alloc | apply pw_below_drewN | apply below_drew1 | refine below_set ?_ (IsS80.ge HI373.out)) | exact HB.out)⟩
  ·
   replace c14 := Bool.eq_false_iff.mpr c14
   subst c14
   have H1 : (some t386) = some r := by rw [if_neg (show ¬ (false = true) by decide)] at H; exact H
   clear H
   have H := H1
   clear H1
   obtain rfl := Option.some.inj H
   go_enter Tryz.func155, Tryz.ntmps155
   go_wp2_with (first | ((with_reducible refine gate_dst (N := 9) rfl ?_); refine box_event ?hg (N := 9) ?hd (cs := #[.slice A0 l0.length c0, .int .i64 0, .int .u64 0]) (t := 80) ?hr ?_; (case hd => rfl); (case hg => rfl); (case hr => exact Z13); intro gb373 hg w28 hbox hb; have n0_ := Aside0.mk (below_step Z0 hb); have n1_ := Aside0.mk ((Z18 : w.heap.size ≤ gb373)); have n2_ := Aside0.mk ((Z18 : w.heap.size ≤ gb373)); have n3_ := Aside0.mk ((show IsS80 w _ gb373 l0 0 0 from ⟨_, _, hbox, Z18, HR0.out⟩)); clear HB; revert n0_ n1_ n2_ n3_; intro HB GW373 GE373 HI373; clear hb hbox hg) | ((with_reducible refine gate_callee (f := 98) rfl ?_); refine goesL_ (some 11) rfl rfl Tryz.func98 (by kernel_rfl) rfl #[.pointer (some ⟨gb373, 0, none⟩), .int .i64 10] rfl Z1 ?_; (with_reducible refine (spec_l1Cur_one.calls gb373 l0 0 0 10 false t375 t376 w _ ?side1 ?side2 A2.out).mono ?_); (case side1 => exact Z17); (case side2 => exact Z16); rintro e w29 ⟨rfl, hi, hb, hk⟩; refine ⟨_, rfl, ?_⟩; have n0_ := Aside0.mk (hb); have n1_ := Aside0.mk (hi); clear HB HI373; revert n0_ n1_; intro HB HI373; (try clear hb); (try clear hb2); (try clear hk); (try clear hi)) | ((with_reducible refine gate_callee (f := 104) rfl ?_); refine goesL_ (some 17) rfl rfl Tryz.func104 (by kernel_rfl) rfl #[.pointer (some ⟨gb373, 0, none⟩), .int .i64 9] rfl Z1 ?_; (with_reducible refine (spec_l1Cur_pick.calls gb373 l0 t375 t376 9 t383 t384 t385 w _ ?side1 ?side2 A11.out).mono ?_); (case side1 => exact Z17); (case side2 => exact Z16); rintro e w30 ⟨rfl, hi, hb, hk⟩; refine ⟨_, rfl, ?_⟩; have n0_ := Aside0.mk (hb); have n1_ := Aside0.mk (hi); clear HB HI373; revert n0_ n1_; intro HB HI373; (try clear hb); (try clear hb2); (try clear hk); (try clear hi)) | ((with_reducible refine gate_callee (f := 139) rfl ?_); refine goesL_ (some 19) rfl rfl Tryz.func139 (by kernel_rfl) rfl #[.pointer (some ⟨gb373, 0, none⟩), .int .i64 (wrap64 (1 + t383))] rfl Z1 ?_; (with_reducible refine (spec_l1Cur_digits.calls k gb373 l0 t384 t385 (wrap64 (1 + t383)) t386 t387 t388 w _ ?side1 ?side2 A12.out).mono ?_); (case side1 => exact Z17); (case side2 => exact Z16); rintro e w31 ⟨rfl, hi, hb, hk⟩; refine ⟨_, rfl, ?_⟩; have n0_ := Aside0.mk (hb); have n1_ := Aside0.mk (hi); clear HB HI373; revert n0_ n1_; intro HB HI373; (try clear hb); (try clear hb2); (try clear hk); (try clear hi)) | ((with_reducible refine gate_callee (f := 76) rfl ?_); refine goesL_ (some 22) rfl rfl Tryz.func76 (by kernel_rfl) rfl #[.string t386] rfl Z1 ?_; (with_reducible refine (spec_DoubledCheck.calls k t386 t389 false _ A13.out).mono ?_); rintro e w' ⟨rfl, ⟨nd, rfl⟩⟩; refine ⟨_, rfl, ?_⟩))
   go_ret
   exact ⟨by first | rfl | (simp [errW_none, errW_some] <;> rfl) | (simp [*, errW_none, errW_some] <;> rfl), by repeat (first | (with_reducible first | exact HB.out | apply below_alloc | apply pw_below_drewN | apply below_drew1 | refine below_set ?_ (IsS80.ge HI373.out)) | exact HB.out)⟩

/-! ### spec_DrawIsDoubledRight: function 70 -/
def spec_DrawIsDoubledRight.f (k : Nat) (l0 : List Int) : Option (ByteArray) := (spec_DrawDoubledSum.f k l0).bind fun t394 => (some t394)
set_option maxHeartbeats 8000000 in
set_option maxRecDepth 100000 in
theorem spec_DrawIsDoubledRight.calls (k : Nat) (A0 : Option Addr) (c0 : Nat) (l0 : List Int) (r : ByteArray) (w : World) (hr0 : Kd.C (Kd.int .u8) w A0 l0.length l0) (hc0 : l0.length ≤ c0) (h : spec_DrawIsDoubledRight.f k l0 = some r) :
  Calls Tryz.prog 70 #[.slice A0 l0.length c0] w fun e w' => e = .returned (.string r) ∧ Below w.heap.size w w' := by
 have HR0 := Aside0.mk hr0
 have HC0 := Aside0.mk hc0
 clear hr0 hc0
 have HB := Aside0.mk (Below.refl w.heap.size w)
 have H : ((spec_DrawDoubledSum.f k l0).bind fun t394 => (some t394)) = some r := h
 clear h
 replace H := Option.bind_eq_some_iff.mp H
 obtain ⟨t394, A20, H⟩ := H
 replace H : (some t394) = some r := H
 have A2 := Aside0.mk A20
 clear A20
 obtain rfl := Option.some.inj H
 go_enter Tryz.func70, Tryz.ntmps70
 go_wp2_with (first | ((with_reducible refine gate_callee (f := 155) rfl ?_); refine goesL_ (some 4) rfl rfl Tryz.func155 (by kernel_rfl) rfl #[.slice A0 l0.length c0] rfl Z1 ?_; (with_reducible refine (spec_DrawDoubledSum.calls k _ _ l0 t394 _ ?side1 ?side2 A2.out).mono ?_); (case side1 => exact Z66); (case side2 => exact HC0.out); rintro e w3 ⟨rfl, hb⟩; refine ⟨_, rfl, ?_⟩; have n0_ := Aside0.mk (below_step Z0 hb); clear HB; revert n0_; intro HB; (try clear hb); (try clear hb2); (try clear hk); (try clear hi)))
 go_ret
 exact ⟨by first | rfl | (simp [errW_none, errW_some] <;> rfl) | (simp [*, errW_none, errW_some] <;> rfl), by repeat (first | (with_reducible first | exact HB.out | apply below_alloc | apply pw_below_drewN | apply below_drew1) | exact HB.out)⟩

/-! ### impl_over: function 115 (by hand) -/
theorem dropWhile_none {α : Type} (p : α → Bool) (l : List α) (h : ∀ x ∈ l, p x = true) : l.dropWhile p = [] := by
 induction l with
 | nil => rfl
 | cons a l ih =>
  rw [List.dropWhile_cons, if_pos (h a (by simp))]
  exact ih fun x hx => h x (by simp [hx])
theorem trimS_nil (l cs : List UInt8) : (Lib.trimS l cs).isEmpty = l.all (fun c => cs.contains c) := by
 unfold Lib.trimS Lib.trimLeftS Lib.trimRightS
 rw [Bool.eq_iff_iff]
 constructor
 ·
  intro h
  rw [List.all_eq_true]
  have h1 : ∀ x ∈ (l.reverse.dropWhile (cs.contains ·)).reverse, cs.contains x = true := by
   have h2 : ((l.reverse.dropWhile (cs.contains ·)).reverse).dropWhile (cs.contains ·) = [] := by simpa using h
   intro x hx
   have h3 := List.takeWhile_append_dropWhile (p := (cs.contains ·)) (l := (l.reverse.dropWhile (cs.contains ·)).reverse)
   rw [h2, List.append_nil] at h3
   rw [← h3] at hx
   have h4 := List.all_takeWhile (p := (cs.contains ·)) (l := (l.reverse.dropWhile (cs.contains ·)).reverse)
   rw [List.all_eq_true] at h4
   exact h4 x hx
  intro x hx
  have h5 := List.takeWhile_append_dropWhile (p := (cs.contains ·)) (l := l.reverse)
  have hx' : x ∈ l.reverse := by simpa using hx
  rw [← h5] at hx'
  rcases List.mem_append.1 hx' with h6 | h6
  ·
   have h4 := List.all_takeWhile (p := (cs.contains ·)) (l := l.reverse)
   rw [List.all_eq_true] at h4
   exact h4 x h6
  ·
   exact h1 x (by simpa using h6)
 ·
  intro h
  rw [List.all_eq_true] at h
  have h1 : l.reverse.dropWhile (cs.contains ·) = [] := dropWhile_none _ _ fun x hx => h x (by simpa using hx)
  rw [h1]
  rfl
def impl_over.f (a0 : ByteArray) (a1 : ByteArray) : Option (Bool) :=
 if a0.size ≤ 9223372036854775807 ∧ a1.size < 4294967281 ∧ a1.data.toList.all (fun b => decide (b.toNat < 128)) = true then some (a0.data.toList.all (fun c => a1.data.toList.contains c)) else none
set_option maxHeartbeats 1000000 in
theorem impl_over.calls (a0 : ByteArray) (a1 : ByteArray) (r : Bool) (w : World) (h : impl_over.f a0 a1 = some r) :
  Calls Tryz.prog 115 #[.string a0, .string a1] w fun e w' => e = .returned (.bool r) ∧ Below w.heap.size w w' := by
 unfold impl_over.f at h
 split at h
 case isFalse => cases h
 case isTrue hc =>
 obtain ⟨h1, h2, h3⟩ := hc
 obtain rfl := Option.some.inj h
 have hcon := Any.strings_Trim_laid Tryz.lays160 (by kernel_rfl) a0 a1 w h1 h2 (Go.Proofs.ascii_of_all h3)
 change Calls Tryz.prog 180 _ _ (fun e w' => e = .returned (.string ⟨(Lib.trimS a0.data.toList a1.data.toList).toArray⟩) ∧ Below w.heap.size w w') at hcon
 rw [← trimS_nil]
 generalize Lib.trimS a0.data.toList a1.data.toList = t at hcon ⊢
 clear h h1 h2 h3
 go_enter Tryz.func115, Tryz.ntmps115
 go_wp2_with (go_at_call 180; refine hcon.mono ?_; rintro e w' ⟨rfl, hB⟩)
 go_ret
 exact ⟨by cases t <;> rfl, hB⟩

/-! ### impl_isDigits: function 141 -/
def impl_isDigits.f (a0 : ByteArray) (a1 : Int) (a2 : Int) : Option (Bool) := (impl_in.f (a0.size : Int) a1 a2).bind fun t399 => (if t399 = true then ((impl_over.f a0 (⟨#[48, 49, 50, 51, 52, 53, 54, 55, 56, 57]⟩ : ByteArray)).bind fun t400 => (some t400)) else (some false))
set_option maxHeartbeats 8000000 in
set_option maxRecDepth 100000 in
theorem impl_isDigits.calls (a0 : ByteArray) (a1 : Int) (a2 : Int) (r : Bool) (w : World) (h : impl_isDigits.f a0 a1 a2 = some r) :
  Calls Tryz.prog 141 #[.string a0, .int .i64 a1, .int .i64 a2] w fun e w' => e = .returned (.bool r) ∧ Below w.heap.size w w' := by
 have HB := Aside0.mk (Below.refl w.heap.size w)
 have H : ((impl_in.f (a0.size : Int) a1 a2).bind fun t399 => (if t399 = true then ((impl_over.f a0 (⟨#[48, 49, 50, 51, 52, 53, 54, 55, 56, 57]⟩ : ByteArray)).bind fun t400 => (some t400)) else (some false))) = some r := h
 clear h
 replace H := Option.bind_eq_some_iff.mp H
 obtain ⟨t399, A40, H⟩ := H
 replace H : (if t399 = true then ((impl_over.f a0 (⟨#[48, 49, 50, 51, 52, 53, 54, 55, 56, 57]⟩ : ByteArray)).bind fun t400 => (some t400)) else (some false)) = some r := H
 have A4 := Aside0.mk A40
 clear A40
 by_cases c5 : t399 = true
 ·
  subst c5
  have H1 : ((impl_over.f a0 (⟨#[48, 49, 50, 51, 52, 53, 54, 55, 56, 57]⟩ : ByteArray)).bind fun t400 => (some t400)) = some r := by rw [if_pos rfl] at H; exact H
  clear H
  have H := H1
  clear H1
  replace H := Option.bind_eq_some_iff.mp H
  obtain ⟨t400, A60, H⟩ := H
  replace H : (some t400) = some r := H
  have A6 := Aside0.mk A60
  clear A60
  obtain rfl := Option.some.inj H
  go_enter Tryz.func141, Tryz.ntmps141
  go_wp2_with (first | ((with_reducible refine gate_callee (f := 84) rfl ?_); refine goesL_ (some 11) rfl rfl Tryz.func84 (by kernel_rfl) rfl #[.int .i64 (a0.size : Int), .int .i64 a1, .int .i64 a2] rfl Z1 ?_; (with_reducible refine (impl_in.calls (a0.size : Int) a1 a2 true _ A4.out).mono ?_); rintro e w' ⟨rfl, ⟨nd, rfl⟩⟩; refine ⟨_, rfl, ?_⟩) | (go_at_call 115; (with_reducible refine (impl_over.calls a0 (⟨#[48, 49, 50, 51, 52, 53, 54, 55, 56, 57]⟩ : ByteArray) t400 _ A6.out).mono ?_); rintro e w7 ⟨rfl, hb⟩; have n0_ := Aside0.mk (below_step Z0 hb); clear HB; revert n0_; intro HB; (try clear hb); (try clear hb2); (try clear hk); (try clear hi)))
  go_ret
  exact ⟨by first | rfl | (simp [errW_none, errW_some] <;> rfl) | (simp [*, errW_none, errW_some] <;> rfl), by repeat (first | (with_reducible first | exact HB.out | apply below_alloc | apply pw_below_drewN | apply below_drew1) | exact HB.out)⟩
 ·
  replace c5 := Bool.eq_false_iff.mpr c5
  subst c5
  have H1 : (some false) = some r := by rw [if_neg (show ¬ (false = true) by decide)] at H; exact H
  clear H
  have H := H1
  clear H1
  obtain rfl := Option.some.inj H
  go_enter Tryz.func141, Tryz.ntmps141
  go_wp2_with (first | ((with_reducible refine gate_callee (f := 84) rfl ?_); refine goesL_ (some 11) rfl rfl Tryz.func84 (by kernel_rfl) rfl #[.int .i64 (a0.size : Int), .int .i64 a1, .int .i64 a2] rfl Z1 ?_; (with_reducible refine (impl_in.calls (a0.size : Int) a1 a2 false _ A4.out).mono ?_); rintro e w' ⟨rfl, ⟨nd, rfl⟩⟩; refine ⟨_, rfl, ?_⟩))
  go_ret
  exact ⟨by first | rfl | (simp [errW_none, errW_some] <;> rfl) | (simp [*, errW_none, errW_some] <;> rfl), by repeat (first | (with_reducible first | exact HB.out | apply below_alloc | apply pw_below_drewN | apply below_drew1) | exact HB.out)⟩

/-! ### impl_digit: function 130 -/
def impl_digit.f (a0 : Int) : Option (Int) := some ((a0 - 48) % 256)
set_option maxHeartbeats 8000000 in
set_option maxRecDepth 100000 in
theorem impl_digit.calls (a0 : Int) (r : Int) (w : World) (h : impl_digit.f a0 = some r) :
  Calls Tryz.prog 130 #[.int .u8 a0] w fun e w' => e = .returned (.int .i64 r) ∧ Drawn0 w w' := by
 have H : (some ((a0 - 48) % 256)) = some r := h
 clear h
 obtain rfl := Option.some.inj H
 go_enter Tryz.func130, Tryz.ntmps130
 go_wp2
 go_ret
 exact ⟨by first | rfl | (simp; done) | (simp only [Go.IntWalk.i64_left]; done) | (simp [*]; done) | (simp; omega), by repeat (first | exact Drawn0.refl _ | apply Drawn0.step)⟩

/-! ### impl_doubled: function 164 -/
def impl_doubled.f (a0 : Int) : Option (Int) := some (wrap64 ((wrap64 (Int.tdiv (wrap64 (2 * a0)) 10)) + (Int.tmod (wrap64 (2 * a0)) 10)))
set_option maxHeartbeats 8000000 in
set_option maxRecDepth 100000 in
theorem impl_doubled.calls (a0 : Int) (r : Int) (w : World) (h : impl_doubled.f a0 = some r) :
  Calls Tryz.prog 164 #[.int .i64 a0] w fun e w' => e = .returned (.int .i64 r) ∧ Drawn0 w w' := by
 have H : (some (wrap64 ((wrap64 (Int.tdiv (wrap64 (2 * a0)) 10)) + (Int.tmod (wrap64 (2 * a0)) 10)))) = some r := h
 clear h
 obtain rfl := Option.some.inj H
 go_enter Tryz.func164, Tryz.ntmps164
 go_wp2
 go_ret
 exact ⟨by first | rfl | (simp; done) | (simp only [Go.IntWalk.i64_left]; done) | (simp [*]; done) | (simp; omega), by repeat (first | exact Drawn0.refl _ | apply Drawn0.step)⟩

/-! ### impl_doubledSum: function 158 -/
def impl_doubledSum.l0 : Nat → ByteArray → Int → Int → Int → Option (Int)
 | 0, _, _, _, _ => none
 | k + 1, x0, x3, x7, x8 => if x8 < x7 then (if 0 ≤ (wrap64 ((wrap64 ((x0.size : Int) - 1)) - x8)) then (if (wrap64 ((wrap64 ((x0.size : Int) - 1)) - x8)) < (x0.size : Int) then ((impl_digit.f (bt x0 (wrap64 ((wrap64 ((x0.size : Int) - 1)) - x8)))).bind fun t401 => (if (Int.tmod x8 2) = 1 then ((impl_doubled.f t401).bind fun t402 => (impl_doubledSum.l0 k x0 (wrap64 (x3 + t402)) x7 (wrap64 (x8 + 1)))) else (impl_doubledSum.l0 k x0 (wrap64 (x3 + t401)) x7 (wrap64 (x8 + 1))))) else (none)) else (none)) else (some x3)
def impl_doubledSum.f (k : Nat) (a0 : ByteArray) : Option (Int) := impl_doubledSum.l0 k a0 0 (a0.size : Int) 0
set_option maxHeartbeats 8000000 in
set_option maxRecDepth 100000 in
theorem impl_doubledSum.calls (k : Nat) (a0 : ByteArray) (r : Int) (w : World) (h : impl_doubledSum.f k a0 = some r) :
  Calls Tryz.prog 158 #[.string a0] w fun e w' => e = .returned (.int .i64 r) ∧ Drawn0 w w' := by
 have H : (impl_doubledSum.l0 k a0 0 (a0.size : Int) 0) = some r := h
 clear h
 have H' := Aside0.mk H
 clear H
 go_enter Tryz.func158, Tryz.ntmps158
 go_wp2
 go_loopg [3, 8] k (fun kq v3 v8 w' => ∃ (x3_1 : Int) (x8_1 : Int), v3 = .int .i64 x3_1 ∧ v8 = .int .i64 x8_1 ∧ Aside0 (impl_doubledSum.l0 kq a0 x3_1 (a0.size : Int) x8_1 = some r) ∧ Aside0 (kq ≤ k) ∧ Drawn0 w w')
 case atStart => exact ⟨(0), (0), Z3, Z3, H', ⟨Nat.le_refl _⟩, by repeat (first | exact Drawn0.refl _ | apply Drawn0.step)⟩
 case round =>
  clear H'
  try clear c1
  obtain ⟨x3_1, x8_1, rfl, rfl, HA, HK1, ⟨m1, rfl⟩⟩ := hrel
  cases gk with
  | zero => exact absurd HA.out (by simp [impl_doubledSum.l0])
  | succ k1 =>
   have H := HA.out
   clear HA
   simp only [impl_doubledSum.l0] at H
   by_cases c2 : x8_1 < (a0.size : Int)
   ·
    rw [if_pos c2] at H
    have c2b0 : decide (x8_1 < (a0.size : Int)) = true := decide_eq_true c2
    clear c2
    obtain ⟨ji3, hji3⟩ : ∃ j_ : Int, (wrap64 ((wrap64 ((a0.size : Int) - 1)) - x8_1)) = j_ := ⟨_, rfl⟩
    replace H : (if 0 ≤ (ji3) then (if (ji3) < (a0.size : Int) then ((impl_digit.f (bt a0 (ji3))).bind fun t401 => (if (Int.tmod x8_1 2) = 1 then ((impl_doubled.f t401).bind fun t402 => (impl_doubledSum.l0 k1 a0 (wrap64 (x3_1 + t402)) (a0.size : Int) (wrap64 (x8_1 + 1)))) else (impl_doubledSum.l0 k1 a0 (wrap64 (x3_1 + t401)) (a0.size : Int) (wrap64 (x8_1 + 1))))) else (none)) else (none)) = some r := by first | (rw [hji3] at H; exact H) | (simp only [hji3] at H ⊢; exact H)
    have hji3w : (IntKind.i64.wrap ((wrap64 ((a0.size : Int) - 1)) - x8_1)) = ji3 := (i64_w _).trans hji3
    by_cases c4 : 0 ≤ (ji3)
    ·
     rw [if_pos c4] at H
     have c4b0 : decide (0 ≤ (ji3)) = true := decide_eq_true c4
     clear c4
     by_cases c5 : (ji3) < (a0.size : Int)
     ·
      rw [if_pos c5] at H
      have c5b0 : decide ((ji3) < (a0.size : Int)) = true := decide_eq_true c5
      clear c5
      replace H := Option.bind_eq_some_iff.mp H
      obtain ⟨t401, A70, H⟩ := H
      replace H : (if (Int.tmod x8_1 2) = 1 then ((impl_doubled.f t401).bind fun t402 => (impl_doubledSum.l0 k1 a0 (wrap64 (x3_1 + t402)) (a0.size : Int) (wrap64 (x8_1 + 1)))) else (impl_doubledSum.l0 k1 a0 (wrap64 (x3_1 + t401)) (a0.size : Int) (wrap64 (x8_1 + 1)))) = some r := H
      have A7 := Aside0.mk A70
      clear A70
      by_cases c8 : (Int.tmod x8_1 2) = 1
      ·
       rw [if_pos c8] at H
       have c8b0 : ((Int.tmod x8_1 2) == 1) = true := beq_iff_eq.mpr c8
       have c8b1 : ((Int.tmod x8_1 2) != 1) = false := bne_eq_false_iff_eq.mpr c8
       clear c8
       replace H := Option.bind_eq_some_iff.mp H
       obtain ⟨t402, A90, H⟩ := H
       replace H : (impl_doubledSum.l0 k1 a0 (wrap64 (x3_1 + t402)) (a0.size : Int) (wrap64 (x8_1 + 1))) = some r := H
       have A9 := Aside0.mk A90
       clear A90
       have H' := Aside0.mk H
       clear H
       have p6 : 0 ≤ ((ji3) : Int) := Z2
       have q6 : (ji3) < (a0.size : Int) := Z2
       have hx6 := bt_at a0 (ji3)
       replace p6 := eq_true p6
       replace q6 := eq_true q6
       go_wp2_with (first | ((with_reducible refine gate_callee (f := 130) rfl ?_); refine goesL_ (some 18) rfl rfl Tryz.func130 (by kernel_rfl) rfl #[.int .u8 (bt a0 (ji3))] rfl Z136 ?_; (with_reducible refine (impl_digit.calls (bt a0 (ji3)) t401 _ A7.out).mono ?_); rintro e w' ⟨rfl, ⟨nd, rfl⟩⟩; refine ⟨_, rfl, ?_⟩) | ((with_reducible refine gate_callee (f := 164) rfl ?_); refine goesL_ (some 23) rfl rfl Tryz.func164 (by kernel_rfl) rfl #[.int .i64 t401] rfl Z1 ?_; (with_reducible refine (impl_doubled.calls t401 t402 _ A9.out).mono ?_); rintro e w' ⟨rfl, ⟨nd, rfl⟩⟩; refine ⟨_, rfl, ?_⟩))
       go_roundg k1
       case measure => have := HK1.out; omega
       case rel => exact ⟨(wrap64 (x3_1 + t402)), (wrap64 (x8_1 + 1)), Z3, Z3, H', ⟨by have := HK1.out; omega⟩, by repeat (first | exact Drawn0.refl _ | apply Drawn0.step)⟩
      ·
       rw [if_neg c8] at H
       have c8b0 : ((Int.tmod x8_1 2) == 1) = false := beq_eq_false_iff_ne.mpr c8
       have c8b1 : ((Int.tmod x8_1 2) != 1) = true := bne_iff_ne.mpr c8
       have H' := Aside0.mk H
       clear H
       have p6 : 0 ≤ ((ji3) : Int) := Z2
       have q6 : (ji3) < (a0.size : Int) := Z2
       have hx6 := bt_at a0 (ji3)
       replace p6 := eq_true p6
       replace q6 := eq_true q6
       go_wp2_with (first | ((with_reducible refine gate_callee (f := 130) rfl ?_); refine goesL_ (some 18) rfl rfl Tryz.func130 (by kernel_rfl) rfl #[.int .u8 (bt a0 (ji3))] rfl Z136 ?_; (with_reducible refine (impl_digit.calls (bt a0 (ji3)) t401 _ A7.out).mono ?_); rintro e w' ⟨rfl, ⟨nd, rfl⟩⟩; refine ⟨_, rfl, ?_⟩))
       go_roundg k1
       case measure => have := HK1.out; omega
       case rel => exact ⟨(wrap64 (x3_1 + t401)), (wrap64 (x8_1 + 1)), Z3, Z3, H', ⟨by have := HK1.out; omega⟩, by repeat (first | exact Drawn0.refl _ | apply Drawn0.step)⟩
     ·
      rw [if_neg c5] at H
      exact absurd H (by simp)
    ·
     rw [if_neg c4] at H
     exact absurd H (by simp)
   ·
    rw [if_neg c2] at H
    have c2b0 : decide (x8_1 < (a0.size : Int)) = false := decide_eq_false c2
    clear c2
    obtain rfl := Option.some.inj H
    go_wp2
    go_ret
    exact ⟨by first | rfl | (simp; done) | (simp only [Go.IntWalk.i64_left]; done) | (simp [*]; done) | (simp; omega), by repeat (first | exact Drawn0.refl _ | apply Drawn0.step)⟩

/-! ### impl_DoubledSum: function 73 -/
def impl_DoubledSum.f (k : Nat) (a0 : ByteArray) : Option (Int × Bool) := (impl_isDigits.f a0 2 12).bind fun t403 => (if t403 = true then ((impl_doubledSum.f k a0).bind fun t404 => (some (t404, true))) else (some (0, false)))
set_option maxHeartbeats 8000000 in
set_option maxRecDepth 100000 in
theorem impl_DoubledSum.calls (k : Nat) (a0 : ByteArray) (r1 : Int) (r2 : Bool) (w : World) (h : impl_DoubledSum.f k a0 = some (r1, r2)) :
  Calls Tryz.prog 73 #[.string a0] w fun e w' => e = .returned (.tuple #[.int .i64 r1, .bool r2]) ∧ Below w.heap.size w w' := by
 have HB := Aside0.mk (Below.refl w.heap.size w)
 have H : ((impl_isDigits.f a0 2 12).bind fun t403 => (if t403 = true then ((impl_doubledSum.f k a0).bind fun t404 => (some (t404, true))) else (some (0, false)))) = some (r1, r2) := h
 clear h
 replace H := Option.bind_eq_some_iff.mp H
 obtain ⟨t403, A20, H⟩ := H
 replace H : (if t403 = true then ((impl_doubledSum.f k a0).bind fun t404 => (some (t404, true))) else (some (0, false))) = some (r1, r2) := H
 have A2 := Aside0.mk A20
 clear A20
 by_cases c3 : t403 = true
 ·
  subst c3
  have H1 : ((impl_doubledSum.f k a0).bind fun t404 => (some (t404, true))) = some (r1, r2) := by rw [if_pos rfl] at H; exact H
  clear H
  have H := H1
  clear H1
  replace H := Option.bind_eq_some_iff.mp H
  obtain ⟨t404, A40, H⟩ := H
  replace H : (some (t404, true)) = some (r1, r2) := H
  have A4 := Aside0.mk A40
  clear A40
  simp only [Option.some.injEq, Prod.mk.injEq] at H
  obtain ⟨rfl, rfl⟩ := H
  go_enter Tryz.func73, Tryz.ntmps73
  go_wp2_with (first | ((with_reducible refine gate_callee (f := 141) rfl ?_); refine goesL_ (some 5) rfl rfl Tryz.func141 (by kernel_rfl) rfl #[.string a0, .int .i64 2, .int .i64 12] rfl Z1 ?_; (with_reducible refine (impl_isDigits.calls a0 2 12 true _ A2.out).mono ?_); rintro e w5 ⟨rfl, hb⟩; refine ⟨_, rfl, ?_⟩; have n0_ := Aside0.mk (below_step Z0 hb); clear HB; revert n0_; intro HB; (try clear hb); (try clear hb2); (try clear hk); (try clear hi)) | ((with_reducible refine gate_callee (f := 158) rfl ?_); refine goesL_ (some 8) rfl rfl Tryz.func158 (by kernel_rfl) rfl #[.string a0] rfl Z1 ?_; (with_reducible refine (impl_doubledSum.calls k a0 t404 _ A4.out).mono ?_); rintro e w' ⟨rfl, ⟨nd, rfl⟩⟩; refine ⟨_, rfl, ?_⟩))
  go_ret2
  exact ⟨by first | rfl | (simp [errW_none, errW_some] <;> rfl) | (simp [*, errW_none, errW_some] <;> rfl), by repeat (first | (with_reducible first | exact HB.out | apply below_alloc | apply pw_below_drewN | apply below_drew1) | exact HB.out)⟩
 ·
  replace c3 := Bool.eq_false_iff.mpr c3
  subst c3
  have H1 : (some (0, false)) = some (r1, r2) := by rw [if_neg (show ¬ (false = true) by decide)] at H; exact H
  clear H
  have H := H1
  clear H1
  simp only [Option.some.injEq, Prod.mk.injEq] at H
  obtain ⟨rfl, rfl⟩ := H
  go_enter Tryz.func73, Tryz.ntmps73
  go_wp2_with (first | ((with_reducible refine gate_callee (f := 141) rfl ?_); refine goesL_ (some 5) rfl rfl Tryz.func141 (by kernel_rfl) rfl #[.string a0, .int .i64 2, .int .i64 12] rfl Z1 ?_; (with_reducible refine (impl_isDigits.calls a0 2 12 false _ A2.out).mono ?_); rintro e w6 ⟨rfl, hb⟩; refine ⟨_, rfl, ?_⟩; have n0_ := Aside0.mk (below_step Z0 hb); clear HB; revert n0_; intro HB; (try clear hb); (try clear hb2); (try clear hk); (try clear hi)))
  go_ret2
  exact ⟨by first | rfl | (simp [errW_none, errW_some] <;> rfl) | (simp [*, errW_none, errW_some] <;> rfl), by repeat (first | (with_reducible first | exact HB.out | apply below_alloc | apply pw_below_drewN | apply below_drew1) | exact HB.out)⟩

/-! ### impl_IsDoubledRight: function 71 -/
def impl_IsDoubledRight.f (k : Nat) (a0 : ByteArray) : Option (Bool × Bool) := (impl_DoubledSum.f k a0).bind fun bt405 => (if bt405.2 = true then (some (((Int.tmod bt405.1 10) == 0), bt405.2)) else (some (false, bt405.2)))
set_option maxHeartbeats 8000000 in
set_option maxRecDepth 100000 in
theorem impl_IsDoubledRight.calls (k : Nat) (a0 : ByteArray) (r1 : Bool) (r2 : Bool) (w : World) (h : impl_IsDoubledRight.f k a0 = some (r1, r2)) :
  Calls Tryz.prog 71 #[.string a0] w fun e w' => e = .returned (.tuple #[.bool r1, .bool r2]) ∧ Below w.heap.size w w' := by
 have HB := Aside0.mk (Below.refl w.heap.size w)
 have H : ((impl_DoubledSum.f k a0).bind fun bt405 => (if bt405.2 = true then (some (((Int.tmod bt405.1 10) == 0), bt405.2)) else (some (false, bt405.2)))) = some (r1, r2) := h
 clear h
 replace H := Option.bind_eq_some_iff.mp H
 obtain ⟨⟨t405, t406⟩, A20, H⟩ := H
 replace H : (if t406 = true then (some (((Int.tmod t405 10) == 0), t406)) else (some (false, t406))) = some (r1, r2) := H
 have A2 := Aside0.mk A20
 clear A20
 by_cases c3 : t406 = true
 ·
  subst c3
  have H1 : (some (((Int.tmod t405 10) == 0), true)) = some (r1, r2) := by rw [if_pos rfl] at H; exact H
  clear H
  have H := H1
  clear H1
  simp only [Option.some.injEq, Prod.mk.injEq] at H
  obtain ⟨rfl, rfl⟩ := H
  go_enter Tryz.func71, Tryz.ntmps71
  go_wp2_with (first | ((with_reducible refine gate_callee (f := 73) rfl ?_); refine goesL_ (some 8) rfl rfl Tryz.func73 (by kernel_rfl) rfl #[.string a0] rfl Z1 ?_; (with_reducible refine (impl_DoubledSum.calls k a0 t405 true _ A2.out).mono ?_); rintro e w4 ⟨rfl, hb⟩; refine ⟨_, rfl, ?_⟩; have n0_ := Aside0.mk (below_step Z0 hb); clear HB; revert n0_; intro HB; (try clear hb); (try clear hb2); (try clear hk); (try clear hi)))
  go_ret2
  exact ⟨by first | rfl | (simp [errW_none, errW_some] <;> rfl) | (simp [*, errW_none, errW_some] <;> rfl), by repeat (first | (with_reducible first | exact HB.out | apply below_alloc | apply pw_below_drewN | apply below_drew1) | exact HB.out)⟩
 ·
  replace c3 := Bool.eq_false_iff.mpr c3
  subst c3
  have H1 : (some (false, false)) = some (r1, r2) := by rw [if_neg (show ¬ (false = true) by decide)] at H; exact H
  clear H
  have H := H1
  clear H1
  simp only [Option.some.injEq, Prod.mk.injEq] at H
  obtain ⟨rfl, rfl⟩ := H
  go_enter Tryz.func71, Tryz.ntmps71
  go_wp2_with (first | ((with_reducible refine gate_callee (f := 73) rfl ?_); refine goesL_ (some 8) rfl rfl Tryz.func73 (by kernel_rfl) rfl #[.string a0] rfl Z1 ?_; (with_reducible refine (impl_DoubledSum.calls k a0 t405 false _ A2.out).mono ?_); rintro e w5 ⟨rfl, hb⟩; refine ⟨_, rfl, ?_⟩; have n0_ := Aside0.mk (below_step Z0 hb); clear HB; revert n0_; intro HB; (try clear hb); (try clear hb2); (try clear hk); (try clear hi)))
  go_ret2
  exact ⟨by first | rfl | (simp [errW_none, errW_some] <;> rfl) | (simp [*, errW_none, errW_some] <;> rfl), by repeat (first | (with_reducible first | exact HB.out | apply below_alloc | apply pw_below_drewN | apply below_drew1) | exact HB.out)⟩

/-! ### spec_IsDoubledRight: function 72 -/
def spec_IsDoubledRight.f (k : Nat) (a0 : ByteArray) : Option (Bool × Bool) := (spec_ckLong.f k a0 2 12).bind fun t407 => (if t407 = true then ((spec_ckDoubled.f k a0).bind fun t408 => (some (((Int.tmod t408 10) == 0), true))) else (some (false, false)))
set_option maxHeartbeats 8000000 in
set_option maxRecDepth 100000 in
theorem spec_IsDoubledRight.calls (k : Nat) (a0 : ByteArray) (r1 : Bool) (r2 : Bool) (w : World) (h : spec_IsDoubledRight.f k a0 = some (r1, r2)) :
  Calls Tryz.prog 72 #[.string a0] w fun e w' => e = .returned (.tuple #[.bool r1, .bool r2]) ∧ Drawn0 w w' := by
 have H : ((spec_ckLong.f k a0 2 12).bind fun t407 => (if t407 = true then ((spec_ckDoubled.f k a0).bind fun t408 => (some (((Int.tmod t408 10) == 0), true))) else (some (false, false)))) = some (r1, r2) := h
 clear h
 replace H := Option.bind_eq_some_iff.mp H
 obtain ⟨t407, A20, H⟩ := H
 replace H : (if t407 = true then ((spec_ckDoubled.f k a0).bind fun t408 => (some (((Int.tmod t408 10) == 0), true))) else (some (false, false))) = some (r1, r2) := H
 have A2 := Aside0.mk A20
 clear A20
 by_cases c3 : t407 = true
 ·
  subst c3
  have H1 : ((spec_ckDoubled.f k a0).bind fun t408 => (some (((Int.tmod t408 10) == 0), true))) = some (r1, r2) := by rw [if_pos rfl] at H; exact H
  clear H
  have H := H1
  clear H1
  replace H := Option.bind_eq_some_iff.mp H
  obtain ⟨t408, A40, H⟩ := H
  replace H : (some (((Int.tmod t408 10) == 0), true)) = some (r1, r2) := H
  have A4 := Aside0.mk A40
  clear A40
  simp only [Option.some.injEq, Prod.mk.injEq] at H
  obtain ⟨rfl, rfl⟩ := H
  go_enter Tryz.func72, Tryz.ntmps72
  go_wp2_with (first | ((with_reducible refine gate_callee (f := 156) rfl ?_); refine goesL_ (some 5) rfl rfl Tryz.func156 (by kernel_rfl) rfl #[.string a0, .int .i64 2, .int .i64 12] rfl Z1 ?_; (with_reducible refine (spec_ckLong.calls k a0 2 12 true _ A2.out).mono ?_); rintro e w' ⟨rfl, ⟨nd, rfl⟩⟩; refine ⟨_, rfl, ?_⟩) | ((with_reducible refine gate_callee (f := 157) rfl ?_); refine goesL_ (some 8) rfl rfl Tryz.func157 (by kernel_rfl) rfl #[.string a0] rfl Z1 ?_; (with_reducible refine (spec_ckDoubled.calls k a0 t408 _ A4.out).mono ?_); rintro e w' ⟨rfl, ⟨nd, rfl⟩⟩; refine ⟨_, rfl, ?_⟩))
  go_ret2
  exact ⟨by first | rfl | (simp; done) | (simp only [Go.IntWalk.i64_left]; done) | (simp [*]; done) | (simp; omega), by repeat (first | exact Drawn0.refl _ | apply Drawn0.step)⟩
 ·
  replace c3 := Bool.eq_false_iff.mpr c3
  subst c3
  have H1 : (some (false, false)) = some (r1, r2) := by rw [if_neg (show ¬ (false = true) by decide)] at H; exact H
  clear H
  have H := H1
  clear H1
  simp only [Option.some.injEq, Prod.mk.injEq] at H
  obtain ⟨rfl, rfl⟩ := H
  go_enter Tryz.func72, Tryz.ntmps72
  go_wp2_with (first | ((with_reducible refine gate_callee (f := 156) rfl ?_); refine goesL_ (some 5) rfl rfl Tryz.func156 (by kernel_rfl) rfl #[.string a0, .int .i64 2, .int .i64 12] rfl Z1 ?_; (with_reducible refine (spec_ckLong.calls k a0 2 12 false _ A2.out).mono ?_); rintro e w' ⟨rfl, ⟨nd, rfl⟩⟩; refine ⟨_, rfl, ?_⟩))
  go_ret2
  exact ⟨by first | rfl | (simp; done) | (simp only [Go.IntWalk.i64_left]; done) | (simp [*]; done) | (simp; omega), by repeat (first | exact Drawn0.refl _ | apply Drawn0.step)⟩

/-! ### spec_DoubledSum: function 74 -/
def spec_DoubledSum.f (k : Nat) (a0 : ByteArray) : Option (Int × Bool) := (spec_ckLong.f k a0 2 12).bind fun t409 => (if t409 = true then ((spec_ckDoubled.f k a0).bind fun t410 => (some (t410, true))) else (some (0, false)))
set_option maxHeartbeats 8000000 in
set_option maxRecDepth 100000 in
theorem spec_DoubledSum.calls (k : Nat) (a0 : ByteArray) (r1 : Int) (r2 : Bool) (w : World) (h : spec_DoubledSum.f k a0 = some (r1, r2)) :
  Calls Tryz.prog 74 #[.string a0] w fun e w' => e = .returned (.tuple #[.int .i64 r1, .bool r2]) ∧ Drawn0 w w' := by
 have H : ((spec_ckLong.f k a0 2 12).bind fun t409 => (if t409 = true then ((spec_ckDoubled.f k a0).bind fun t410 => (some (t410, true))) else (some (0, false)))) = some (r1, r2) := h
 clear h
 replace H := Option.bind_eq_some_iff.mp H
 obtain ⟨t409, A20, H⟩ := H
 replace H : (if t409 = true then ((spec_ckDoubled.f k a0).bind fun t410 => (some (t410, true))) else (some (0, false))) = some (r1, r2) := H
 have A2 := Aside0.mk A20
 clear A20
 by_cases c3 : t409 = true
 ·
  subst c3
  have H1 : ((spec_ckDoubled.f k a0).bind fun t410 => (some (t410, true))) = some (r1, r2) := by rw [if_pos rfl] at H; exact H
  clear H
  have H := H1
  clear H1
  replace H := Option.bind_eq_some_iff.mp H
  obtain ⟨t410, A40, H⟩ := H
  replace H : (some (t410, true)) = some (r1, r2) := H
  have A4 := Aside0.mk A40
  clear A40
  simp only [Option.some.injEq, Prod.mk.injEq] at H
  obtain ⟨rfl, rfl⟩ := H
  go_enter Tryz.func74, Tryz.ntmps74
  go_wp2_with (first | ((with_reducible refine gate_callee (f := 156) rfl ?_); refine goesL_ (some 5) rfl rfl Tryz.func156 (by kernel_rfl) rfl #[.string a0, .int .i64 2, .int .i64 12] rfl Z1 ?_; (with_reducible refine (spec_ckLong.calls k a0 2 12 true _ A2.out).mono ?_); rintro e w' ⟨rfl, ⟨nd, rfl⟩⟩; refine ⟨_, rfl, ?_⟩) | ((with_reducible refine gate_callee (f := 157) rfl ?_); refine goesL_ (some 8) rfl rfl Tryz.func157 (by kernel_rfl) rfl #[.string a0] rfl Z1 ?_; (with_reducible refine (spec_ckDoubled.calls k a0 t410 _ A4.out).mono ?_); rintro e w' ⟨rfl, ⟨nd, rfl⟩⟩; refine ⟨_, rfl, ?_⟩))
  go_ret2
  exact ⟨by first | rfl | (simp; done) | (simp only [Go.IntWalk.i64_left]; done) | (simp [*]; done) | (simp; omega), by repeat (first | exact Drawn0.refl _ | apply Drawn0.step)⟩
 ·
  replace c3 := Bool.eq_false_iff.mpr c3
  subst c3
  have H1 : (some (0, false)) = some (r1, r2) := by rw [if_neg (show ¬ (false = true) by decide)] at H; exact H
  clear H
  have H := H1
  clear H1
  simp only [Option.some.injEq, Prod.mk.injEq] at H
  obtain ⟨rfl, rfl⟩ := H
  go_enter Tryz.func74, Tryz.ntmps74
  go_wp2_with (first | ((with_reducible refine gate_callee (f := 156) rfl ?_); refine goesL_ (some 5) rfl rfl Tryz.func156 (by kernel_rfl) rfl #[.string a0, .int .i64 2, .int .i64 12] rfl Z1 ?_; (with_reducible refine (spec_ckLong.calls k a0 2 12 false _ A2.out).mono ?_); rintro e w' ⟨rfl, ⟨nd, rfl⟩⟩; refine ⟨_, rfl, ?_⟩))
  go_ret2
  exact ⟨by first | rfl | (simp; done) | (simp only [Go.IntWalk.i64_left]; done) | (simp [*]; done) | (simp; omega), by repeat (first | exact Drawn0.refl _ | apply Drawn0.step)⟩

/-! ### impl_DoubledCheck: function 75 -/
def impl_DoubledCheck.f (k : Nat) (a0 : ByteArray) : Option (ByteArray × Bool) := (impl_isDigits.f a0 1 11).bind fun t411 => (if t411 = true then (if a0.size + 1 ≤ 9223372036854775807 then ((impl_doubledSum.f k (a0 ++ (⟨#[48]⟩ : ByteArray))).bind fun t412 => (if 0 ≤ (Int.tmod (wrap64 (10 - (Int.tmod t412 10))) 10) then (if (Int.tmod (wrap64 (10 - (Int.tmod t412 10))) 10) ≤ (wrap64 ((Int.tmod (wrap64 (10 - (Int.tmod t412 10))) 10) + 1)) then (if (wrap64 ((Int.tmod (wrap64 (10 - (Int.tmod t412 10))) 10) + 1)) ≤ 10 then (some ((⟨#[48, 49, 50, 51, 52, 53, 54, 55, 56, 57]⟩ : ByteArray).extract ((Int.tmod (wrap64 (10 - (Int.tmod t412 10))) 10) : Int).toNat ((wrap64 ((Int.tmod (wrap64 (10 - (Int.tmod t412 10))) 10) + 1)) : Int).toNat, true)) else (none)) else (none)) else (none))) else (none)) else (some ((⟨#[]⟩ : ByteArray), false)))
set_option maxHeartbeats 8000000 in
set_option maxRecDepth 100000 in
theorem impl_DoubledCheck.calls (k : Nat) (a0 : ByteArray) (r1 : ByteArray) (r2 : Bool) (w : World) (h : impl_DoubledCheck.f k a0 = some (r1, r2)) :
  Calls Tryz.prog 75 #[.string a0] w fun e w' => e = .returned (.tuple #[.string r1, .bool r2]) ∧ Below w.heap.size w w' := by
 have HB := Aside0.mk (Below.refl w.heap.size w)
 have H : ((impl_isDigits.f a0 1 11).bind fun t411 => (if t411 = true then (if a0.size + 1 ≤ 9223372036854775807 then ((impl_doubledSum.f k (a0 ++ (⟨#[48]⟩ : ByteArray))).bind fun t412 => (if 0 ≤ (Int.tmod (wrap64 (10 - (Int.tmod t412 10))) 10) then (if (Int.tmod (wrap64 (10 - (Int.tmod t412 10))) 10) ≤ (wrap64 ((Int.tmod (wrap64 (10 - (Int.tmod t412 10))) 10) + 1)) then (if (wrap64 ((Int.tmod (wrap64 (10 - (Int.tmod t412 10))) 10) + 1)) ≤ 10 then (some ((⟨#[48, 49, 50, 51, 52, 53, 54, 55, 56, 57]⟩ : ByteArray).extract ((Int.tmod (wrap64 (10 - (Int.tmod t412 10))) 10) : Int).toNat ((wrap64 ((Int.tmod (wrap64 (10 - (Int.tmod t412 10))) 10) + 1)) : Int).toNat, true)) else (none)) else (none)) else (none))) else (none)) else (some ((⟨#[]⟩ : ByteArray), false)))) = some (r1, r2) := h
 clear h
 replace H := Option.bind_eq_some_iff.mp H
 obtain ⟨t411, A20, H⟩ := H
 replace H : (if t411 = true then (if a0.size + 1 ≤ 9223372036854775807 then ((impl_doubledSum.f k (a0 ++ (⟨#[48]⟩ : ByteArray))).bind fun t412 => (if 0 ≤ (Int.tmod (wrap64 (10 - (Int.tmod t412 10))) 10) then (if (Int.tmod (wrap64 (10 - (Int.tmod t412 10))) 10) ≤ (wrap64 ((Int.tmod (wrap64 (10 - (Int.tmod t412 10))) 10) + 1)) then (if (wrap64 ((Int.tmod (wrap64 (10 - (Int.tmod t412 10))) 10) + 1)) ≤ 10 then (some ((⟨#[48, 49, 50, 51, 52, 53, 54, 55, 56, 57]⟩ : ByteArray).extract ((Int.tmod (wrap64 (10 - (Int.tmod t412 10))) 10) : Int).toNat ((wrap64 ((Int.tmod (wrap64 (10 - (Int.tmod t412 10))) 10) + 1)) : Int).toNat, true)) else (none)) else (none)) else (none))) else (none)) else (some ((⟨#[]⟩ : ByteArray), false))) = some (r1, r2) := H
 have A2 := Aside0.mk A20
 clear A20
 by_cases c3 : t411 = true
 ·
  subst c3
  have H1 : (if a0.size + 1 ≤ 9223372036854775807 then ((impl_doubledSum.f k (a0 ++ (⟨#[48]⟩ : ByteArray))).bind fun t412 => (if 0 ≤ (Int.tmod (wrap64 (10 - (Int.tmod t412 10))) 10) then (if (Int.tmod (wrap64 (10 - (Int.tmod t412 10))) 10) ≤ (wrap64 ((Int.tmod (wrap64 (10 - (Int.tmod t412 10))) 10) + 1)) then (if (wrap64 ((Int.tmod (wrap64 (10 - (Int.tmod t412 10))) 10) + 1)) ≤ 10 then (some ((⟨#[48, 49, 50, 51, 52, 53, 54, 55, 56, 57]⟩ : ByteArray).extract ((Int.tmod (wrap64 (10 - (Int.tmod t412 10))) 10) : Int).toNat ((wrap64 ((Int.tmod (wrap64 (10 - (Int.tmod t412 10))) 10) + 1)) : Int).toNat, true)) else (none)) else (none)) else (none))) else (none)) = some (r1, r2) := by rw [if_pos rfl] at H; exact H
  clear H
  have H := H1
  clear H1
  by_cases c4 : a0.size + 1 ≤ 9223372036854775807
  ·
   rw [if_pos c4] at H
   have c4b0 := eq_true c4
   have c4b1 : decide (a0.size + 1 ≤ 9223372036854775807) = true := decide_eq_true c4
   try have c4b2 : (9223372036854775807 < a0.size + 1) = False := eq_false (Nat.not_lt.2 c4)
   have c4b3 : ∀ z_ : Nat, z_ = a0.size + 1 → (9223372036854775807 < z_) = False := fun z_ hz_ => by rw [hz_]; exact eq_false (Nat.not_lt.2 c4)
   replace H := Option.bind_eq_some_iff.mp H
   obtain ⟨t412, A50, H⟩ := H
   replace H : (if 0 ≤ (Int.tmod (wrap64 (10 - (Int.tmod t412 10))) 10) then (if (Int.tmod (wrap64 (10 - (Int.tmod t412 10))) 10) ≤ (wrap64 ((Int.tmod (wrap64 (10 - (Int.tmod t412 10))) 10) + 1)) then (if (wrap64 ((Int.tmod (wrap64 (10 - (Int.tmod t412 10))) 10) + 1)) ≤ 10 then (some ((⟨#[48, 49, 50, 51, 52, 53, 54, 55, 56, 57]⟩ : ByteArray).extract ((Int.tmod (wrap64 (10 - (Int.tmod t412 10))) 10) : Int).toNat ((wrap64 ((Int.tmod (wrap64 (10 - (Int.tmod t412 10))) 10) + 1)) : Int).toNat, true)) else (none)) else (none)) else (none)) = some (r1, r2) := H
   have A5 := Aside0.mk A50
   clear A50
   obtain ⟨ji6, hji6⟩ : ∃ j_ : Int, (Int.tmod (wrap64 (10 - (Int.tmod t412 10))) 10) = j_ := ⟨_, rfl⟩
   replace H : (if 0 ≤ (ji6) then (if (ji6) ≤ (wrap64 ((ji6) + 1)) then (if (wrap64 ((ji6) + 1)) ≤ 10 then (some ((⟨#[48, 49, 50, 51, 52, 53, 54, 55, 56, 57]⟩ : ByteArray).extract ((ji6) : Int).toNat ((wrap64 ((ji6) + 1)) : Int).toNat, true)) else (none)) else (none)) else (none)) = some (r1, r2) := by first | (rw [hji6] at H; exact H) | (simp only [hji6] at H ⊢; exact H)
   (try rw [hji6] at A2)
   (try rw [hji6] at A5)
   by_cases c7 : 0 ≤ (ji6)
   ·
    rw [if_pos c7] at H
    have c7b0 := eq_true c7
    have c7b1 : decide (0 ≤ (ji6)) = true := decide_eq_true c7
    clear c7
    by_cases c8 : (ji6) ≤ (wrap64 ((ji6) + 1))
    ·
     rw [if_pos c8] at H
     have c8b0 := eq_true c8
     have c8b1 : decide ((ji6) ≤ (wrap64 ((ji6) + 1))) = true := decide_eq_true c8
     by_cases c9 : (wrap64 ((ji6) + 1)) ≤ 10
     ·
      rw [if_pos c9] at H
      have c9b0 := eq_true c9
      have c9b1 : decide ((wrap64 ((ji6) + 1)) ≤ 10) = true := decide_eq_true c9
      simp only [Option.some.injEq, Prod.mk.injEq] at H
      obtain ⟨rfl, rfl⟩ := H
      go_enter Tryz.func75, Tryz.ntmps75
      go_wp2_with (first | ((with_reducible refine gate_callee (f := 141) rfl ?_); refine goesL_ (some 6) rfl rfl Tryz.func141 (by kernel_rfl) rfl #[.string a0, .int .i64 1, .int .i64 11] rfl Z1 ?_; (with_reducible refine (impl_isDigits.calls a0 1 11 true _ A2.out).mono ?_); rintro e w10 ⟨rfl, hb⟩; refine ⟨_, rfl, ?_⟩; have n0_ := Aside0.mk (below_step Z0 hb); clear HB; revert n0_; intro HB; (try clear hb); (try clear hb2); (try clear hk); (try clear hi)) | ((with_reducible refine gate_callee (f := 158) rfl ?_); refine goesL_ (some 10) rfl rfl Tryz.func158 (by kernel_rfl) rfl #[.string (a0 ++ (⟨#[48]⟩ : ByteArray))] rfl Z1 ?_; (with_reducible refine (impl_doubledSum.calls k (a0 ++ (⟨#[48]⟩ : ByteArray)) t412 _ A5.out).mono ?_); rintro e w' ⟨rfl, ⟨nd, rfl⟩⟩; refine ⟨_, rfl, ?_⟩))
      go_ret2
      exact ⟨by first | rfl | (simp [errW_none, errW_some] <;> rfl) | (simp only [← hji6]; first | rfl | (simp [errW_none, errW_some] <;> rfl)) | (simp [*, errW_none, errW_some] <;> rfl), by repeat (first | (with_reducible first | exact HB.out | apply below_alloc | apply pw_below_drewN | apply below_drew1) | exact HB.out)⟩
     ·
      rw [if_neg c9] at H
      exact absurd H (by simp)
    ·
     rw [if_neg c8] at H
     exact absurd H (by simp)
   ·
    rw [if_neg c7] at H
    exact absurd H (by simp)
  ·
   rw [if_neg c4] at H
   exact absurd H (by simp)
 ·
  replace c3 := Bool.eq_false_iff.mpr c3
  subst c3
  have H1 : (some ((⟨#[]⟩ : ByteArray), false)) = some (r1, r2) := by rw [if_neg (show ¬ (false = true) by decide)] at H; exact H
  clear H
  have H := H1
  clear H1
  simp only [Option.some.injEq, Prod.mk.injEq] at H
  obtain ⟨rfl, rfl⟩ := H
  go_enter Tryz.func75, Tryz.ntmps75
  go_wp2_with (first | ((with_reducible refine gate_callee (f := 141) rfl ?_); refine goesL_ (some 6) rfl rfl Tryz.func141 (by kernel_rfl) rfl #[.string a0, .int .i64 1, .int .i64 11] rfl Z1 ?_; (with_reducible refine (impl_isDigits.calls a0 1 11 false _ A2.out).mono ?_); rintro e w11 ⟨rfl, hb⟩; refine ⟨_, rfl, ?_⟩; have n0_ := Aside0.mk (below_step Z0 hb); clear HB; revert n0_; intro HB; (try clear hb); (try clear hb2); (try clear hk); (try clear hi)))
  go_ret2
  exact ⟨by first | rfl | (simp [errW_none, errW_some] <;> rfl) | (simp [*, errW_none, errW_some] <;> rfl), by repeat (first | (with_reducible first | exact HB.out | apply below_alloc | apply pw_below_drewN | apply below_drew1) | exact HB.out)⟩

/-! ### spec_l1Cur_spoilt: function 160 -/
mutual
def spec_l1Cur_spoilt.l0 : Nat → ByteArray → ByteArray → Int → List Int → Int → Int → Option (ByteArray × Int × Int)
 | 0, _, _, _, _, _, _ => none
 | k + 1, x1, x2, x7, x1000, x1001, x1002 => if x7 > 0 then (spec_l1Cur_spoilt.j1 k x1 x2 x7 (decide (0 < x1.size)) x1000 x1001 x1002) else (spec_l1Cur_spoilt.j1 k x1 x2 x7 false x1000 x1001 x1002)
def spec_l1Cur_spoilt.j1 : Nat → ByteArray → ByteArray → Int → Bool → List Int → Int → Int → Option (ByteArray × Int × Int)
 | 0, _, _, _, _, _, _, _ => none
 | k + 1, x1, x2, x7, x19, x1000, x1001, x1002 => if x19 = true then ((spec_l1Cur_pick.f x1000 x1001 x1002 (x1.size : Int)).bind fun bt416 => ((spec_l1Cur_pick.f x1000 bt416.2.1 bt416.2.2 (x2.size : Int)).bind fun bt419 => (if 0 ≤ bt419.1 then (if bt419.1 < (x2.size : Int) then ((some (([bt x2 bt419.1] : List Int) : List Int)).bind fun y422 => ((spec_l1Cur_pick.f x1000 bt419.2.1 bt419.2.2 3).bind fun bt425 => (if bt425.1 = 0 then (if 0 ≤ bt416.1 then (if bt416.1 ≤ (x1.size : Int) then (if (x1.extract 0 (bt416.1 : Int).toNat).size + (strOfNums y422).size ≤ 9223372036854775807 then (if ((x1.extract 0 (bt416.1 : Int).toNat) ++ (strOfNums y422)).size + (x1.extract (bt416.1 : Int).toNat x1.size).size ≤ 9223372036854775807 then (spec_l1Cur_spoilt.l0 k (((x1.extract 0 (bt416.1 : Int).toNat) ++ (strOfNums y422)) ++ (x1.extract (bt416.1 : Int).toNat x1.size)) x2 (wrap64 (x7 - 1)) x1000 bt425.2.1 bt425.2.2) else (none)) else (none)) else (none)) else (none)) else (if bt425.1 = 1 then (if 0 ≤ bt416.1 then (if bt416.1 ≤ (x1.size : Int) then (if (x1.extract 0 (bt416.1 : Int).toNat).size + (strOfNums y422).size ≤ 9223372036854775807 then (if 0 ≤ (wrap64 (bt416.1 + 1)) then (if (wrap64 (bt416.1 + 1)) ≤ (x1.size : Int) then (if ((x1.extract 0 (bt416.1 : Int).toNat) ++ (strOfNums y422)).size + (x1.extract ((wrap64 (bt416.1 + 1)) : Int).toNat x1.size).size ≤ 9223372036854775807 then (spec_l1Cur_spoilt.l0 k (((x1.extract 0 (bt416.1 : Int).toNat) ++ (strOfNums y422)) ++ (x1.extract ((wrap64 (bt416.1 + 1)) : Int).toNat x1.size)) x2 (wrap64 (x7 - 1)) x1000 bt425.2.1 bt425.2.2) else (none)) else (none)) else (none)) else (none)) else (none)) else (none)) else (if 0 ≤ bt416.1 then (if bt416.1 ≤ (x1.size : Int) then (if 0 ≤ (wrap64 (bt416.1 + 1)) then (if (wrap64 (bt416.1 + 1)) ≤ (x1.size : Int) then (if (x1.extract 0 (bt416.1 : Int).toNat).size + (x1.extract ((wrap64 (bt416.1 + 1)) : Int).toNat x1.size).size ≤ 9223372036854775807 then (spec_l1Cur_spoilt.l0 k ((x1.extract 0 (bt416.1 : Int).toNat) ++ (x1.extract ((wrap64 (bt416.1 + 1)) : Int).toNat x1.size)) x2 (wrap64 (x7 - 1)) x1000 bt425.2.1 bt425.2.2) else (none)) else (none)) else (none)) else (none)) else (none)))))) else (none)) else (none)))) else (some (x1, x1001, x1002))
end
def spec_l1Cur_spoilt.f (k : Nat) (s0_0 : List Int) (s0_1 : Int) (s0_2 : Int) (a1 : ByteArray) (a2 : ByteArray) : Option (ByteArray × Int × Int) := (spec_l1Cur_pick.f s0_0 s0_1 s0_2 2).bind fun bt413 => (spec_l1Cur_spoilt.l0 k a1 a2 (wrap64 (1 + bt413.1)) s0_0 bt413.2.1 bt413.2.2)
set_option maxHeartbeats 8000000 in
set_option maxRecDepth 100000 in
theorem spec_l1Cur_spoilt.calls (k : Nat) (g : Nat) (s0_0 : List Int) (s0_1 : Int) (s0_2 : Int) (a1 : ByteArray) (a2 : ByteArray) (r1 : ByteArray) (r2 : Int) (r3 : Int) (w0 w : World) (hI : IsS80 w0 w g s0_0 s0_1 s0_2) (hB : Below w0.heap.size w0 w) (h : spec_l1Cur_spoilt.f k s0_0 s0_1 s0_2 a1 a2 = some (r1, r2, r3)) :
  Calls Tryz.prog 160 #[.pointer (some ⟨g, 0, none⟩), .string a1, .string a2] w fun e w' => e = .returned (.string r1) ∧ IsS80 w0 w' g s0_0 r2 r3 ∧ Below w0.heap.size w0 w' ∧ KeepBut w w' g none := by
 have HI0 := Aside0.mk hI
 have HK := Aside0.mk (KeepBut.refl w g none)
 have HL := Aside0.mk hB.size
 clear hI
 have HW0 := Aside0.mk hB.size
 have HB := Aside0.mk hB
 clear hB
 have H : ((spec_l1Cur_pick.f s0_0 s0_1 s0_2 2).bind fun bt413 => (spec_l1Cur_spoilt.l0 k a1 a2 (wrap64 (1 + bt413.1)) s0_0 bt413.2.1 bt413.2.2)) = some (r1, r2, r3) := h
 clear h
 replace H := Option.bind_eq_some_iff.mp H
 obtain ⟨⟨t413, t414, t415⟩, A40, H⟩ := H
 replace H : (spec_l1Cur_spoilt.l0 k a1 a2 (wrap64 (1 + t413)) s0_0 t414 t415) = some (r1, r2, r3) := H
 have A4 := Aside0.mk A40
 clear A40
 have H' := Aside0.mk H
 clear H
 go_enter Tryz.func160, Tryz.ntmps160
 go_wp2_with (first | (go_at_call 104; (with_reducible refine (spec_l1Cur_pick.calls g s0_0 s0_1 s0_2 2 t413 t414 t415 w0 _ ?side1 ?side2 A4.out).mono ?_); (case side1 => exact Z6); (case side2 => exact Z5); rintro e w5 ⟨rfl, hi, hb, hk⟩; have n0_ := Aside0.mk (KeepBut.trans Z4 hk (.inl rfl)); have n1_ := Aside0.mk (hb); have n2_ := Aside0.mk (hi); clear HK HB HI0; revert n0_ n1_ n2_; intro HK HB HI0; (try clear hb); (try clear hb2); (try clear hk); (try clear hi)))
 repeat (go_quiet (first | (go_at_call 104; (with_reducible refine (spec_l1Cur_pick.calls g s0_0 s0_1 s0_2 2 t413 t414 t415 w0 _ ?side1 ?side2 A4.out).mono ?_); (case side1 => exact Z6); (case side2 => exact Z5); rintro e w5 ⟨rfl, hi, hb, hk⟩; have n0_ := Aside0.mk (KeepBut.trans Z4 hk (.inl rfl)); have n1_ := Aside0.mk (hb); have n2_ := Aside0.mk (hi); clear HK HB HI0; revert n0_ n1_ n2_; intro HK HB HI0; (try clear hb); (try clear hb2); (try clear hk); (try clear hi))); try go_wp2_with (first | (go_at_call 104; (with_reducible refine (spec_l1Cur_pick.calls g s0_0 s0_1 s0_2 2 t413 t414 t415 w0 _ ?side1 ?side2 A4.out).mono ?_); (case side1 => exact Z6); (case side2 => exact Z5); rintro e w5 ⟨rfl, hi, hb, hk⟩; have n0_ := Aside0.mk (KeepBut.trans Z4 hk (.inl rfl)); have n1_ := Aside0.mk (hb); have n2_ := Aside0.mk (hi); clear HK HB HI0; revert n0_ n1_ n2_; intro HK HB HI0; (try clear hb); (try clear hb2); (try clear hk); (try clear hi))))
 go_loopg [1, 7] k (fun kq v1 v7 w' => ∃ (x1_1 : ByteArray) (x7_1 : Int) (x1001_1 : Int) (x1002_1 : Int), v1 = .string x1_1 ∧ v7 = .int .i64 x7_1 ∧ Aside0 (spec_l1Cur_spoilt.l0 kq x1_1 a2 x7_1 s0_0 x1001_1 x1002_1 = some (r1, r2, r3)) ∧ Aside0 (kq ≤ k) ∧ Aside0 (IsS80 w0 w' g s0_0 x1001_1 x1002_1) ∧ Aside0 (KeepBut w w' g none) ∧ Aside0 (Below w0.heap.size w0 w'))
 case atStart => exact ⟨(a1), (wrap64 (1 + t413)), (t414), (t415), Z3, Z3, H', ⟨Nat.le_refl _⟩, ⟨by repeat (first | (with_reducible first | exact HI0.out | apply IsS80.alloc | apply IsS80.drewN | apply IsS80.drew | apply IsS80.set_1 | apply IsS80.set_2) | exact HI0.out)⟩, ⟨by repeat (first | (with_reducible first | exact HK.out | apply KeepBut.set_ | apply keep_drewN | apply keep_drew | apply keep_alloc) | exact HK.out)⟩, ⟨by repeat (first | (with_reducible first | exact HB.out | apply below_alloc | apply pw_below_drewN | apply below_drew1 | refine below_set ?_ (IsS80.ge HI0.out)) | exact HB.out)⟩⟩
 case round =>
  clear H'
  (try clear c1); (try clear p2)
  obtain ⟨x1_1, x7_1, x1001_1, x1002_1, rfl, rfl, HA, HK1, HI0, HK, HB⟩ := hrel
  cases gk with
  | zero => exact absurd HA.out (by simp [spec_l1Cur_spoilt.l0])
  | succ k1 =>
   have H := HA.out
   clear HA
   simp only [spec_l1Cur_spoilt.l0] at H
   have HC6 := Aside0.mk H
   clear H
   go_upto_region 2 with (fail)
   repeat (go_quiet (fail); go_upto_region 2 with (fail))
   go_cut [19] (fun v19 wc => ∃ (kq : Nat) (x19_5 : Bool), v19 = .bool x19_5 ∧ Aside0 (spec_l1Cur_spoilt.j1 kq x1_1 a2 x7_1 x19_5 s0_0 x1001_1 x1002_1 = some (r1, r2, r3)) ∧ Aside0 (kq ≤ k1) ∧ Aside0 (IsS80 w0 wc g s0_0 x1001_1 x1002_1) ∧ Aside0 (KeepBut w wc g none) ∧ Aside0 (Below w0.heap.size w0 wc))
   case first =>
    have H := HC6.out
    clear HC6
    by_cases c7 : x7_1 > 0
    ·
     rw [if_pos c7] at H
     have c7b0 : decide (0 < x7_1) = true := decide_eq_true c7
     clear c7
     (first | rw [c7b0] | (simp only [i64_w, i32_w]; rw [c7b0]) | skip)
     have H' := Aside0.mk H
     clear H
     go_wp2
     repeat (go_quiet (fail); try go_wp2)
     go_meet
     case rel => exact ⟨_, (decide (0 < x1_1.size)), Z3, H', ⟨by have := HK1.out; first | omega | exact Nat.le_refl _⟩, ⟨by repeat (first | (with_reducible first | exact HI0.out | apply IsS80.alloc | apply IsS80.drewN | apply IsS80.drew | apply IsS80.set_1 | apply IsS80.set_2) | exact HI0.out)⟩, ⟨by repeat (first | (with_reducible first | exact HK.out | apply KeepBut.set_ | apply keep_drewN | apply keep_drew | apply keep_alloc) | exact HK.out)⟩, ⟨by repeat (first | (with_reducible first | exact HB.out | apply below_alloc | apply pw_below_drewN | apply below_drew1 | refine below_set ?_ (IsS80.ge HI0.out)) | exact HB.out)⟩⟩
    ·
     rw [if_neg c7] at H
     have c7b0 : decide (0 < x7_1) = false := decide_eq_false c7
     clear c7
     (first | rw [c7b0] | (simp only [i64_w, i32_w]; rw [c7b0]) | skip)
     have H' := Aside0.mk H
     clear H
     go_wp2
     repeat (go_quiet (fail); try go_wp2)
     go_meet
     case rel => exact ⟨_, (false), Z3, H', ⟨by have := HK1.out; first | omega | exact Nat.le_refl _⟩, ⟨by repeat (first | (with_reducible first | exact HI0.out | apply IsS80.alloc | apply IsS80.drewN | apply IsS80.drew | apply IsS80.set_1 | apply IsS80.set_2) | exact HI0.out)⟩, ⟨by repeat (first | (with_reducible first | exact HK.out | apply KeepBut.set_ | apply keep_drewN | apply keep_drew | apply keep_alloc) | exact HK.out)⟩, ⟨by repeat (first | (with_reducible first | exact HB.out | apply below_alloc | apply pw_below_drewN | apply below_drew1 | refine below_set ?_ (IsS80.ge HI0.out)) | exact HB.out)⟩⟩
   case rest =>
    clear HC6
    (try clear c1); (try clear p2); (try clear p6); (try clear c7); (try clear c7b0); (try clear p2)
    obtain ⟨kq, x19_5, rfl, HA, HJ5, HI0, HK, HB⟩ := hcut
    cases kq with
    | zero => exact absurd HA.out (by simp [spec_l1Cur_spoilt.j1])
    | succ kj5 =>
     have H := HA.out
     clear HA
     simp only [spec_l1Cur_spoilt.j1] at H
     by_cases c8 : x19_5 = true
     ·
      subst c8
      have H1 : ((spec_l1Cur_pick.f s0_0 x1001_1 x1002_1 (x1_1.size : Int)).bind fun bt416 => ((spec_l1Cur_pick.f s0_0 bt416.2.1 bt416.2.2 (a2.size : Int)).bind fun bt419 => (if 0 ≤ bt419.1 then (if bt419.1 < (a2.size : Int) then ((some (([bt a2 bt419.1] : List Int) : List Int)).bind fun y422 => ((spec_l1Cur_pick.f s0_0 bt419.2.1 bt419.2.2 3).bind fun bt425 => (if bt425.1 = 0 then (if 0 ≤ bt416.1 then (if bt416.1 ≤ (x1_1.size : Int) then (if (x1_1.extract 0 (bt416.1 : Int).toNat).size + (strOfNums y422).size ≤ 9223372036854775807 then (if ((x1_1.extract 0 (bt416.1 : Int).toNat) ++ (strOfNums y422)).size + (x1_1.extract (bt416.1 : Int).toNat x1_1.size).size ≤ 9223372036854775807 then (spec_l1Cur_spoilt.l0 kj5 (((x1_1.extract 0 (bt416.1 : Int).toNat) ++ (strOfNums y422)) ++ (x1_1.extract (bt416.1 : Int).toNat x1_1.size)) a2 (wrap64 (x7_1 - 1)) s0_0 bt425.2.1 bt425.2.2) else (none)) else (none)) else (none)) else (none)) else (if bt425.1 = 1 then (if 0 ≤ bt416.1 then (if bt416.1 ≤ (x1_1.size : Int) then (if (x1_1.extract 0 (bt416.1 : Int).toNat).size + (strOfNums y422).size ≤ 9223372036854775807 then (if 0 ≤ (wrap64 (bt416.1 + 1)) then (if (wrap64 (bt416.1 + 1)) ≤ (x1_1.size : Int) then (if ((x1_1.extract 0 (bt416.1 : Int).toNat) ++ (strOfNums y422)).size + (x1_1.extract ((wrap64 (bt416.1 + 1)) : Int).toNat x1_1.size).size ≤ 9223372036854775807 then (spec_l1Cur_spoilt.l0 kj5 (((x1_1.extract 0 (bt416.1 : Int).toNat) ++ (strOfNums y422)) ++ (x1_1.extract ((wrap64 (bt416.1 + 1)) : Int).toNat x1_1.size)) a2 (wrap64 (x7_1 - 1)) s0_0 bt425.2.1 bt425.2.2) else (none)) else (none)) else (none)) else (none)) else (none)) else (none)) else (if 0 ≤ bt416.1 then (if bt416.1 ≤ (x1_1.size : Int) then (if 0 ≤ (wrap64 (bt416.1 + 1)) then (if (wrap64 (bt416.1 + 1)) ≤ (x1_1.size : Int) then (if (x1_1.extract 0 (bt416.1 : Int).toNat).size + (x1_1.extract ((wrap64 (bt416.1 + 1)) : Int).toNat x1_1.size).size ≤ 9223372036854775807 then (spec_l1Cur_spoilt.l0 kj5 ((x1_1.extract 0 (bt416.1 : Int).toNat) ++ (x1_1.extract ((wrap64 (bt416.1 + 1)) : Int).toNat x1_1.size)) a2 (wrap64 (x7_1 - 1)) s0_0 bt425.2.1 bt425.2.2) else (none)) else (none)) else (none)) else (none)) else (none)))))) else (none)) else (none)))) = some (r1, r2, r3) := by rw [if_pos rfl] at H; exact H
      clear H
      have H := H1
      clear H1
      replace H := Option.bind_eq_some_iff.mp H
      obtain ⟨⟨t416, t417, t418⟩, A90, H⟩ := H
      replace H : ((spec_l1Cur_pick.f s0_0 t417 t418 (a2.size : Int)).bind fun bt419 => (if 0 ≤ bt419.1 then (if bt419.1 < (a2.size : Int) then ((some (([bt a2 bt419.1] : List Int) : List Int)).bind fun y422 => ((spec_l1Cur_pick.f s0_0 bt419.2.1 bt419.2.2 3).bind fun bt425 => (if bt425.1 = 0 then (if 0 ≤ t416 then (if t416 ≤ (x1_1.size : Int) then (if (x1_1.extract 0 (t416 : Int).toNat).size + (strOfNums y422).size ≤ 9223372036854775807 then (if ((x1_1.extract 0 (t416 : Int).toNat) ++ (strOfNums y422)).size + (x1_1.extract (t416 : Int).toNat x1_1.size).size ≤ 9223372036854775807 then (spec_l1Cur_spoilt.l0 kj5 (((x1_1.extract 0 (t416 : Int).toNat) ++ (strOfNums y422)) ++ (x1_1.extract (t416 : Int).toNat x1_1.size)) a2 (wrap64 (x7_1 - 1)) s0_0 bt425.2.1 bt425.2.2) else (none)) else (none)) else (none)) else (none)) else (if bt425.1 = 1 then (if 0 ≤ t416 then (if t416 ≤ (x1_1.size : Int) then (if (x1_1.extract 0 (t416 : Int).toNat).size + (strOfNums y422).size ≤ 9223372036854775807 then (if 0 ≤ (wrap64 (t416 + 1)) then (if (wrap64 (t416 + 1)) ≤ (x1_1.size : Int) then (if ((x1_1.extract 0 (t416 : Int).toNat) ++ (strOfNums y422)).size + (x1_1.extract ((wrap64 (t416 + 1)) : Int).toNat x1_1.size).size ≤ 9223372036854775807 then (spec_l1Cur_spoilt.l0 kj5 (((x1_1.extract 0 (t416 : Int).toNat) ++ (strOfNums y422)) ++ (x1_1.extract ((wrap64 (t416 + 1)) : Int).toNat x1_1.size)) a2 (wrap64 (x7_1 - 1)) s0_0 bt425.2.1 bt425.2.2) else (none)) else (none)) else (none)) else (none)) else (none)) else (none)) else (if 0 ≤ t416 then (if t416 ≤ (x1_1.size : Int) then (if 0 ≤ (wrap64 (t416 + 1)) then (if (wrap64 (t416 + 1)) ≤ (x1_1.size : Int) then (if (x1_1.extract 0 (t416 : Int).toNat).size + (x1_1.extract ((wrap64 (t416 + 1)) : Int).toNat x1_1.size).size ≤ 9223372036854775807 then (spec_l1Cur_spoilt.l0 kj5 ((x1_1.extract 0 (t416 : Int).toNat) ++ (x1_1.extract ((wrap64 (t416 + 1)) : Int).toNat x1_1.size)) a2 (wrap64 (x7_1 - 1)) s0_0 bt425.2.1 bt425.2.2) else (none)) else (none)) else (none)) else (none)) else (none)))))) else (none)) else (none))) = some (r1, r2, r3) := H
      have A9 := Aside0.mk A90
      clear A90
      replace H := Option.bind_eq_some_iff.mp H
      obtain ⟨⟨t419, t420, t421⟩, A100, H⟩ := H
      replace H : (if 0 ≤ t419 then (if t419 < (a2.size : Int) then ((some (([bt a2 t419] : List Int) : List Int)).bind fun y422 => ((spec_l1Cur_pick.f s0_0 t420 t421 3).bind fun bt425 => (if bt425.1 = 0 then (if 0 ≤ t416 then (if t416 ≤ (x1_1.size : Int) then (if (x1_1.extract 0 (t416 : Int).toNat).size + (strOfNums y422).size ≤ 9223372036854775807 then (if ((x1_1.extract 0 (t416 : Int).toNat) ++ (strOfNums y422)).size + (x1_1.extract (t416 : Int).toNat x1_1.size).size ≤ 9223372036854775807 then (spec_l1Cur_spoilt.l0 kj5 (((x1_1.extract 0 (t416 : Int).toNat) ++ (strOfNums y422)) ++ (x1_1.extract (t416 : Int).toNat x1_1.size)) a2 (wrap64 (x7_1 - 1)) s0_0 bt425.2.1 bt425.2.2) else (none)) else (none)) else (none)) else (none)) else (if bt425.1 = 1 then (if 0 ≤ t416 then (if t416 ≤ (x1_1.size : Int) then (if (x1_1.extract 0 (t416 : Int).toNat).size + (strOfNums y422).size ≤ 9223372036854775807 then (if 0 ≤ (wrap64 (t416 + 1)) then (if (wrap64 (t416 + 1)) ≤ (x1_1.size : Int) then (if ((x1_1.extract 0 (t416 : Int).toNat) ++ (strOfNums y422)).size + (x1_1.extract ((wrap64 (t416 + 1)) : Int).toNat x1_1.size).size ≤ 9223372036854775807 then (spec_l1Cur_spoilt.l0 kj5 (((x1_1.extract 0 (t416 : Int).toNat) ++ (strOfNums y422)) ++ (x1_1.extract ((wrap64 (t416 + 1)) : Int).toNat x1_1.size)) a2 (wrap64 (x7_1 - 1)) s0_0 bt425.2.1 bt425.2.2) else (none)) else (none)) else (none)) else (none)) else (none)) else (none)) else (if 0 ≤ t416 then (if t416 ≤ (x1_1.size : Int) then (if 0 ≤ (wrap64 (t416 + 1)) then (if (wrap64 (t416 + 1)) ≤ (x1_1.size : Int) then (if (x1_1.extract 0 (t416 : Int).toNat).size + (x1_1.extract ((wrap64 (t416 + 1)) : Int).toNat x1_1.size).size ≤ 9223372036854775807 then (spec_l1Cur_spoilt.l0 kj5 ((x1_1.extract 0 (t416 : Int).toNat) ++ (x1_1.extract ((wrap64 (t416 + 1)) : Int).toNat x1_1.size)) a2 (wrap64 (x7_1 - 1)) s0_0 bt425.2.1 bt425.2.2) else (none)) else (none)) else (none)) else (none)) else (none)))))) else (none)) else (none)) = some (r1, r2, r3) := H
      have A10 := Aside0.mk A100
      clear A100
      by_cases c11 : 0 ≤ t419
      ·
       rw [if_pos c11] at H
       have c11b0 : decide (0 ≤ t419) = true := decide_eq_true c11
       clear c11
       by_cases c12 : t419 < (a2.size : Int)
       ·
        rw [if_pos c12] at H
        have c12b0 : decide (t419 < (a2.size : Int)) = true := decide_eq_true c12
        clear c12
        obtain ⟨y422, hy422⟩ : ∃ y_ : List Int, y_ = (([bt a2 t419] : List Int)) := ⟨_, rfl⟩
        replace H : ((spec_l1Cur_pick.f s0_0 t420 t421 3).bind fun bt425 => (if bt425.1 = 0 then (if 0 ≤ t416 then (if t416 ≤ (x1_1.size : Int) then (if (x1_1.extract 0 (t416 : Int).toNat).size + (strOfNums y422).size ≤ 9223372036854775807 then (if ((x1_1.extract 0 (t416 : Int).toNat) ++ (strOfNums y422)).size + (x1_1.extract (t416 : Int).toNat x1_1.size).size ≤ 9223372036854775807 then (spec_l1Cur_spoilt.l0 kj5 (((x1_1.extract 0 (t416 : Int).toNat) ++ (strOfNums y422)) ++ (x1_1.extract (t416 : Int).toNat x1_1.size)) a2 (wrap64 (x7_1 - 1)) s0_0 bt425.2.1 bt425.2.2) else (none)) else (none)) else (none)) else (none)) else (if bt425.1 = 1 then (if 0 ≤ t416 then (if t416 ≤ (x1_1.size : Int) then (if (x1_1.extract 0 (t416 : Int).toNat).size + (strOfNums y422).size ≤ 9223372036854775807 then (if 0 ≤ (wrap64 (t416 + 1)) then (if (wrap64 (t416 + 1)) ≤ (x1_1.size : Int) then (if ((x1_1.extract 0 (t416 : Int).toNat) ++ (strOfNums y422)).size + (x1_1.extract ((wrap64 (t416 + 1)) : Int).toNat x1_1.size).size ≤ 9223372036854775807 then (spec_l1Cur_spoilt.l0 kj5 (((x1_1.extract 0 (t416 : Int).toNat) ++ (strOfNums y422)) ++ (x1_1.extract ((wrap64 (t416 + 1)) : Int).toNat x1_1.size)) a2 (wrap64 (x7_1 - 1)) s0_0 bt425.2.1 bt425.2.2) else (none)) else (none)) else (none)) else (none)) else (none)) else (none)) else (if 0 ≤ t416 then (if t416 ≤ (x1_1.size : Int) then (if 0 ≤ (wrap64 (t416 + 1)) then (if (wrap64 (t416 + 1)) ≤ (x1_1.size : Int) then (if (x1_1.extract 0 (t416 : Int).toNat).size + (x1_1.extract ((wrap64 (t416 + 1)) : Int).toNat x1_1.size).size ≤ 9223372036854775807 then (spec_l1Cur_spoilt.l0 kj5 ((x1_1.extract 0 (t416 : Int).toNat) ++ (x1_1.extract ((wrap64 (t416 + 1)) : Int).toNat x1_1.size)) a2 (wrap64 (x7_1 - 1)) s0_0 bt425.2.1 bt425.2.2) else (none)) else (none)) else (none)) else (none)) else (none))))) = some (r1, r2, r3) := by first | (rw [hy422]; with_reducible exact H) | (have H2_ := (Option.bind_some _ _).symm.trans H; rw [hy422]; with_reducible exact H2_) | (have H2_ := (Option.bind_some _ _).symm.trans H; with_reducible exact H2_) | with_reducible exact H | (rw [hy422]; exact H) | exact H
        have Ny422 := Aside0.mk hy422
        clear hy422
        replace H := Option.bind_eq_some_iff.mp H
        obtain ⟨⟨t425, t426, t427⟩, A140, H⟩ := H
        replace H : (if t425 = 0 then (if 0 ≤ t416 then (if t416 ≤ (x1_1.size : Int) then (if (x1_1.extract 0 (t416 : Int).toNat).size + (strOfNums y422).size ≤ 9223372036854775807 then (if ((x1_1.extract 0 (t416 : Int).toNat) ++ (strOfNums y422)).size + (x1_1.extract (t416 : Int).toNat x1_1.size).size ≤ 9223372036854775807 then (spec_l1Cur_spoilt.l0 kj5 (((x1_1.extract 0 (t416 : Int).toNat) ++ (strOfNums y422)) ++ (x1_1.extract (t416 : Int).toNat x1_1.size)) a2 (wrap64 (x7_1 - 1)) s0_0 t426 t427) else (none)) else (none)) else (none)) else (none)) else (if t425 = 1 then (if 0 ≤ t416 then (if t416 ≤ (x1_1.size : Int) then (if (x1_1.extract 0 (t416 : Int).toNat).size + (strOfNums y422).size ≤ 9223372036854775807 then (if 0 ≤ (wrap64 (t416 + 1)) then (if (wrap64 (t416 + 1)) ≤ (x1_1.size : Int) then (if ((x1_1.extract 0 (t416 : Int).toNat) ++ (strOfNums y422)).size + (x1_1.extract ((wrap64 (t416 + 1)) : Int).toNat x1_1.size).size ≤ 9223372036854775807 then (spec_l1Cur_spoilt.l0 kj5 (((x1_1.extract 0 (t416 : Int).toNat) ++ (strOfNums y422)) ++ (x1_1.extract ((wrap64 (t416 + 1)) : Int).toNat x1_1.size)) a2 (wrap64 (x7_1 - 1)) s0_0 t426 t427) else (none)) else (none)) else (none)) else (none)) else (none)) else (none)) else (if 0 ≤ t416 then (if t416 ≤ (x1_1.size : Int) then (if 0 ≤ (wrap64 (t416 + 1)) then (if (wrap64 (t416 + 1)) ≤ (x1_1.size : Int) then (if (x1_1.extract 0 (t416 : Int).toNat).size + (x1_1.extract ((wrap64 (t416 + 1)) : Int).toNat x1_1.size).size ≤ 9223372036854775807 then (spec_l1Cur_spoilt.l0 kj5 ((x1_1.extract 0 (t416 : Int).toNat) ++ (x1_1.extract ((wrap64 (t416 + 1)) : Int).toNat x1_1.size)) a2 (wrap64 (x7_1 - 1)) s0_0 t426 t427) else (none)) else (none)) else (none)) else (none)) else (none)))) = some (r1, r2, r3) := H
        have A14 := Aside0.mk A140
        clear A140
        by_cases c15 : t425 = 0
        ·
         rw [if_pos c15] at H
         have c15b0 : (t425 == 0) = true := beq_iff_eq.mpr c15
         have c15b1 : (t425 != 0) = false := bne_eq_false_iff_eq.mpr c15
         clear c15
         by_cases c16 : 0 ≤ t416
         ·
          rw [if_pos c16] at H
          have c16b0 := eq_true c16
          have c16b1 : decide (0 ≤ t416) = true := decide_eq_true c16
          clear c16
          by_cases c17 : t416 ≤ (x1_1.size : Int)
          ·
           rw [if_pos c17] at H
           have c17b0 := eq_true c17
           have c17b1 : decide (t416 ≤ (x1_1.size : Int)) = true := decide_eq_true c17
           clear c17
           by_cases c18 : (x1_1.extract 0 (t416 : Int).toNat).size + (strOfNums y422).size ≤ 9223372036854775807
           ·
            rw [if_pos c18] at H
            have c18b0 := eq_true c18
            have c18b1 : decide ((x1_1.extract 0 (t416 : Int).toNat).size + (strOfNums y422).size ≤ 9223372036854775807) = true := decide_eq_true c18
            try have c18b2 : (9223372036854775807 < (x1_1.extract 0 (t416 : Int).toNat).size + (strOfNums y422).size) = False := eq_false (Nat.not_lt.2 c18)
            have c18b3 : ∀ z_ : Nat, z_ = (x1_1.extract 0 (t416 : Int).toNat).size + (strOfNums y422).size → (9223372036854775807 < z_) = False := fun z_ hz_ => by rw [hz_]; exact eq_false (Nat.not_lt.2 c18)
            have c19b0 := eq_true (Z2 : 0 ≤ t416)
            have c20b0 := eq_true (Z2 : t416 ≤ (x1_1.size : Int))
            by_cases c21 : ((x1_1.extract 0 (t416 : Int).toNat) ++ (strOfNums y422)).size + (x1_1.extract (t416 : Int).toNat x1_1.size).size ≤ 9223372036854775807
            ·
             rw [if_pos c21] at H
             have c21b0 := eq_true c21
             have c21b1 : decide (((x1_1.extract 0 (t416 : Int).toNat) ++ (strOfNums y422)).size + (x1_1.extract (t416 : Int).toNat x1_1.size).size ≤ 9223372036854775807) = true := decide_eq_true c21
             try have c21b2 : (9223372036854775807 < ((x1_1.extract 0 (t416 : Int).toNat) ++ (strOfNums y422)).size + (x1_1.extract (t416 : Int).toNat x1_1.size).size) = False := eq_false (Nat.not_lt.2 c21)
             have c21b3 : ∀ z_ : Nat, z_ = ((x1_1.extract 0 (t416 : Int).toNat) ++ (strOfNums y422)).size + (x1_1.extract (t416 : Int).toNat x1_1.size).size → (9223372036854775807 < z_) = False := fun z_ hz_ => by rw [hz_]; exact eq_false (Nat.not_lt.2 c21)
             have H' := Aside0.mk H
             clear H
             go_wp2_with (first | (go_at_call 104; (with_reducible refine (spec_l1Cur_pick.calls g s0_0 x1001_1 x1002_1 (x1_1.size : Int) t416 t417 t418 w0 _ ?side1 ?side2 A9.out).mono ?_); (case side1 => exact Z6); (case side2 => exact Z5); rintro e w22 ⟨rfl, hi, hb, hk⟩; have n0_ := Aside0.mk (KeepBut.trans Z4 hk (.inl rfl)); have n1_ := Aside0.mk (hb); have n2_ := Aside0.mk (hi); clear HK HB HI0; revert n0_ n1_ n2_; intro HK HB HI0; (try clear hb); (try clear hb2); (try clear hk); (try clear hi)) | (go_at_call 104; (with_reducible refine (spec_l1Cur_pick.calls g s0_0 t417 t418 (a2.size : Int) t419 t420 t421 w0 _ ?side1 ?side2 A10.out).mono ?_); (case side1 => exact Z6); (case side2 => exact Z5); rintro e w23 ⟨rfl, hi, hb, hk⟩; have n0_ := Aside0.mk (KeepBut.trans Z4 hk (.inl rfl)); have n1_ := Aside0.mk (hb); have n2_ := Aside0.mk (hi); clear HK HB HI0; revert n0_ n1_ n2_; intro HK HB HI0; (try clear hb); (try clear hb2); (try clear hk); (try clear hi); have p13 : 0 ≤ (t419 : Int) := Z2; have q13 : t419 < (a2.size : Int) := Z2; have hx13 := bt_at a2 t419; replace p13 := eq_true p13; replace q13 := eq_true q13) | ((with_reducible refine gate_dst (N := 32) rfl ?_); (try (refine gate_guard (by rfl) ?_; dsimp only)); refine Kd.R_lit (Kd.int .u8) _ 5 ?hg (N := 32) ?hd (xs := ([bt a2 t419] : List Int)) (inner := [.int .u8 (bt a2 t419)]) (ok := fun _ => True) (okp := fun _ => True) ?hr ?hp (fun _ hk => hk) trivial (Below.refl _ _) (Nat.le_refl _) (by simp) ?_; (case hd => rfl); (case hg => rfl); (case hr => exact Z13); (case hp => exact Z44); intro v423 w24 ho25 hb hg_ hnew_; clear hg_ hnew_; (first | rw [← Ny422.out] at ho25 | (simp only [Int.reduceToNat] at ho25; rw [← Ny422.out] at ho25)); have n0_ := Aside0.mk (Kd.R_lower ho25 (keep_size (w := w) (g := g) (row := none) Z4)); have n1_ := Aside0.mk (IsS80.below Z6 hb); have n2_ := Aside0.mk (KeepBut.trans Z4 (KeepBut.of_below hb g none) (.inl rfl)); have n3_ := Aside0.mk (below_step Z5 hb); clear HI0 HK HB; revert n0_ n1_ n2_ n3_; intro HO424 HI0 HK HB; clear hb ho25; have hcv26 := own_string (P := Tryz.prog) Tryz.underlying22 Tryz.underlying5 Tryz.underlying9 (Kd.own_of_R HO424.out)) | (go_at_call 104; (with_reducible refine (spec_l1Cur_pick.calls g s0_0 t420 t421 3 t425 t426 t427 w0 _ ?side1 ?side2 A14.out).mono ?_); (case side1 => exact Z6); (case side2 => exact Z5); rintro e w27 ⟨rfl, hi, hb, hk⟩; have n0_ := Aside0.mk (Kd.R_mono (Kd.R_keep (IsS80.apart (show IsS80 w0 _ g s0_0 t420 t421 from by repeat (first | (with_reducible first | exact HI0.out | apply IsS80.alloc | apply IsS80.drewN | apply IsS80.drew | apply IsS80.set_1 | apply IsS80.set_2) | exact HI0.out)) Z45 (by decide)) hk (fun _ h => h.2)) (fun _ h => h.1)); have n1_ := Aside0.mk (KeepBut.trans Z4 hk (.inl rfl)); have n2_ := Aside0.mk (hb); have n3_ := Aside0.mk (hi); clear HO424 HK HB HI0; revert n0_ n1_ n2_ n3_; intro HO424 HK HB HI0; (try clear hb); (try clear hb2); (try clear hk); (try clear hi)))
             repeat (go_quiet (first | (go_at_call 104; (with_reducible refine (spec_l1Cur_pick.calls g s0_0 x1001_1 x1002_1 (x1_1.size : Int) t416 t417 t418 w0 _ ?side1 ?side2 A9.out).mono ?_); (case side1 => exact Z6); (case side2 => exact Z5); rintro e w22 ⟨rfl, hi, hb, hk⟩; have n0_ := Aside0.mk (KeepBut.trans Z4 hk (.inl rfl)); have n1_ := Aside0.mk (hb); have n2_ := Aside0.mk (hi); clear HK HB HI0; revert n0_ n1_ n2_; intro HK HB HI0; (try clear hb); (try clear hb2); (try clear hk); (try clear hi)) | (go_at_call 104; (with_reducible refine (spec_l1Cur_pick.calls g s0_0 t417 t418 (a2.size : Int) t419 t420 t421 w0 _ ?side1 ?side2 A10.out).mono ?_); (case side1 => exact Z6); (case side2 => exact Z5); rintro e w23 ⟨rfl, hi, hb, hk⟩; have n0_ := Aside0.mk (KeepBut.trans Z4 hk (.inl rfl)); have n1_ := Aside0.mk (hb); have n2_ := Aside0.mk (hi); clear HK HB HI0; revert n0_ n1_ n2_; intro HK HB HI0; (try clear hb); (try clear hb2); (try clear hk); (try clear hi); have p13 : 0 ≤ (t419 : Int) := Z2; have q13 : t419 < (a2.size : Int) := Z2; have hx13 := bt_at a2 t419; replace p13 := eq_true p13; replace q13 := eq_true q13) | ((with_reducible refine gate_dst (N := 32) rfl ?_); (try (refine gate_guard (by rfl) ?_; dsimp only)); refine Kd.R_lit (Kd.int .u8) _ 5 ?hg (N := 32) ?hd (xs := ([bt a2 t419] : List Int)) (inner := [.int .u8 (bt a2 t419)]) (ok := fun _ => True) (okp := fun _ => True) ?hr ?hp (fun _ hk => hk) trivial (Below.refl _ _) (Nat.le_refl _) (by simp) ?_; (case hd => rfl); (case hg => rfl); (case hr => exact Z13); (case hp => exact Z44); intro v423 w24 ho25 hb hg_ hnew_; clear hg_ hnew_; (first | rw [← Ny422.out] at ho25 | (simp only [Int.reduceToNat] at ho25; rw [← Ny422.out] at ho25)); have n0_ := Aside0.mk (Kd.R_lower ho25 (keep_size (w := w) (g := g) (row := none) Z4)); have n1_ := Aside0.mk (IsS80.below Z6 hb); have n2_ := Aside0.mk (KeepBut.trans Z4 (KeepBut.of_below hb g none) (.inl rfl)); have n3_ := Aside0.mk (below_step Z5 hb); clear HI0 HK HB; revert n0_ n1_ n2_ n3_; intro HO424 HI0 HK HB; clear hb ho25; have hcv26 := own_string (P := Tryz.prog) Tryz.underlying22 Tryz.underlying5 Tryz.underlying9 (Kd.own_of_R HO424.out)) | (go_at_call 104; (with_reducible refine (spec_l1Cur_pick.calls g s0_0 t420 t421 3 t425 t426 t427 w0 _ ?side1 ?side2 A14.out).mono ?_); (case side1 => exact Z6); (case side2 => exact Z5); rintro e w27 ⟨rfl, hi, hb, hk⟩; have n0_ := Aside0.mk (Kd.R_mono (Kd.R_keep (IsS80.apart (show IsS80 w0 _ g s0_0 t420 t421 from by repeat (first | (with_reducible first | exact HI0.out | apply IsS80.alloc | apply IsS80.drewN | apply IsS80.drew | apply IsS80.set_1 | apply IsS80.set_2) | exact HI0.out)) Z45 (by decide)) hk (fun _ h => h.2)) (fun _ h => h.1)); have n1_ := Aside0.mk (KeepBut.trans Z4 hk (.inl rfl)); have n2_ := Aside0.mk (hb); have n3_ := Aside0.mk (hi); clear HO424 HK HB HI0; revert n0_ n1_ n2_ n3_; intro HO424 HK HB HI0; (try clear hb); (try clear hb2); (try clear hk); (try clear hi))); try go_wp2_with (first | (go_at_call 104; (with_reducible refine (spec_l1Cur_pick.calls g s0_0 x1001_1 x1002_1 (x1_1.size : Int) t416 t417 t418 w0 _ ?side1 ?side2 A9.out).mono ?_); (case side1 => exact Z6); (case side2 => exact Z5); rintro e w22 ⟨rfl, hi, hb, hk⟩; have n0_ := Aside0.mk (KeepBut.trans Z4 hk (.inl rfl)); have n1_ := Aside0.mk (hb); have n2_ := Aside0.mk (hi); clear HK HB HI0; revert n0_ n1_ n2_; intro HK HB HI0; (try clear hb); (try clear hb2); (try clear hk); (try clear hi)) | (go_at_call 104; (with_reducible refine (spec_l1Cur_pick.calls g s0_0 t417 t418 (a2.size : Int) t419 t420 t421 w0 _ ?side1 ?side2 A10.out).mono ?_); (case side1 => exact Z6); (case side2 => exact Z5); rintro e w23 ⟨rfl, hi, hb, hk⟩; have n0_ := Aside0.mk (KeepBut.trans Z4 hk (.inl rfl)); have n1_ := Aside0.mk (hb); have n2_ := Aside0.mk (hi); clear HK HB HI0; revert n0_ n1_ n2_; intro HK HB HI0; (try clear hb); (try clear hb2); (try clear hk); (try clear hi); have p13 : 0 ≤ (t419 : Int) := Z2; have q13 : t419 < (a2.size : Int) := Z2; have hx13 := bt_at a2 t419; replace p13 := eq_true p13; replace q13 := eq_true q13) | ((with_reducible refine gate_dst (N := 32) rfl ?_); (try (refine gate_guard (by rfl) ?_; dsimp only)); refine Kd.R_lit (Kd.int .u8) _ 5 ?hg (N := 32) ?hd (xs := ([bt a2 t419] : List Int)) (inner := [.int .u8 (bt a2 t419)]) (ok := fun _ => True) (okp := fun _ => True) ?hr ?hp (fun _ hk => hk) trivial (Below.refl _ _) (Nat.le_refl _) (by simp) ?_; (case hd => rfl); (case hg => rfl); (case hr => exact Z13); (case hp => exact Z44); intro v423 w24 ho25 hb hg_ hnew_; clear hg_ hnew_; (first | rw [← Ny422.out] at ho25 | (simp only [Int.reduceToNat] at ho25; rw [← Ny422.out] at ho25)); have n0_ := Aside0.mk (Kd.R_lower ho25 (keep_size (w := w) (g := g) (row := none) Z4)); have n1_ := Aside0.mk (IsS80.below Z6 hb); have n2_ := Aside0.mk (KeepBut.trans Z4 (KeepBut.of_below hb g none) (.inl rfl)); have n3_ := Aside0.mk (below_step Z5 hb); clear HI0 HK HB; revert n0_ n1_ n2_ n3_; intro HO424 HI0 HK HB; clear hb ho25; have hcv26 := own_string (P := Tryz.prog) Tryz.underlying22 Tryz.underlying5 Tryz.underlying9 (Kd.own_of_R HO424.out)) | (go_at_call 104; (with_reducible refine (spec_l1Cur_pick.calls g s0_0 t420 t421 3 t425 t426 t427 w0 _ ?side1 ?side2 A14.out).mono ?_); (case side1 => exact Z6); (case side2 => exact Z5); rintro e w27 ⟨rfl, hi, hb, hk⟩; have n0_ := Aside0.mk (Kd.R_mono (Kd.R_keep (IsS80.apart (show IsS80 w0 _ g s0_0 t420 t421 from by repeat (first | (with_reducible first | exact HI0.out | apply IsS80.alloc | apply IsS80.drewN | apply IsS80.drew | apply IsS80.set_1 | apply IsS80.set_2) | exact HI0.out)) Z45 (by decide)) hk (fun _ h => h.2)) (fun _ h => h.1)); have n1_ := Aside0.mk (KeepBut.trans Z4 hk (.inl rfl)); have n2_ := Aside0.mk (hb); have n3_ := Aside0.mk (hi); clear HO424 HK HB HI0; revert n0_ n1_ n2_ n3_; intro HO424 HK HB HI0; (try clear hb); (try clear hb2); (try clear hk); (try clear hi))))
             go_roundg kj5
             case measure => have := HK1.out; have := HJ5.out; omega
             case rel => exact ⟨(((x1_1.extract 0 (t416 : Int).toNat) ++ (strOfNums y422)) ++ (x1_1.extract (t416 : Int).toNat x1_1.size)), (wrap64 (x7_1 - 1)), (t426), (t427), Z3, Z3, H', ⟨by have := HK1.out; have := HJ5.out; omega⟩, ⟨by repeat (first | (with_reducible first | exact HI0.out | apply IsS80.alloc | apply IsS80.drewN | apply IsS80.drew | apply IsS80.set_1 | apply IsS80.set_2) | exact HI0.out)⟩, ⟨by repeat (first | (with_reducible first | exact HK.out | apply KeepBut.set_ | apply keep_drewN | apply keep_drew | apply keep_alloc) | exact HK.out)⟩, ⟨by repeat (first | (with_reducible first | exact HB.out | apply below_alloc | apply pw_below_drewN | apply below_drew1 | refine below_set ?_ (IsS80.ge HI0.out)) | exact HB.out)⟩⟩
            ·
             rw [if_neg c21] at H
             exact absurd H (by simp)
           ·
            rw [if_neg c18] at H
            exact absurd H (by simp)
          ·
           rw [if_neg c17] at H
           exact absurd H (by simp)
         ·
          rw [if_neg c16] at H
          exact absurd H (by simp)
        ·
         rw [if_neg c15] at H
         have c15b0 : (t425 == 0) = false := beq_eq_false_iff_ne.mpr c15
         have c15b1 : (t425 != 0) = true := bne_iff_ne.mpr c15
         by_cases c28 : t425 = 1
         ·
          rw [if_pos c28] at H
          have c28b0 : (t425 == 1) = true := beq_iff_eq.mpr c28
          have c28b1 : (t425 != 1) = false := bne_eq_false_iff_eq.mpr c28
          clear c28
          by_cases c29 : 0 ≤ t416
          ·
           rw [if_pos c29] at H
           have c29b0 := eq_true c29
           have c29b1 : decide (0 ≤ t416) = true := decide_eq_true c29
           clear c29
           by_cases c30 : t416 ≤ (x1_1.size : Int)
           ·
            rw [if_pos c30] at H
            have c30b0 := eq_true c30
            have c30b1 : decide (t416 ≤ (x1_1.size : Int)) = true := decide_eq_true c30
            clear c30
            by_cases c31 : (x1_1.extract 0 (t416 : Int).toNat).size + (strOfNums y422).size ≤ 9223372036854775807
            ·
             rw [if_pos c31] at H
             have c31b0 := eq_true c31
             have c31b1 : decide ((x1_1.extract 0 (t416 : Int).toNat).size + (strOfNums y422).size ≤ 9223372036854775807) = true := decide_eq_true c31
             try have c31b2 : (9223372036854775807 < (x1_1.extract 0 (t416 : Int).toNat).size + (strOfNums y422).size) = False := eq_false (Nat.not_lt.2 c31)
             have c31b3 : ∀ z_ : Nat, z_ = (x1_1.extract 0 (t416 : Int).toNat).size + (strOfNums y422).size → (9223372036854775807 < z_) = False := fun z_ hz_ => by rw [hz_]; exact eq_false (Nat.not_lt.2 c31)
             obtain ⟨ji32, hji32⟩ : ∃ j_ : Int, (wrap64 (t416 + 1)) = j_ := ⟨_, rfl⟩
             replace H : (if 0 ≤ (ji32) then (if (ji32) ≤ (x1_1.size : Int) then (if ((x1_1.extract 0 (t416 : Int).toNat) ++ (strOfNums y422)).size + (x1_1.extract ((ji32) : Int).toNat x1_1.size).size ≤ 9223372036854775807 then (spec_l1Cur_spoilt.l0 kj5 (((x1_1.extract 0 (t416 : Int).toNat) ++ (strOfNums y422)) ++ (x1_1.extract ((ji32) : Int).toNat x1_1.size)) a2 (wrap64 (x7_1 - 1)) s0_0 t426 t427) else (none)) else (none)) else (none)) = some (r1, r2, r3) := by first | (rw [hji32] at H; exact H) | (simp only [hji32] at H ⊢; exact H)
             (try rw [hji32] at A9)
             (try rw [hji32] at A10)
             (try rw [hji32] at A14)
             have hji32w : (IntKind.i64.wrap (t416 + 1)) = ji32 := (i64_w _).trans hji32
             by_cases c33 : 0 ≤ (ji32)
             ·
              rw [if_pos c33] at H
              have c33b0 := eq_true c33
              have c33b1 : decide (0 ≤ (ji32)) = true := decide_eq_true c33
              clear c33
              by_cases c34 : (ji32) ≤ (x1_1.size : Int)
              ·
               rw [if_pos c34] at H
               have c34b0 := eq_true c34
               have c34b1 : decide ((ji32) ≤ (x1_1.size : Int)) = true := decide_eq_true c34
               clear c34
               by_cases c35 : ((x1_1.extract 0 (t416 : Int).toNat) ++ (strOfNums y422)).size + (x1_1.extract ((ji32) : Int).toNat x1_1.size).size ≤ 9223372036854775807
               ·
                rw [if_pos c35] at H
                have c35b0 := eq_true c35
                have c35b1 : decide (((x1_1.extract 0 (t416 : Int).toNat) ++ (strOfNums y422)).size + (x1_1.extract ((ji32) : Int).toNat x1_1.size).size ≤ 9223372036854775807) = true := decide_eq_true c35
                try have c35b2 : (9223372036854775807 < ((x1_1.extract 0 (t416 : Int).toNat) ++ (strOfNums y422)).size + (x1_1.extract ((ji32) : Int).toNat x1_1.size).size) = False := eq_false (Nat.not_lt.2 c35)
                have c35b3 : ∀ z_ : Nat, z_ = ((x1_1.extract 0 (t416 : Int).toNat) ++ (strOfNums y422)).size + (x1_1.extract ((ji32) : Int).toNat x1_1.size).size → (9223372036854775807 < z_) = False := fun z_ hz_ => by rw [hz_]; exact eq_false (Nat.not_lt.2 c35)
                have H' := Aside0.mk H
                clear H
                go_wp2_with (first | (go_at_call 104; (with_reducible refine (spec_l1Cur_pick.calls g s0_0 x1001_1 x1002_1 (x1_1.size : Int) t416 t417 t418 w0 _ ?side1 ?side2 A9.out).mono ?_); (case side1 => exact Z6); (case side2 => exact Z5); rintro e w36 ⟨rfl, hi, hb, hk⟩; have n0_ := Aside0.mk (KeepBut.trans Z4 hk (.inl rfl)); have n1_ := Aside0.mk (hb); have n2_ := Aside0.mk (hi); clear HK HB HI0; revert n0_ n1_ n2_; intro HK HB HI0; (try clear hb); (try clear hb2); (try clear hk); (try clear hi)) | (go_at_call 104; (with_reducible refine (spec_l1Cur_pick.calls g s0_0 t417 t418 (a2.size : Int) t419 t420 t421 w0 _ ?side1 ?side2 A10.out).mono ?_); (case side1 => exact Z6); (case side2 => exact Z5); rintro e w37 ⟨rfl, hi, hb, hk⟩; have n0_ := Aside0.mk (KeepBut.trans Z4 hk (.inl rfl)); have n1_ := Aside0.mk (hb); have n2_ := Aside0.mk (hi); clear HK HB HI0; revert n0_ n1_ n2_; intro HK HB HI0; (try clear hb); (try clear hb2); (try clear hk); (try clear hi); have p13 : 0 ≤ (t419 : Int) := Z2; have q13 : t419 < (a2.size : Int) := Z2; have hx13 := bt_at a2 t419; replace p13 := eq_true p13; replace q13 := eq_true q13) | ((with_reducible refine gate_dst (N := 32) rfl ?_); (try (refine gate_guard (by rfl) ?_; dsimp only)); refine Kd.R_lit (Kd.int .u8) _ 5 ?hg (N := 32) ?hd (xs := ([bt a2 t419] : List Int)) (inner := [.int .u8 (bt a2 t419)]) (ok := fun _ => True) (okp := fun _ => True) ?hr ?hp (fun _ hk => hk) trivial (Below.refl _ _) (Nat.le_refl _) (by simp) ?_; (case hd => rfl); (case hg => rfl); (case hr => exact Z13); (case hp => exact Z44); intro v423 w38 ho39 hb hg_ hnew_; clear hg_ hnew_; (first | rw [← Ny422.out] at ho39 | (simp only [Int.reduceToNat] at ho39; rw [← Ny422.out] at ho39)); have n0_ := Aside0.mk (Kd.R_lower ho39 (keep_size (w := w) (g := g) (row := none) Z4)); have n1_ := Aside0.mk (IsS80.below Z6 hb); have n2_ := Aside0.mk (KeepBut.trans Z4 (KeepBut.of_below hb g none) (.inl rfl)); have n3_ := Aside0.mk (below_step Z5 hb); clear HI0 HK HB; revert n0_ n1_ n2_ n3_; intro HO424 HI0 HK HB; clear hb ho39; have hcv40 := own_string (P := Tryz.prog) Tryz.underlying22 Tryz.underlying5 Tryz.underlying9 (Kd.own_of_R HO424.out)) | (go_at_call 104; (with_reducible refine (spec_l1Cur_pick.calls g s0_0 t420 t421 3 t425 t426 t427 w0 _ ?side1 ?side2 A14.out).mono ?_); (case side1 => exact Z6); (case side2 => exact Z5); rintro e w41 ⟨rfl, hi, hb, hk⟩; have n0_ := Aside0.mk (Kd.R_mono (Kd.R_keep (IsS80.apart (show IsS80 w0 _ g s0_0 t420 t421 from by repeat (first | (with_reducible first | exact HI0.out | apply IsS80.alloc | apply IsS80.drewN | apply IsS80.drew | apply IsS80.set_1 | apply IsS80.set_2) | exact HI0.out)) Z45 (by decide)) hk (fun _ h => h.2)) (fun _ h => h.1)); have n1_ := Aside0.mk (KeepBut.trans Z4 hk (.inl rfl)); have n2_ := Aside0.mk (hb); have n3_ := Aside0.mk (hi); clear HO424 HK HB HI0; revert n0_ n1_ n2_ n3_; intro HO424 HK HB HI0; (try clear hb); (try clear hb2); (try clear hk); (try clear hi)))
                repeat (go_quiet (first | (go_at_call 104; (with_reducible refine (spec_l1Cur_pick.calls g s0_0 x1001_1 x1002_1 (x1_1.size : Int) t416 t417 t418 w0 _ ?side1 ?side2 A9.out).mono ?_); (case side1 => exact Z6); (case side2 => exact Z5); rintro e w36 ⟨rfl, hi, hb, hk⟩; have n0_ := Aside0.mk (KeepBut.trans Z4 hk (.inl rfl)); have n1_ := Aside0.mk (hb); have n2_ := Aside0.mk (hi); clear HK HB HI0; revert n0_ n1_ n2_; intro HK HB HI0; (try clear hb); (try clear hb2); (try clear hk); (try clear hi)) | (go_at_call 104; (with_reducible refine (spec_l1Cur_pick.calls g s0_0 t417 t418 (a2.size : Int) t419 t420 t421 w0 _ ?side1 ?side2 A10.out).mono ?_); (case side1 => exact Z6); (case side2 => exact Z5); rintro e w37 ⟨rfl, hi, hb, hk⟩; have n0_ := Aside0.mk (KeepBut.trans Z4 hk (.inl rfl)); have n1_ := Aside0.mk (hb); have n2_ := Aside0.mk (hi); clear HK HB HI0; revert n0_ n1_ n2_; intro HK HB HI0; (try clear hb); (try clear hb2); (try clear hk); (try clear hi); have p13 : 0 ≤ (t419 : Int) := Z2; have q13 : t419 < (a2.size : Int) := Z2; have hx13 := bt_at a2 t419; replace p13 := eq_true p13; replace q13 := eq_true q13) | ((with_reducible refine gate_dst (N := 32) rfl ?_); (try (refine gate_guard (by rfl) ?_; dsimp only)); refine Kd.R_lit (Kd.int .u8) _ 5 ?hg (N := 32) ?hd (xs := ([bt a2 t419] : List Int)) (inner := [.int .u8 (bt a2 t419)]) (ok := fun _ => True) (okp := fun _ => True) ?hr ?hp (fun _ hk => hk) trivial (Below.refl _ _) (Nat.le_refl _) (by simp) ?_; (case hd => rfl); (case hg => rfl); (case hr => exact Z13); (case hp => exact Z44); intro v423 w38 ho39 hb hg_ hnew_; clear hg_ hnew_; (first | rw [← Ny422.out] at ho39 | (simp only [Int.reduceToNat] at ho39; rw [← Ny422.out] at ho39)); have n0_ := Aside0.mk (Kd.R_lower ho39 (keep_size (w := w) (g := g) (row := none) Z4)); have n1_ := Aside0.mk (IsS80.below Z6 hb); have n2_ := Aside0.mk (KeepBut.trans Z4 (KeepBut.of_below hb g none) (.inl rfl)); have n3_ := Aside0.mk (below_step Z5 hb); clear HI0 HK HB; revert n0_ n1_ n2_ n3_; intro HO424 HI0 HK HB; clear hb ho39; have hcv40 := own_string (P := Tryz.prog) Tryz.underlying22 Tryz.underlying5 Tryz.underlying9 (Kd.own_of_R HO424.out)) | (go_at_call 104; (with_reducible refine (spec_l1Cur_pick.calls g s0_0 t420 t421 3 t425 t426 t427 w0 _ ?side1 ?side2 A14.out).mono ?_); (case side1 => exact Z6); (case side2 => exact Z5); rintro e w41 ⟨rfl, hi, hb, hk⟩; have n0_ := Aside0.mk (Kd.R_mono (Kd.R_keep (IsS80.apart (show IsS80 w0 _ g s0_0 t420 t421 from by repeat (first | (with_reducible first | exact HI0.out | apply IsS80.alloc | apply IsS80.drewN | apply IsS80.drew | apply IsS80.set_1 | apply IsS80.set_2) | exact HI0.out)) Z45 (by decide)) hk (fun _ h => h.2)) (fun _ h => h.1)); have n1_ := Aside0.mk (KeepBut.trans Z4 hk (.inl rfl)); have n2_ := Aside0.mk (hb); have n3_ := Aside0.mk (hi); clear HO424 HK HB HI0; revert n0_ n1_ n2_ n3_; intro HO424 HK HB HI0; (try clear hb); (try clear hb2); (try clear hk); (try clear hi))); try go_wp2_with (first | (go_at_call 104; (with_reducible refine (spec_l1Cur_pick.calls g s0_0 x1001_1 x1002_1 (x1_1.size : Int) t416 t417 t418 w0 _ ?side1 ?side2 A9.out).mono ?_); (case side1 => exact Z6); (case side2 => exact Z5); rintro e w36 ⟨rfl, hi, hb, hk⟩; have n0_ := Aside0.mk (KeepBut.trans Z4 hk (.inl rfl)); have n1_ := Aside0.mk (hb); have n2_ := Aside0.mk (hi); clear HK HB HI0; revert n0_ n1_ n2_; intro HK HB HI0; (try clear hb); (try clear hb2); (try clear hk); (try clear hi)) | (go_at_call 104; (with_reducible refine (spec_l1Cur_pick.calls g s0_0 t417 t418 (a2.size : Int) t419 t420 t421 w0 _ ?side1 ?side2 A10.out).mono ?_); (case side1 => exact Z6); (case side2 => exact Z5); rintro e w37 ⟨rfl, hi, hb, hk⟩; have n0_ := Aside0.mk (KeepBut.trans Z4 hk (.inl rfl)); have n1_ := Aside0.mk (hb); have n2_ := Aside0.mk (hi); clear HK HB HI0; revert n0_ n1_ n2_; intro HK HB HI0; (try clear hb); (try clear hb2); (try clear hk); (try clear hi); have p13 : 0 ≤ (t419 : Int) := Z2; have q13 : t419 < (a2.size : Int) := Z2; have hx13 := bt_at a2 t419; replace p13 := eq_true p13; replace q13 := eq_true q13) | ((with_reducible refine gate_dst (N := 32) rfl ?_); (try (refine gate_guard (by rfl) ?_; dsimp only)); refine Kd.R_lit (Kd.int .u8) _ 5 ?hg (N := 32) ?hd (xs := ([bt a2 t419] : List Int)) (inner := [.int .u8 (bt a2 t419)]) (ok := fun _ => True) (okp := fun _ => True) ?hr ?hp (fun _ hk => hk) trivial (Below.refl _ _) (Nat.le_refl _) (by simp) ?_; (case hd => rfl); (case hg => rfl); (case hr => exact Z13); (case hp => exact Z44); intro v423 w38 ho39 hb hg_ hnew_; clear hg_ hnew_; (first | rw [← Ny422.out] at ho39 | (simp only [Int.reduceToNat] at ho39; rw [← Ny422.out] at ho39)); have n0_ := Aside0.mk (Kd.R_lower ho39 (keep_size (w := w) (g := g) (row := none) Z4)); have n1_ := Aside0.mk (IsS80.below Z6 hb); have n2_ := Aside0.mk (KeepBut.trans Z4 (KeepBut.of_below hb g none) (.inl rfl)); have n3_ := Aside0.mk (below_step Z5 hb); clear HI0 HK HB; revert n0_ n1_ n2_ n3_; intro HO424 HI0 HK HB; clear hb ho39; have hcv40 := own_string (P := Tryz.prog) Tryz.underlying22 Tryz.underlying5 Tryz.underlying9 (Kd.own_of_R HO424.out)) | (go_at_call 104; (with_reducible refine (spec_l1Cur_pick.calls g s0_0 t420 t421 3 t425 t426 t427 w0 _ ?side1 ?side2 A14.out).mono ?_); (case side1 => exact Z6); (case side2 => exact Z5); rintro e w41 ⟨rfl, hi, hb, hk⟩; have n0_ := Aside0.mk (Kd.R_mono (Kd.R_keep (IsS80.apart (show IsS80 w0 _ g s0_0 t420 t421 from by repeat (first | (with_reducible first | exact HI0.out | apply IsS80.alloc | apply IsS80.drewN | apply IsS80.drew | apply IsS80.set_1 | apply IsS80.set_2) | exact HI0.out)) Z45 (by decide)) hk (fun _ h => h.2)) (fun _ h => h.1)); have n1_ := Aside0.mk (KeepBut.trans Z4 hk (.inl rfl)); have n2_ := Aside0.mk (hb); have n3_ := Aside0.mk (hi); clear HO424 HK HB HI0; revert n0_ n1_ n2_ n3_; intro HO424 HK HB HI0; (try clear hb); (try clear hb2); (try clear hk); (try clear hi))))
                go_roundg kj5
                case measure => have := HK1.out; have := HJ5.out; omega
                case rel => exact ⟨(((x1_1.extract 0 (t416 : Int).toNat) ++ (strOfNums y422)) ++ (x1_1.extract ((ji32) : Int).toNat x1_1.size)), (wrap64 (x7_1 - 1)), (t426), (t427), (by first | rfl | (simp; done) | (simp only [← hji32] <;> (first | rfl | simp)) | (simp only [Go.IntWalk.i64_left]; done) | (simp [*]; done) | (simp; omega)), Z3, H', ⟨by have := HK1.out; have := HJ5.out; omega⟩, ⟨by repeat (first | (with_reducible first | exact HI0.out | apply IsS80.alloc | apply IsS80.drewN | apply IsS80.drew | apply IsS80.set_1 | apply IsS80.set_2) | exact HI0.out)⟩, ⟨by repeat (first | (with_reducible first | exact HK.out | apply KeepBut.set_ | apply keep_drewN | apply keep_drew | apply keep_alloc) | exact HK.out)⟩, ⟨by repeat (first | (with_reducible first | exact HB.out | apply below_alloc | apply pw_below_drewN | apply below_drew1 | refine below_set ?_ (IsS80.ge HI0.out)) | exact HB.out)⟩⟩
               ·
                rw [if_neg c35] at H
                exact absurd H (by simp)
              ·
               rw [if_neg c34] at H
               exact absurd H (by simp)
             ·
              rw [if_neg c33] at H
              exact absurd H (by simp)
            ·
             rw [if_neg c31] at H
             exact absurd H (by simp)
           ·
            rw [if_neg c30] at H
            exact absurd H (by simp)
          ·
           rw [if_neg c29] at H
           exact absurd H (by simp)
         ·
          rw [if_neg c28] at H
          have c28b0 : (t425 == 1) = false := beq_eq_false_iff_ne.mpr c28
          have c28b1 : (t425 != 1) = true := bne_iff_ne.mpr c28
          by_cases c42 : 0 ≤ t416
          ·
           rw [if_pos c42] at H
           have c42b0 := eq_true c42
           have c42b1 : decide (0 ≤ t416) = true := decide_eq_true c42
           clear c42
           by_cases c43 : t416 ≤ (x1_1.size : Int)
           ·
            rw [if_pos c43] at H
            have c43b0 := eq_true c43
            have c43b1 : decide (t416 ≤ (x1_1.size : Int)) = true := decide_eq_true c43
            clear c43
            obtain ⟨ji44, hji44⟩ : ∃ j_ : Int, (wrap64 (t416 + 1)) = j_ := ⟨_, rfl⟩
            replace H : (if 0 ≤ (ji44) then (if (ji44) ≤ (x1_1.size : Int) then (if (x1_1.extract 0 (t416 : Int).toNat).size + (x1_1.extract ((ji44) : Int).toNat x1_1.size).size ≤ 9223372036854775807 then (spec_l1Cur_spoilt.l0 kj5 ((x1_1.extract 0 (t416 : Int).toNat) ++ (x1_1.extract ((ji44) : Int).toNat x1_1.size)) a2 (wrap64 (x7_1 - 1)) s0_0 t426 t427) else (none)) else (none)) else (none)) = some (r1, r2, r3) := by first | (rw [hji44] at H; exact H) | (simp only [hji44] at H ⊢; exact H)
            (try rw [hji44] at A9)
            (try rw [hji44] at A10)
            (try rw [hji44] at A14)
            have hji44w : (IntKind.i64.wrap (t416 + 1)) = ji44 := (i64_w _).trans hji44
            by_cases c45 : 0 ≤ (ji44)
            ·
             rw [if_pos c45] at H
             have c45b0 := eq_true c45
             have c45b1 : decide (0 ≤ (ji44)) = true := decide_eq_true c45
             clear c45
             by_cases c46 : (ji44) ≤ (x1_1.size : Int)
             ·
              rw [if_pos c46] at H
              have c46b0 := eq_true c46
              have c46b1 : decide ((ji44) ≤ (x1_1.size : Int)) = true := decide_eq_true c46
              clear c46
              by_cases c47 : (x1_1.extract 0 (t416 : Int).toNat).size + (x1_1.extract ((ji44) : Int).toNat x1_1.size).size ≤ 9223372036854775807
              ·
               rw [if_pos c47] at H
               have c47b0 := eq_true c47
               have c47b1 : decide ((x1_1.extract 0 (t416 : Int).toNat).size + (x1_1.extract ((ji44) : Int).toNat x1_1.size).size ≤ 9223372036854775807) = true := decide_eq_true c47
               try have c47b2 : (9223372036854775807 < (x1_1.extract 0 (t416 : Int).toNat).size + (x1_1.extract ((ji44) : Int).toNat x1_1.size).size) = False := eq_false (Nat.not_lt.2 c47)
               have c47b3 : ∀ z_ : Nat, z_ = (x1_1.extract 0 (t416 : Int).toNat).size + (x1_1.extract ((ji44) : Int).toNat x1_1.size).size → (9223372036854775807 < z_) = False := fun z_ hz_ => by rw [hz_]; exact eq_false (Nat.not_lt.2 c47)
               have H' := Aside0.mk H
               clear H
               go_wp2_with (first | (go_at_call 104; (with_reducible refine (spec_l1Cur_pick.calls g s0_0 x1001_1 x1002_1 (x1_1.size : Int) t416 t417 t418 w0 _ ?side1 ?side2 A9.out).mono ?_); (case side1 => exact Z6); (case side2 => exact Z5); rintro e w48 ⟨rfl, hi, hb, hk⟩; have n0_ := Aside0.mk (KeepBut.trans Z4 hk (.inl rfl)); have n1_ := Aside0.mk (hb); have n2_ := Aside0.mk (hi); clear HK HB HI0; revert n0_ n1_ n2_; intro HK HB HI0; (try clear hb); (try clear hb2); (try clear hk); (try clear hi)) | (go_at_call 104; (with_reducible refine (spec_l1Cur_pick.calls g s0_0 t417 t418 (a2.size : Int) t419 t420 t421 w0 _ ?side1 ?side2 A10.out).mono ?_); (case side1 => exact Z6); (case side2 => exact Z5); rintro e w49 ⟨rfl, hi, hb, hk⟩; have n0_ := Aside0.mk (KeepBut.trans Z4 hk (.inl rfl)); have n1_ := Aside0.mk (hb); have n2_ := Aside0.mk (hi); clear HK HB HI0; revert n0_ n1_ n2_; intro HK HB HI0; (try clear hb); (try clear hb2); (try clear hk); (try clear hi); have p13 : 0 ≤ (t419 : Int) := Z2; have q13 : t419 < (a2.size : Int) := Z2; have hx13 := bt_at a2 t419; replace p13 := eq_true p13; replace q13 := eq_true q13) | ((with_reducible refine gate_dst (N := 32) rfl ?_); (try (refine gate_guard (by rfl) ?_; dsimp only)); refine Kd.R_lit (Kd.int .u8) _ 5 ?hg (N := 32) ?hd (xs := ([bt a2 t419] : List Int)) (inner := [.int .u8 (bt a2 t419)]) (ok := fun _ => True) (okp := fun _ => True) ?hr ?hp (fun _ hk => hk) trivial (Below.refl _ _) (Nat.le_refl _) (by simp) ?_; (case hd => rfl); (case hg => rfl); (case hr => exact Z13); (case hp => exact Z44); intro v423 w50 ho51 hb hg_ hnew_; clear hg_ hnew_; (first | rw [← Ny422.out] at ho51 | (simp only [Int.reduceToNat] at ho51; rw [← Ny422.out] at ho51)); have n0_ := Aside0.mk (Kd.R_lower ho51 (keep_size (w := w) (g := g) (row := none) Z4)); have n1_ := Aside0.mk (IsS80.below Z6 hb); have n2_ := Aside0.mk (KeepBut.trans Z4 (KeepBut.of_below hb g none) (.inl rfl)); have n3_ := Aside0.mk (below_step Z5 hb); clear HI0 HK HB; revert n0_ n1_ n2_ n3_; intro HO424 HI0 HK HB; clear hb ho51; have hcv52 := own_string (P := Tryz.prog) Tryz.underlying22 Tryz.underlying5 Tryz.underlying9 (Kd.own_of_R HO424.out)) | (go_at_call 104; (with_reducible refine (spec_l1Cur_pick.calls g s0_0 t420 t421 3 t425 t426 t427 w0 _ ?side1 ?side2 A14.out).mono ?_); (case side1 => exact Z6); (case side2 => exact Z5); rintro e w53 ⟨rfl, hi, hb, hk⟩; have n0_ := Aside0.mk (Kd.R_mono (Kd.R_keep (IsS80.apart (show IsS80 w0 _ g s0_0 t420 t421 from by repeat (first | (with_reducible first | exact HI0.out | apply IsS80.alloc | apply IsS80.drewN | apply IsS80.drew | apply IsS80.set_1 | apply IsS80.set_2) | exact HI0.out)) Z45 (by decide)) hk (fun _ h => h.2)) (fun _ h => h.1)); have n1_ := Aside0.mk (KeepBut.trans Z4 hk (.inl rfl)); have n2_ := Aside0.mk (hb); have n3_ := Aside0.mk (hi); clear HO424 HK HB HI0; revert n0_ n1_ n2_ n3_; intro HO424 HK HB HI0; (try clear hb); (try clear hb2); (try clear hk); (try clear hi)))
               repeat (go_quiet (first | (go_at_call 104; (with_reducible refine (spec_l1Cur_pick.calls g s0_0 x1001_1 x1002_1 (x1_1.size : Int) t416 t417 t418 w0 _ ?side1 ?side2 A9.out).mono ?_); (case side1 => exact Z6); (case side2 => exact Z5); rintro e w48 ⟨rfl, hi, hb, hk⟩; have n0_ := Aside0.mk (KeepBut.trans Z4 hk (.inl rfl)); have n1_ := Aside0.mk (hb); have n2_ := Aside0.mk (hi); clear HK HB HI0; revert n0_ n1_ n2_; intro HK HB HI0; (try clear hb); (try clear hb2); (try clear hk); (try clear hi)) | (go_at_call 104; (with_reducible refine (spec_l1Cur_pick.calls g s0_0 t417 t418 (a2.size : Int) t419 t420 t421 w0 _ ?side1 ?side2 A10.out).mono ?_); (case side1 => exact Z6); (case side2 => exact Z5); rintro e w49 ⟨rfl, hi, hb, hk⟩; have n0_ := Aside0.mk (KeepBut.trans Z4 hk (.inl rfl)); have n1_ := Aside0.mk (hb); have n2_ := Aside0.mk (hi); clear HK HB HI0; revert n0_ n1_ n2_; intro HK HB HI0; (try clear hb); (try clear hb2); (try clear hk); (try clear hi); have p13 : 0 ≤ (t419 : Int) := Z2; have q13 : t419 < (a2.size : Int) := Z2; have hx13 := bt_at a2 t419; replace p13 := eq_true p13; replace q13 := eq_true q13) | ((with_reducible refine gate_dst (N := 32) rfl ?_); (try (refine gate_guard (by rfl) ?_; dsimp only)); refine Kd.R_lit (Kd.int .u8) _ 5 ?hg (N := 32) ?hd (xs := ([bt a2 t419] : List Int)) (inner := [.int .u8 (bt a2 t419)]) (ok := fun _ => True) (okp := fun _ => True) ?hr ?hp (fun _ hk => hk) trivial (Below.refl _ _) (Nat.le_refl _) (by simp) ?_; (case hd => rfl); (case hg => rfl); (case hr => exact Z13); (case hp => exact Z44); intro v423 w50 ho51 hb hg_ hnew_; clear hg_ hnew_; (first | rw [← Ny422.out] at ho51 | (simp only [Int.reduceToNat] at ho51; rw [← Ny422.out] at ho51)); have n0_ := Aside0.mk (Kd.R_lower ho51 (keep_size (w := w) (g := g) (row := none) Z4)); have n1_ := Aside0.mk (IsS80.below Z6 hb); have n2_ := Aside0.mk (KeepBut.trans Z4 (KeepBut.of_below hb g none) (.inl rfl)); have n3_ := Aside0.mk (below_step Z5 hb); clear HI0 HK HB; revert n0_ n1_ n2_ n3_; intro HO424 HI0 HK HB; clear hb ho51; have hcv52 := own_string (P := Tryz.prog) Tryz.underlying22 Tryz.underlying5 Tryz.underlying9 (Kd.own_of_R HO424.out)) | (go_at_call 104; (with_reducible refine (spec_l1Cur_pick.calls g s0_0 t420 t421 3 t425 t426 t427 w0 _ ?side1 ?side2 A14.out).mono ?_); (case side1 => exact Z6); (case side2 => exact Z5); rintro e w53 ⟨rfl, hi, hb, hk⟩; have n0_ := Aside0.mk (Kd.R_mono (Kd.R_keep (IsS80.apart (show IsS80 w0 _ g s0_0 t420 t421 from by repeat (first | (with_reducible first | exact HI0.out | apply IsS80.alloc | apply IsS80.drewN | apply IsS80.drew | apply IsS80.set_1 | apply IsS80.set_2) | exact HI0.out)) Z45 (by decide)) hk (fun _ h => h.2)) (fun _ h => h.1)); have n1_ := Aside0.mk (KeepBut.trans Z4 hk (.inl rfl)); have n2_ := Aside0.mk (hb); have n3_ := Aside0.mk (hi); clear HO424 HK HB HI0; revert n0_ n1_ n2_ n3_; intro HO424 HK HB HI0; (try clear hb); (try clear hb2); (try clear hk); (try clear hi))); try go_wp2_with (first | (go_at_call 104; (with_reducible refine (spec_l1Cur_pick.calls g s0_0 x1001_1 x1002_1 (x1_1.size : Int) t416 t417 t418 w0 _ ?side1 ?side2 A9.out).mono ?_); (case side1 => exact Z6); (case side2 => exact Z5); rintro e w48 ⟨rfl, hi, hb, hk⟩; have n0_ := Aside0.mk (KeepBut.trans Z4 hk (.inl rfl)); have n1_ := Aside0.mk (hb); have n2_ := Aside0.mk (hi); clear HK HB HI0; revert n0_ n1_ n2_; intro HK HB HI0; (try clear hb); (try clear hb2); (try clear hk); (try clear hi)) | (go_at_call 104; (with_reducible refine (spec_l1Cur_pick.calls g s0_0 t417 t418 (a2.size : Int) t419 t420 t421 w0 _ ?side1 ?side2 A10.out).mono ?_); (case side1 => exact Z6); (case side2 => exact Z5); rintro e w49 ⟨rfl, hi, hb, hk⟩; have n0_ := Aside0.mk (KeepBut.trans Z4 hk (.inl rfl)); have n1_ := Aside0.mk (hb); have n2_ := Aside0.mk (hi); clear HK HB HI0; revert n0_ n1_ n2_; intro HK HB HI0; (try clear hb); (try clear hb2); (try clear hk); (try clear hi); have p13 : 0 ≤ (t419 : Int) := Z2; have q13 : t419 < (a2.size : Int) := Z2; have hx13 := bt_at a2 t419; replace p13 := eq_true p13; replace q13 := eq_true q13) | ((with_reducible refine gate_dst (N := 32) rfl ?_); (try (refine gate_guard (by rfl) ?_; dsimp only)); refine Kd.R_lit (Kd.int .u8) _ 5 ?hg (N := 32) ?hd (xs := ([bt a2 t419] : List Int)) (inner := [.int .u8 (bt a2 t419)]) (ok := fun _ => True) (okp := fun _ => True) ?hr ?hp (fun _ hk => hk) trivial (Below.refl _ _) (Nat.le_refl _) (by simp) ?_; (case hd => rfl); (case hg => rfl); (case hr => exact Z13); (case hp => exact Z44); intro v423 w50 ho51 hb hg_ hnew_; clear hg_ hnew_; (first | rw [← Ny422.out] at ho51 | (simp only [Int.reduceToNat] at ho51; rw [← Ny422.out] at ho51)); have n0_ := Aside0.mk (Kd.R_lower ho51 (keep_size (w := w) (g := g) (row := none) Z4)); have n1_ := Aside0.mk (IsS80.below Z6 hb); have n2_ := Aside0.mk (KeepBut.trans Z4 (KeepBut.of_below hb g none) (.inl rfl)); have n3_ := Aside0.mk (below_step Z5 hb); clear HI0 HK HB; revert n0_ n1_ n2_ n3_; intro HO424 HI0 HK HB; clear hb ho51; have hcv52 := own_string (P := Tryz.prog) Tryz.underlying22 Tryz.underlying5 Tryz.underlying9 (Kd.own_of_R HO424.out)) | (go_at_call 104; (with_reducible refine (spec_l1Cur_pick.calls g s0_0 t420 t421 3 t425 t426 t427 w0 _ ?side1 ?side2 A14.out).mono ?_); (case side1 => exact Z6); (case side2 => exact Z5); rintro e w53 ⟨rfl, hi, hb, hk⟩; have n0_ := Aside0.mk (Kd.R_mono (Kd.R_keep (IsS80.apart (show IsS80 w0 _ g s0_0 t420 t421 from by repeat (first | (with_reducible first | exact HI0.out | apply IsS80.alloc | apply IsS80.drewN | apply IsS80.drew | apply IsS80.set_1 | apply IsS80.set_2) | exact HI0.out)) Z45 (by decide)) hk (fun _ h => h.2)) (fun _ h => h.1)); have n1_ := Aside0.mk (KeepBut.trans Z4 hk (.inl rfl)); have n2_ := Aside0.mk (hb); have n3_ := Aside0.mk (hi); clear HO424 HK HB HI0; revert n0_ n1_ n2_ n3_; intro HO424 HK HB HI0; (try clear hb); (try clear hb2); (try clear hk); (try clear hi))))
               go_roundg kj5
               case measure => have := HK1.out; have := HJ5.out; omega
               case rel => exact ⟨((x1_1.extract 0 (t416 : Int).toNat) ++ (x1_1.extract ((ji44) : Int).toNat x1_1.size)), (wrap64 (x7_1 - 1)), (t426), (t427), (by first | rfl | (simp; done) | (simp only [← hji44] <;> (first | rfl | simp)) | (simp only [Go.IntWalk.i64_left]; done) | (simp [*]; done) | (simp; omega)), Z3, H', ⟨by have := HK1.out; have := HJ5.out; omega⟩, ⟨by repeat (first | (with_reducible first | exact HI0.out | apply IsS80.alloc | apply IsS80.drewN | apply IsS80.drew | apply IsS80.set_1 | apply IsS80.set_2) | exact HI0.out)⟩, ⟨by repeat (first | (with_reducible first | exact HK.out | apply KeepBut.set_ | apply keep_drewN | apply keep_drew | apply keep_alloc) | exact HK.out)⟩, ⟨by repeat (first | (with_reducible first | exact HB.out | apply below_alloc | apply pw_below_drewN | apply below_drew1 | refine below_set ?_ (IsS80.ge HI0.out)) | exact HB.out)⟩⟩
              ·
               rw [if_neg c47] at H
               exact absurd H (by simp)
             ·
              rw [if_neg c46] at H
              exact absurd H (by simp)
            ·
             rw [if_neg c45] at H
             exact absurd H (by simp)
           ·
            rw [if_neg c43] at H
            exact absurd H (by simp)
          ·
           rw [if_neg c42] at H
           exact absurd H (by simp)
       ·
        rw [if_neg c12] at H
        exact absurd H (by simp)
      ·
       rw [if_neg c11] at H
       exact absurd H (by simp)
     ·
      replace c8 := Bool.eq_false_iff.mpr c8
      subst c8
      have H1 : (some (x1_1, x1001_1, x1002_1)) = some (r1, r2, r3) := by rw [if_neg (show ¬ (false = true) by decide)] at H; exact H
      clear H
      have H := H1
      clear H1
      simp only [Option.some.injEq, Prod.mk.injEq] at H
      obtain ⟨rfl, rfl, rfl⟩ := H
      go_wp2
      repeat (go_quiet (fail); try go_wp2)
      go_ret
      exact ⟨by first | rfl | (simp [errW_none, errW_some] <;> rfl) | (simp [*, errW_none, errW_some] <;> rfl), by repeat (first | (with_reducible first | exact HI0.out | apply IsS80.alloc | apply IsS80.drewN | apply IsS80.drew | apply IsS80.set_1 | apply IsS80.set_2) | exact HI0.out), by repeat (first | (with_reducible first | exact HB.out | apply below_alloc | apply pw_below_drewN | apply below_drew1 | refine below_set ?_ (IsS80.ge HI0.out)) | exact HB.out), by repeat (first | (with_reducible first | exact HK.out | apply KeepBut.set_ | apply keep_drewN | apply keep_drew | apply keep_alloc) | exact HK.out)⟩

/-! ### spec_DrawParseScheme: function 77 -/
def spec_DrawParseScheme.f (k : Nat) (l0 : List Int) : Option (ByteArray) := (spec_l1Cur_sureScheme.f k l0 0 0).bind fun bt429 => ((spec_ckText.f k bt429.1 bt429.2.1).bind fun t435 => ((spec_l1Cur_one.f l0 bt429.2.2.1 bt429.2.2.2 3).bind fun bt436 => (if bt436.1 = true then ((spec_l1Cur_spoilt.f k l0 bt436.2.1 bt436.2.2 t435 (⟨#[48, 49, 50, 51, 58, 44, 120]⟩ : ByteArray)).bind fun bt439 => (some bt439.1)) else (some t435))))
set_option maxHeartbeats 8000000 in
set_option maxRecDepth 100000 in
theorem spec_DrawParseScheme.calls (k : Nat) (A0 : Option Addr) (c0 : Nat) (l0 : List Int) (r : ByteArray) (w : World) (hr0 : Kd.C (Kd.int .u8) w A0 l0.length l0) (hc0 : l0.length ≤ c0) (h : spec_DrawParseScheme.f k l0 = some r) :
  Calls Tryz.prog 77 #[.slice A0 l0.length c0] w fun e w' => e = .returned (.string r) ∧ Below w.heap.size w w' := by
 have hu80 := Tryz.underlying80
 have HR0 := Aside0.mk hr0
 have HC0 := Aside0.mk hc0
 clear hr0 hc0
 have HB := Aside0.mk (Below.refl w.heap.size w)
 have H : ((spec_l1Cur_sureScheme.f k l0 0 0).bind fun bt429 => ((spec_ckText.f k bt429.1 bt429.2.1).bind fun t435 => ((spec_l1Cur_one.f l0 bt429.2.2.1 bt429.2.2.2 3).bind fun bt436 => (if bt436.1 = true then ((spec_l1Cur_spoilt.f k l0 bt436.2.1 bt436.2.2 t435 (⟨#[48, 49, 50, 51, 58, 44, 120]⟩ : ByteArray)).bind fun bt439 => (some bt439.1)) else (some t435))))) = some r := h
 clear h
 replace H := Option.bind_eq_some_iff.mp H
 obtain ⟨⟨t429, t430, t433, t434⟩, A20, H⟩ := H
 replace H : ((spec_ckText.f k t429 t430).bind fun t435 => ((spec_l1Cur_one.f l0 t433 t434 3).bind fun bt436 => (if bt436.1 = true then ((spec_l1Cur_spoilt.f k l0 bt436.2.1 bt436.2.2 t435 (⟨#[48, 49, 50, 51, 58, 44, 120]⟩ : ByteArray)).bind fun bt439 => (some bt439.1)) else (some t435)))) = some r := H
 have A2 := Aside0.mk A20
 clear A20
 replace H := Option.bind_eq_some_iff.mp H
 obtain ⟨t435, A30, H⟩ := H
 replace H : ((spec_l1Cur_one.f l0 t433 t434 3).bind fun bt436 => (if bt436.1 = true then ((spec_l1Cur_spoilt.f k l0 bt436.2.1 bt436.2.2 t435 (⟨#[48, 49, 50, 51, 58, 44, 120]⟩ : ByteArray)).bind fun bt439 => (some bt439.1)) else (some t435))) = some r := H
 have A3 := Aside0.mk A30
 clear A30
 replace H := Option.bind_eq_some_iff.mp H
 obtain ⟨⟨t436, t437, t438⟩, A40, H⟩ := H
 replace H : (if t436 = true then ((spec_l1Cur_spoilt.f k l0 t437 t438 t435 (⟨#[48, 49, 50, 51, 58, 44, 120]⟩ : ByteArray)).bind fun bt439 => (some bt439.1)) else (some t435)) = some r := H
 have A4 := Aside0.mk A40
 clear A40
 by_cases c5 : t436 = true
 ·
  subst c5
  have H1 : ((spec_l1Cur_spoilt.f k l0 t437 t438 t435 (⟨#[48, 49, 50, 51, 58, 44, 120]⟩ : ByteArray)).bind fun bt439 => (some bt439.1)) = some r := by rw [if_pos rfl] at H; exact H
  clear H
  have H := H1
  clear H1
  replace H := Option.bind_eq_some_iff.mp H
  obtain ⟨⟨t439, t440, t441⟩, A60, H⟩ := H
  replace H : (some t439) = some r := H
  have A6 := Aside0.mk A60
  clear A60
  obtain rfl := Option.some.inj H
  go_enter Tryz.func77, Tryz.ntmps77
  go_wp2_with (first | ((with_reducible refine gate_dst (N := 7) rfl ?_); refine box_event ?hg (N := 7) ?hd (cs := #[.slice A0 l0.length c0, .int .i64 0, .int .u64 0]) (t := 80) ?hr ?_; (case hd => rfl); (case hg => rfl); (case hr => exact Z13); intro gb428 hg w7 hbox hb; have n0_ := Aside0.mk (below_step Z0 hb); have n1_ := Aside0.mk ((Z18 : w.heap.size ≤ gb428)); have n2_ := Aside0.mk ((Z18 : w.heap.size ≤ gb428)); have n3_ := Aside0.mk ((show IsS80 w _ gb428 l0 0 0 from ⟨_, _, hbox, Z18, HR0.out⟩)); clear HB; revert n0_ n1_ n2_ n3_; intro HB GW428 GE428 HI428; clear hb hbox hg) | ((with_reducible refine gate_callee (f := 159) rfl ?_); refine goesL_ (some 9) rfl rfl Tryz.func159 (by kernel_rfl) rfl #[.pointer (some ⟨gb428, 0, none⟩)] rfl Z1 ?_; (with_reducible refine (spec_l1Cur_sureScheme.calls k gb428 l0 0 0 t429 t430 t433 t434 w _ ?side1 ?side2 A2.out).mono ?_); (case side1 => exact Z35); (case side2 => exact Z28); rintro e w8 ⟨v431, rfl, ho0, hi, hb, hk⟩; refine ⟨_, rfl, ?_⟩; have n0_ := Aside0.mk (Kd.R_lower ho0 (below_size Z28)); have n1_ := Aside0.mk (hb); have n2_ := Aside0.mk (hi); clear HB HI428; revert n0_ n1_ n2_; intro HO432 HB HI428; (try clear hb); (try clear hb2); (try clear hk); (try clear hi); (try clear ho0); obtain ⟨Ao9, co9, eo9⟩ := Kd.R_slice HO432.out; subst eo9) | ((with_reducible refine gate_callee (f := 151) rfl ?_); refine goesL_ (some 10) rfl rfl Tryz.func151 (by kernel_rfl) rfl #[.agg #[.int .i64 t429, .slice Ao9 t430.length co9]] rfl Z1 ?_; (with_reducible refine (spec_ckText.calls k t429 _ _ t430 t435 _ ?side1 ?side2 A3.out).mono ?_); (case side1 => exact Z133); (case side2 => exact (Kd.R_reads' HO432.out).2.1); rintro e w10 ⟨rfl, hb⟩; refine ⟨_, rfl, ?_⟩; have n0_ := Aside0.mk (Kd.R_below Z89 hb); have n1_ := Aside0.mk (IsS80.below Z35 hb); have n2_ := Aside0.mk (below_step Z28 hb); clear HO432 HI428 HB; revert n0_ n1_ n2_; intro HO432 HI428 HB; (try clear hb); (try clear hb2); (try clear hk); (try clear hi)) | ((with_reducible refine gate_callee (f := 98) rfl ?_); refine goesL_ (some 12) rfl rfl Tryz.func98 (by kernel_rfl) rfl #[.pointer (some ⟨gb428, 0, none⟩), .int .i64 3] rfl Z1 ?_; (with_reducible refine (spec_l1Cur_one.calls gb428 l0 t433 t434 3 true t437 t438 w _ ?side1 ?side2 A4.out).mono ?_); (case side1 => exact Z35); (case side2 => exact Z28); rintro e w11 ⟨rfl, hi, hb, hk⟩; refine ⟨_, rfl, ?_⟩; have n0_ := Aside0.mk (Kd.R_mono (Kd.R_keep (IsS80.apart (show IsS80 w _ gb428 l0 t433 t434 from by repeat (first | (with_reducible first | exact HI428.out | apply IsS80.alloc | apply IsS80.drewN | apply IsS80.drew | apply IsS80.set_1 | apply IsS80.set_2) | exact HI428.out)) Z89 (by decide)) hk (fun _ h => h.2)) (fun _ h => h.1)); have n1_ := Aside0.mk (hb); have n2_ := Aside0.mk (hi); clear HO432 HB HI428; revert n0_ n1_ n2_; intro HO432 HB HI428; (try clear hb); (try clear hb2); (try clear hk); (try clear hi)) | ((with_reducible refine gate_callee (f := 160) rfl ?_); refine goesL_ (some 15) rfl rfl Tryz.func160 (by kernel_rfl) rfl #[.pointer (some ⟨gb428, 0, none⟩), .string t435, .string (⟨#[48, 49, 50, 51, 58, 44, 120]⟩ : ByteArray)] rfl Z1 ?_; (with_reducible refine (spec_l1Cur_spoilt.calls k gb428 l0 t437 t438 t435 (⟨#[48, 49, 50, 51, 58, 44, 120]⟩ : ByteArray) t439 t440 t441 w _ ?side1 ?side2 A6.out).mono ?_); (case side1 => exact Z35); (case side2 => exact Z28); rintro e w12 ⟨rfl, hi, hb, hk⟩; refine ⟨_, rfl, ?_⟩; have n0_ := Aside0.mk (Kd.R_mono (Kd.R_keep (IsS80.apart (show IsS80 w _ gb428 l0 t437 t438 from by repeat (first | (with_reducible first | exact HI428.out | apply IsS80.alloc | apply IsS80.drewN | apply IsS80.drew | apply IsS80.set_1 | apply IsS80.set_2) | exact HI428.out)) Z89 (by decide)) hk (fun _ h => h.2)) (fun _ h => h.1)); have n1_ := Aside0.mk (hb); have n2_ := Aside0.mk (hi); clear HO432 HB HI428; revert n0_ n1_ n2_; intro HO432 HB HI428; (try clear hb); (try clear hb2); (try clear hk); (try clear hi)))
  go_ret
  exact ⟨by first | rfl | (simp [errW_none, errW_some] <;> rfl) | (simp [*, errW_none, errW_some] <;> rfl), by repeat (first | (with_reducible first | exact HB.out | apply below_alloc | apply pw_below_drewN | apply below_drew1 | refine below_set ?_ (IsS80.ge HI428.out)) | exact HB.out)⟩
 ·
  replace c5 := Bool.eq_false_iff.mpr c5
  subst c5
  have H1 : (some t435) = some r := by rw [if_neg (show ¬ (false = true) by decide)] at H; exact H
  clear H
  have H := H1
  clear H1
  obtain rfl := Option.some.inj H
  go_enter Tryz.func77, Tryz.ntmps77
  go_wp2_with (first | ((with_reducible refine gate_dst (N := 7) rfl ?_); refine box_event ?hg (N := 7) ?hd (cs := #[.slice A0 l0.length c0, .int .i64 0, .int .u64 0]) (t := 80) ?hr ?_; (case hd => rfl); (case hg => rfl); (case hr => exact Z13); intro gb428 hg w13 hbox hb; have n0_ := Aside0.mk (below_step Z0 hb); have n1_ := Aside0.mk ((Z18 : w.heap.size ≤ gb428)); have n2_ := Aside0.mk ((Z18 : w.heap.size ≤ gb428)); have n3_ := Aside0.mk ((show IsS80 w _ gb428 l0 0 0 from ⟨_, _, hbox, Z18, HR0.out⟩)); clear HB; revert n0_ n1_ n2_ n3_; intro HB GW428 GE428 HI428; clear hb hbox hg) | ((with_reducible refine gate_callee (f := 159) rfl ?_); refine goesL_ (some 9) rfl rfl Tryz.func159 (by kernel_rfl) rfl #[.pointer (some ⟨gb428, 0, none⟩)] rfl Z1 ?_; (with_reducible refine (spec_l1Cur_sureScheme.calls k gb428 l0 0 0 t429 t430 t433 t434 w _ ?side1 ?side2 A2.out).mono ?_); (case side1 => exact Z35); (case side2 => exact Z28); rintro e w14 ⟨v431, rfl, ho0, hi, hb, hk⟩; refine ⟨_, rfl, ?_⟩; have n0_ := Aside0.mk (Kd.R_lower ho0 (below_size Z28)); have n1_ := Aside0.mk (hb); have n2_ := Aside0.mk (hi); clear HB HI428; revert n0_ n1_ n2_; intro HO432 HB HI428; (try clear hb); (try clear hb2); (try clear hk); (try clear hi); (try clear ho0); obtain ⟨Ao15, co15, eo15⟩ := Kd.R_slice HO432.out; subst eo15) | ((with_reducible refine gate_callee (f := 151) rfl ?_); refine goesL_ (some 10) rfl rfl Tryz.func151 (by kernel_rfl) rfl #[.agg #[.int .i64 t429, .slice Ao15 t430.length co15]] rfl Z1 ?_; (with_reducible refine (spec_ckText.calls k t429 _ _ t430 t435 _ ?side1 ?side2 A3.out).mono ?_); (case side1 => exact Z133); (case side2 => exact (Kd.R_reads' HO432.out).2.1); rintro e w16 ⟨rfl, hb⟩; refine ⟨_, rfl, ?_⟩; have n0_ := Aside0.mk (Kd.R_below Z89 hb); have n1_ := Aside0.mk (IsS80.below Z35 hb); have n2_ := Aside0.mk (below_step Z28 hb); clear HO432 HI428 HB; revert n0_ n1_ n2_; intro HO432 HI428 HB; (try clear hb); (try clear hb2); (try clear hk); (try clear hi)) | ((with_reducible refine gate_callee (f := 98) rfl ?_); refine goesL_ (some 12) rfl rfl Tryz.func98 (by kernel_rfl) rfl #[.pointer (some ⟨gb428, 0, none⟩), .int .i64 3] rfl Z1 ?_; (with_reducible refine (spec_l1Cur_one.calls gb428 l0 t433 t434 3 false t437 t438 w _ ?side1 ?side2 A4.out).mono ?_); (case side1 => exact Z35); (case side2 => exact Z28); rintro e w17 ⟨rfl, hi, hb, hk⟩; refine ⟨_, rfl, ?_⟩; have n0_ := Aside0.mk (Kd.R_mono (Kd.R_keep (IsS80.apart (show IsS80 w _ gb428 l0 t433 t434 from by repeat (first | (with_reducible first | exact HI428.out | apply IsS80.alloc | apply IsS80.drewN | apply IsS80.drew | apply IsS80.set_1 | apply IsS80.set_2) | exact HI428.out)) Z89 (by decide)) hk (fun _ h => h.2)) (fun _ h => h.1)); have n1_ := Aside0.mk (hb); have n2_ := Aside0.mk (hi); clear HO432 HB HI428; revert n0_ n1_ n2_; intro HO432 HB HI428; (try clear hb); (try clear hb2); (try clear hk); (try clear hi)))
  go_ret
  exact ⟨by first | rfl | (simp [errW_none, errW_some] <;> rfl) | (simp [*, errW_none, errW_some] <;> rfl), by repeat (first | (with_reducible first | exact HB.out | apply below_alloc | apply pw_below_drewN | apply below_drew1 | refine below_set ?_ (IsS80.ge HI428.out)) | exact HB.out)⟩

/-! ### spec_l1Split: function 196 -/
def spec_l1Split.l0 : Nat → ByteArray → Int → List ByteArray → Int → Int → Option (List ByteArray)
 | 0, _, _, _, _, _ => none
 | k + 1, x0, x1, x5, x6, x7 => if x7 < (x0.size : Int) then (if 0 ≤ x7 then (if (bt x0 x7) = x1 then (if 0 ≤ x6 then (if x6 ≤ x7 then (if x7 ≤ (x0.size : Int) then (if x5.length < 8796093022208 then (spec_l1Split.l0 k x0 x1 (x5 ++ [x0.extract (x6 : Int).toNat (x7 : Int).toNat]) (wrap64 (x7 + 1)) (wrap64 (x7 + 1))) else (none)) else (none)) else (none)) else (none)) else (spec_l1Split.l0 k x0 x1 x5 x6 (wrap64 (x7 + 1)))) else (none)) else (if 0 ≤ x6 then (if x6 ≤ (x0.size : Int) then (if x5.length < 8796093022208 then (some (x5 ++ [x0.extract (x6 : Int).toNat x0.size])) else (none)) else (none)) else (none))
def spec_l1Split.f (k : Nat) (a0 : ByteArray) (a1 : Int) : Option (List ByteArray) := spec_l1Split.l0 k a0 a1 ([] : List ByteArray) 0 0
set_option maxHeartbeats 8000000 in
set_option maxRecDepth 100000 in
theorem spec_l1Split.calls (k : Nat) (a0 : ByteArray) (a1 : Int) (r : List ByteArray) (w : World) (h : spec_l1Split.f k a0 a1 = some r) :
  Calls Tryz.prog 196 #[.string a0, .int .u8 a1] w fun e w' => ∃ v0_ : Value, e = .returned (v0_) ∧ Kd.R Kd.string 9 w' w.heap.size (fun _ => True) v0_ r ∧ Below w.heap.size w w' := by
 have HB := Aside0.mk (Below.refl w.heap.size w)
 have H : (spec_l1Split.l0 k a0 a1 ([] : List ByteArray) 0 0) = some r := h
 clear h
 have H' := Aside0.mk H
 clear H
 go_enter Tryz.func196, Tryz.ntmps196
 go_wp2
 go_loopg [5, 6, 7] k (fun kq v5 v6 v7 w' => ∃ (x5_1 : List ByteArray) (x6_1 : Int) (x7_1 : Int), v6 = .int .i64 x6_1 ∧ v7 = .int .i64 x7_1 ∧ Aside0 (spec_l1Split.l0 kq a0 a1 x5_1 x6_1 x7_1 = some r) ∧ Aside0 (kq ≤ k) ∧ Aside0 (Kd.R Kd.string 9 w' w.heap.size (fun _ => True) v5 x5_1) ∧ Aside0 (Below w.heap.size w w'))
 case atStart => exact ⟨(([] : List ByteArray)), (0), (0), Z3, Z3, H', ⟨Nat.le_refl _⟩, ⟨by first | exact Kd.R_nil _ _ _ _ _ | exact Kd.N_nil _ _ _ _ _ | exact Kd.V_nil _ _ _ _ _ | exact Kd.Q_nil _ _ _ _ _ | exact Kd.S_nil _ _ _ _ _⟩, ⟨by repeat (first | (with_reducible first | exact HB.out | apply below_alloc | apply pw_below_drewN | apply below_drew1) | exact HB.out)⟩⟩
 case round =>
  clear H'
  (try clear c1); (try clear p2)
  obtain ⟨x5_1, x6_1, x7_1, rfl, rfl, HA, HK1, HO_5, HB⟩ := hrel
  cases gk with
  | zero => exact absurd HA.out (by simp [spec_l1Split.l0])
  | succ k1 =>
   have H := HA.out
   clear HA
   simp only [spec_l1Split.l0] at H
   by_cases c3 : x7_1 < (a0.size : Int)
   ·
    rw [if_pos c3] at H
    have c3b0 : decide (x7_1 < (a0.size : Int)) = true := decide_eq_true c3
    clear c3
    by_cases c4 : 0 ≤ x7_1
    ·
     rw [if_pos c4] at H
     have c4b0 : decide (0 ≤ x7_1) = true := decide_eq_true c4
     clear c4
     by_cases c6 : (bt a0 x7_1) = a1
     ·
      rw [if_pos c6] at H
      have c6b0 : ((bt a0 x7_1) == a1) = true := beq_iff_eq.mpr c6
      have c6b1 : ((bt a0 x7_1) != a1) = false := bne_eq_false_iff_eq.mpr c6
      clear c6
      by_cases c7 : 0 ≤ x6_1
      ·
       rw [if_pos c7] at H
       have c7b0 := eq_true c7
       have c7b1 : decide (0 ≤ x6_1) = true := decide_eq_true c7
       clear c7
       by_cases c8 : x6_1 ≤ x7_1
       ·
        rw [if_pos c8] at H
        have c8b0 := eq_true c8
        have c8b1 : decide (x6_1 ≤ x7_1) = true := decide_eq_true c8
        clear c8
        by_cases c9 : x7_1 ≤ (a0.size : Int)
        ·
         rw [if_pos c9] at H
         have c9b0 := eq_true c9
         have c9b1 : decide (x7_1 ≤ (a0.size : Int)) = true := decide_eq_true c9
         clear c9
         by_cases c10 : x5_1.length < 8796093022208
         ·
          rw [if_pos c10] at H
          have LMc10 := Aside0.mk c10
          clear c10
          obtain ⟨y442, hy442⟩ : ∃ y_ : List ByteArray, y_ = (x5_1 ++ [a0.extract (x6_1 : Int).toNat (x7_1 : Int).toNat]) := ⟨_, rfl⟩
          replace H : (spec_l1Split.l0 k1 a0 a1 y442 (wrap64 (x7_1 + 1)) (wrap64 (x7_1 + 1))) = some r := by first | (rw [hy442]; with_reducible exact H) | (have H2_ := (Option.bind_some _ _).symm.trans H; rw [hy442]; with_reducible exact H2_) | (have H2_ := (Option.bind_some _ _).symm.trans H; with_reducible exact H2_) | with_reducible exact H | (rw [hy442]; exact H) | exact H
          have Ny442 := Aside0.mk hy442
          clear hy442
          have H' := Aside0.mk H
          clear H
          have p5 : 0 ≤ (x7_1 : Int) := Z2
          have q5 : x7_1 < (a0.size : Int) := Z2
          have hx5 := bt_at a0 x7_1
          replace p5 := eq_true p5
          replace q5 := eq_true q5
          go_wp2_with (first | ((with_reducible refine gate_builtin (b := .append) (xs := #[.tmp 19, .tmp 24]) rfl ?_); at_builtin; refine Kd.R_append Kd.string (w0 := w) w.heap.size rfl (.tmp 19) (.tmp 24) 36 9 (.string ⟨#[]⟩) 16 rfl Tryz.underlying36 info9 rfl (by decide) (by omega) u5 x5_1 (a0.extract (x6_1 : Int).toNat (x7_1 : Int).toNat) [.string (a0.extract (x6_1 : Int).toNat (x7_1 : Int).toNat)] (fun _ => True) (fun _ => False) rfl rfl ?aP (fun _ hk => hk.elim) ?aF ?aO ?aB ?aS ?aL ?_; (case aP => exact rfl); (case aB => exact Z0); (case aF => exact (fun _ _ => trivial)); (case aO => exact Z124); (case aS => exact (below_size Z0)); (case aL => have := LMc10.out; omega); intro v443 w11 ho hb hg hat; rw [← Ny442.out] at ho; have n0_ := Aside0.mk (hb); have n1_ := Aside0.mk (ho); clear HB HO_5; revert n0_ n1_; intro HB HO444; clear ho hb hg hat))
          go_roundg k1
          case measure => have := HK1.out; omega
          case rel => exact ⟨(y442), (wrap64 (x7_1 + 1)), (wrap64 (x7_1 + 1)), Z3, Z3, H', ⟨by have := HK1.out; omega⟩, ⟨by (with_reducible repeat (first | apply Kd.R_alloc | apply Kd.R_drewN | apply Kd.R_drew)); exact HO444.out⟩, ⟨by repeat (first | (with_reducible first | exact HB.out | apply below_alloc | apply pw_below_drewN | apply below_drew1) | exact HB.out)⟩⟩
         ·
          rw [if_neg c10] at H
          exact absurd H (by simp)
        ·
         rw [if_neg c9] at H
         exact absurd H (by simp)
       ·
        rw [if_neg c8] at H
        exact absurd H (by simp)
      ·
       rw [if_neg c7] at H
       exact absurd H (by simp)
     ·
      rw [if_neg c6] at H
      have c6b0 : ((bt a0 x7_1) == a1) = false := beq_eq_false_iff_ne.mpr c6
      have c6b1 : ((bt a0 x7_1) != a1) = true := bne_iff_ne.mpr c6
      have H' := Aside0.mk H
      clear H
      have p5 : 0 ≤ (x7_1 : Int) := Z2
      have q5 : x7_1 < (a0.size : Int) := Z2
      have hx5 := bt_at a0 x7_1
      replace p5 := eq_true p5
      replace q5 := eq_true q5
      go_wp2
      go_roundg k1
      case measure => have := HK1.out; omega
      case rel => exact ⟨(x5_1), (x6_1), (wrap64 (x7_1 + 1)), Z3, Z3, H', ⟨by have := HK1.out; omega⟩, ⟨by (with_reducible repeat (first | apply Kd.R_alloc | apply Kd.R_drewN | apply Kd.R_drew)); exact HO_5.out⟩, ⟨by repeat (first | (with_reducible first | exact HB.out | apply below_alloc | apply pw_below_drewN | apply below_drew1) | exact HB.out)⟩⟩
    ·
     rw [if_neg c4] at H
     exact absurd H (by simp)
   ·
    rw [if_neg c3] at H
    have c3b0 : decide (x7_1 < (a0.size : Int)) = false := decide_eq_false c3
    clear c3
    by_cases c12 : 0 ≤ x6_1
    ·
     rw [if_pos c12] at H
     have c12b0 := eq_true c12
     have c12b1 : decide (0 ≤ x6_1) = true := decide_eq_true c12
     clear c12
     by_cases c13 : x6_1 ≤ (a0.size : Int)
     ·
      rw [if_pos c13] at H
      have c13b0 := eq_true c13
      have c13b1 : decide (x6_1 ≤ (a0.size : Int)) = true := decide_eq_true c13
      clear c13
      by_cases c14 : x5_1.length < 8796093022208
      ·
       rw [if_pos c14] at H
       have LMc14 := Aside0.mk c14
       clear c14
       obtain ⟨y445, hy445⟩ : ∃ y_ : List ByteArray, y_ = (x5_1 ++ [a0.extract (x6_1 : Int).toNat a0.size]) := ⟨_, rfl⟩
       replace H : (some y445) = some r := by first | (rw [hy445]; with_reducible exact H) | (have H2_ := (Option.bind_some _ _).symm.trans H; rw [hy445]; with_reducible exact H2_) | (have H2_ := (Option.bind_some _ _).symm.trans H; with_reducible exact H2_) | with_reducible exact H | (rw [hy445]; exact H) | exact H
       have Ny445 := Aside0.mk hy445
       clear hy445
       obtain rfl := Option.some.inj H
       go_wp2_with (first | ((with_reducible refine gate_builtin (b := .append) (xs := #[.tmp 28, .tmp 32]) rfl ?_); at_builtin; refine Kd.R_append Kd.string (w0 := w) w.heap.size rfl (.tmp 28) (.tmp 32) 36 9 (.string ⟨#[]⟩) 16 rfl Tryz.underlying36 info9 rfl (by decide) (by omega) u5 x5_1 (a0.extract (x6_1 : Int).toNat a0.size) [.string (a0.extract (x6_1 : Int).toNat a0.size)] (fun _ => True) (fun _ => False) rfl rfl ?aP (fun _ hk => hk.elim) ?aF ?aO ?aB ?aS ?aL ?_; (case aP => exact rfl); (case aB => exact Z0); (case aF => exact (fun _ _ => trivial)); (case aO => exact Z124); (case aS => exact (below_size Z0)); (case aL => have := LMc14.out; omega); intro v446 w15 ho hb hg hat; rw [← Ny445.out] at ho; have n0_ := Aside0.mk (hb); have n1_ := Aside0.mk (ho); clear HB HO_5; revert n0_ n1_; intro HB HO447; clear ho hb hg hat))
       go_ret
       exact ⟨_, by first | rfl | (simp [errW_none, errW_some] <;> rfl) | (simp [*, errW_none, errW_some] <;> rfl), by (with_reducible repeat (first | apply Kd.R_alloc | apply Kd.R_drewN | apply Kd.R_drew)); exact HO447.out, by repeat (first | (with_reducible first | exact HB.out | apply below_alloc | apply pw_below_drewN | apply below_drew1) | exact HB.out)⟩
      ·
       rw [if_neg c14] at H
       exact absurd H (by simp)
     ·
      rw [if_neg c13] at H
      exact absurd H (by simp)
    ·
     rw [if_neg c12] at H
     exact absurd H (by simp)

/-! ### spec_l1Read: function 197 -/
mutual
def spec_l1Read.j0 : Nat → ByteArray → Bool → Option (Int)
 | 0, _, _ => none
 | k + 1, x0, x18 => if x18 = true then (some (-1)) else (spec_l1Read.l0 k x0 0 0)
def spec_l1Read.l0 : Nat → ByteArray → Int → Int → Option (Int)
 | 0, _, _, _ => none
 | k + 1, x0, x3, x4 => if x4 < (x0.size : Int) then (if 0 ≤ x4 then (if (bt x0 x4) < 48 then (some (-1)) else (if (bt x0 x4) > 57 then (some (-1)) else (spec_l1Read.l0 k x0 (wrap64 ((wrap64 (10 * x3)) + (((bt x0 x4) - 48) % 256))) (wrap64 (x4 + 1))))) else (none)) else (some x3)
end
def spec_l1Read.f (k : Nat) (a0 : ByteArray) : Option (Int) := (spec_l1In.f (a0.size : Int) 1 6).bind fun t448 => (if t448 = true then (if 0 < (a0.size : Int) then (if (bt a0 0) = 48 then (spec_l1Read.j0 k a0 (decide (1 < a0.size))) else (spec_l1Read.j0 k a0 false)) else (none)) else (spec_l1Read.j0 k a0 true))
set_option maxHeartbeats 8000000 in
set_option maxRecDepth 100000 in
theorem spec_l1Read.calls (k : Nat) (a0 : ByteArray) (r : Int) (w : World) (h : spec_l1Read.f k a0 = some r) :
  Calls Tryz.prog 197 #[.string a0] w fun e w' => e = .returned (.int .i64 r) ∧ Drawn0 w w' := by
 have H : ((spec_l1In.f (a0.size : Int) 1 6).bind fun t448 => (if t448 = true then (if 0 < (a0.size : Int) then (if (bt a0 0) = 48 then (spec_l1Read.j0 k a0 (decide (1 < a0.size))) else (spec_l1Read.j0 k a0 false)) else (none)) else (spec_l1Read.j0 k a0 true))) = some r := h
 clear h
 have HC2 := Aside0.mk H
 clear H
 go_enter Tryz.func197, Tryz.ntmps197
 go_upto_region 1 with (fail)
 go_cut [18] (fun v18 wc => ∃ (kq : Nat) (x18_1 : Bool), v18 = .bool x18_1 ∧ Aside0 (spec_l1Read.j0 kq a0 x18_1 = some r) ∧ Aside0 (kq ≤ k) ∧ Drawn0 w wc)
 case first =>
  have H := HC2.out
  clear HC2
  replace H := Option.bind_eq_some_iff.mp H
  obtain ⟨t448, A30, H⟩ := H
  replace H : (if t448 = true then (if 0 < (a0.size : Int) then (if (bt a0 0) = 48 then (spec_l1Read.j0 k a0 (decide (1 < a0.size))) else (spec_l1Read.j0 k a0 false)) else (none)) else (spec_l1Read.j0 k a0 true)) = some r := H
  have A3 := Aside0.mk A30
  clear A30
  by_cases c4 : t448 = true
  ·
   subst c4
   have H1 : (if 0 < (a0.size : Int) then (if (bt a0 0) = 48 then (spec_l1Read.j0 k a0 (decide (1 < a0.size))) else (spec_l1Read.j0 k a0 false)) else (none)) = some r := by rw [if_pos rfl] at H; exact H
   clear H
   have H := H1
   clear H1
   by_cases c5 : 0 < (a0.size : Int)
   ·
    rw [if_pos c5] at H
    have c5b0 : decide (0 < (a0.size : Int)) = true := decide_eq_true c5
    have c5b1 : decide (0 < a0.size) = true := decide_eq_true (by omega)
    clear c5
    (first | rw [c5b0] | (simp only [i64_w, i32_w]; rw [c5b0]) | skip)
    by_cases c7 : (bt a0 0) = 48
    ·
     rw [if_pos c7] at H
     have c7b0 : ((bt a0 0) == 48) = true := beq_iff_eq.mpr c7
     have c7b1 : ((bt a0 0) != 48) = false := bne_eq_false_iff_eq.mpr c7
     clear c7
     have H' := Aside0.mk H
     clear H
     have p6 : 0 ≤ (0 : Int) := (by omega)
     have q6 : 0 < a0.size := (by have : (0 : Int) < (a0.size : Int) := Z2; omega)
     have hx6 : ∀ h : 0 < a0.size, ((a0[0]'h).toNat : Int) = bt a0 0 := bt_at a0 0
     clear p6
     have qi6 : (0 < (a0.size : Int)) = True := eq_true (Z2)
     replace q6 := eq_true q6
     go_wp2_with (first | ((with_reducible refine gate_callee (f := 110) rfl ?_); refine goesL_ (some 7) rfl rfl Tryz.func110 (by kernel_rfl) rfl #[.int .i64 (a0.size : Int), .int .i64 1, .int .i64 6] rfl Z1 ?_; (with_reducible refine (spec_l1In.calls (a0.size : Int) 1 6 true _ A3.out).mono ?_); rintro e w' ⟨rfl, ⟨nd, rfl⟩⟩; refine ⟨_, rfl, ?_⟩))
     go_meet
     case rel => exact ⟨_, (decide (1 < a0.size)), Z3, H', ⟨by first | omega | exact Nat.le_refl _⟩, by repeat (first | exact Drawn0.refl _ | apply Drawn0.step)⟩
    ·
     rw [if_neg c7] at H
     have c7b0 : ((bt a0 0) == 48) = false := beq_eq_false_iff_ne.mpr c7
     have c7b1 : ((bt a0 0) != 48) = true := bne_iff_ne.mpr c7
     have H' := Aside0.mk H
     clear H
     have p6 : 0 ≤ (0 : Int) := (by omega)
     have q6 : 0 < a0.size := (by have : (0 : Int) < (a0.size : Int) := Z2; omega)
     have hx6 : ∀ h : 0 < a0.size, ((a0[0]'h).toNat : Int) = bt a0 0 := bt_at a0 0
     clear p6
     have qi6 : (0 < (a0.size : Int)) = True := eq_true (Z2)
     replace q6 := eq_true q6
     go_wp2_with (first | ((with_reducible refine gate_callee (f := 110) rfl ?_); refine goesL_ (some 7) rfl rfl Tryz.func110 (by kernel_rfl) rfl #[.int .i64 (a0.size : Int), .int .i64 1, .int .i64 6] rfl Z1 ?_; (with_reducible refine (spec_l1In.calls (a0.size : Int) 1 6 true _ A3.out).mono ?_); rintro e w' ⟨rfl, ⟨nd, rfl⟩⟩; refine ⟨_, rfl, ?_⟩))
     go_meet
     case rel => exact ⟨_, (false), Z3, H', ⟨by first | omega | exact Nat.le_refl _⟩, by repeat (first | exact Drawn0.refl _ | apply Drawn0.step)⟩
   ·
    rw [if_neg c5] at H
    exact absurd H (by simp)
  ·
   replace c4 := Bool.eq_false_iff.mpr c4
   subst c4
   have H1 : (spec_l1Read.j0 k a0 true) = some r := by rw [if_neg (show ¬ (false = true) by decide)] at H; exact H
   clear H
   have H := H1
   clear H1
   have H' := Aside0.mk H
   clear H
   go_wp2_with (first | ((with_reducible refine gate_callee (f := 110) rfl ?_); refine goesL_ (some 7) rfl rfl Tryz.func110 (by kernel_rfl) rfl #[.int .i64 (a0.size : Int), .int .i64 1, .int .i64 6] rfl Z1 ?_; (with_reducible refine (spec_l1In.calls (a0.size : Int) 1 6 false _ A3.out).mono ?_); rintro e w' ⟨rfl, ⟨nd, rfl⟩⟩; refine ⟨_, rfl, ?_⟩))
   go_meet
   case rel => exact ⟨_, (true), Z3, H', ⟨by first | omega | exact Nat.le_refl _⟩, by repeat (first | exact Drawn0.refl _ | apply Drawn0.step)⟩
 case rest =>
  clear HC2
  (try clear c1); (try clear p2); (try clear c4); (try clear c5); (try clear c5b0); (try clear c5b1); (try clear p6); (try clear q6); (try clear hx6); (try clear qi6); (try clear c7); (try clear c7b0); (try clear c7b1); (try clear p6); (try clear q6)
  obtain ⟨kq, x18_1, rfl, HA, HJ1, ⟨mc1, rfl⟩⟩ := hcut
  cases kq with
  | zero => exact absurd HA.out (by simp [spec_l1Read.j0])
  | succ kj1 =>
   have H := HA.out
   clear HA
   simp only [spec_l1Read.j0] at H
   by_cases c8 : x18_1 = true
   ·
    subst c8
    have H1 : (some (-1)) = some r := by rw [if_pos rfl] at H; exact H
    clear H
    have H := H1
    clear H1
    obtain rfl := Option.some.inj H
    go_wp2
    go_ret
    exact ⟨by first | rfl | (simp; done) | (simp only [Go.IntWalk.i64_left]; done) | (simp [*]; done) | (simp; omega), by repeat (first | exact Drawn0.refl _ | apply Drawn0.step)⟩
   ·
    replace c8 := Bool.eq_false_iff.mpr c8
    subst c8
    have H1 : (spec_l1Read.l0 kj1 a0 0 0) = some r := by rw [if_neg (show ¬ (false = true) by decide)] at H; exact H
    clear H
    have H := H1
    clear H1
    have H' := Aside0.mk H
    clear H
    go_wp2
    go_loopg [3, 4] kj1 (fun kq v3 v4 w' => ∃ (x3_2 : Int) (x4_2 : Int), v3 = .int .i64 x3_2 ∧ v4 = .int .i64 x4_2 ∧ Aside0 (spec_l1Read.l0 kq a0 x3_2 x4_2 = some r) ∧ Aside0 (kq ≤ kj1) ∧ Drawn0 w w')
    case atStart => exact ⟨(0), (0), Z3, Z3, H', ⟨Nat.le_refl _⟩, by repeat (first | exact Drawn0.refl _ | apply Drawn0.step)⟩
    case round =>
     clear H'
     (try clear c1); (try clear p2); (try clear c4); (try clear c5); (try clear c5b0); (try clear c5b1); (try clear p6); (try clear q6); (try clear hx6); (try clear qi6); (try clear c7); (try clear c7b0); (try clear c7b1); (try clear c8); (try clear p2); (try clear p6); (try clear q6)
     obtain ⟨x3_2, x4_2, rfl, rfl, HA, HK2, ⟨m2, rfl⟩⟩ := hrel
     cases gk with
     | zero => exact absurd HA.out (by simp [spec_l1Read.l0])
     | succ k2 =>
      have H := HA.out
      clear HA
      simp only [spec_l1Read.l0] at H
      by_cases c9 : x4_2 < (a0.size : Int)
      ·
       rw [if_pos c9] at H
       have c9b0 : decide (x4_2 < (a0.size : Int)) = true := decide_eq_true c9
       clear c9
       by_cases c10 : 0 ≤ x4_2
       ·
        rw [if_pos c10] at H
        have c10b0 : decide (0 ≤ x4_2) = true := decide_eq_true c10
        clear c10
        by_cases c12 : (bt a0 x4_2) < 48
        ·
         rw [if_pos c12] at H
         have c12b0 : decide ((bt a0 x4_2) < 48) = true := decide_eq_true c12
         clear c12
         obtain rfl := Option.some.inj H
         have p11 : 0 ≤ (x4_2 : Int) := Z2
         have q11 : x4_2 < (a0.size : Int) := Z2
         have hx11 := bt_at a0 x4_2
         replace p11 := eq_true p11
         replace q11 := eq_true q11
         go_wp2
         go_ret
         exact ⟨by first | rfl | (simp; done) | (simp only [Go.IntWalk.i64_left]; done) | (simp [*]; done) | (simp; omega), by repeat (first | exact Drawn0.refl _ | apply Drawn0.step)⟩
        ·
         rw [if_neg c12] at H
         have c12b0 : decide ((bt a0 x4_2) < 48) = false := decide_eq_false c12
         clear c12
         by_cases c14 : (bt a0 x4_2) > 57
         ·
          rw [if_pos c14] at H
          have c14b0 : decide (57 < (bt a0 x4_2)) = true := decide_eq_true c14
          clear c14
          obtain rfl := Option.some.inj H
          have p11 : 0 ≤ (x4_2 : Int) := Z2
          have q11 : x4_2 < (a0.size : Int) := Z2
          have hx11 := bt_at a0 x4_2
          replace p11 := eq_true p11
          replace q11 := eq_true q11
          have p13 : 0 ≤ (x4_2 : Int) := Z2
          have q13 : x4_2 < (a0.size : Int) := Z2
          have hx13 := bt_at a0 x4_2
          replace p13 := eq_true p13
          replace q13 := eq_true q13
          go_wp2
          go_ret
          exact ⟨by first | rfl | (simp; done) | (simp only [Go.IntWalk.i64_left]; done) | (simp [*]; done) | (simp; omega), by repeat (first | exact Drawn0.refl _ | apply Drawn0.step)⟩
         ·
          rw [if_neg c14] at H
          have c14b0 : decide (57 < (bt a0 x4_2)) = false := decide_eq_false c14
          clear c14
          have H' := Aside0.mk H
          clear H
          have p11 : 0 ≤ (x4_2 : Int) := Z2
          have q11 : x4_2 < (a0.size : Int) := Z2
          have hx11 := bt_at a0 x4_2
          replace p11 := eq_true p11
          replace q11 := eq_true q11
          have p13 : 0 ≤ (x4_2 : Int) := Z2
          have q13 : x4_2 < (a0.size : Int) := Z2
          have hx13 := bt_at a0 x4_2
          replace p13 := eq_true p13
          replace q13 := eq_true q13
          have p15 : 0 ≤ (x4_2 : Int) := Z2
          have q15 : x4_2 < (a0.size : Int) := Z2
          have hx15 := bt_at a0 x4_2
          replace p15 := eq_true p15
          replace q15 := eq_true q15
          go_wp2
          go_roundg k2
          case measure => have := HJ1.out; have := HK2.out; omega
          case rel => exact ⟨(wrap64 ((wrap64 (10 * x3_2)) + (((bt a0 x4_2) - 48) % 256))), (wrap64 (x4_2 + 1)), Z3, Z3, H', ⟨by have := HJ1.out; have := HK2.out; omega⟩, by repeat (first | exact Drawn0.refl _ | apply Drawn0.step)⟩
       ·
        rw [if_neg c10] at H
        exact absurd H (by simp)
      ·
       rw [if_neg c9] at H
       have c9b0 : decide (x4_2 < (a0.size : Int)) = false := decide_eq_false c9
       clear c9
       obtain rfl := Option.some.inj H
       go_wp2
       go_ret
       exact ⟨by first | rfl | (simp; done) | (simp only [Go.IntWalk.i64_left]; done) | (simp [*]; done) | (simp; omega), by repeat (first | exact Drawn0.refl _ | apply Drawn0.step)⟩

/-! ### spec_ckParse: function 161 -/
mutual
def spec_ckParse.j0 : Nat → List ByteArray → Bool → Option (Int × List Int × Bool)
 | 0, _, _ => none
 | k + 1, x4, x17 => if x17 = true then (some (0, ([] : List Int), false)) else (if 0 < (x4.length : Int) then ((spec_l1Read.f k (rdOf ByteArray.empty x4 0)).bind fun t454 => (if 1 < (x4.length : Int) then ((spec_l1Split.f k (rdOf ByteArray.empty x4 1) 44).bind fun t457 => (spec_ckParse.l0 k t457 (t457.length : Int) 0 t454 ([] : List Int))) else (none))) else (none))
def spec_ckParse.l0 : Nat → List ByteArray → Int → Int → Int → List Int → Option (Int × List Int × Bool)
 | 0, _, _, _, _, _ => none
 | k + 1, x27, x28, x29, x456000, x456001 => if x29 < x28 then (if 0 ≤ x29 then (if x29 < (x27.length : Int) then ((spec_l1Read.f k (rdOf ByteArray.empty x27 x29)).bind fun t461 => (if x456001.length < 17592186044416 then (spec_ckParse.l0 k x27 x28 (wrap64 (x29 + 1)) x456000 (x456001 ++ [t461])) else (none))) else (none)) else (none)) else ((spec_ckGood.f k x456000 x456001).bind fun t465 => (if t465 = true then (some (x456000, x456001, true)) else (some (0, ([] : List Int), false))))
end
def spec_ckParse.f (k : Nat) (a0 : ByteArray) : Option (Int × List Int × Bool) := (spec_l1Split.f k a0 58).bind fun t450 => (if (a0.size : Int) > 40 then (spec_ckParse.j0 k t450 true) else (spec_ckParse.j0 k t450 ((t450.length : Int) != 2)))
def spec_ckParse.T8 : Bool × List (List Nat × List Nat) := (true, [([], []), ([0], [0]), ([], []), ([2], [2]), ([3], [3]), ([1, 4, 3], [1, 4]), ([0, 1, 2, 3, 4, 5], []), ([6, 5, 5, 0, 1, 2, 3, 4, 5], [5, 6])])
def spec_ckParse.B8 : List Nat := [0, 1, 0, 4, 12, 31, 63, 127]
theorem spec_ckParse.tab8 : rtab .any (opsOf Tryz.f161 8) = spec_ckParse.T8 := by kernel_rfl
theorem spec_ckParse.bits8 : waitsOk spec_ckParse.T8.2 spec_ckParse.B8 = true := by kernel_rfl
set_option maxHeartbeats 8000000 in
set_option maxRecDepth 100000 in
theorem spec_ckParse.calls (k : Nat) (a0 : ByteArray) (r1 : Int) (r2 : List Int) (r3 : Bool) (w : World) (h : spec_ckParse.f k a0 = some (r1, r2, r3)) :
  Calls Tryz.prog 161 #[.string a0] w fun e w' => ∃ v1_ : Value, e = .returned (.tuple #[.agg #[.int .i64 r1, v1_], .bool r3]) ∧ Kd.R (Kd.int .i64) 3 w' w.heap.size (fun _ => True) v1_ r2 ∧ Below w.heap.size w w' := by
 have hu51 := Tryz.underlying51
 have HB := Aside0.mk (Below.refl w.heap.size w)
 have H : ((spec_l1Split.f k a0 58).bind fun t450 => (if (a0.size : Int) > 40 then (spec_ckParse.j0 k t450 true) else (spec_ckParse.j0 k t450 ((t450.length : Int) != 2)))) = some (r1, r2, r3) := h
 clear h
 replace H := Option.bind_eq_some_iff.mp H
 obtain ⟨t450, A20, H⟩ := H
 replace H : (if (a0.size : Int) > 40 then (spec_ckParse.j0 k t450 true) else (spec_ckParse.j0 k t450 ((t450.length : Int) != 2))) = some (r1, r2, r3) := H
 have A2 := Aside0.mk A20
 clear A20
 have HC3 := Aside0.mk H
 clear H
 go_enter Tryz.func161, Tryz.ntmps161
 go_upto_region 2 with (first | ((with_reducible refine gate_dst (N := 2) rfl ?_); (try (refine gate_guard (by rfl) ?_; dsimp only)); refine box_event ?hg (N := 2) ?hd (cs := #[.int .i64 0, .slice none 0 0]) (t := 51) ?hr ?_; (case hd => rfl); (case hg => rfl); (case hr => exact Z13); intro gb449 hg w4 hbox hb; have n0_ := Aside0.mk (below_step Z0 hb); have n1_ := Aside0.mk (hbox); have n2_ := Aside0.mk ((Z18 : w.heap.size ≤ gb449)); have n3_ := Aside0.mk ((Z18 : w.heap.size ≤ gb449)); clear HB; revert n0_ n1_ n2_ n3_; intro HB BK449 GW449 GE449; clear hb hbox hg) | ((with_reducible refine gate_callee (f := 196) rfl ?_); refine goesL_ (some 9) rfl rfl Tryz.func196 (by kernel_rfl) rfl #[.string a0, .int .u8 58] rfl Z1 ?_; (with_reducible refine (spec_l1Split.calls k a0 58 t450 _ A2.out).mono ?_); rintro e w5 ⟨v451, rfl, ho0, hb⟩; refine ⟨_, rfl, ?_⟩; have n0_ := Aside0.mk (Kd.R_lower ho0 (below_size Z53)); have n1_ := Aside0.mk (blk_below (g := gb449) (o := .cells #[.int .i64 0, .slice none 0 0] 51 (0, 0)) Z56 hb); have n2_ := Aside0.mk (below_step Z53 hb); clear BK449 HB; revert n0_ n1_ n2_; intro HO452 BK449 HB; (try clear hb); (try clear hb2); (try clear hk); (try clear hi); (try clear ho0)))
 (try simp only [Act.put, List.setIfInBounds_toArray, List.set_cons_zero, List.set_cons_succ])
 go_cut [17] (fun v17 wc => ∃ (kq : Nat) (x17_2 : Bool), v17 = .bool x17_2 ∧ Aside0 (spec_ckParse.j0 kq t450 x17_2 = some (r1, r2, r3)) ∧ Aside0 (kq ≤ k) ∧ Aside0 (Kd.R Kd.string 9 wc w.heap.size (fun _ => True) v451 t450) ∧ Aside0 (wc.heap[gb449]? = some (.cells #[.int .i64 0, (.slice none 0 0)] 51 (0, 0))) ∧ Aside0 (Below w.heap.size w wc))
 case first =>
  have H := HC3.out
  clear HC3
  by_cases c6 : (a0.size : Int) > 40
  ·
   rw [if_pos c6] at H
   have c6b0 : decide (40 < (a0.size : Int)) = true := decide_eq_true c6
   have c6b1 : decide (40 < a0.size) = true := decide_eq_true (by omega)
   clear c6
   (first | rw [c6b0] | (simp only [i64_w, i32_w]; rw [c6b0]) | skip)
   have H' := Aside0.mk H
   clear H
   go_wp2
   go_meet
   case rel => exact ⟨_, (true), Z3, H', ⟨by first | omega | exact Nat.le_refl _⟩, ⟨by (with_reducible repeat (first | apply Kd.R_alloc | apply Kd.R_drewN | apply Kd.R_drew)); exact HO452.out⟩, ⟨by (with_reducible repeat (first | refine blk_drewN ?_ _ | refine blk_drew ?_ | refine blk_alloc ?_ _)); exact BK449.out⟩, ⟨by repeat (first | (with_reducible first | exact HB.out | apply below_alloc | apply pw_below_drewN | apply below_drew1 | refine below_set ?_ GE449.out) | exact HB.out)⟩⟩
  ·
   rw [if_neg c6] at H
   have c6b0 : decide (40 < (a0.size : Int)) = false := decide_eq_false c6
   have c6b1 : decide (40 < a0.size) = false := decide_eq_false (by omega)
   clear c6
   (first | rw [c6b0] | (simp only [i64_w, i32_w]; rw [c6b0]) | skip)
   have H' := Aside0.mk H
   clear H
   obtain ⟨Ao7, co7, eo7⟩ := Kd.R_slice HO452.out
   subst eo7
   go_wp2
   go_meet
   case rel => exact ⟨_, (((t450.length : Int) != 2)), Z3, H', ⟨by first | omega | exact Nat.le_refl _⟩, ⟨by (with_reducible repeat (first | apply Kd.R_alloc | apply Kd.R_drewN | apply Kd.R_drew)); exact HO452.out⟩, ⟨by (with_reducible repeat (first | refine blk_drewN ?_ _ | refine blk_drew ?_ | refine blk_alloc ?_ _)); exact BK449.out⟩, ⟨by repeat (first | (with_reducible first | exact HB.out | apply below_alloc | apply pw_below_drewN | apply below_drew1 | refine below_set ?_ GE449.out) | exact HB.out)⟩⟩
 case rest =>
  clear HC3
  (try clear c1); (try clear p2); (try clear c6); (try clear c6b0); (try clear c6b1)
  obtain ⟨kq, x17_2, rfl, HA, HJ2, HO_4, BK449, HB⟩ := hcut
  cases kq with
  | zero => exact absurd HA.out (by simp [spec_ckParse.j0])
  | succ kj2 =>
   have H := HA.out
   clear HA
   simp only [spec_ckParse.j0] at H
   by_cases c8 : x17_2 = true
   ·
    subst c8
    have H1 : (some (0, ([] : List Int), false)) = some (r1, r2, r3) := by rw [if_pos rfl] at H; exact H
    clear H
    have H := H1
    clear H1
    simp only [Option.some.injEq, Prod.mk.injEq] at H
    obtain ⟨rfl, rfl, rfl⟩ := H
    have hcz9_0 : wc.cell? ⟨gb449, 0, none⟩ = some (.int .i64 0) := (blk_cell BK449.out 0).trans rfl
    have hcz9_1 : wc.cell? ⟨gb449, 1, none⟩ = some (.slice none 0 0) := (blk_cell BK449.out 1).trans rfl
    have hfz9_0 := blk_frozen BK449.out 0
    have hfz9_1 := blk_frozen BK449.out 1
    go_wp2
    refine bodyPost_ret (results_ct rfl _ _ gb449 51 #[.int .i64 0, .slice none 0 0] (0, 0) _ rfl Z84 Tryz.underlying51 rfl (by kernel_rfl)) rfl ?_
    exact ⟨_, by first | rfl | (simp [errW_none, errW_some] <;> rfl) | (simp [*, errW_none, errW_some] <;> rfl), by first | exact Kd.R_nil _ _ _ _ _ | exact Kd.N_nil _ _ _ _ _ | exact Kd.V_nil _ _ _ _ _ | exact Kd.Q_nil _ _ _ _ _ | exact Kd.S_nil _ _ _ _ _, by repeat (first | (with_reducible first | exact HB.out | apply below_alloc | apply pw_below_drewN | apply below_drew1 | refine below_set ?_ GE449.out) | exact HB.out)⟩
   ·
    replace c8 := Bool.eq_false_iff.mpr c8
    subst c8
    have H1 : (if 0 < (t450.length : Int) then ((spec_l1Read.f kj2 (rdOf ByteArray.empty t450 0)).bind fun t454 => (if 1 < (t450.length : Int) then ((spec_l1Split.f kj2 (rdOf ByteArray.empty t450 1) 44).bind fun t457 => (spec_ckParse.l0 kj2 t457 (t457.length : Int) 0 t454 ([] : List Int))) else (none))) else (none)) = some (r1, r2, r3) := by rw [if_neg (show ¬ (false = true) by decide)] at H; exact H
    clear H
    have H := H1
    clear H1
    by_cases c10 : 0 < (t450.length : Int)
    ·
     rw [if_pos c10] at H
     have c10b0 : decide (0 < (t450.length : Int)) = true := decide_eq_true c10
     have c10b1 : decide (0 < t450.length) = true := decide_eq_true (by omega)
     clear c10
     replace H := Option.bind_eq_some_iff.mp H
     obtain ⟨t454, A110, H⟩ := H
     replace H : (if 1 < (t450.length : Int) then ((spec_l1Split.f kj2 (rdOf ByteArray.empty t450 1) 44).bind fun t457 => (spec_ckParse.l0 kj2 t457 (t457.length : Int) 0 t454 ([] : List Int))) else (none)) = some (r1, r2, r3) := H
     have A11 := Aside0.mk A110
     clear A110
     by_cases c12 : 1 < (t450.length : Int)
     ·
      rw [if_pos c12] at H
      have c12b0 : decide (1 < (t450.length : Int)) = true := decide_eq_true c12
      have c12b1 : decide (1 < t450.length) = true := decide_eq_true (by omega)
      clear c12
      replace H := Option.bind_eq_some_iff.mp H
      obtain ⟨t457, A130, H⟩ := H
      replace H : (spec_ckParse.l0 kj2 t457 (t457.length : Int) 0 t454 ([] : List Int)) = some (r1, r2, r3) := H
      have A13 := Aside0.mk A130
      clear A130
      have H' := Aside0.mk H
      clear H
      obtain ⟨Ao14, co14, eo14⟩ := Kd.R_slice HO_4.out
      subst eo14
      have p453 : 0 ≤ (0 : Int) := (by omega)
      have q453 : 0 < (t450.length : Int) := Z2
      obtain ⟨ad453, e453, hx453_0⟩ := Kd.at_string (Kd.R_reads' HO_4.out).2.2 0 p453 q453
      cases e453
      have qi453 : (0 < t450.length) = True := eq_true (by omega)
      (try rw [show ((0 : Int)).toNat = 0 from rfl] at hx453_0)
      (try rw [Addr.add_zero'] at hx453_0)
      replace p453 := eq_true p453
      replace q453 := eq_true q453
      go_wp2_with (first | ((with_reducible refine gate_callee (f := 197) rfl ?_); refine goesL_ (some 22) rfl rfl Tryz.func197 (by kernel_rfl) rfl #[.string (rdOf ByteArray.empty t450 0)] rfl Z1 ?_; (with_reducible refine (spec_l1Read.calls kj2 (rdOf ByteArray.empty t450 0) t454 _ A11.out).mono ?_); rintro e w' ⟨rfl, ⟨nd, rfl⟩⟩; refine ⟨_, rfl, ?_⟩; (try (rw [drewN_self wc]; generalize hq_ : World.drewN wc _ = wc; have n0_ : Aside0 (Kd.R Kd.string 9 wc w.heap.size (fun _ => True) (.slice (some ad453) t450.length co14) t450) := ⟨by rw [← hq_]; exact Z62⟩; have n1_ : Aside0 (wc.heap[gb449]? = some (.cells #[.int .i64 0, .slice none 0 0] 51 (0, 0))) := ⟨by rw [← hq_]; exact Z56⟩; have n2_ : Aside0 (Below w.heap.size w wc) := ⟨by rw [← hq_]; exact Z53⟩; clear HO_4 BK449 HB hq_; revert n0_ n1_ n2_; intro HO_4 BK449 HB))) | ((with_reducible refine gate_dst (N := 5) rfl ?_); (try (refine gate_guard (by rfl) ?_; dsimp only)); refine box_event ?hg (N := 5) ?hd (cs := #[.int .i64 0, .slice none 0 0]) (t := 51) ?hr ?_; (case hd => rfl); (case hg => rfl); (case hr => exact Z13); intro gb455 hg w15 hbox hb; have n0_ := Aside0.mk (Kd.R_below Z62 hb); have n1_ := Aside0.mk (blk_below (g := gb449) (o := .cells #[.int .i64 0, .slice none 0 0] 51 (0, 0)) Z56 hb); have n2_ := Aside0.mk (below_step Z53 hb); have n3_ := Aside0.mk (hbox); have n4_ := Aside0.mk ((by rw [hg]; exact (below_size Z53) : w.heap.size ≤ gb455)); have n5_ := Aside0.mk ((by rw [hg]; exact (below_size Z53) : w.heap.size ≤ gb455)); have n6_ := Aside0.mk ((by rw [hg]; exact Nat.ne_of_lt (blk_lt (g := gb449) (o := .cells #[.int .i64 0, .slice none 0 0] 51 (0, 0)) Z56) : gb449 ≠ gb455)); have n7_ := Aside0.mk ((by rw [hg]; exact Nat.ne_of_gt (blk_lt (g := gb449) (o := .cells #[.int .i64 0, .slice none 0 0] 51 (0, 0)) Z56) : gb455 ≠ gb449)); clear HO_4 BK449 HB; revert n0_ n1_ n2_ n3_ n4_ n5_ n6_ n7_; intro HO_4 BK449 HB BK455 GW455 GE455 NB449_455 NB455_449; clear hb hbox hg; have hnb16 := NB455_449.out; have hnc16 := NB449_455.out; have hcz17_0 : w15.cell? ⟨gb455, 0, none⟩ = some (.int .i64 0) := (blk_cell BK455.out 0).trans rfl; have hcz17_1 : w15.cell? ⟨gb455, 1, none⟩ = some (.slice none 0 0) := (blk_cell BK455.out 1).trans rfl; have hfz17_0 := blk_frozen BK455.out 0; have hfz17_1 := blk_frozen BK455.out 1; have p456 : 0 ≤ (1 : Int) := (by omega); have q456 : 1 < (t450.length : Int) := Z2; obtain ⟨ad456, e456, hx456_0⟩ := Kd.at_string (Kd.R_reads' HO_4.out).2.2 1 p456 q456; obtain rfl : ad453 = ad456 := (by injection e456); (try simp only [show (1 : Int).toNat = 1 from rfl, Nat.reduceMul, Nat.reduceEqDiff, Go.Addr.add, ↓reduceIte] at hx456_0); have qi456 : (1 < t450.length) = True := eq_true (by omega); (try rw [show ((1 : Int)).toNat = 1 from rfl] at hx456_0); have hn456_0 : ad453.block ≠ gb455 := Kd.own_blk (Kd.R_ne HO_4.out BK455.out (by decide)); have hn456_1 : ad453.block ≠ gb455 := Kd.own_blk (Kd.R_ne HO_4.out BK455.out (by decide)); replace hx456_0 := (cell_far (p := ⟨gb455, 0, none⟩) (by first | (rw [add_block]; exact hn456_0) | (show (Addr.add _ _).block ≠ _; rw [add_block]; exact hn456_0) | exact hn456_0) (.int .i64 t454)).trans hx456_0; replace hx456_0 := (cell_far (p := ⟨gb455, 1, none⟩) (by first | (rw [add_block]; exact hn456_1) | (show (Addr.add _ _).block ≠ _; rw [add_block]; exact hn456_1) | exact hn456_1) (.slice none 0 0)).trans hx456_0; clear hn456_0; clear hn456_1; replace p456 := eq_true p456; replace q456 := eq_true q456) | ((with_reducible refine gate_callee (f := 196) rfl ?_); refine goesL_ (some 27) rfl rfl Tryz.func196 (by kernel_rfl) rfl #[.string (rdOf ByteArray.empty t450 1), .int .u8 44] rfl Z1 ?_; (with_reducible refine (spec_l1Split.calls kj2 (rdOf ByteArray.empty t450 1) 44 t457 _ A13.out).mono ?_); rintro e w18 ⟨v458, rfl, ho0, hb⟩; refine ⟨_, rfl, ?_⟩; have n0_ := Aside0.mk (Kd.R_elder' Z116 (Kd.R_base ho0) hb); have n1_ := Aside0.mk (Kd.R_lower (Kd.R_new' ho0 (Kd.R_lt Z116)) (below_size Z39)); have n2_ := Aside0.mk (blk_below (g := gb449) (o := .cells #[.int .i64 0, .slice none 0 0] 51 (0, 0)) (by (with_reducible repeat (first | refine blk_drewN ?_ _ | refine blk_drew ?_ | refine blk_alloc ?_ _)); refine blk_far ?_ NB449_455.out _; (with_reducible repeat (first | refine blk_drewN ?_ _ | refine blk_drew ?_ | refine blk_alloc ?_ _)); refine blk_far ?_ NB449_455.out _; (with_reducible repeat (first | refine blk_drewN ?_ _ | refine blk_drew ?_ | refine blk_alloc ?_ _)); exact BK449.out) hb); have n3_ := Aside0.mk (blk_below (g := gb455) (o := .cells #[.int .i64 t454, .slice none 0 0] 51 (0, 0)) (by (with_reducible repeat (first | refine blk_drewN ?_ _ | refine blk_drew ?_ | refine blk_alloc ?_ _)); refine blk_put (cs := #[.int .i64 t454, .slice none 0 0]) ?_ 1 _ rfl; (with_reducible repeat (first | refine blk_drewN ?_ _ | refine blk_drew ?_ | refine blk_alloc ?_ _)); refine blk_put (cs := #[.int .i64 0, .slice none 0 0]) ?_ 0 _ rfl; (with_reducible repeat (first | refine blk_drewN ?_ _ | refine blk_drew ?_ | refine blk_alloc ?_ _)); exact BK455.out) hb); have n4_ := Aside0.mk (below_step Z39 hb); clear HO_4 BK449 BK455 HB; revert n0_ n1_ n2_ n3_ n4_; intro HO_4 HO459 BK449 BK455 HB; (try clear hb); (try clear hb2); (try clear hk); (try clear hi); (try clear ho0); obtain ⟨Ao19, co19, eo19⟩ := Kd.R_slice HO459.out; subst eo19))
      go_loopg [29] kj2 (fun kq v29 w' => ∃ (x29_2 : Int) (x456001_2 : List Int) (u456001 : Value), v29 = .int .i64 x29_2 ∧ Aside0 (spec_ckParse.l0 kq t457 (t457.length : Int) x29_2 t454 x456001_2 = some (r1, r2, r3)) ∧ Aside0 (kq ≤ kj2) ∧ Aside0 (Kd.R Kd.string 9 w' w.heap.size (fun _ => True) (.slice Ao19 t457.length co19) t457) ∧ Aside0 (Kd.R (Kd.int .i64) 3 w' w.heap.size (fun _ => True) u456001 x456001_2) ∧ Aside0 (w'.heap[gb449]? = some (.cells #[.int .i64 0, (.slice none 0 0)] 51 (0, 0))) ∧ Aside0 (w'.heap[gb455]? = some (.cells #[.int .i64 t454, u456001] 51 (0, 0))) ∧ Aside0 (Below w.heap.size w w'))
      case atStart => exact ⟨(0), (([] : List Int)), (.slice none 0 0), Z3, H', ⟨Nat.le_refl _⟩, ⟨by (with_reducible repeat (first | apply Kd.R_alloc | apply Kd.R_drewN | apply Kd.R_drew)); exact Kd.R_mono HO459.out (fun _ hk => trivial)⟩, ⟨by first | exact Kd.R_nil _ _ _ _ _ | exact Kd.N_nil _ _ _ _ _ | exact Kd.V_nil _ _ _ _ _ | exact Kd.Q_nil _ _ _ _ _ | exact Kd.S_nil _ _ _ _ _⟩, ⟨by (with_reducible repeat (first | refine blk_drewN ?_ _ | refine blk_drew ?_ | refine blk_alloc ?_ _)); exact BK449.out⟩, ⟨by (with_reducible repeat (first | refine blk_drewN ?_ _ | refine blk_drew ?_ | refine blk_alloc ?_ _)); exact BK455.out⟩, ⟨by repeat (first | (with_reducible first | exact HB.out | apply below_alloc | apply pw_below_drewN | apply below_drew1 | refine below_set ?_ GE449.out | refine below_set ?_ GE455.out) | exact HB.out)⟩⟩
      case round =>
       clear H'
       (try clear c1); (try clear p2); (try clear p4); (try clear q4); (try clear hx4); (try clear qi4); (try clear c6); (try clear c6b0); (try clear c6b1); (try clear c8); (try clear c10); (try clear c10b0); (try clear c10b1); (try clear c12); (try clear c12b0); (try clear c12b1); (try clear c16); (try clear c19); (try clear hcz17_0); (try clear hcz17_1); (try clear hcz9_0); (try clear hcz9_1); (try clear hfz17_0); (try clear hfz17_1); (try clear hfz9_0); (try clear hfz9_1); (try clear hx453_0); (try clear hx456_0); (try clear p2); (try clear p453); (try clear p456); (try clear q453); (try clear q456)
       obtain ⟨x29_2, x456001_2, u456001, rfl, HA, HK2, HO_27, HO_456001, BK449, BK455, HB⟩ := hrel
       cases gk with
       | zero => exact absurd HA.out (by simp [spec_ckParse.l0])
       | succ k2 =>
        have H := HA.out
        clear HA
        simp only [spec_ckParse.l0] at H
        by_cases c20 : x29_2 < (t457.length : Int)
        ·
         rw [if_pos c20] at H
         have c20b0 : decide (x29_2 < (t457.length : Int)) = true := decide_eq_true c20
         clear c20
         by_cases c21 : 0 ≤ x29_2
         ·
          rw [if_pos c21] at H
          have c21b0 : decide (0 ≤ x29_2) = true := decide_eq_true c21
          clear c21
          by_cases c22 : x29_2 < (t457.length : Int)
          ·
           rw [if_pos c22] at H
           have c22b0 : decide (x29_2 < (t457.length : Int)) = true := decide_eq_true c22
           clear c22
           replace H := Option.bind_eq_some_iff.mp H
           obtain ⟨t461, A230, H⟩ := H
           replace H : (if x456001_2.length < 17592186044416 then (spec_ckParse.l0 k2 t457 (t457.length : Int) (wrap64 (x29_2 + 1)) t454 (x456001_2 ++ [t461])) else (none)) = some (r1, r2, r3) := H
           have A23 := Aside0.mk A230
           clear A230
           by_cases c24 : x456001_2.length < 17592186044416
           ·
            rw [if_pos c24] at H
            have LMc24 := Aside0.mk c24
            clear c24
            obtain ⟨y462, hy462⟩ : ∃ y_ : List Int, y_ = (x456001_2 ++ [t461]) := ⟨_, rfl⟩
            replace H : (spec_ckParse.l0 k2 t457 (t457.length : Int) (wrap64 (x29_2 + 1)) t454 y462) = some (r1, r2, r3) := by first | (rw [hy462]; with_reducible exact H) | (have H2_ := (Option.bind_some _ _).symm.trans H; rw [hy462]; with_reducible exact H2_) | (have H2_ := (Option.bind_some _ _).symm.trans H; with_reducible exact H2_) | with_reducible exact H | (rw [hy462]; exact H) | exact H
            have Ny462 := Aside0.mk hy462
            clear hy462
            have H' := Aside0.mk H
            clear H
            have p460 : 0 ≤ (x29_2 : Int) := Z2
            have q460 : x29_2 < (t457.length : Int) := Z2
            obtain ⟨ad460, e460, hx460_0⟩ := Kd.at_string (Kd.R_reads' HO_27.out).2.2 x29_2 p460 q460
            cases e460
            replace p460 := eq_true p460
            replace q460 := eq_true q460
            try go_wp2
            have n0_ := Aside0.mk (Kd.R_drew HO_27.out)
            have n1_ := Aside0.mk (Kd.R_drew HO_456001.out)
            have n2_ := Aside0.mk (blk_drew BK449.out)
            have n3_ := Aside0.mk (blk_drew BK455.out)
            have n4_ := Aside0.mk (below_drew1 HB.out)
            clear HO_27 HO_456001 BK449 BK455 HB; revert n0_ n1_ n2_ n3_ n4_; intro HO_27 HO_456001 BK449 BK455 HB
            refine start_ (n := 8) (S := fun w' => w'.cell? ⟨gb455, 0, none⟩ = some (.int .i64 t454) ∧ w'.cell? ⟨gb455, 1, none⟩ = some (u456001)) (ds := [7]) #[false, false, false, false, false, false, false, false] (by kernel_rfl) rfl rfl ⟨(blk_cell BK455.out 0).trans rfl, (blk_cell BK455.out 1).trans rfl⟩ (fun hHeld => ?_); refine with_tabW spec_ckParse.tab8 spec_ckParse.bits8 (fun HT_ HW_ => ?_)
            generalize wr.drew = w25 at HO_27 HO_456001 BK449 BK455 HB hHeld ⊢
            refine pure_ (i := 0) (N := some 33) (v := ?_) (a' := ?_) #[true, false, false, false, false, false, false, false] rfl rfl (any_of HT_.out (by kernel_rfl)) (fun _ _ _ h => h) (Or.inl ⟨by rfl, ?_⟩) ?_ ?_
            rotate_left
            ·
             intro w'
             go_simp
             with_reducible rfl
            rotate_left
            ·
             simp only [Act.put, List.setIfInBounds_toArray, List.set_cons_zero, List.set_cons_succ, i64_w, i32_w]
             rfl
            refine pure_ (i := 2) (N := some 35) (v := ?_) (a' := ?_) #[true, false, true, false, false, false, false, false] rfl rfl (any_of HT_.out (by kernel_rfl)) (fun _ _ _ h => h) (Or.inl ⟨by rfl, ?_⟩) ?_ ?_
            rotate_left
            ·
             intro w'
             go_simp
             with_reducible rfl
            rotate_left
            ·
             simp only [Act.put, List.setIfInBounds_toArray, List.set_cons_zero, List.set_cons_succ, i64_w, i32_w]
             rfl
            refine take_ (i := 1) (N := some 34) (v := ?_) (a' := ?_) #[true, true, true, false, false, false, false, false] rfl rfl (take_ofW HT_.out HW_.out (by kernel_rfl)) (fun _ _ _ h => h) (Or.inl ⟨by rfl, ?_⟩) hHeld ?_ ?_
            rotate_left
            ·
             rintro w' ⟨s0, s1⟩
             go_simp
             with_reducible rfl
            rotate_left
            ·
             simp only [Act.put, List.setIfInBounds_toArray, List.set_cons_zero, List.set_cons_succ, i64_w, i32_w]
             rfl
            refine one_ (i := 3) (N := some 36) #[true, true, true, true, false, false, false, false] rfl rfl (one_of HT_.out (by kernel_rfl)) (by decide) (fun K hK => ?_)
            refine goes_ Tryz.func197 (by kernel_rfl) rfl #[.string (rdOf ByteArray.empty t457 x29_2)] (by rfl) rfl rfl Z1 ?_
            with_reducible refine (spec_l1Read.calls k2 (rdOf ByteArray.empty t457 x29_2) t461 _ A23.out).mono ?_
            rintro e w' ⟨rfl, ⟨nd, rfl⟩⟩
            refine ⟨_, rfl, ?_⟩
            refine hK.out _ _ ⟨(blk_cell BK455.out 0).trans rfl, (blk_cell BK455.out 1).trans rfl⟩ (fun hHeld => ?_)
            clear hK K
            refine norm_ (a' := ?_) ?_ ?_
            rotate_left
            ·
             show Act.put _ (some 36) _ = _
             simp only [Act.put, List.setIfInBounds_toArray, List.set_cons_zero, List.set_cons_succ, i64_w, i32_w]
             rfl
            refine one_ (i := 4) (N := some 37) #[true, true, true, true, true, false, false, false] rfl rfl (one_of HT_.out (by kernel_rfl)) (by decide) (fun K hK => ?_)
            refine value_ (w1 := ?_) (v := ?_) (by rfl) rfl ?_ ?_
            rotate_left 2
            ·
             go_simp
             constructor
             ·
              rfl
             ·
              rfl
            refine hK.out _ _ ⟨(blk_cell (blk_alloc BK455.out _) 0).trans rfl, (blk_cell (blk_alloc BK455.out _) 1).trans rfl⟩ (fun hHeld => ?_)
            clear hK K
            refine norm_ (a' := ?_) ?_ ?_
            rotate_left
            ·
             show Act.put _ (some 37) _ = _
             simp only [Act.put, List.setIfInBounds_toArray, List.set_cons_zero, List.set_cons_succ, i64_w, i32_w]
             rfl
            refine one_ (i := 5) (N := some 38) #[true, true, true, true, true, true, false, false] rfl rfl (one_of HT_.out (by kernel_rfl)) (by decide) (fun K hK => ?_)
            refine Kd.R_append_step (Kd.int .i64) (w0 := w) w.heap.size (by rfl) (.tmp 34) (.tmp 37) 40 3 (.int .i64 0) 8 rfl Tryz.underlying40 info3 rfl (by decide) (by omega) u456001 x456001_2 t461 [.int .i64 t461] (fun _ => True) (fun _ => False) rfl rfl ?aP (fun _ hk => hk.elim) ?aF ?aO ?aB ?aS ?aL ?_
            (case aP => exact rfl)
            (case aB => exact Z39)
            (case aF => exact (fun _ _ => trivial))
            (case aO => exact Z117)
            (case aS => exact (below_size Z39))
            (case aL => have := LMc24.out; omega)
            intro v463 w26 ho hb hg hat
            rw [← Ny462.out] at ho
            have n0_ := Aside0.mk (Kd.R_over' Z126 (Kd.R_typed Z117) (by decide) hg)
            have n1_ := Aside0.mk (blk_grown (g := gb449) (o := .cells #[.int .i64 0, .slice none 0 0] 51 (0, 0)) Z56 hg (Kd.R_ne HO_456001.out BK449.out (by decide)))
            have n2_ := Aside0.mk (blk_grown (g := gb455) (o := .cells #[.int .i64 t454, u456001] 51 (0, 0)) Z123 hg (Kd.R_ne HO_456001.out BK455.out (by decide)))
            have n3_ := Aside0.mk (hb)
            have n4_ := Aside0.mk (ho)
            clear HO_27 BK449 BK455 HB HO_456001; revert n0_ n1_ n2_ n3_ n4_; intro HO_27 BK449 BK455 HB HO464
            clear ho hb hg hat
            obtain ⟨Ao27, co27, eo27⟩ := Kd.R_slice HO464.out
            (first | subst eo27 | (injection eo27 with f1_ f2_ f3_; have f4_ := f1_.symm; have f5_ := f3_.symm; clear f1_ f2_ f3_; subst f4_; subst f5_))
            refine hK.out _ _ ⟨(blk_cell BK455.out 0).trans rfl, (blk_cell BK455.out 1).trans rfl⟩ (fun hHeld => ?_)
            clear hK K
            refine norm_ (a' := ?_) ?_ ?_
            rotate_left
            ·
             show Act.put _ (some 38) _ = _
             simp only [Act.put, List.setIfInBounds_toArray, List.set_cons_zero, List.set_cons_succ, i64_w, i32_w]
             rfl
            refine pure_ (i := 6) (N := some 39) (v := ?_) (a' := ?_) #[true, true, true, true, true, true, true, false] rfl rfl (any_of HT_.out (by kernel_rfl)) (fun _ _ _ h => h) (Or.inl ⟨by rfl, ?_⟩) ?_ ?_
            rotate_left
            ·
             intro w'
             go_simp
             with_reducible rfl
            rotate_left
            ·
             simp only [Act.put, List.setIfInBounds_toArray, List.set_cons_zero, List.set_cons_succ, i64_w, i32_w]
             rfl
            refine last_ (i := 7) (N := none) #[true, true, true, true, true, true, true, true] rfl rfl (one_of HT_.out (by kernel_rfl)) (by decide) (fun K hK => ?_)
            have hs28 : w26.cell? ⟨gb455, 1, none⟩ = some (u456001) := (blk_cell BK455.out 1).trans rfl
            have hfs28 := blk_frozen BK455.out 1
            have hns28_0 := NB449_455.out
            have hms28_0 := NB455_449.out
            refine skip_ (w1 := ?_) (by rfl) rfl ?_ ?_
            rotate_left
            ·
             go_simp
             rfl
            refine hK.out _ _ ?_
            clear hK K
            refine done_ (done_of HT_.out (by kernel_rfl)) ?_
            try go_wp2
            go_roundg k2
            case measure => have := HJ2.out; have := HK2.out; omega
            case rel => exact ⟨(wrap64 (x29_2 + 1)), (y462), (.slice Ao27 y462.length co27), Z3, H', ⟨by have := HJ2.out; have := HK2.out; omega⟩, ⟨by (with_reducible repeat (first | apply Kd.R_alloc | apply Kd.R_drewN | apply Kd.R_drew)); exact Kd.R_mono (Kd.R_far (p := ⟨gb455, 1, none⟩) (Kd.R_types HO_27.out BK455.out (by decide)) (fun _ hk => hk.2) (.slice Ao27 y462.length co27)) (fun _ hk => trivial)⟩, ⟨by (with_reducible repeat (first | apply Kd.R_alloc | apply Kd.R_drewN | apply Kd.R_drew)); exact Kd.R_mono (Kd.R_far (p := ⟨gb455, 1, none⟩) (Kd.R_types HO464.out BK455.out (by decide)) (fun _ hk => hk.2) (.slice Ao27 y462.length co27)) (fun _ hk => trivial)⟩, ⟨by (with_reducible repeat (first | refine blk_drewN ?_ _ | refine blk_drew ?_ | refine blk_alloc ?_ _)); refine blk_far ?_ NB449_455.out _; (with_reducible repeat (first | refine blk_drewN ?_ _ | refine blk_drew ?_ | refine blk_alloc ?_ _)); exact BK449.out⟩, ⟨by (with_reducible repeat (first | refine blk_drewN ?_ _ | refine blk_drew ?_ | refine blk_alloc ?_ _)); refine blk_put (cs := #[.int .i64 t454, u456001]) ?_ 1 _ rfl; (with_reducible repeat (first | refine blk_drewN ?_ _ | refine blk_drew ?_ | refine blk_alloc ?_ _)); exact BK455.out⟩, ⟨by repeat (first | (with_reducible first | exact HB.out | apply below_alloc | apply pw_below_drewN | apply below_drew1 | refine below_set ?_ GE449.out | refine below_set ?_ GE455.out) | exact HB.out)⟩⟩
           ·
            rw [if_neg c24] at H
            exact absurd H (by simp)
          ·
           rw [if_neg c22] at H
           exact absurd H (by simp)
         ·
          rw [if_neg c21] at H
          exact absurd H (by simp)
        ·
         rw [if_neg c20] at H
         have c20b0 : decide (x29_2 < (t457.length : Int)) = false := decide_eq_false c20
         clear c20
         replace H := Option.bind_eq_some_iff.mp H
         obtain ⟨t465, A290, H⟩ := H
         replace H : (if t465 = true then (some (t454, x456001_2, true)) else (some (0, ([] : List Int), false))) = some (r1, r2, r3) := H
         have A29 := Aside0.mk A290
         clear A290
         by_cases c30 : t465 = true
         ·
          subst c30
          have H1 : (some (t454, x456001_2, true)) = some (r1, r2, r3) := by rw [if_pos rfl] at H; exact H
          clear H
          have H := H1
          clear H1
          simp only [Option.some.injEq, Prod.mk.injEq] at H
          obtain ⟨rfl, rfl, rfl⟩ := H
          have hnb31 := NB455_449.out
          have hnc31 := NB449_455.out
          have hcz32_0 : wr.cell? ⟨gb455, 0, none⟩ = some (.int .i64 t454) := (blk_cell BK455.out 0).trans rfl
          have hcz32_1 : wr.cell? ⟨gb455, 1, none⟩ = some (u456001) := (blk_cell BK455.out 1).trans rfl
          have hfz32_0 := blk_frozen BK455.out 0
          have hfz32_1 := blk_frozen BK455.out 1
          obtain ⟨Ao33, co33, eo33⟩ := Kd.R_slice HO_456001.out
          subst eo33
          go_wp2_with (first | ((with_reducible refine gate_callee (f := 134) rfl ?_); refine goesL_ (some 42) rfl rfl Tryz.func134 (by kernel_rfl) rfl #[.agg #[.int .i64 t454, .slice Ao33 x456001_2.length co33]] rfl Z1 ?_; (with_reducible refine (spec_ckGood.calls k2 t454 _ _ x456001_2 true _ ?side1 ?side2 A29.out).mono ?_); (case side1 => exact Z131); (case side2 => exact (Kd.R_reads' HO_456001.out).2.1); rintro e w34 ⟨rfl, hb⟩; refine ⟨_, rfl, ?_⟩; have n0_ := Aside0.mk (Kd.R_below Z126 hb); have n1_ := Aside0.mk (Kd.R_below Z117 hb); have n2_ := Aside0.mk (blk_below (g := gb449) (o := .cells #[.int .i64 0, .slice none 0 0] 51 (0, 0)) Z56 hb); have n3_ := Aside0.mk (blk_below (g := gb455) (o := .cells #[.int .i64 t454, .slice Ao33 x456001_2.length co33] 51 (0, 0)) Z123 hb); have n4_ := Aside0.mk (below_step Z39 hb); clear HO_27 HO_456001 BK449 BK455 HB; revert n0_ n1_ n2_ n3_ n4_; intro HO_27 HO_456001 BK449 BK455 HB; (try clear hb); (try clear hb2); (try clear hk); (try clear hi); have hcz35_0 : w34.cell? ⟨gb455, 0, none⟩ = some (.int .i64 t454) := (blk_cell BK455.out 0).trans rfl; have hcz35_1 : w34.cell? ⟨gb455, 1, none⟩ = some (.slice Ao33 x456001_2.length co33) := (blk_cell BK455.out 1).trans rfl; have hfz35_0 := blk_frozen BK455.out 0; have hfz35_1 := blk_frozen BK455.out 1; have hcz36_0 : w34.cell? ⟨gb449, 0, none⟩ = some (.int .i64 0) := (blk_cell BK449.out 0).trans rfl; have hcz36_1 : w34.cell? ⟨gb449, 1, none⟩ = some (.slice none 0 0) := (blk_cell BK449.out 1).trans rfl; have hfz36_0 := blk_frozen BK449.out 0; have hfz36_1 := blk_frozen BK449.out 1))
          refine bodyPost_ret (results_ct rfl _ _ gb449 51 #[.int .i64 t454, .slice Ao33 x456001_2.length co33] (0, 0) _ rfl (by (with_reducible repeat (first | refine blk_drewN ?_ _ | refine blk_drew ?_ | refine blk_alloc ?_ _)); refine blk_put (cs := #[.int .i64 t454, .slice none 0 0]) ?_ 1 _ rfl; (with_reducible repeat (first | refine blk_drewN ?_ _ | refine blk_drew ?_ | refine blk_alloc ?_ _)); refine blk_put (cs := #[.int .i64 0, .slice none 0 0]) ?_ 0 _ rfl; (with_reducible repeat (first | refine blk_drewN ?_ _ | refine blk_drew ?_ | refine blk_alloc ?_ _)); exact BK449.out) Tryz.underlying51 rfl (by kernel_rfl)) rfl ?_
          exact ⟨_, by first | rfl | (simp [errW_none, errW_some] <;> rfl) | (simp [*, errW_none, errW_some] <;> rfl), by (with_reducible repeat (first | apply Kd.R_alloc | apply Kd.R_drewN | apply Kd.R_drew)); exact Kd.R_mono (Kd.R_far (p := ⟨gb449, 1, none⟩) (Kd.R_far (p := ⟨gb449, 0, none⟩) (Kd.R_types HO_456001.out BK449.out (by decide)) (fun _ hk => hk.2) (.int .i64 t454)) (fun _ hk => hk.2) (.slice Ao33 x456001_2.length co33)) (fun _ hk => trivial), by repeat (first | (with_reducible first | exact HB.out | apply below_alloc | apply pw_below_drewN | apply below_drew1 | refine below_set ?_ GE449.out | refine below_set ?_ GE455.out) | exact HB.out)⟩
         ·
          replace c30 := Bool.eq_false_iff.mpr c30
          subst c30
          have H1 : (some (0, ([] : List Int), false)) = some (r1, r2, r3) := by rw [if_neg (show ¬ (false = true) by decide)] at H; exact H
          clear H
          have H := H1
          clear H1
          simp only [Option.some.injEq, Prod.mk.injEq] at H
          obtain ⟨rfl, rfl, rfl⟩ := H
          have hnb37 := NB455_449.out
          have hnc37 := NB449_455.out
          have hcz38_0 : wr.cell? ⟨gb455, 0, none⟩ = some (.int .i64 t454) := (blk_cell BK455.out 0).trans rfl
          have hcz38_1 : wr.cell? ⟨gb455, 1, none⟩ = some (u456001) := (blk_cell BK455.out 1).trans rfl
          have hfz38_0 := blk_frozen BK455.out 0
          have hfz38_1 := blk_frozen BK455.out 1
          obtain ⟨Ao39, co39, eo39⟩ := Kd.R_slice HO_456001.out
          subst eo39
          go_wp2_with (first | ((with_reducible refine gate_callee (f := 134) rfl ?_); refine goesL_ (some 42) rfl rfl Tryz.func134 (by kernel_rfl) rfl #[.agg #[.int .i64 t454, .slice Ao39 x456001_2.length co39]] rfl Z1 ?_; (with_reducible refine (spec_ckGood.calls k2 t454 _ _ x456001_2 false _ ?side1 ?side2 A29.out).mono ?_); (case side1 => exact Z131); (case side2 => exact (Kd.R_reads' HO_456001.out).2.1); rintro e w40 ⟨rfl, hb⟩; refine ⟨_, rfl, ?_⟩; have n0_ := Aside0.mk (Kd.R_below Z126 hb); have n1_ := Aside0.mk (Kd.R_below Z117 hb); have n2_ := Aside0.mk (blk_below (g := gb449) (o := .cells #[.int .i64 0, .slice none 0 0] 51 (0, 0)) Z56 hb); have n3_ := Aside0.mk (blk_below (g := gb455) (o := .cells #[.int .i64 t454, .slice Ao39 x456001_2.length co39] 51 (0, 0)) Z123 hb); have n4_ := Aside0.mk (below_step Z39 hb); clear HO_27 HO_456001 BK449 BK455 HB; revert n0_ n1_ n2_ n3_ n4_; intro HO_27 HO_456001 BK449 BK455 HB; (try clear hb); (try clear hb2); (try clear hk); (try clear hi); have hcz41_0 : w40.cell? ⟨gb449, 0, none⟩ = some (.int .i64 0) := (blk_cell BK449.out 0).trans rfl; have hcz41_1 : w40.cell? ⟨gb449, 1, none⟩ = some (.slice none 0 0) := (blk_cell BK449.out 1).trans rfl; have hfz41_0 := blk_frozen BK449.out 0; have hfz41_1 := blk_frozen BK449.out 1))
          refine bodyPost_ret (results_ct rfl _ _ gb449 51 #[.int .i64 0, .slice none 0 0] (0, 0) _ rfl Z84 Tryz.underlying51 rfl (by kernel_rfl)) rfl ?_
          exact ⟨_, by first | rfl | (simp [errW_none, errW_some] <;> rfl) | (simp [*, errW_none, errW_some] <;> rfl), by first | exact Kd.R_nil _ _ _ _ _ | exact Kd.N_nil _ _ _ _ _ | exact Kd.V_nil _ _ _ _ _ | exact Kd.Q_nil _ _ _ _ _ | exact Kd.S_nil _ _ _ _ _, by repeat (first | (with_reducible first | exact HB.out | apply below_alloc | apply pw_below_drewN | apply below_drew1 | refine below_set ?_ GE449.out | refine below_set ?_ GE455.out) | exact HB.out)⟩
     ·
      rw [if_neg c12] at H
      exact absurd H (by simp)
    ·
     rw [if_neg c10] at H
     exact absurd H (by simp)

/-! ### spec_ParseScheme: function 78 -/
def spec_ParseScheme.f (k : Nat) (a0 : ByteArray) : Option (Int × List Int × Bool) := (spec_ckParse.f k a0).bind fun bt467 => (some (bt467.1, bt467.2.1, bt467.2.2))
set_option maxHeartbeats 8000000 in
set_option maxRecDepth 100000 in
theorem spec_ParseScheme.calls (k : Nat) (a0 : ByteArray) (r1 : Int) (r2 : List Int) (r3 : Bool) (w : World) (h : spec_ParseScheme.f k a0 = some (r1, r2, r3)) :
  Calls Tryz.prog 78 #[.string a0] w fun e w' => ∃ v1_ : Value, e = .returned (.tuple #[.agg #[.int .i64 r1, v1_], .bool r3]) ∧ Kd.R (Kd.int .i64) 3 w' w.heap.size (fun _ => True) v1_ r2 ∧ Below w.heap.size w w' := by
 have hu51 := Tryz.underlying51
 have HB := Aside0.mk (Below.refl w.heap.size w)
 have H : ((spec_ckParse.f k a0).bind fun bt467 => (some (bt467.1, bt467.2.1, bt467.2.2))) = some (r1, r2, r3) := h
 clear h
 replace H := Option.bind_eq_some_iff.mp H
 obtain ⟨⟨t467, t468, t471⟩, A20, H⟩ := H
 replace H : (some (t467, t468, t471)) = some (r1, r2, r3) := H
 have A2 := Aside0.mk A20
 clear A20
 simp only [Option.some.injEq, Prod.mk.injEq] at H
 obtain ⟨rfl, rfl, rfl⟩ := H
 go_enter Tryz.func78, Tryz.ntmps78
 go_wp2_with (first | ((with_reducible refine gate_dst (N := 2) rfl ?_); refine box_event ?hg (N := 2) ?hd (cs := #[.int .i64 0, .slice none 0 0]) (t := 51) ?hr ?_; (case hd => rfl); (case hg => rfl); (case hr => exact Z13); intro gb466 hg w3 hbox hb; have n0_ := Aside0.mk (below_step Z0 hb); have n1_ := Aside0.mk (hbox); have n2_ := Aside0.mk ((Z18 : w.heap.size ≤ gb466)); have n3_ := Aside0.mk ((Z18 : w.heap.size ≤ gb466)); clear HB; revert n0_ n1_ n2_ n3_; intro HB BK466 GW466 GE466; clear hb hbox hg) | ((with_reducible refine gate_callee (f := 161) rfl ?_); refine goesL_ (some 5) rfl rfl Tryz.func161 (by kernel_rfl) rfl #[.string a0] rfl Z1 ?_; (with_reducible refine (spec_ckParse.calls k a0 t467 t468 t471 _ A2.out).mono ?_); rintro e w4 ⟨v469, rfl, ho0, hb⟩; refine ⟨_, rfl, ?_⟩; have n0_ := Aside0.mk (Kd.R_lower ho0 (below_size Z138)); have n1_ := Aside0.mk (blk_below (g := gb466) (o := .cells #[.int .i64 0, .slice none 0 0] 51 (0, 0)) (by (with_reducible repeat (first | refine blk_drewN ?_ _ | refine blk_drew ?_ | refine blk_alloc ?_ _)); exact BK466.out) hb); have n2_ := Aside0.mk (below_step Z138 hb); clear BK466 HB; revert n0_ n1_ n2_; intro HO470 BK466 HB; (try clear hb); (try clear hb2); (try clear hk); (try clear hi); (try clear ho0); have hcz5_0 : w4.cell? ⟨gb466, 0, none⟩ = some (.int .i64 0) := (blk_cell BK466.out 0).trans rfl; have hcz5_1 : w4.cell? ⟨gb466, 1, none⟩ = some (.slice none 0 0) := (blk_cell BK466.out 1).trans rfl; have hfz5_0 := blk_frozen BK466.out 0; have hfz5_1 := blk_frozen BK466.out 1; obtain ⟨Ao6, co6, eo6⟩ := Kd.R_slice HO470.out; subst eo6))
 refine bodyPost_ret (results_ct rfl _ _ gb466 51 #[.int .i64 t467, .slice Ao6 t468.length co6] (0, 0) _ rfl (by (with_reducible repeat (first | refine blk_drewN ?_ _ | refine blk_drew ?_ | refine blk_alloc ?_ _)); refine blk_put (cs := #[.int .i64 t467, .slice none 0 0]) ?_ 1 _ rfl; (with_reducible repeat (first | refine blk_drewN ?_ _ | refine blk_drew ?_ | refine blk_alloc ?_ _)); refine blk_put (cs := #[.int .i64 0, .slice none 0 0]) ?_ 0 _ rfl; (with_reducible repeat (first | refine blk_drewN ?_ _ | refine blk_drew ?_ | refine blk_alloc ?_ _)); exact BK466.out) Tryz.underlying51 rfl (by kernel_rfl)) rfl ?_
 exact ⟨_, by first | rfl | (simp [errW_none, errW_some] <;> rfl) | (simp [*, errW_none, errW_some] <;> rfl), by (with_reducible repeat (first | apply Kd.R_alloc | apply Kd.R_drewN | apply Kd.R_drew)); exact Kd.R_mono (Kd.R_far (p := ⟨gb466, 1, none⟩) (Kd.R_far (p := ⟨gb466, 0, none⟩) (Kd.R_types HO470.out BK466.out (by decide)) (fun _ hk => hk.2) (.int .i64 t467)) (fun _ hk => hk.2) (.slice Ao6 t468.length co6)) (fun _ hk => trivial), by repeat (first | (with_reducible first | exact HB.out | apply below_alloc | apply pw_below_drewN | apply below_drew1 | refine below_set ?_ GE466.out) | exact HB.out)⟩

/-! ### impl_DoubledMissed_1: function 163 -/
def impl_DoubledMissed_1.f (a0 : Int) (a1 : Int) : Option (Bool) := (impl_doubled.f a0).bind fun t472 => ((impl_doubled.f a1).bind fun t473 => (some ((Int.tmod (wrap64 ((wrap64 ((wrap64 (t472 + a1)) - t473)) - a0)) 10) == 0)))
set_option maxHeartbeats 8000000 in
set_option maxRecDepth 100000 in
theorem impl_DoubledMissed_1.calls (a0 : Int) (a1 : Int) (r : Bool) (w : World) (h : impl_DoubledMissed_1.f a0 a1 = some r) :
  Calls Tryz.prog 163 #[.int .i64 a0, .int .i64 a1] w fun e w' => e = .returned (.bool r) ∧ Drawn0 w w' := by
 have H : ((impl_doubled.f a0).bind fun t472 => ((impl_doubled.f a1).bind fun t473 => (some ((Int.tmod (wrap64 ((wrap64 ((wrap64 (t472 + a1)) - t473)) - a0)) 10) == 0)))) = some r := h
 clear h
 replace H := Option.bind_eq_some_iff.mp H
 obtain ⟨t472, A30, H⟩ := H
 replace H : ((impl_doubled.f a1).bind fun t473 => (some ((Int.tmod (wrap64 ((wrap64 ((wrap64 (t472 + a1)) - t473)) - a0)) 10) == 0))) = some r := H
 have A3 := Aside0.mk A30
 clear A30
 replace H := Option.bind_eq_some_iff.mp H
 obtain ⟨t473, A40, H⟩ := H
 replace H : (some ((Int.tmod (wrap64 ((wrap64 ((wrap64 (t472 + a1)) - t473)) - a0)) 10) == 0)) = some r := H
 have A4 := Aside0.mk A40
 clear A40
 obtain rfl := Option.some.inj H
 go_enter Tryz.func163, Tryz.ntmps163
 go_wp2_with (first | ((with_reducible refine gate_callee (f := 164) rfl ?_); refine goesL_ (some 6) rfl rfl Tryz.func164 (by kernel_rfl) rfl #[.int .i64 a0] rfl Z1 ?_; (with_reducible refine (impl_doubled.calls a0 t472 _ A3.out).mono ?_); rintro e w' ⟨rfl, ⟨nd, rfl⟩⟩; refine ⟨_, rfl, ?_⟩) | ((with_reducible refine gate_callee (f := 164) rfl ?_); refine goesL_ (some 10) rfl rfl Tryz.func164 (by kernel_rfl) rfl #[.int .i64 a1] rfl Z1 ?_; (with_reducible refine (impl_doubled.calls a1 t473 _ A4.out).mono ?_); rintro e w' ⟨rfl, ⟨nd, rfl⟩⟩; refine ⟨_, rfl, ?_⟩))
 go_ret
 exact ⟨by first | rfl | (simp; done) | (simp only [Go.IntWalk.i64_left]; done) | (simp [*]; done) | (simp; omega), by repeat (first | exact Drawn0.refl _ | apply Drawn0.step)⟩

/-! ### impl_DoubledMissed: function 79 -/
def impl_DoubledMissed.f (k : Nat)  : Option ((List (List Int))) := (impl_pairsOf.f k (fun y0_ y1_ => impl_DoubledMissed_1.f y0_ y1_)).bind fun t474 => (some t474)
set_option maxHeartbeats 8000000 in
set_option maxRecDepth 100000 in
theorem impl_DoubledMissed.calls (k : Nat)  (r : List (List Int)) (w : World) (h : impl_DoubledMissed.f k  = some r) :
  Calls Tryz.prog 79 #[] w fun e w' => ∃ v0_ : Value, e = .returned (v0_) ∧ Kd.S (Kd.slice 3 (Kd.int .i64)) 40 w' w.heap.size (fun _ => True) v0_ r ∧ Below w.heap.size w w' := by
 have HB := Aside0.mk (Below.refl w.heap.size w)
 have H : ((impl_pairsOf.f k (fun y0_ y1_ => impl_DoubledMissed_1.f y0_ y1_)).bind fun t474 => (some t474)) = some r := h
 clear h
 replace H := Option.bind_eq_some_iff.mp H
 obtain ⟨t474, A10, H⟩ := H
 replace H : (some t474) = some r := H
 have A1 := Aside0.mk A10
 clear A10
 obtain rfl := Option.some.inj H
 go_enter Tryz.func79, Tryz.ntmps79
 go_wp2_with (first | ((with_reducible refine gate_callee (f := 162) rfl ?_); refine goesL_ (some 1) rfl rfl Tryz.func162 (by kernel_rfl) rfl #[.func (.func 163) #[] #[]] rfl Z1 ?_; (with_reducible refine (impl_pairsOf.calls k 163 #[] (fun y0_ y1_ => impl_DoubledMissed_1.f y0_ y1_) t474 _ ?side1 ?side2 A1.out).mono ?_); (case side1 => exact Go.Proofs.enters_of Tryz.func163 (by kernel_rfl) rfl); (case side2 => intro W_ y0_ y1_ r0_ hW_ h_; exact (impl_DoubledMissed_1.calls y0_ y1_ r0_ W_ h_).mono (fun e_ w_ h2_ => ⟨h2_.1, h2_.2.below⟩)); rintro e w2 ⟨v475, rfl, ho0, hb⟩; refine ⟨_, rfl, ?_⟩; have n0_ := Aside0.mk (Kd.S_lower ho0 (below_size Z0)); have n1_ := Aside0.mk (below_step Z0 hb); clear HB; revert n0_ n1_; intro HO476 HB; (try clear hb); (try clear hb2); (try clear hk); (try clear hi); (try clear ho0)))
 go_ret
 exact ⟨_, by first | rfl | (simp [errW_none, errW_some] <;> rfl) | (simp [*, errW_none, errW_some] <;> rfl), by (with_reducible repeat (first | apply Kd.S_alloc | apply Kd.S_drewN | apply Kd.S_drew)); exact HO476.out, by repeat (first | (with_reducible first | exact HB.out | apply below_alloc | apply pw_below_drewN | apply below_drew1) | exact HB.out)⟩

end Go.Proofs.YtemhkdpokbmmcaaGreatDoor.MCD
