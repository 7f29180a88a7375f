-- Walks: printed by a program of this session (wip/mk.py) over the kit's printer, made smaller by wip/squeeze.py.
import Derived.Test.YtemhkdpokbmmcaaGreatDoorA2
namespace Go.Proofs.YtemhkdpokbmmcaaGreatDoor.MCD
open Go.RowKit Go.Proofs.YtemhkdpokbmmcaaGreatDoorW.PrintWords Go.Proofs.YtemhkdpokbmmcaaGreatDoorW.PrintLast Go.Proofs.YtemhkdpokbmmcaaGreatDoorW.PrintMore
attribute [local go_sem] max2_int min2_int max_two min_two max_three min_three max_four min_four   -- for this text's walks alone
set_option linter.unusedVariables false
set_option linter.unusedSimpArgs false
/-! ### spec_DoubledMissed: function 80 -/
mutual
def spec_DoubledMissed.l0 : Nat → List (List Int) → Int → Option ((List (List Int)))
 | 0, _, _ => none
 | k + 1, x1, x2 => if x2 < 10 then (spec_DoubledMissed.l1 k x1 x2 (wrap64 (x2 + 1))) else (some x1)
def spec_DoubledMissed.l1 : Nat → List (List Int) → Int → Int → Option ((List (List Int)))
 | 0, _, _, _ => none
 | k + 1, x1, x2, x3 => if x3 < 10 then (if 0 ≤ x2 then (if x2 ≤ (wrap64 (x2 + 1)) then (if (wrap64 (x2 + 1)) ≤ 11 then (if 0 ≤ x3 then (if x3 ≤ (wrap64 (x3 + 1)) then (if (wrap64 (x3 + 1)) ≤ 11 then (if ((⟨#[48, 49, 50, 51, 52, 53, 54, 55, 56, 57, 88]⟩ : ByteArray).extract (x2 : Int).toNat ((wrap64 (x2 + 1)) : Int).toNat).size + ((⟨#[48, 49, 50, 51, 52, 53, 54, 55, 56, 57, 88]⟩ : ByteArray).extract (x3 : Int).toNat ((wrap64 (x3 + 1)) : Int).toNat).size ≤ 9223372036854775807 then (if ((⟨#[48, 49, 50, 51, 52, 53, 54, 55, 56, 57, 88]⟩ : ByteArray).extract (x3 : Int).toNat ((wrap64 (x3 + 1)) : Int).toNat).size + ((⟨#[48, 49, 50, 51, 52, 53, 54, 55, 56, 57, 88]⟩ : ByteArray).extract (x2 : Int).toNat ((wrap64 (x2 + 1)) : Int).toNat).size ≤ 9223372036854775807 then ((spec_ckDoubled.f k (((⟨#[48, 49, 50, 51, 52, 53, 54, 55, 56, 57, 88]⟩ : ByteArray).extract (x2 : Int).toNat ((wrap64 (x2 + 1)) : Int).toNat) ++ ((⟨#[48, 49, 50, 51, 52, 53, 54, 55, 56, 57, 88]⟩ : ByteArray).extract (x3 : Int).toNat ((wrap64 (x3 + 1)) : Int).toNat))).bind fun t477 => ((spec_ckDoubled.f k (((⟨#[48, 49, 50, 51, 52, 53, 54, 55, 56, 57, 88]⟩ : ByteArray).extract (x3 : Int).toNat ((wrap64 (x3 + 1)) : Int).toNat) ++ ((⟨#[48, 49, 50, 51, 52, 53, 54, 55, 56, 57, 88]⟩ : ByteArray).extract (x2 : Int).toNat ((wrap64 (x2 + 1)) : Int).toNat))).bind fun t478 => (if (Int.tmod (wrap64 (t477 - t478)) 10) = 0 then (if x1.length < 5864062014805 then (spec_DoubledMissed.l1 k (x1 ++ [(([x2, x3] : List Int))]) x2 (wrap64 (x3 + 1))) else (none)) else (spec_DoubledMissed.l1 k x1 x2 (wrap64 (x3 + 1)))))) else (none)) else (none)) else (none)) else (none)) else (none)) else (none)) else (none)) else (none)) else (spec_DoubledMissed.l0 k x1 (wrap64 (x2 + 1)))
end
def spec_DoubledMissed.f (k : Nat)  : Option ((List (List Int))) := spec_DoubledMissed.l0 k ([] : List (List Int)) 0
set_option maxHeartbeats 8000000 in
set_option maxRecDepth 100000 in
theorem spec_DoubledMissed.calls (k : Nat)  (r : List (List Int)) (w : World) (h : spec_DoubledMissed.f k  = some r) :
  Calls Tryz.prog 80 #[] w fun e w' => ∃ v0_ : Value, e = .returned (v0_) ∧ Kd.S (Kd.slice 3 (Kd.int .i64)) 40 w' w.heap.size (fun _ => True) v0_ r ∧ Below w.heap.size w w' := by
 have HB := Aside0.mk (Below.refl w.heap.size w)
 have H : (spec_DoubledMissed.l0 k ([] : List (List Int)) 0) = some r := h
 clear h
 have H' := Aside0.mk H
 clear H
 go_enter Tryz.func80, Tryz.ntmps80
 go_wp2
 repeat (go_quiet (fail); try go_wp2)
 go_loopg [1, 2] k (fun kq v1 v2 w' => ∃ (x1_1 : List (List Int)) (x2_1 : Int), v2 = .int .i64 x2_1 ∧ Aside0 (spec_DoubledMissed.l0 kq x1_1 x2_1 = some r) ∧ Aside0 (kq ≤ k) ∧ Aside0 (Kd.S (Kd.slice 3 (Kd.int .i64)) 40 w' w.heap.size (fun _ => True) v1 x1_1) ∧ Aside0 (Below w.heap.size w w'))
 case atStart => exact ⟨(([] : List (List Int))), (0), Z3, H', ⟨Nat.le_refl _⟩, ⟨by first | exact Kd.S_nil _ _ _ _ _ | exact Kd.N_nil _ _ _ _ _ | exact Kd.V_nil _ _ _ _ _ | exact Kd.Q_nil _ _ _ _ _ | exact Kd.R_nil _ _ _ _ _⟩, ⟨by repeat (first | (with_reducible first | exact HB.out | apply below_alloc | apply pw_below_drewN | apply below_drew1) | exact HB.out)⟩⟩
 case round =>
  clear H'
  obtain ⟨x1_1, x2_1, rfl, HA, HK1, HO_1, HB⟩ := hrel
  cases gk with
  | zero => exact absurd HA.out (by simp [spec_DoubledMissed.l0])
  | succ k1 =>
   have H := HA.out
   clear HA
   simp only [spec_DoubledMissed.l0] at H
   by_cases c1 : x2_1 < 10
   ·
    rw [if_pos c1] at H
    have c1b0 : decide (x2_1 < 10) = true := decide_eq_true c1
    clear c1
    have H' := Aside0.mk H
    clear H
    go_wp2
    repeat (go_quiet (fail); try go_wp2)
    go_loopg [1, 3] k1 (fun kq v1 v3 w' => ∃ (x1_2 : List (List Int)) (x3_2 : Int), v3 = .int .i64 x3_2 ∧ Aside0 (spec_DoubledMissed.l1 kq x1_2 x2_1 x3_2 = some r) ∧ Aside0 (kq ≤ k1) ∧ Aside0 (Kd.S (Kd.slice 3 (Kd.int .i64)) 40 w' w.heap.size (fun _ => True) v1 x1_2) ∧ Aside0 (Below w.heap.size w w'))
    case atStart => exact ⟨(x1_1), (wrap64 (x2_1 + 1)), Z3, H', ⟨Nat.le_refl _⟩, ⟨by (with_reducible repeat (first | apply Kd.S_alloc | apply Kd.S_drewN | apply Kd.S_drew)); exact HO_1.out⟩, ⟨by repeat (first | (with_reducible first | exact HB.out | apply below_alloc | apply pw_below_drewN | apply below_drew1) | exact HB.out)⟩⟩
    case round =>
     clear H'
     (try clear c1); (try clear c1b0)
     obtain ⟨x1_2, x3_2, rfl, HA, HK2, HO_1, HB⟩ := hrel
     cases gk with
     | zero => exact absurd HA.out (by simp [spec_DoubledMissed.l1])
     | succ k2 =>
      have H := HA.out
      clear HA
      simp only [spec_DoubledMissed.l1] at H
      by_cases c2 : x3_2 < 10
      ·
       rw [if_pos c2] at H
       have c2b0 : decide (x3_2 < 10) = true := decide_eq_true c2
       clear c2
       by_cases c3 : 0 ≤ x2_1
       ·
        rw [if_pos c3] at H
        have c3b0 := eq_true c3
        have c3b1 : decide (0 ≤ x2_1) = true := decide_eq_true c3
        clear c3
        by_cases c4 : x2_1 ≤ (wrap64 (x2_1 + 1))
        ·
         rw [if_pos c4] at H
         have c4b0 := eq_true c4
         have c4b1 : decide (x2_1 ≤ (wrap64 (x2_1 + 1))) = true := decide_eq_true c4
         by_cases c5 : (wrap64 (x2_1 + 1)) ≤ 11
         ·
          rw [if_pos c5] at H
          have c5b0 := eq_true c5
          have c5b1 : decide ((wrap64 (x2_1 + 1)) ≤ 11) = true := decide_eq_true c5
          by_cases c6 : 0 ≤ x3_2
          ·
           rw [if_pos c6] at H
           have c6b0 := eq_true c6
           have c6b1 : decide (0 ≤ x3_2) = true := decide_eq_true c6
           clear c6
           by_cases c7 : x3_2 ≤ (wrap64 (x3_2 + 1))
           ·
            rw [if_pos c7] at H
            have c7b0 := eq_true c7
            have c7b1 : decide (x3_2 ≤ (wrap64 (x3_2 + 1))) = true := decide_eq_true c7
            by_cases c8 : (wrap64 (x3_2 + 1)) ≤ 11
            ·
             rw [if_pos c8] at H
             have c8b0 := eq_true c8
             have c8b1 : decide ((wrap64 (x3_2 + 1)) ≤ 11) = true := decide_eq_true c8
             by_cases c9 : ((⟨#[48, 49, 50, 51, 52, 53, 54, 55, 56, 57, 88]⟩ : ByteArray).extract (x2_1 : Int).toNat ((wrap64 (x2_1 + 1)) : Int).toNat).size + ((⟨#[48, 49, 50, 51, 52, 53, 54, 55, 56, 57, 88]⟩ : ByteArray).extract (x3_2 : Int).toNat ((wrap64 (x3_2 + 1)) : Int).toNat).size ≤ 9223372036854775807
             ·
              rw [if_pos c9] at H
              have c9b0 := eq_true c9
              have c9b1 : decide (((⟨#[48, 49, 50, 51, 52, 53, 54, 55, 56, 57, 88]⟩ : ByteArray).extract (x2_1 : Int).toNat ((wrap64 (x2_1 + 1)) : Int).toNat).size + ((⟨#[48, 49, 50, 51, 52, 53, 54, 55, 56, 57, 88]⟩ : ByteArray).extract (x3_2 : Int).toNat ((wrap64 (x3_2 + 1)) : Int).toNat).size ≤ 9223372036854775807) = true := decide_eq_true c9
              try have c9b2 : (9223372036854775807 < ((⟨#[48, 49, 50, 51, 52, 53, 54, 55, 56, 57, 88]⟩ : ByteArray).extract (x2_1 : Int).toNat ((wrap64 (x2_1 + 1)) : Int).toNat).size + ((⟨#[48, 49, 50, 51, 52, 53, 54, 55, 56, 57, 88]⟩ : ByteArray).extract (x3_2 : Int).toNat ((wrap64 (x3_2 + 1)) : Int).toNat).size) = False := eq_false (Nat.not_lt.2 c9)
              have c9b3 : ∀ z_ : Nat, z_ = ((⟨#[48, 49, 50, 51, 52, 53, 54, 55, 56, 57, 88]⟩ : ByteArray).extract (x2_1 : Int).toNat ((wrap64 (x2_1 + 1)) : Int).toNat).size + ((⟨#[48, 49, 50, 51, 52, 53, 54, 55, 56, 57, 88]⟩ : ByteArray).extract (x3_2 : Int).toNat ((wrap64 (x3_2 + 1)) : Int).toNat).size → (9223372036854775807 < z_) = False := fun z_ hz_ => by rw [hz_]; exact eq_false (Nat.not_lt.2 c9)
              have c10b0 := eq_true (Z2 : 0 ≤ x3_2)
              have c11b0 := eq_true (Z2 : x3_2 ≤ (wrap64 (x3_2 + 1)))
              have c12b0 := eq_true (Z2 : (wrap64 (x3_2 + 1)) ≤ 11)
              have c13b0 := eq_true (Z2 : 0 ≤ x2_1)
              have c14b0 := eq_true (Z2 : x2_1 ≤ (wrap64 (x2_1 + 1)))
              have c15b0 := eq_true (Z2 : (wrap64 (x2_1 + 1)) ≤ 11)
              by_cases c16 : ((⟨#[48, 49, 50, 51, 52, 53, 54, 55, 56, 57, 88]⟩ : ByteArray).extract (x3_2 : Int).toNat ((wrap64 (x3_2 + 1)) : Int).toNat).size + ((⟨#[48, 49, 50, 51, 52, 53, 54, 55, 56, 57, 88]⟩ : ByteArray).extract (x2_1 : Int).toNat ((wrap64 (x2_1 + 1)) : Int).toNat).size ≤ 9223372036854775807
              ·
               rw [if_pos c16] at H
               have c16b0 := eq_true c16
               have c16b1 : decide (((⟨#[48, 49, 50, 51, 52, 53, 54, 55, 56, 57, 88]⟩ : ByteArray).extract (x3_2 : Int).toNat ((wrap64 (x3_2 + 1)) : Int).toNat).size + ((⟨#[48, 49, 50, 51, 52, 53, 54, 55, 56, 57, 88]⟩ : ByteArray).extract (x2_1 : Int).toNat ((wrap64 (x2_1 + 1)) : Int).toNat).size ≤ 9223372036854775807) = true := decide_eq_true c16
               try have c16b2 : (9223372036854775807 < ((⟨#[48, 49, 50, 51, 52, 53, 54, 55, 56, 57, 88]⟩ : ByteArray).extract (x3_2 : Int).toNat ((wrap64 (x3_2 + 1)) : Int).toNat).size + ((⟨#[48, 49, 50, 51, 52, 53, 54, 55, 56, 57, 88]⟩ : ByteArray).extract (x2_1 : Int).toNat ((wrap64 (x2_1 + 1)) : Int).toNat).size) = False := eq_false (Nat.not_lt.2 c16)
               have c16b3 : ∀ z_ : Nat, z_ = ((⟨#[48, 49, 50, 51, 52, 53, 54, 55, 56, 57, 88]⟩ : ByteArray).extract (x3_2 : Int).toNat ((wrap64 (x3_2 + 1)) : Int).toNat).size + ((⟨#[48, 49, 50, 51, 52, 53, 54, 55, 56, 57, 88]⟩ : ByteArray).extract (x2_1 : Int).toNat ((wrap64 (x2_1 + 1)) : Int).toNat).size → (9223372036854775807 < z_) = False := fun z_ hz_ => by rw [hz_]; exact eq_false (Nat.not_lt.2 c16)
               replace H := Option.bind_eq_some_iff.mp H
               obtain ⟨t477, A170, H⟩ := H
               replace H : ((spec_ckDoubled.f k2 (((⟨#[48, 49, 50, 51, 52, 53, 54, 55, 56, 57, 88]⟩ : ByteArray).extract (x3_2 : Int).toNat ((wrap64 (x3_2 + 1)) : Int).toNat) ++ ((⟨#[48, 49, 50, 51, 52, 53, 54, 55, 56, 57, 88]⟩ : ByteArray).extract (x2_1 : Int).toNat ((wrap64 (x2_1 + 1)) : Int).toNat))).bind fun t478 => (if (Int.tmod (wrap64 (t477 - t478)) 10) = 0 then (if x1_2.length < 5864062014805 then (spec_DoubledMissed.l1 k2 (x1_2 ++ [(([x2_1, x3_2] : List Int))]) x2_1 (wrap64 (x3_2 + 1))) else (none)) else (spec_DoubledMissed.l1 k2 x1_2 x2_1 (wrap64 (x3_2 + 1))))) = some r := H
               have A17 := Aside0.mk A170
               clear A170
               replace H := Option.bind_eq_some_iff.mp H
               obtain ⟨t478, A180, H⟩ := H
               replace H : (if (Int.tmod (wrap64 (t477 - t478)) 10) = 0 then (if x1_2.length < 5864062014805 then (spec_DoubledMissed.l1 k2 (x1_2 ++ [(([x2_1, x3_2] : List Int))]) x2_1 (wrap64 (x3_2 + 1))) else (none)) else (spec_DoubledMissed.l1 k2 x1_2 x2_1 (wrap64 (x3_2 + 1)))) = some r := H
               have A18 := Aside0.mk A180
               clear A180
               by_cases c19 : (Int.tmod (wrap64 (t477 - t478)) 10) = 0
               ·
                rw [if_pos c19] at H
                have c19b0 : ((Int.tmod (wrap64 (t477 - t478)) 10) == 0) = true := beq_iff_eq.mpr c19
                have c19b1 : ((Int.tmod (wrap64 (t477 - t478)) 10) != 0) = false := bne_eq_false_iff_eq.mpr c19
                clear c19
                obtain ⟨y479, hy479⟩ : ∃ y_ : List Int, y_ = (([x2_1, x3_2] : List Int)) := ⟨_, rfl⟩
                replace H : (if x1_2.length < 5864062014805 then (spec_DoubledMissed.l1 k2 (x1_2 ++ [y479]) x2_1 (wrap64 (x3_2 + 1))) else (none)) = some r := by first | (rw [hy479]; with_reducible exact H) | (have H2_ := (Option.bind_some _ _).symm.trans H; rw [hy479]; with_reducible exact H2_) | (have H2_ := (Option.bind_some _ _).symm.trans H; with_reducible exact H2_) | with_reducible exact H | (rw [hy479]; exact H) | exact H
                have Ny479 := Aside0.mk hy479
                clear hy479
                by_cases c20 : x1_2.length < 5864062014805
                ·
                 rw [if_pos c20] at H
                 have LMc20 := Aside0.mk c20
                 clear c20
                 obtain ⟨y482, hy482⟩ : ∃ y_ : List (List Int), y_ = (x1_2 ++ [y479]) := ⟨_, rfl⟩
                 replace H : (spec_DoubledMissed.l1 k2 y482 x2_1 (wrap64 (x3_2 + 1))) = some r := by first | (rw [hy482]; with_reducible exact H) | (have H2_ := (Option.bind_some _ _).symm.trans H; rw [hy482]; with_reducible exact H2_) | (have H2_ := (Option.bind_some _ _).symm.trans H; with_reducible exact H2_) | with_reducible exact H | (rw [hy482]; exact H) | exact H
                 have Ny482 := Aside0.mk hy482
                 clear hy482
                 have H' := Aside0.mk H
                 clear H
                 go_wp2_with (first | (go_at_call 157; (with_reducible refine (spec_ckDoubled.calls k2 (((⟨#[48, 49, 50, 51, 52, 53, 54, 55, 56, 57, 88]⟩ : ByteArray).extract (x2_1 : Int).toNat ((wrap64 (x2_1 + 1)) : Int).toNat) ++ ((⟨#[48, 49, 50, 51, 52, 53, 54, 55, 56, 57, 88]⟩ : ByteArray).extract (x3_2 : Int).toNat ((wrap64 (x3_2 + 1)) : Int).toNat)) t477 _ A17.out).mono ?_); rintro e w' ⟨rfl, ⟨nd, rfl⟩⟩; (try first | exact ⟨rfl, _, World.drewN_drewN _ _ _⟩ | exact ⟨rfl, _, Eq.trans (World.drewN_drewN _ _ _) (congrArg (World.drewN _) (Nat.add_assoc _ _ _))⟩)) | (go_at_call 157; (with_reducible refine (spec_ckDoubled.calls k2 (((⟨#[48, 49, 50, 51, 52, 53, 54, 55, 56, 57, 88]⟩ : ByteArray).extract (x3_2 : Int).toNat ((wrap64 (x3_2 + 1)) : Int).toNat) ++ ((⟨#[48, 49, 50, 51, 52, 53, 54, 55, 56, 57, 88]⟩ : ByteArray).extract (x2_1 : Int).toNat ((wrap64 (x2_1 + 1)) : Int).toNat)) t478 _ A18.out).mono ?_); rintro e w' ⟨rfl, ⟨nd, rfl⟩⟩; (try first | exact ⟨rfl, _, World.drewN_drewN _ _ _⟩ | exact ⟨rfl, _, Eq.trans (World.drewN_drewN _ _ _) (congrArg (World.drewN _) (Nat.add_assoc _ _ _))⟩)) | ((with_reducible refine gate_dst (N := 44) rfl ?_); refine Kd.R_lit (Kd.int .i64) _ 3 ?hg (N := 44) ?hd (xs := ([x2_1, x3_2] : List Int)) (inner := [.int .i64 x2_1, .int .i64 x3_2]) (ok := fun _ => True) (okp := fun _ => True) ?hr ?hp (fun _ hk => hk) trivial (Below.refl _ _) (Nat.le_refl _) (by simp) ?_; (case hd => rfl); (case hg => rfl); (case hr => exact Z13); (case hp => exact Z104); intro v480 w21 ho22 hb hg_ hnew_; clear hg_ hnew_; (first | rw [← Ny479.out] at ho22 | (simp only [Int.reduceToNat] at ho22; rw [← Ny479.out] at ho22)); have n0_ := Aside0.mk (Kd.S_elder' Z129 (Kd.R_base ho22) hb); have n1_ := Aside0.mk (Kd.R_lower ho22 (below_size Z0)); have n2_ := Aside0.mk (below_step Z0 hb); clear HO_1 HB; revert n0_ n1_ n2_; intro HO_1 HO481 HB; clear hb ho22; obtain ⟨Ao24, co24, eo24⟩ := Kd.R_slice HO481.out; subst eo24) | ((with_reducible refine gate_builtin (b := .append) (xs := #[.tmp 41, .tmp 45]) rfl ?_); at_builtin; refine Kd.S_append (Kd.slice 3 (Kd.int .i64)) (w0 := w) w.heap.size rfl (.tmp 41) (.tmp 45) 65 40 (.slice none 0 0) 24 rfl Tryz.underlying65 info40 rfl (by decide) (by omega) u1 x1_2 y479 [.slice Ao24 y479.length co24] (fun _ => True) (fun k_ => some k_ = (.slice Ao24 y479.length co24 : Value).ownBlock) rfl rfl ?aP (fun k_ hk_ => ((Kd.R_mono (ok' := fun k_ => ((fun _ => True)) k_ ∧ some k_ ≠ (u1 : Value).ownBlock) (Kd.R_apart' (HO481.out) (Kd.S_typed HO_1.out) (by decide)) (fun k_ hk => ⟨trivial, hk.2⟩))).1 k_ hk_.symm) ?aF ?aO ?aB ?aS ?aL ?_; (case aP => exact Z75); (case aB => exact Z0); (case aF => exact (fun _ _ => trivial)); (case aO => exact Z100); (case aS => exact (below_size Z0)); (case aL => have := LMc20.out; omega); intro v483 w23 ho hb hg hat; rw [← Ny482.out] at ho; have n0_ := Aside0.mk (hb); have n1_ := Aside0.mk (ho); clear HB HO_1 HO481; revert n0_ n1_; intro HB HO484; clear ho hb hg hat))
                 repeat (go_quiet (first | (go_at_call 157; (with_reducible refine (spec_ckDoubled.calls k2 (((⟨#[48, 49, 50, 51, 52, 53, 54, 55, 56, 57, 88]⟩ : ByteArray).extract (x2_1 : Int).toNat ((wrap64 (x2_1 + 1)) : Int).toNat) ++ ((⟨#[48, 49, 50, 51, 52, 53, 54, 55, 56, 57, 88]⟩ : ByteArray).extract (x3_2 : Int).toNat ((wrap64 (x3_2 + 1)) : Int).toNat)) t477 _ A17.out).mono ?_); rintro e w' ⟨rfl, ⟨nd, rfl⟩⟩; (try first | exact ⟨rfl, _, World.drewN_drewN _ _ _⟩ | exact ⟨rfl, _, Eq.trans (World.drewN_drewN _ _ _) (congrArg (World.drewN _) (Nat.add_assoc _ _ _))⟩)) | (go_at_call 157; (with_reducible refine (spec_ckDoubled.calls k2 (((⟨#[48, 49, 50, 51, 52, 53, 54, 55, 56, 57, 88]⟩ : ByteArray).extract (x3_2 : Int).toNat ((wrap64 (x3_2 + 1)) : Int).toNat) ++ ((⟨#[48, 49, 50, 51, 52, 53, 54, 55, 56, 57, 88]⟩ : ByteArray).extract (x2_1 : Int).toNat ((wrap64 (x2_1 + 1)) : Int).toNat)) t478 _ A18.out).mono ?_); rintro e w' ⟨rfl, ⟨nd, rfl⟩⟩; (try first | exact ⟨rfl, _, World.drewN_drewN _ _ _⟩ | exact ⟨rfl, _, Eq.trans (World.drewN_drewN _ _ _) (congrArg (World.drewN _) (Nat.add_assoc _ _ _))⟩)) | ((with_reducible refine gate_dst (N := 44) rfl ?_); refine Kd.R_lit (Kd.int .i64) _ 3 ?hg (N := 44) ?hd (xs := ([x2_1, x3_2] : List Int)) (inner := [.int .i64 x2_1, .int .i64 x3_2]) (ok := fun _ => True) (okp := fun _ => True) ?hr ?hp (fun _ hk => hk) trivial (Below.refl _ _) (Nat.le_refl _) (by simp) ?_; (case hd => rfl); (case hg => rfl); (case hr => exact Z13); (case hp => exact Z104); intro v480 w21 ho22 hb hg_ hnew_; clear hg_ hnew_; (first | rw [← Ny479.out] at ho22 | (simp only [Int.reduceToNat] at ho22; rw [← Ny479.out] at ho22)); have n0_ := Aside0.mk (Kd.S_elder' Z129 (Kd.R_base ho22) hb); have n1_ := Aside0.mk (Kd.R_lower ho22 (below_size Z0)); have n2_ := Aside0.mk (below_step Z0 hb); clear HO_1 HB; revert n0_ n1_ n2_; intro HO_1 HO481 HB; clear hb ho22; obtain ⟨Ao24, co24, eo24⟩ := Kd.R_slice HO481.out; subst eo24) | ((with_reducible refine gate_builtin (b := .append) (xs := #[.tmp 41, .tmp 45]) rfl ?_); at_builtin; refine Kd.S_append (Kd.slice 3 (Kd.int .i64)) (w0 := w) w.heap.size rfl (.tmp 41) (.tmp 45) 65 40 (.slice none 0 0) 24 rfl Tryz.underlying65 info40 rfl (by decide) (by omega) u1 x1_2 y479 [.slice Ao24 y479.length co24] (fun _ => True) (fun k_ => some k_ = (.slice Ao24 y479.length co24 : Value).ownBlock) rfl rfl ?aP (fun k_ hk_ => ((Kd.R_mono (ok' := fun k_ => ((fun _ => True)) k_ ∧ some k_ ≠ (u1 : Value).ownBlock) (Kd.R_apart' (HO481.out) (Kd.S_typed HO_1.out) (by decide)) (fun k_ hk => ⟨trivial, hk.2⟩))).1 k_ hk_.symm) ?aF ?aO ?aB ?aS ?aL ?_; (case aP => exact Z75); (case aB => exact Z0); (case aF => exact (fun _ _ => trivial)); (case aO => exact Z100); (case aS => exact (below_size Z0)); (case aL => have := LMc20.out; omega); intro v483 w23 ho hb hg hat; rw [← Ny482.out] at ho; have n0_ := Aside0.mk (hb); have n1_ := Aside0.mk (ho); clear HB HO_1 HO481; revert n0_ n1_; intro HB HO484; clear ho hb hg hat)); try go_wp2_with (first | (go_at_call 157; (with_reducible refine (spec_ckDoubled.calls k2 (((⟨#[48, 49, 50, 51, 52, 53, 54, 55, 56, 57, 88]⟩ : ByteArray).extract (x2_1 : Int).toNat ((wrap64 (x2_1 + 1)) : Int).toNat) ++ ((⟨#[48, 49, 50, 51, 52, 53, 54, 55, 56, 57, 88]⟩ : ByteArray).extract (x3_2 : Int).toNat ((wrap64 (x3_2 + 1)) : Int).toNat)) t477 _ A17.out).mono ?_); rintro e w' ⟨rfl, ⟨nd, rfl⟩⟩; (try first | exact ⟨rfl, _, World.drewN_drewN _ _ _⟩ | exact ⟨rfl, _, Eq.trans (World.drewN_drewN _ _ _) (congrArg (World.drewN _) (Nat.add_assoc _ _ _))⟩)) | (go_at_call 157; (with_reducible refine (spec_ckDoubled.calls k2 (((⟨#[48, 49, 50, 51, 52, 53, 54, 55, 56, 57, 88]⟩ : ByteArray).extract (x3_2 : Int).toNat ((wrap64 (x3_2 + 1)) : Int).toNat) ++ ((⟨#[48, 49, 50, 51, 52, 53, 54, 55, 56, 57, 88]⟩ : ByteArray).extract (x2_1 : Int).toNat ((wrap64 (x2_1 + 1)) : Int).toNat)) t478 _ A18.out).mono ?_); rintro e w' ⟨rfl, ⟨nd, rfl⟩⟩; (try first | exact ⟨rfl, _, World.drewN_drewN _ _ _⟩ | exact ⟨rfl, _, Eq.trans (World.drewN_drewN _ _ _) (congrArg (World.drewN _) (Nat.add_assoc _ _ _))⟩)) | ((with_reducible refine gate_dst (N := 44) rfl ?_); refine Kd.R_lit (Kd.int .i64) _ 3 ?hg (N := 44) ?hd (xs := ([x2_1, x3_2] : List Int)) (inner := [.int .i64 x2_1, .int .i64 x3_2]) (ok := fun _ => True) (okp := fun _ => True) ?hr ?hp (fun _ hk => hk) trivial (Below.refl _ _) (Nat.le_refl _) (by simp) ?_; (case hd => rfl); (case hg => rfl); (case hr => exact Z13); (case hp => exact Z104); intro v480 w21 ho22 hb hg_ hnew_; clear hg_ hnew_; (first | rw [← Ny479.out] at ho22 | (simp only [Int.reduceToNat] at ho22; rw [← Ny479.out] at ho22)); have n0_ := Aside0.mk (Kd.S_elder' Z129 (Kd.R_base ho22) hb); have n1_ := Aside0.mk (Kd.R_lower ho22 (below_size Z0)); have n2_ := Aside0.mk (below_step Z0 hb); clear HO_1 HB; revert n0_ n1_ n2_; intro HO_1 HO481 HB; clear hb ho22; obtain ⟨Ao24, co24, eo24⟩ := Kd.R_slice HO481.out; subst eo24) | ((with_reducible refine gate_builtin (b := .append) (xs := #[.tmp 41, .tmp 45]) rfl ?_); at_builtin; refine Kd.S_append (Kd.slice 3 (Kd.int .i64)) (w0 := w) w.heap.size rfl (.tmp 41) (.tmp 45) 65 40 (.slice none 0 0) 24 rfl Tryz.underlying65 info40 rfl (by decide) (by omega) u1 x1_2 y479 [.slice Ao24 y479.length co24] (fun _ => True) (fun k_ => some k_ = (.slice Ao24 y479.length co24 : Value).ownBlock) rfl rfl ?aP (fun k_ hk_ => ((Kd.R_mono (ok' := fun k_ => ((fun _ => True)) k_ ∧ some k_ ≠ (u1 : Value).ownBlock) (Kd.R_apart' (HO481.out) (Kd.S_typed HO_1.out) (by decide)) (fun k_ hk => ⟨trivial, hk.2⟩))).1 k_ hk_.symm) ?aF ?aO ?aB ?aS ?aL ?_; (case aP => exact Z75); (case aB => exact Z0); (case aF => exact (fun _ _ => trivial)); (case aO => exact Z100); (case aS => exact (below_size Z0)); (case aL => have := LMc20.out; omega); intro v483 w23 ho hb hg hat; rw [← Ny482.out] at ho; have n0_ := Aside0.mk (hb); have n1_ := Aside0.mk (ho); clear HB HO_1 HO481; revert n0_ n1_; intro HB HO484; clear ho hb hg hat)))
                 go_roundg k2
                 case measure => have := HK1.out; have := HK2.out; omega
                 case rel => exact ⟨(y482), (wrap64 (x3_2 + 1)), Z3, H', ⟨by have := HK1.out; have := HK2.out; omega⟩, ⟨by (with_reducible repeat (first | apply Kd.S_alloc | apply Kd.S_drewN | apply Kd.S_drew)); exact HO484.out⟩, ⟨by repeat (first | (with_reducible first | exact HB.out | apply below_alloc | apply pw_below_drewN | apply below_drew1) | exact HB.out)⟩⟩
                ·
                 rw [if_neg c20] at H
                 exact absurd H (by simp)
               ·
                rw [if_neg c19] at H
                have c19b0 : ((Int.tmod (wrap64 (t477 - t478)) 10) == 0) = false := beq_eq_false_iff_ne.mpr c19
                have c19b1 : ((Int.tmod (wrap64 (t477 - t478)) 10) != 0) = true := bne_iff_ne.mpr c19
                have H' := Aside0.mk H
                clear H
                go_wp2_with (first | (go_at_call 157; (with_reducible refine (spec_ckDoubled.calls k2 (((⟨#[48, 49, 50, 51, 52, 53, 54, 55, 56, 57, 88]⟩ : ByteArray).extract (x2_1 : Int).toNat ((wrap64 (x2_1 + 1)) : Int).toNat) ++ ((⟨#[48, 49, 50, 51, 52, 53, 54, 55, 56, 57, 88]⟩ : ByteArray).extract (x3_2 : Int).toNat ((wrap64 (x3_2 + 1)) : Int).toNat)) t477 _ A17.out).mono ?_); rintro e w' ⟨rfl, ⟨nd, rfl⟩⟩; (try first | exact ⟨rfl, _, World.drewN_drewN _ _ _⟩ | exact ⟨rfl, _, Eq.trans (World.drewN_drewN _ _ _) (congrArg (World.drewN _) (Nat.add_assoc _ _ _))⟩)) | (go_at_call 157; (with_reducible refine (spec_ckDoubled.calls k2 (((⟨#[48, 49, 50, 51, 52, 53, 54, 55, 56, 57, 88]⟩ : ByteArray).extract (x3_2 : Int).toNat ((wrap64 (x3_2 + 1)) : Int).toNat) ++ ((⟨#[48, 49, 50, 51, 52, 53, 54, 55, 56, 57, 88]⟩ : ByteArray).extract (x2_1 : Int).toNat ((wrap64 (x2_1 + 1)) : Int).toNat)) t478 _ A18.out).mono ?_); rintro e w' ⟨rfl, ⟨nd, rfl⟩⟩; (try first | exact ⟨rfl, _, World.drewN_drewN _ _ _⟩ | exact ⟨rfl, _, Eq.trans (World.drewN_drewN _ _ _) (congrArg (World.drewN _) (Nat.add_assoc _ _ _))⟩)))
                repeat (go_quiet (first | (go_at_call 157; (with_reducible refine (spec_ckDoubled.calls k2 (((⟨#[48, 49, 50, 51, 52, 53, 54, 55, 56, 57, 88]⟩ : ByteArray).extract (x2_1 : Int).toNat ((wrap64 (x2_1 + 1)) : Int).toNat) ++ ((⟨#[48, 49, 50, 51, 52, 53, 54, 55, 56, 57, 88]⟩ : ByteArray).extract (x3_2 : Int).toNat ((wrap64 (x3_2 + 1)) : Int).toNat)) t477 _ A17.out).mono ?_); rintro e w' ⟨rfl, ⟨nd, rfl⟩⟩; (try first | exact ⟨rfl, _, World.drewN_drewN _ _ _⟩ | exact ⟨rfl, _, Eq.trans (World.drewN_drewN _ _ _) (congrArg (World.drewN _) (Nat.add_assoc _ _ _))⟩)) | (go_at_call 157; (with_reducible refine (spec_ckDoubled.calls k2 (((⟨#[48, 49, 50, 51, 52, 53, 54, 55, 56, 57, 88]⟩ : ByteArray).extract (x3_2 : Int).toNat ((wrap64 (x3_2 + 1)) : Int).toNat) ++ ((⟨#[48, 49, 50, 51, 52, 53, 54, 55, 56, 57, 88]⟩ : ByteArray).extract (x2_1 : Int).toNat ((wrap64 (x2_1 + 1)) : Int).toNat)) t478 _ A18.out).mono ?_); rintro e w' ⟨rfl, ⟨nd, rfl⟩⟩; (try first | exact ⟨rfl, _, World.drewN_drewN _ _ _⟩ | exact ⟨rfl, _, Eq.trans (World.drewN_drewN _ _ _) (congrArg (World.drewN _) (Nat.add_assoc _ _ _))⟩))); try go_wp2_with (first | (go_at_call 157; (with_reducible refine (spec_ckDoubled.calls k2 (((⟨#[48, 49, 50, 51, 52, 53, 54, 55, 56, 57, 88]⟩ : ByteArray).extract (x2_1 : Int).toNat ((wrap64 (x2_1 + 1)) : Int).toNat) ++ ((⟨#[48, 49, 50, 51, 52, 53, 54, 55, 56, 57, 88]⟩ : ByteArray).extract (x3_2 : Int).toNat ((wrap64 (x3_2 + 1)) : Int).toNat)) t477 _ A17.out).mono ?_); rintro e w' ⟨rfl, ⟨nd, rfl⟩⟩; (try first | exact ⟨rfl, _, World.drewN_drewN _ _ _⟩ | exact ⟨rfl, _, Eq.trans (World.drewN_drewN _ _ _) (congrArg (World.drewN _) (Nat.add_assoc _ _ _))⟩)) | (go_at_call 157; (with_reducible refine (spec_ckDoubled.calls k2 (((⟨#[48, 49, 50, 51, 52, 53, 54, 55, 56, 57, 88]⟩ : ByteArray).extract (x3_2 : Int).toNat ((wrap64 (x3_2 + 1)) : Int).toNat) ++ ((⟨#[48, 49, 50, 51, 52, 53, 54, 55, 56, 57, 88]⟩ : ByteArray).extract (x2_1 : Int).toNat ((wrap64 (x2_1 + 1)) : Int).toNat)) t478 _ A18.out).mono ?_); rintro e w' ⟨rfl, ⟨nd, rfl⟩⟩; (try first | exact ⟨rfl, _, World.drewN_drewN _ _ _⟩ | exact ⟨rfl, _, Eq.trans (World.drewN_drewN _ _ _) (congrArg (World.drewN _) (Nat.add_assoc _ _ _))⟩))))
                go_roundg k2
                case measure => have := HK1.out; have := HK2.out; omega
                case rel => exact ⟨(x1_2), (wrap64 (x3_2 + 1)), Z3, H', ⟨by have := HK1.out; have := HK2.out; omega⟩, ⟨by (with_reducible repeat (first | apply Kd.S_alloc | apply Kd.S_drewN | apply Kd.S_drew)); exact HO_1.out⟩, ⟨by repeat (first | (with_reducible first | exact HB.out | apply below_alloc | apply pw_below_drewN | apply below_drew1) | exact HB.out)⟩⟩
              ·
               rw [if_neg c16] at H
               exact absurd H (by simp)
             ·
              rw [if_neg c9] at H
              exact absurd H (by simp)
            ·
             rw [if_neg c8] at H
             exact absurd H (by simp)
           ·
            rw [if_neg c7] at H
            exact absurd H (by simp)
          ·
           rw [if_neg c6] at H
           exact absurd H (by simp)
         ·
          rw [if_neg c5] at H
          exact absurd H (by simp)
        ·
         rw [if_neg c4] at H
         exact absurd H (by simp)
       ·
        rw [if_neg c3] at H
        exact absurd H (by simp)
      ·
       rw [if_neg c2] at H
       have c2b0 : decide (x3_2 < 10) = false := decide_eq_false c2
       clear c2
       have H' := Aside0.mk H
       clear H
       go_wp2
       repeat (go_quiet (fail); try go_wp2)
       go_roundg k2
       case measure => have := HK1.out; have := HK2.out; omega
       case rel => exact ⟨(x1_2), (wrap64 (x2_1 + 1)), Z3, H', ⟨by have := HK1.out; have := HK2.out; omega⟩, ⟨by (with_reducible repeat (first | apply Kd.S_alloc | apply Kd.S_drewN | apply Kd.S_drew)); exact HO_1.out⟩, ⟨by repeat (first | (with_reducible first | exact HB.out | apply below_alloc | apply pw_below_drewN | apply below_drew1) | exact HB.out)⟩⟩
   ·
    rw [if_neg c1] at H
    have c1b0 : decide (x2_1 < 10) = false := decide_eq_false c1
    clear c1
    obtain rfl := Option.some.inj H
    go_wp2
    repeat (go_quiet (fail); try go_wp2)
    go_ret
    exact ⟨_, by first | rfl | (simp [errW_none, errW_some] <;> rfl) | (simp [*, errW_none, errW_some] <;> rfl), by (with_reducible repeat (first | apply Kd.S_alloc | apply Kd.S_drewN | apply Kd.S_drew)); exact HO_1.out, by repeat (first | (with_reducible first | exact HB.out | apply below_alloc | apply pw_below_drewN | apply below_drew1) | exact HB.out)⟩

end Go.Proofs.YtemhkdpokbmmcaaGreatDoor.MCD
