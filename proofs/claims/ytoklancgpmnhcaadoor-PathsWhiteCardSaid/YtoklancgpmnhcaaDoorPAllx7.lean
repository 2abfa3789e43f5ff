-- by a program of mine
import Derived.Test.YtoklancgpmnhcaaDoorPAllx0
import Derived.Test.YtoklancgpmnhcaaDoorPAllx1
import Derived.Test.YtoklancgpmnhcaaDoorPAllx4
import Derived.Test.YtoklancgpmnhcaaDoorPAllx5
namespace Go.Proofs.YtoklancgpmnhcaaDoor.PAll
open Go.RowKit Go.Proofs.YtoklancgpmnhcaaDoorW.PrintWords Go.Proofs.YtoklancgpmnhcaaDoorW.PrintLast Go.Proofs.YtoklancgpmnhcaaDoorW.PrintMore
attribute [local go_sem] max2_int min2_int max_two min_two max_three min_three max_four min_four   -- for this text's walks alone
set_option linter.unusedVariables false
set_option linter.unusedSimpArgs false

/-! ### lighterlaw14_PathsUnder: function 7 -/
mutual
def lighterlaw14_PathsUnder.j0 : Nat → ByteArray → ByteArray → Bool → Option (Bool)
  | 0, _, _, _ => none
  | k + 1, x0, x1, x18 => if x18 = true then ((lighterlaw14_cleaned.f k).bind fun t216 => (some t216)) else ((Hand.paths_Clean.f x0).bind fun bt217 => ((Hand.paths_Clean.f x1).bind fun bt219 => (if bt217.2 = 0 then (lighterlaw14_PathsUnder.j1 k x1 bt217.1 bt219.1 (bt219.2 != 0)) else (lighterlaw14_PathsUnder.j1 k x1 bt217.1 bt219.1 true))))
def lighterlaw14_PathsUnder.j1 : Nat → ByteArray → ByteArray → ByteArray → Bool → Option (Bool)
  | 0, _, _, _, _ => none
  | k + 1, x1, x5, x7, x35 => if x35 = true then ((lighterlaw14_cleaned.f k).bind fun t221 => (some t221)) else ((paths_Join.f x5 x1).bind fun t222 => ((Hand.paths_Clean.f t222).bind fun bt223 => (if bt223.2 = 3 then (if (wrap64 ((wrap64 ((x5.size : Int) + (x7.size : Int))) + 1)) > 200 then ((lighterlaw14_cleaned.f k).bind fun t225 => (some t225)) else (some false)) else (if bt223.2 = 0 then ((paths_Join.f x5 x7).bind fun t226 => (if bt223.1.toList = t226.toList then ((paths_Inside.f x5 bt223.1).bind fun t227 => (if t227 = true then ((paths_Inside.f bt223.1 x5).bind fun t228 => (if x7.toList = ([] : List UInt8) then (if (t228 == true) = true then ((lighterlaw14_cleaned.f k).bind fun t229 => (some t229)) else (some false)) else (if (t228 == (bt223.1.toList == ([] : List UInt8))) = true then ((lighterlaw14_cleaned.f k).bind fun t230 => (some t230)) else (some false)))) else (some false))) else (some false))) else (some false)))))
end
def lighterlaw14_PathsUnder.f (k : Nat) (a0 : ByteArray) (a1 : ByteArray) : Option (Bool) := if (a0.size : Int) > 150 then (lighterlaw14_PathsUnder.j0 k a0 a1 true) else (lighterlaw14_PathsUnder.j0 k a0 a1 (decide ((a1.size : Int) > 150)))
theorem lighterlaw14_PathsUnder.mono_l : ∀ k, (∀ y0 y1 y2, LeO (lighterlaw14_PathsUnder.j0 k y0 y1 y2) (lighterlaw14_PathsUnder.j0 (k + 1) y0 y1 y2)) ∧ (∀ y0 y1 y2 y3, LeO (lighterlaw14_PathsUnder.j1 k y0 y1 y2 y3) (lighterlaw14_PathsUnder.j1 (k + 1) y0 y1 y2 y3))
  | 0 => ⟨fun _ _ _ r h => by simp [lighterlaw14_PathsUnder.j0] at h, fun _ _ _ _ r h => by simp [lighterlaw14_PathsUnder.j1] at h⟩
  | k + 1 => by
    obtain ⟨ih0, ih1⟩ := lighterlaw14_PathsUnder.mono_l k
    refine ⟨?_, ?_⟩
    · intro y0 y1 y2
      unfold lighterlaw14_PathsUnder.j0
      repeat' first
      | (with_reducible exact ih0 _ _ _)
      | (with_reducible exact ih1 _ _ _ _)
      | (with_reducible exact lighterlaw14_cleaned.mono _)
      | (with_reducible exact LeO.refl _)
      | (with_reducible exact LeO.none _)
      | (with_reducible refine LeO.ite ?_ ?_)
      | (with_reducible refine LeO.bind ?_ (fun _ => ?_))
      | exact ih0 _ _ _
      | exact ih1 _ _ _ _
      | exact lighterlaw14_cleaned.mono _
      | exact LeO.none _
      | refine LeO.ite ?_ ?_
      | refine LeO.bind ?_ (fun _ => ?_)
    · intro y0 y1 y2 y3
      unfold lighterlaw14_PathsUnder.j1
      repeat' first
      | (with_reducible exact ih0 _ _ _)
      | (with_reducible exact ih1 _ _ _ _)
      | (with_reducible exact lighterlaw14_cleaned.mono _)
      | (with_reducible exact LeO.refl _)
      | (with_reducible exact LeO.none _)
      | (with_reducible refine LeO.ite ?_ ?_)
      | (with_reducible refine LeO.bind ?_ (fun _ => ?_))
      | exact ih0 _ _ _
      | exact ih1 _ _ _ _
      | exact lighterlaw14_cleaned.mono _
      | exact LeO.none _
      | refine LeO.ite ?_ ?_
      | refine LeO.bind ?_ (fun _ => ?_)
theorem lighterlaw14_PathsUnder.mono : ∀ a0 a1 k, LeO (lighterlaw14_PathsUnder.f k a0 a1) (lighterlaw14_PathsUnder.f (k + 1) a0 a1) := by
  intro a0 a1 k
  obtain ⟨ih0, ih1⟩ := lighterlaw14_PathsUnder.mono_l k
  unfold lighterlaw14_PathsUnder.f
  repeat' first
      | (with_reducible exact ih0 _ _ _)
      | (with_reducible exact ih1 _ _ _ _)
      | (with_reducible exact lighterlaw14_cleaned.mono _)
      | (with_reducible exact LeO.refl _)
      | (with_reducible exact LeO.none _)
      | (with_reducible refine LeO.ite ?_ ?_)
      | (with_reducible refine LeO.bind ?_ (fun _ => ?_))
      | exact ih0 _ _ _
      | exact ih1 _ _ _ _
      | exact lighterlaw14_cleaned.mono _
      | exact LeO.none _
      | refine LeO.ite ?_ ?_
      | refine LeO.bind ?_ (fun _ => ?_)
set_option maxHeartbeats 8000000 in
set_option maxRecDepth 100000 in
theorem lighterlaw14_PathsUnder.calls (k : Nat) (a0 : ByteArray) (a1 : ByteArray) (r : Bool) (w : World) (h : lighterlaw14_PathsUnder.f k a0 a1 = some r) :
    Calls Tryd.prog 7 #[.string a0, .string a1] w fun e w' => e = .returned (.bool r) ∧ Below w.heap.size w w' := by
  have HB := Aside0.mk (Below.refl w.heap.size w)
  have H : (if (a0.size : Int) > 150 then (lighterlaw14_PathsUnder.j0 k a0 a1 true) else (lighterlaw14_PathsUnder.j0 k a0 a1 (decide ((a1.size : Int) > 150)))) = some r := h
  clear h
  have HC3 := Aside0.mk H
  clear H
  go_enter Tryd.func7, Tryd.ntmps7
  go_upto_region 1 with (fail)
  go_cut [18] (fun v18 wc => ∃ (kq : Nat) (x18_2 : Bool), v18 = .bool x18_2 ∧ Aside0 (lighterlaw14_PathsUnder.j0 kq a0 a1 x18_2 = some r) ∧ Aside0 (kq ≤ k) ∧ Aside0 (Below w.heap.size w wc))
  case first =>
    have H := HC3.out
    clear HC3
    by_cases c4 : (a0.size : Int) > 150
    · rw [if_pos c4] at H
      have c4b0 : decide (150 < (a0.size : Int)) = true := decide_eq_true c4
      have c4b1 : decide (150 < a0.size) = true := decide_eq_true (by omega)
      clear c4
      (first | rw [c4b0] | (simp only [i64_w, i32_w]; rw [c4b0]) | skip)
      have H' := Aside0.mk H
      clear H
      go_wp2
      go_meet
      case rel => exact ⟨_, (true), (by first | rfl | (simp; done) | (simp [*]; done) | (simp [*, bne_nil_e, beq_nil_e]; done)), H', ⟨by first | omega | exact Nat.le_refl _⟩, ⟨by repeat (first | (with_reducible first | exact HB.out | apply below_alloc | apply pw_below_drewN | apply below_drew1) | exact HB.out)⟩⟩
    · rw [if_neg c4] at H
      have c4b0 : decide (150 < (a0.size : Int)) = false := decide_eq_false c4
      have c4b1 : decide (150 < a0.size) = false := decide_eq_false (by omega)
      clear c4
      (first | rw [c4b0] | (simp only [i64_w, i32_w]; rw [c4b0]) | skip)
      have H' := Aside0.mk H
      clear H
      go_wp2
      go_meet
      case rel => exact ⟨_, (decide ((a1.size : Int) > 150)), (by first | rfl | (simp; done) | (simp [*]; done) | (simp [*, bne_nil_e, beq_nil_e]; done)), H', ⟨by first | omega | exact Nat.le_refl _⟩, ⟨by repeat (first | (with_reducible first | exact HB.out | apply below_alloc | apply pw_below_drewN | apply below_drew1) | exact HB.out)⟩⟩
  case rest =>
    clear HC3
    try clear p2
    try clear c4
    try clear c4b0
    try clear c4b1
    obtain ⟨kq, x18_2, rfl, HA, HJ2, HB⟩ := hcut
    cases kq with
    | zero => exact absurd HA.out (by simp [lighterlaw14_PathsUnder.j0])
    | succ kj2 =>
      have H := HA.out
      clear HA
      simp only [lighterlaw14_PathsUnder.j0] at H
      by_cases c5 : x18_2 = true
      · subst c5
        have H1 : ((lighterlaw14_cleaned.f kj2).bind fun t216 => (some t216)) = some r := by rw [if_pos rfl] at H; exact H
        clear H
        have H := H1
        clear H1
        replace H := Option.bind_eq_some_iff.mp H
        obtain ⟨t216, A60, H⟩ := H
        replace H : (some t216) = some r := H
        have A6 := Aside0.mk A60
        clear A60
        obtain rfl := Option.some.inj H
        go_wp2_with (first | ((with_reducible refine gate_callee (f := 8) rfl ?_); refine goesL_ (some 19) rfl rfl Tryd.func8 (by kernel_rfl) rfl #[] rfl (by (try simp only [List.map_toArray, List.map_cons, List.map_nil]); first | done | rfl | (simp only [List.length_drop, List.length_take]; rfl)) ?_; (with_reducible refine (lighterlaw14_cleaned.calls kj2  t216 _ A6.out).mono ?_); rintro e w7 ⟨rfl, hb⟩; refine ⟨_, rfl, ?_⟩; have n0_ := Aside0.mk (below_step (by repeat (first | (with_reducible first | exact HB.out | apply below_alloc | apply pw_below_drewN | apply below_drew1) | exact HB.out)) hb); clear HB; have HB := n0_; clear n0_; (try clear hb); (try clear hb2); (try clear hk); (try clear hi)))
        go_ret
        exact ⟨by first | rfl | (simp [errW_none, errW_some] <;> rfl) | (simp [*, errW_none, errW_some] <;> rfl), by repeat (first | (with_reducible first | exact HB.out | apply below_alloc | apply pw_below_drewN | apply below_drew1) | exact HB.out)⟩
      · replace c5 := Bool.eq_false_iff.mpr c5
        subst c5
        have H1 : ((Hand.paths_Clean.f a0).bind fun bt217 => ((Hand.paths_Clean.f a1).bind fun bt219 => (if bt217.2 = 0 then (lighterlaw14_PathsUnder.j1 kj2 a1 bt217.1 bt219.1 (bt219.2 != 0)) else (lighterlaw14_PathsUnder.j1 kj2 a1 bt217.1 bt219.1 true)))) = some r := by rw [if_neg (show ¬ (false = true) by decide)] at H; exact H
        clear H
        have H := H1
        clear H1
        replace H := Option.bind_eq_some_iff.mp H
        obtain ⟨⟨t217, t218⟩, A80, H⟩ := H
        replace H : ((Hand.paths_Clean.f a1).bind fun bt219 => (if t218 = 0 then (lighterlaw14_PathsUnder.j1 kj2 a1 t217 bt219.1 (bt219.2 != 0)) else (lighterlaw14_PathsUnder.j1 kj2 a1 t217 bt219.1 true))) = some r := H
        have A8 := Aside0.mk A80
        clear A80
        replace H := Option.bind_eq_some_iff.mp H
        obtain ⟨⟨t219, t220⟩, A90, H⟩ := H
        replace H : (if t218 = 0 then (lighterlaw14_PathsUnder.j1 kj2 a1 t217 t219 (t220 != 0)) else (lighterlaw14_PathsUnder.j1 kj2 a1 t217 t219 true)) = some r := H
        have A9 := Aside0.mk A90
        clear A90
        have HC10 := Aside0.mk H
        clear H
        go_upto_region 5 with (first | ((with_reducible refine gate_callee (f := 9) rfl ?_); refine goesL_ (some 22) rfl rfl Tryd.func9 (by kernel_rfl) rfl #[.string a0] rfl (by (try simp only [List.map_toArray, List.map_cons, List.map_nil]); first | done | rfl | (simp only [List.length_drop, List.length_take]; rfl)) ?_; (with_reducible refine (Hand.paths_Clean.calls a0 t217 t218 _ A8.out).mono ?_); rintro e w11 ⟨rfl, hb⟩; refine ⟨_, rfl, ?_⟩; have n0_ := Aside0.mk (below_step (by repeat (first | (with_reducible first | exact HB.out | apply below_alloc | apply pw_below_drewN | apply below_drew1) | exact HB.out)) hb); clear HB; have HB := n0_; clear n0_; (try clear hb); (try clear hb2); (try clear hk); (try clear hi)) | ((with_reducible refine gate_callee (f := 9) rfl ?_); refine goesL_ (some 27) rfl rfl Tryd.func9 (by kernel_rfl) rfl #[.string a1] rfl (by (try simp only [List.map_toArray, List.map_cons, List.map_nil]); first | done | rfl | (simp only [List.length_drop, List.length_take]; rfl)) ?_; (with_reducible refine (Hand.paths_Clean.calls a1 t219 t220 _ A9.out).mono ?_); rintro e w12 ⟨rfl, hb⟩; refine ⟨_, rfl, ?_⟩; have n0_ := Aside0.mk (below_step (by repeat (first | (with_reducible first | exact HB.out | apply below_alloc | apply pw_below_drewN | apply below_drew1) | exact HB.out)) hb); clear HB; have HB := n0_; clear n0_; (try clear hb); (try clear hb2); (try clear hk); (try clear hi)))
        (try simp only [Act.put, List.setIfInBounds_toArray, List.set_cons_zero, List.set_cons_succ])
        go_cut [35] (fun v35 wc => ∃ (kq : Nat) (x35_9 : Bool), v35 = .bool x35_9 ∧ Aside0 (lighterlaw14_PathsUnder.j1 kq a1 t217 t219 x35_9 = some r) ∧ Aside0 (kq ≤ kj2) ∧ Aside0 (Below w.heap.size w wc))
        case first =>
          have H := HC10.out
          clear HC10
          by_cases c13 : t218 = 0
          · rw [if_pos c13] at H
            have c13b0 : (t218 == 0) = true := beq_iff_eq.mpr c13
            have c13b1 : (t218 != 0) = false := bne_eq_false_iff_eq.mpr c13
            clear c13
            (first | rw [c13b0] | (simp only [i64_w, i32_w]; rw [c13b0]) | skip)
            have H' := Aside0.mk H
            clear H
            go_wp2
            go_meet
            case rel => exact ⟨_, ((t220 != 0)), (by first | rfl | (simp; done) | (simp [*]; done) | (simp [*, bne_nil_e, beq_nil_e]; done)), H', ⟨by have := HJ2.out; first | omega | exact Nat.le_refl _⟩, ⟨by repeat (first | (with_reducible first | exact HB.out | apply below_alloc | apply pw_below_drewN | apply below_drew1) | exact HB.out)⟩⟩
          · rw [if_neg c13] at H
            have c13b0 : (t218 == 0) = false := beq_eq_false_iff_ne.mpr c13
            have c13b1 : (t218 != 0) = true := bne_iff_ne.mpr c13
            (first | rw [c13b0] | (simp only [i64_w, i32_w]; rw [c13b0]) | skip)
            have H' := Aside0.mk H
            clear H
            go_wp2
            go_meet
            case rel => exact ⟨_, (true), (by first | rfl | (simp; done) | (simp [*]; done) | (simp [*, bne_nil_e, beq_nil_e]; done)), H', ⟨by have := HJ2.out; first | omega | exact Nat.le_refl _⟩, ⟨by repeat (first | (with_reducible first | exact HB.out | apply below_alloc | apply pw_below_drewN | apply below_drew1) | exact HB.out)⟩⟩
        case rest =>
          clear HC10
          try clear c1
          try clear p2
          try clear c4
          try clear c4b0
          try clear c4b1
          try clear c5
          try clear c7
          try clear c8
          try clear c9
          try clear c13
          try clear c13b0
          try clear c13b1
          try clear p2
          obtain ⟨kq, x35_9, rfl, HA, HJ9, HB⟩ := hcut
          cases kq with
          | zero => exact absurd HA.out (by simp [lighterlaw14_PathsUnder.j1])
          | succ kj9 =>
            have H := HA.out
            clear HA
            simp only [lighterlaw14_PathsUnder.j1] at H
            by_cases c14 : x35_9 = true
            · subst c14
              have H1 : ((lighterlaw14_cleaned.f kj9).bind fun t221 => (some t221)) = some r := by rw [if_pos rfl] at H; exact H
              clear H
              have H := H1
              clear H1
              replace H := Option.bind_eq_some_iff.mp H
              obtain ⟨t221, A150, H⟩ := H
              replace H : (some t221) = some r := H
              have A15 := Aside0.mk A150
              clear A150
              obtain rfl := Option.some.inj H
              go_wp2_with (first | ((with_reducible refine gate_callee (f := 8) rfl ?_); refine goesL_ (some 36) rfl rfl Tryd.func8 (by kernel_rfl) rfl #[] rfl (by (try simp only [List.map_toArray, List.map_cons, List.map_nil]); first | done | rfl | (simp only [List.length_drop, List.length_take]; rfl)) ?_; (with_reducible refine (lighterlaw14_cleaned.calls kj9  t221 _ A15.out).mono ?_); rintro e w16 ⟨rfl, hb⟩; refine ⟨_, rfl, ?_⟩; have n0_ := Aside0.mk (below_step (by repeat (first | (with_reducible first | exact HB.out | apply below_alloc | apply pw_below_drewN | apply below_drew1) | exact HB.out)) hb); clear HB; have HB := n0_; clear n0_; (try clear hb); (try clear hb2); (try clear hk); (try clear hi)))
              go_ret
              exact ⟨by first | rfl | (simp [errW_none, errW_some] <;> rfl) | (simp [*, errW_none, errW_some] <;> rfl), by repeat (first | (with_reducible first | exact HB.out | apply below_alloc | apply pw_below_drewN | apply below_drew1) | exact HB.out)⟩
            · replace c14 := Bool.eq_false_iff.mpr c14
              subst c14
              have H1 : ((paths_Join.f t217 a1).bind fun t222 => ((Hand.paths_Clean.f t222).bind fun bt223 => (if bt223.2 = 3 then (if (wrap64 ((wrap64 ((t217.size : Int) + (t219.size : Int))) + 1)) > 200 then ((lighterlaw14_cleaned.f kj9).bind fun t225 => (some t225)) else (some false)) else (if bt223.2 = 0 then ((paths_Join.f t217 t219).bind fun t226 => (if bt223.1.toList = t226.toList then ((paths_Inside.f t217 bt223.1).bind fun t227 => (if t227 = true then ((paths_Inside.f bt223.1 t217).bind fun t228 => (if t219.toList = ([] : List UInt8) then (if (t228 == true) = true then ((lighterlaw14_cleaned.f kj9).bind fun t229 => (some t229)) else (some false)) else (if (t228 == (bt223.1.toList == ([] : List UInt8))) = true then ((lighterlaw14_cleaned.f kj9).bind fun t230 => (some t230)) else (some false)))) else (some false))) else (some false))) else (some false))))) = some r := by rw [if_neg (show ¬ (false = true) by decide)] at H; exact H
              clear H
              have H := H1
              clear H1
              replace H := Option.bind_eq_some_iff.mp H
              obtain ⟨t222, A170, H⟩ := H
              replace H : ((Hand.paths_Clean.f t222).bind fun bt223 => (if bt223.2 = 3 then (if (wrap64 ((wrap64 ((t217.size : Int) + (t219.size : Int))) + 1)) > 200 then ((lighterlaw14_cleaned.f kj9).bind fun t225 => (some t225)) else (some false)) else (if bt223.2 = 0 then ((paths_Join.f t217 t219).bind fun t226 => (if bt223.1.toList = t226.toList then ((paths_Inside.f t217 bt223.1).bind fun t227 => (if t227 = true then ((paths_Inside.f bt223.1 t217).bind fun t228 => (if t219.toList = ([] : List UInt8) then (if (t228 == true) = true then ((lighterlaw14_cleaned.f kj9).bind fun t229 => (some t229)) else (some false)) else (if (t228 == (bt223.1.toList == ([] : List UInt8))) = true then ((lighterlaw14_cleaned.f kj9).bind fun t230 => (some t230)) else (some false)))) else (some false))) else (some false))) else (some false)))) = some r := H
              have A17 := Aside0.mk A170
              clear A170
              replace H := Option.bind_eq_some_iff.mp H
              obtain ⟨⟨t223, t224⟩, A180, H⟩ := H
              replace H : (if t224 = 3 then (if (wrap64 ((wrap64 ((t217.size : Int) + (t219.size : Int))) + 1)) > 200 then ((lighterlaw14_cleaned.f kj9).bind fun t225 => (some t225)) else (some false)) else (if t224 = 0 then ((paths_Join.f t217 t219).bind fun t226 => (if t223.toList = t226.toList then ((paths_Inside.f t217 t223).bind fun t227 => (if t227 = true then ((paths_Inside.f t223 t217).bind fun t228 => (if t219.toList = ([] : List UInt8) then (if (t228 == true) = true then ((lighterlaw14_cleaned.f kj9).bind fun t229 => (some t229)) else (some false)) else (if (t228 == (t223.toList == ([] : List UInt8))) = true then ((lighterlaw14_cleaned.f kj9).bind fun t230 => (some t230)) else (some false)))) else (some false))) else (some false))) else (some false))) = some r := H
              have A18 := Aside0.mk A180
              clear A180
              by_cases c19 : t224 = 3
              · rw [if_pos c19] at H
                have c19b0 : (t224 == 3) = true := beq_iff_eq.mpr c19
                have c19b1 : (t224 != 3) = false := bne_eq_false_iff_eq.mpr c19
                clear c19
                by_cases c20 : (wrap64 ((wrap64 ((t217.size : Int) + (t219.size : Int))) + 1)) > 200
                · rw [if_pos c20] at H
                  have c20b0 : decide (200 < (wrap64 ((wrap64 ((t217.size : Int) + (t219.size : Int))) + 1))) = true := decide_eq_true c20
                  clear c20
                  replace H := Option.bind_eq_some_iff.mp H
                  obtain ⟨t225, A210, H⟩ := H
                  replace H : (some t225) = some r := H
                  have A21 := Aside0.mk A210
                  clear A210
                  obtain rfl := Option.some.inj H
                  go_wp2_with (first | ((with_reducible refine gate_callee (f := 20) rfl ?_); refine goesL_ (some 40) rfl rfl Tryd.func20 (by kernel_rfl) rfl #[.string t217, .string a1] rfl (by (try simp only [List.map_toArray, List.map_cons, List.map_nil]); first | done | rfl | (simp only [List.length_drop, List.length_take]; rfl)) ?_; (with_reducible refine (paths_Join.calls t217 a1 t222 _ A17.out).mono ?_); rintro e w' ⟨rfl, ⟨nd, rfl⟩⟩; refine ⟨_, rfl, ?_⟩) | ((with_reducible refine gate_callee (f := 9) rfl ?_); refine goesL_ (some 41) rfl rfl Tryd.func9 (by kernel_rfl) rfl #[.string t222] rfl (by (try simp only [List.map_toArray, List.map_cons, List.map_nil]); first | done | rfl | (simp only [List.length_drop, List.length_take]; rfl)) ?_; (with_reducible refine (Hand.paths_Clean.calls t222 t223 t224 _ A18.out).mono ?_); rintro e w22 ⟨rfl, hb⟩; refine ⟨_, rfl, ?_⟩; have n0_ := Aside0.mk (below_step (by repeat (first | (with_reducible first | exact HB.out | apply below_alloc | apply pw_below_drewN | apply below_drew1) | exact HB.out)) hb); clear HB; have HB := n0_; clear n0_; (try clear hb); (try clear hb2); (try clear hk); (try clear hi)) | (go_at_call 8; (with_reducible refine (lighterlaw14_cleaned.calls kj9  t225 _ A21.out).mono ?_); rintro e w23 ⟨rfl, hb⟩; have n0_ := Aside0.mk (below_step (by repeat (first | (with_reducible first | exact HB.out | apply below_alloc | apply pw_below_drewN | apply below_drew1) | exact HB.out)) hb); clear HB; have HB := n0_; clear n0_; (try clear hb); (try clear hb2); (try clear hk); (try clear hi)))
                  go_ret
                  exact ⟨by first | rfl | (simp [errW_none, errW_some] <;> rfl) | (simp [*, errW_none, errW_some] <;> rfl), by repeat (first | (with_reducible first | exact HB.out | apply below_alloc | apply pw_below_drewN | apply below_drew1) | exact HB.out)⟩
                · rw [if_neg c20] at H
                  have c20b0 : decide (200 < (wrap64 ((wrap64 ((t217.size : Int) + (t219.size : Int))) + 1))) = false := decide_eq_false c20
                  clear c20
                  obtain rfl := Option.some.inj H
                  go_wp2_with (first | ((with_reducible refine gate_callee (f := 20) rfl ?_); refine goesL_ (some 40) rfl rfl Tryd.func20 (by kernel_rfl) rfl #[.string t217, .string a1] rfl (by (try simp only [List.map_toArray, List.map_cons, List.map_nil]); first | done | rfl | (simp only [List.length_drop, List.length_take]; rfl)) ?_; (with_reducible refine (paths_Join.calls t217 a1 t222 _ A17.out).mono ?_); rintro e w' ⟨rfl, ⟨nd, rfl⟩⟩; refine ⟨_, rfl, ?_⟩) | ((with_reducible refine gate_callee (f := 9) rfl ?_); refine goesL_ (some 41) rfl rfl Tryd.func9 (by kernel_rfl) rfl #[.string t222] rfl (by (try simp only [List.map_toArray, List.map_cons, List.map_nil]); first | done | rfl | (simp only [List.length_drop, List.length_take]; rfl)) ?_; (with_reducible refine (Hand.paths_Clean.calls t222 t223 t224 _ A18.out).mono ?_); rintro e w24 ⟨rfl, hb⟩; refine ⟨_, rfl, ?_⟩; have n0_ := Aside0.mk (below_step (by repeat (first | (with_reducible first | exact HB.out | apply below_alloc | apply pw_below_drewN | apply below_drew1) | exact HB.out)) hb); clear HB; have HB := n0_; clear n0_; (try clear hb); (try clear hb2); (try clear hk); (try clear hi)))
                  go_ret
                  exact ⟨by first | rfl | (simp [errW_none, errW_some] <;> rfl) | (simp [*, errW_none, errW_some] <;> rfl), by repeat (first | (with_reducible first | exact HB.out | apply below_alloc | apply pw_below_drewN | apply below_drew1) | exact HB.out)⟩
              · rw [if_neg c19] at H
                have c19b0 : (t224 == 3) = false := beq_eq_false_iff_ne.mpr c19
                have c19b1 : (t224 != 3) = true := bne_iff_ne.mpr c19
                by_cases c25 : t224 = 0
                · rw [if_pos c25] at H
                  have c25b0 : (t224 == 0) = true := beq_iff_eq.mpr c25
                  have c25b1 : (t224 != 0) = false := bne_eq_false_iff_eq.mpr c25
                  clear c25
                  replace H := Option.bind_eq_some_iff.mp H
                  obtain ⟨t226, A260, H⟩ := H
                  replace H : (if t223.toList = t226.toList then ((paths_Inside.f t217 t223).bind fun t227 => (if t227 = true then ((paths_Inside.f t223 t217).bind fun t228 => (if t219.toList = ([] : List UInt8) then (if (t228 == true) = true then ((lighterlaw14_cleaned.f kj9).bind fun t229 => (some t229)) else (some false)) else (if (t228 == (t223.toList == ([] : List UInt8))) = true then ((lighterlaw14_cleaned.f kj9).bind fun t230 => (some t230)) else (some false)))) else (some false))) else (some false)) = some r := H
                  have A26 := Aside0.mk A260
                  clear A260
                  by_cases c27 : t223.toList = t226.toList
                  · rw [if_pos c27] at H
                    have c27b0 : (t223.toList == t226.toList) = true := beq_iff_eq.mpr c27
                    have c27b1 : (t223.toList != t226.toList) = false := bne_eq_false_iff_eq.mpr c27
                    clear c27
                    replace H := Option.bind_eq_some_iff.mp H
                    obtain ⟨t227, A280, H⟩ := H
                    replace H : (if t227 = true then ((paths_Inside.f t223 t217).bind fun t228 => (if t219.toList = ([] : List UInt8) then (if (t228 == true) = true then ((lighterlaw14_cleaned.f kj9).bind fun t229 => (some t229)) else (some false)) else (if (t228 == (t223.toList == ([] : List UInt8))) = true then ((lighterlaw14_cleaned.f kj9).bind fun t230 => (some t230)) else (some false)))) else (some false)) = some r := H
                    have A28 := Aside0.mk A280
                    clear A280
                    by_cases c29 : t227 = true
                    · subst c29
                      have H1 : ((paths_Inside.f t223 t217).bind fun t228 => (if t219.toList = ([] : List UInt8) then (if (t228 == true) = true then ((lighterlaw14_cleaned.f kj9).bind fun t229 => (some t229)) else (some false)) else (if (t228 == (t223.toList == ([] : List UInt8))) = true then ((lighterlaw14_cleaned.f kj9).bind fun t230 => (some t230)) else (some false)))) = some r := by rw [if_pos rfl] at H; exact H
                      clear H
                      have H := H1
                      clear H1
                      replace H := Option.bind_eq_some_iff.mp H
                      obtain ⟨t228, A300, H⟩ := H
                      replace H : (if t219.toList = ([] : List UInt8) then (if (t228 == true) = true then ((lighterlaw14_cleaned.f kj9).bind fun t229 => (some t229)) else (some false)) else (if (t228 == (t223.toList == ([] : List UInt8))) = true then ((lighterlaw14_cleaned.f kj9).bind fun t230 => (some t230)) else (some false))) = some r := H
                      have A30 := Aside0.mk A300
                      clear A300
                      by_cases c31 : t219.toList = ([] : List UInt8)
                      · rw [if_pos c31] at H
                        have c31b0 : (t219.toList == ([] : List UInt8)) = true := beq_iff_eq.mpr c31
                        have c31b1 : (t219.toList != ([] : List UInt8)) = false := bne_eq_false_iff_eq.mpr c31
                        clear c31
                        by_cases c32 : (t228 == true) = true
                        · rw [if_pos c32] at H
                          have c32b0 : (t228 == true) = true := c32
                          (try (have c32b1 : decide (t228 = true) = true := by simpa using c32))
                          (try (have c32b2 : (t228 == true) = true := by simpa using c32))
                          clear c32
                          replace H := Option.bind_eq_some_iff.mp H
                          obtain ⟨t229, A330, H⟩ := H
                          replace H : (some t229) = some r := H
                          have A33 := Aside0.mk A330
                          clear A330
                          obtain rfl := Option.some.inj H
                          go_wp2_with (first | ((with_reducible refine gate_callee (f := 20) rfl ?_); refine goesL_ (some 40) rfl rfl Tryd.func20 (by kernel_rfl) rfl #[.string t217, .string a1] rfl (by (try simp only [List.map_toArray, List.map_cons, List.map_nil]); first | done | rfl | (simp only [List.length_drop, List.length_take]; rfl)) ?_; (with_reducible refine (paths_Join.calls t217 a1 t222 _ A17.out).mono ?_); rintro e w' ⟨rfl, ⟨nd, rfl⟩⟩; refine ⟨_, rfl, ?_⟩) | ((with_reducible refine gate_callee (f := 9) rfl ?_); refine goesL_ (some 41) rfl rfl Tryd.func9 (by kernel_rfl) rfl #[.string t222] rfl (by (try simp only [List.map_toArray, List.map_cons, List.map_nil]); first | done | rfl | (simp only [List.length_drop, List.length_take]; rfl)) ?_; (with_reducible refine (Hand.paths_Clean.calls t222 t223 t224 _ A18.out).mono ?_); rintro e w34 ⟨rfl, hb⟩; refine ⟨_, rfl, ?_⟩; have n0_ := Aside0.mk (below_step (by repeat (first | (with_reducible first | exact HB.out | apply below_alloc | apply pw_below_drewN | apply below_drew1) | exact HB.out)) hb); clear HB; have HB := n0_; clear n0_; (try clear hb); (try clear hb2); (try clear hk); (try clear hi)) | (go_at_call 20; (with_reducible refine (paths_Join.calls t217 t219 t226 _ A26.out).mono ?_); rintro e w' ⟨rfl, ⟨nd, rfl⟩⟩) | (go_at_call 15; (with_reducible refine (paths_Inside.calls t217 t223 true _ A28.out).mono ?_); rintro e w' ⟨rfl, ⟨nd, rfl⟩⟩) | (go_at_call 15; (with_reducible refine (paths_Inside.calls t223 t217 t228 _ A30.out).mono ?_); rintro e w' ⟨rfl, ⟨nd, rfl⟩⟩) | (go_at_call 8; (with_reducible refine (lighterlaw14_cleaned.calls kj9  t229 _ A33.out).mono ?_); rintro e w35 ⟨rfl, hb⟩; have n0_ := Aside0.mk (below_step (by repeat (first | (with_reducible first | exact HB.out | apply below_alloc | apply pw_below_drewN | apply below_drew1) | exact HB.out)) hb); clear HB; have HB := n0_; clear n0_; (try clear hb); (try clear hb2); (try clear hk); (try clear hi)))
                          go_ret
                          exact ⟨by first | rfl | (simp [errW_none, errW_some] <;> rfl) | (simp [*, errW_none, errW_some] <;> rfl), by repeat (first | (with_reducible first | exact HB.out | apply below_alloc | apply pw_below_drewN | apply below_drew1) | exact HB.out)⟩
                        · rw [if_neg c32] at H
                          have c32b0 : (t228 == true) = false := by simpa using c32
                          (try (have c32b1 : decide (t228 = true) = false := by simpa using c32))
                          (try (have c32b2 : (t228 == true) = false := by simpa using c32))
                          (try (have c32b3 : ¬ (t228 = true) := by simpa using c32))
                          clear c32
                          obtain rfl := Option.some.inj H
                          go_wp2_with (first | ((with_reducible refine gate_callee (f := 20) rfl ?_); refine goesL_ (some 40) rfl rfl Tryd.func20 (by kernel_rfl) rfl #[.string t217, .string a1] rfl (by (try simp only [List.map_toArray, List.map_cons, List.map_nil]); first | done | rfl | (simp only [List.length_drop, List.length_take]; rfl)) ?_; (with_reducible refine (paths_Join.calls t217 a1 t222 _ A17.out).mono ?_); rintro e w' ⟨rfl, ⟨nd, rfl⟩⟩; refine ⟨_, rfl, ?_⟩) | ((with_reducible refine gate_callee (f := 9) rfl ?_); refine goesL_ (some 41) rfl rfl Tryd.func9 (by kernel_rfl) rfl #[.string t222] rfl (by (try simp only [List.map_toArray, List.map_cons, List.map_nil]); first | done | rfl | (simp only [List.length_drop, List.length_take]; rfl)) ?_; (with_reducible refine (Hand.paths_Clean.calls t222 t223 t224 _ A18.out).mono ?_); rintro e w36 ⟨rfl, hb⟩; refine ⟨_, rfl, ?_⟩; have n0_ := Aside0.mk (below_step (by repeat (first | (with_reducible first | exact HB.out | apply below_alloc | apply pw_below_drewN | apply below_drew1) | exact HB.out)) hb); clear HB; have HB := n0_; clear n0_; (try clear hb); (try clear hb2); (try clear hk); (try clear hi)) | (go_at_call 20; (with_reducible refine (paths_Join.calls t217 t219 t226 _ A26.out).mono ?_); rintro e w' ⟨rfl, ⟨nd, rfl⟩⟩) | (go_at_call 15; (with_reducible refine (paths_Inside.calls t217 t223 true _ A28.out).mono ?_); rintro e w' ⟨rfl, ⟨nd, rfl⟩⟩) | (go_at_call 15; (with_reducible refine (paths_Inside.calls t223 t217 t228 _ A30.out).mono ?_); rintro e w' ⟨rfl, ⟨nd, rfl⟩⟩))
                          go_ret
                          exact ⟨by first | rfl | (simp [errW_none, errW_some] <;> rfl) | (simp [*, errW_none, errW_some] <;> rfl), by repeat (first | (with_reducible first | exact HB.out | apply below_alloc | apply pw_below_drewN | apply below_drew1) | exact HB.out)⟩
                      · rw [if_neg c31] at H
                        have c31b0 : (t219.toList == ([] : List UInt8)) = false := beq_eq_false_iff_ne.mpr c31
                        have c31b1 : (t219.toList != ([] : List UInt8)) = true := bne_iff_ne.mpr c31
                        by_cases c37 : (t228 == (t223.toList == ([] : List UInt8))) = true
                        · rw [if_pos c37] at H
                          have c37b0 : (t228 == (t223.toList == ([] : List UInt8))) = true := c37
                          (try (have c37b1 : (t228 = t223.toList.isEmpty) = True := eq_true (by have h_ : t228 = (t223.toList == ([] : List UInt8)) := (by simpa using c37); simpa only [beq_nil_e] using h_)))
                          (try (have c37b2 : decide (t228 = (t223.toList == ([] : List UInt8))) = true := by simpa using c37))
                          (try (have c37b3 : (t228 == (t223.toList == ([] : List UInt8))) = true := by simpa using c37))
                          clear c37
                          replace H := Option.bind_eq_some_iff.mp H
                          obtain ⟨t230, A380, H⟩ := H
                          replace H : (some t230) = some r := H
                          have A38 := Aside0.mk A380
                          clear A380
                          obtain rfl := Option.some.inj H
                          go_wp2_with (first | ((with_reducible refine gate_callee (f := 20) rfl ?_); refine goesL_ (some 40) rfl rfl Tryd.func20 (by kernel_rfl) rfl #[.string t217, .string a1] rfl (by (try simp only [List.map_toArray, List.map_cons, List.map_nil]); first | done | rfl | (simp only [List.length_drop, List.length_take]; rfl)) ?_; (with_reducible refine (paths_Join.calls t217 a1 t222 _ A17.out).mono ?_); rintro e w' ⟨rfl, ⟨nd, rfl⟩⟩; refine ⟨_, rfl, ?_⟩) | ((with_reducible refine gate_callee (f := 9) rfl ?_); refine goesL_ (some 41) rfl rfl Tryd.func9 (by kernel_rfl) rfl #[.string t222] rfl (by (try simp only [List.map_toArray, List.map_cons, List.map_nil]); first | done | rfl | (simp only [List.length_drop, List.length_take]; rfl)) ?_; (with_reducible refine (Hand.paths_Clean.calls t222 t223 t224 _ A18.out).mono ?_); rintro e w39 ⟨rfl, hb⟩; refine ⟨_, rfl, ?_⟩; have n0_ := Aside0.mk (below_step (by repeat (first | (with_reducible first | exact HB.out | apply below_alloc | apply pw_below_drewN | apply below_drew1) | exact HB.out)) hb); clear HB; have HB := n0_; clear n0_; (try clear hb); (try clear hb2); (try clear hk); (try clear hi)) | (go_at_call 20; (with_reducible refine (paths_Join.calls t217 t219 t226 _ A26.out).mono ?_); rintro e w' ⟨rfl, ⟨nd, rfl⟩⟩) | (go_at_call 15; (with_reducible refine (paths_Inside.calls t217 t223 true _ A28.out).mono ?_); rintro e w' ⟨rfl, ⟨nd, rfl⟩⟩) | (go_at_call 15; (with_reducible refine (paths_Inside.calls t223 t217 t228 _ A30.out).mono ?_); rintro e w' ⟨rfl, ⟨nd, rfl⟩⟩) | (go_at_call 8; (with_reducible refine (lighterlaw14_cleaned.calls kj9  t230 _ A38.out).mono ?_); rintro e w40 ⟨rfl, hb⟩; have n0_ := Aside0.mk (below_step (by repeat (first | (with_reducible first | exact HB.out | apply below_alloc | apply pw_below_drewN | apply below_drew1) | exact HB.out)) hb); clear HB; have HB := n0_; clear n0_; (try clear hb); (try clear hb2); (try clear hk); (try clear hi)))
                          go_ret
                          exact ⟨by first | rfl | (simp [errW_none, errW_some] <;> rfl) | (simp [*, errW_none, errW_some] <;> rfl), by repeat (first | (with_reducible first | exact HB.out | apply below_alloc | apply pw_below_drewN | apply below_drew1) | exact HB.out)⟩
                        · rw [if_neg c37] at H
                          have c37b0 : (t228 == (t223.toList == ([] : List UInt8))) = false := by simpa using c37
                          (try (have c37b1 : (t228 = t223.toList.isEmpty) = False := eq_false (fun g_ => absurd (show t228 = (t223.toList == ([] : List UInt8)) from by simpa only [beq_nil_e] using g_) (by simpa using c37))))
                          (try (have c37b2 : decide (t228 = (t223.toList == ([] : List UInt8))) = false := by simpa using c37))
                          (try (have c37b3 : (t228 == (t223.toList == ([] : List UInt8))) = false := by simpa using c37))
                          (try (have c37b4 : ¬ (t228 = (t223.toList == ([] : List UInt8))) := by simpa using c37))
                          clear c37
                          obtain rfl := Option.some.inj H
                          go_wp2_with (first | ((with_reducible refine gate_callee (f := 20) rfl ?_); refine goesL_ (some 40) rfl rfl Tryd.func20 (by kernel_rfl) rfl #[.string t217, .string a1] rfl (by (try simp only [List.map_toArray, List.map_cons, List.map_nil]); first | done | rfl | (simp only [List.length_drop, List.length_take]; rfl)) ?_; (with_reducible refine (paths_Join.calls t217 a1 t222 _ A17.out).mono ?_); rintro e w' ⟨rfl, ⟨nd, rfl⟩⟩; refine ⟨_, rfl, ?_⟩) | ((with_reducible refine gate_callee (f := 9) rfl ?_); refine goesL_ (some 41) rfl rfl Tryd.func9 (by kernel_rfl) rfl #[.string t222] rfl (by (try simp only [List.map_toArray, List.map_cons, List.map_nil]); first | done | rfl | (simp only [List.length_drop, List.length_take]; rfl)) ?_; (with_reducible refine (Hand.paths_Clean.calls t222 t223 t224 _ A18.out).mono ?_); rintro e w41 ⟨rfl, hb⟩; refine ⟨_, rfl, ?_⟩; have n0_ := Aside0.mk (below_step (by repeat (first | (with_reducible first | exact HB.out | apply below_alloc | apply pw_below_drewN | apply below_drew1) | exact HB.out)) hb); clear HB; have HB := n0_; clear n0_; (try clear hb); (try clear hb2); (try clear hk); (try clear hi)) | (go_at_call 20; (with_reducible refine (paths_Join.calls t217 t219 t226 _ A26.out).mono ?_); rintro e w' ⟨rfl, ⟨nd, rfl⟩⟩) | (go_at_call 15; (with_reducible refine (paths_Inside.calls t217 t223 true _ A28.out).mono ?_); rintro e w' ⟨rfl, ⟨nd, rfl⟩⟩) | (go_at_call 15; (with_reducible refine (paths_Inside.calls t223 t217 t228 _ A30.out).mono ?_); rintro e w' ⟨rfl, ⟨nd, rfl⟩⟩))
                          go_ret
                          exact ⟨by first | rfl | (simp [errW_none, errW_some] <;> rfl) | (simp [*, errW_none, errW_some] <;> rfl), by repeat (first | (with_reducible first | exact HB.out | apply below_alloc | apply pw_below_drewN | apply below_drew1) | exact HB.out)⟩
                    · replace c29 := Bool.eq_false_iff.mpr c29
                      subst c29
                      have H1 : (some false) = some r := by rw [if_neg (show ¬ (false = true) by decide)] at H; exact H
                      clear H
                      have H := H1
                      clear H1
                      obtain rfl := Option.some.inj H
                      go_wp2_with (first | ((with_reducible refine gate_callee (f := 20) rfl ?_); refine goesL_ (some 40) rfl rfl Tryd.func20 (by kernel_rfl) rfl #[.string t217, .string a1] rfl (by (try simp only [List.map_toArray, List.map_cons, List.map_nil]); first | done | rfl | (simp only [List.length_drop, List.length_take]; rfl)) ?_; (with_reducible refine (paths_Join.calls t217 a1 t222 _ A17.out).mono ?_); rintro e w' ⟨rfl, ⟨nd, rfl⟩⟩; refine ⟨_, rfl, ?_⟩) | ((with_reducible refine gate_callee (f := 9) rfl ?_); refine goesL_ (some 41) rfl rfl Tryd.func9 (by kernel_rfl) rfl #[.string t222] rfl (by (try simp only [List.map_toArray, List.map_cons, List.map_nil]); first | done | rfl | (simp only [List.length_drop, List.length_take]; rfl)) ?_; (with_reducible refine (Hand.paths_Clean.calls t222 t223 t224 _ A18.out).mono ?_); rintro e w42 ⟨rfl, hb⟩; refine ⟨_, rfl, ?_⟩; have n0_ := Aside0.mk (below_step (by repeat (first | (with_reducible first | exact HB.out | apply below_alloc | apply pw_below_drewN | apply below_drew1) | exact HB.out)) hb); clear HB; have HB := n0_; clear n0_; (try clear hb); (try clear hb2); (try clear hk); (try clear hi)) | (go_at_call 20; (with_reducible refine (paths_Join.calls t217 t219 t226 _ A26.out).mono ?_); rintro e w' ⟨rfl, ⟨nd, rfl⟩⟩) | (go_at_call 15; (with_reducible refine (paths_Inside.calls t217 t223 false _ A28.out).mono ?_); rintro e w' ⟨rfl, ⟨nd, rfl⟩⟩))
                      go_ret
                      exact ⟨by first | rfl | (simp [errW_none, errW_some] <;> rfl) | (simp [*, errW_none, errW_some] <;> rfl), by repeat (first | (with_reducible first | exact HB.out | apply below_alloc | apply pw_below_drewN | apply below_drew1) | exact HB.out)⟩
                  · rw [if_neg c27] at H
                    have c27b0 : (t223.toList == t226.toList) = false := beq_eq_false_iff_ne.mpr c27
                    have c27b1 : (t223.toList != t226.toList) = true := bne_iff_ne.mpr c27
                    obtain rfl := Option.some.inj H
                    go_wp2_with (first | ((with_reducible refine gate_callee (f := 20) rfl ?_); refine goesL_ (some 40) rfl rfl Tryd.func20 (by kernel_rfl) rfl #[.string t217, .string a1] rfl (by (try simp only [List.map_toArray, List.map_cons, List.map_nil]); first | done | rfl | (simp only [List.length_drop, List.length_take]; rfl)) ?_; (with_reducible refine (paths_Join.calls t217 a1 t222 _ A17.out).mono ?_); rintro e w' ⟨rfl, ⟨nd, rfl⟩⟩; refine ⟨_, rfl, ?_⟩) | ((with_reducible refine gate_callee (f := 9) rfl ?_); refine goesL_ (some 41) rfl rfl Tryd.func9 (by kernel_rfl) rfl #[.string t222] rfl (by (try simp only [List.map_toArray, List.map_cons, List.map_nil]); first | done | rfl | (simp only [List.length_drop, List.length_take]; rfl)) ?_; (with_reducible refine (Hand.paths_Clean.calls t222 t223 t224 _ A18.out).mono ?_); rintro e w43 ⟨rfl, hb⟩; refine ⟨_, rfl, ?_⟩; have n0_ := Aside0.mk (below_step (by repeat (first | (with_reducible first | exact HB.out | apply below_alloc | apply pw_below_drewN | apply below_drew1) | exact HB.out)) hb); clear HB; have HB := n0_; clear n0_; (try clear hb); (try clear hb2); (try clear hk); (try clear hi)) | (go_at_call 20; (with_reducible refine (paths_Join.calls t217 t219 t226 _ A26.out).mono ?_); rintro e w' ⟨rfl, ⟨nd, rfl⟩⟩))
                    go_ret
                    exact ⟨by first | rfl | (simp [errW_none, errW_some] <;> rfl) | (simp [*, errW_none, errW_some] <;> rfl), by repeat (first | (with_reducible first | exact HB.out | apply below_alloc | apply pw_below_drewN | apply below_drew1) | exact HB.out)⟩
                · rw [if_neg c25] at H
                  have c25b0 : (t224 == 0) = false := beq_eq_false_iff_ne.mpr c25
                  have c25b1 : (t224 != 0) = true := bne_iff_ne.mpr c25
                  obtain rfl := Option.some.inj H
                  go_wp2_with (first | ((with_reducible refine gate_callee (f := 20) rfl ?_); refine goesL_ (some 40) rfl rfl Tryd.func20 (by kernel_rfl) rfl #[.string t217, .string a1] rfl (by (try simp only [List.map_toArray, List.map_cons, List.map_nil]); first | done | rfl | (simp only [List.length_drop, List.length_take]; rfl)) ?_; (with_reducible refine (paths_Join.calls t217 a1 t222 _ A17.out).mono ?_); rintro e w' ⟨rfl, ⟨nd, rfl⟩⟩; refine ⟨_, rfl, ?_⟩) | ((with_reducible refine gate_callee (f := 9) rfl ?_); refine goesL_ (some 41) rfl rfl Tryd.func9 (by kernel_rfl) rfl #[.string t222] rfl (by (try simp only [List.map_toArray, List.map_cons, List.map_nil]); first | done | rfl | (simp only [List.length_drop, List.length_take]; rfl)) ?_; (with_reducible refine (Hand.paths_Clean.calls t222 t223 t224 _ A18.out).mono ?_); rintro e w44 ⟨rfl, hb⟩; refine ⟨_, rfl, ?_⟩; have n0_ := Aside0.mk (below_step (by repeat (first | (with_reducible first | exact HB.out | apply below_alloc | apply pw_below_drewN | apply below_drew1) | exact HB.out)) hb); clear HB; have HB := n0_; clear n0_; (try clear hb); (try clear hb2); (try clear hk); (try clear hi)))
                  go_ret
                  exact ⟨by first | rfl | (simp [errW_none, errW_some] <;> rfl) | (simp [*, errW_none, errW_some] <;> rfl), by repeat (first | (with_reducible first | exact HB.out | apply below_alloc | apply pw_below_drewN | apply below_drew1) | exact HB.out)⟩

/-- THE ONE PURE STATEMENT of lighterlaw14_PathsUnder: yours. -/
def lighterlaw14_PathsUnder.Pure : Prop := ∀ (a0 : ByteArray) (a1 : ByteArray), a0.size ≤ 140737488351232 → a1.size ≤ 140737488351232 → ∃ k, lighterlaw14_PathsUnder.f k a0 a1 = some true
theorem lighterlaw14_PathsUnder.walk (P : lighterlaw14_PathsUnder.Pure) (a0 : ByteArray) (a1 : ByteArray) (w : World) (w0 : a0.size ≤ 140737488351232) (w1 : a1.size ≤ 140737488351232) :
    Calls Tryd.prog 7 #[.string a0, .string a1] w fun e w' => e = .returned (.bool true) ∧ Below w.heap.size w w' := by
  obtain ⟨k, h⟩ := P a0 a1 w0 w1
  refine (lighterlaw14_PathsUnder.calls k a0 a1 true w h).mono ?_
  rintro e w' ⟨rfl, hd⟩
  exact ⟨rfl, hd⟩

/-! ### lighterlaw14_PathsWhite: function 4 -/
mutual
def lighterlaw14_PathsWhite.l0 : Nat → ByteArray → Int → Option (Bool)
  | 0, _, _ => none
  | k + 1, x0, x3 => if x3 < 3 then ((paths_Whiteout.f x0).bind fun bt233 => (if bt233.2.1 = true then (if bt233.1.toList = ([] : List UInt8) then (if bt233.2.2 = true then (lighterlaw14_PathsWhite.j1 k x0 x3 bt233.1 bt233.2.2 false) else (lighterlaw14_PathsWhite.j1 k x0 x3 bt233.1 bt233.2.2 true)) else (lighterlaw14_PathsWhite.j1 k x0 x3 bt233.1 bt233.2.2 true)) else (if bt233.2.2 = true then (if bt233.1.toList = ([] : List UInt8) then (lighterlaw14_PathsWhite.j1 k x0 x3 bt233.1 bt233.2.2 true) else (lighterlaw14_PathsWhite.j1 k x0 x3 bt233.1 bt233.2.2 ((x0.size : Int) != (wrap64 ((bt233.1.size : Int) + 4))))) else (if bt233.1.toList = ([] : List UInt8) then (lighterlaw14_PathsWhite.j1 k x0 x3 bt233.1 bt233.2.2 false) else (lighterlaw14_PathsWhite.j1 k x0 x3 bt233.1 bt233.2.2 true))))) else ((lighterlaw14_cleaned.f k).bind fun t232 => (some t232))
def lighterlaw14_PathsWhite.j1 : Nat → ByteArray → Int → ByteArray → Bool → Bool → Option (Bool)
  | 0, _, _, _, _, _ => none
  | k + 1, x0, x3, x4, x6, x58 => if x58 = true then (some false) else ((Hand.paths_Clean.f x0).bind fun bt236 => (if x6 = true then (if bt236.2 = 0 then ((lighterlaw14_clean.f k x0).bind fun t238 => (if t238 = true then ((paths_Base.f k x0).bind fun t239 => (if t239.toList = x0.toList then (if x4.toList = ([] : List UInt8) then (if 4 + x0.size ≤ 9223372036854775807 then (lighterlaw14_PathsWhite.l0 k ((⟨#[46, 119, 104, 46]⟩ : ByteArray) ++ x0) (wrap64 (x3 + 1))) else (none)) else ((lighterlaw14_clean.f k x4).bind fun t240 => (if t240 = true then (if 4 + x0.size ≤ 9223372036854775807 then (lighterlaw14_PathsWhite.l0 k ((⟨#[46, 119, 104, 46]⟩ : ByteArray) ++ x0) (wrap64 (x3 + 1))) else (none)) else (some false)))) else (if 4 + x0.size ≤ 9223372036854775807 then (lighterlaw14_PathsWhite.l0 k ((⟨#[46, 119, 104, 46]⟩ : ByteArray) ++ x0) (wrap64 (x3 + 1))) else (none)))) else (if 4 + x0.size ≤ 9223372036854775807 then (lighterlaw14_PathsWhite.l0 k ((⟨#[46, 119, 104, 46]⟩ : ByteArray) ++ x0) (wrap64 (x3 + 1))) else (none)))) else (if 4 + x0.size ≤ 9223372036854775807 then (lighterlaw14_PathsWhite.l0 k ((⟨#[46, 119, 104, 46]⟩ : ByteArray) ++ x0) (wrap64 (x3 + 1))) else (none))) else (if 4 + x0.size ≤ 9223372036854775807 then (lighterlaw14_PathsWhite.l0 k ((⟨#[46, 119, 104, 46]⟩ : ByteArray) ++ x0) (wrap64 (x3 + 1))) else (none))))
end
def lighterlaw14_PathsWhite.f (k : Nat) (a0 : ByteArray) : Option (Bool) := if (a0.size : Int) > 100 then ((lighterlaw14_cleaned.f k).bind fun t231 => (some t231)) else (lighterlaw14_PathsWhite.l0 k a0 0)
theorem lighterlaw14_PathsWhite.mono_l : ∀ k, (∀ y0 y1, LeO (lighterlaw14_PathsWhite.l0 k y0 y1) (lighterlaw14_PathsWhite.l0 (k + 1) y0 y1)) ∧ (∀ y0 y1 y2 y3 y4, LeO (lighterlaw14_PathsWhite.j1 k y0 y1 y2 y3 y4) (lighterlaw14_PathsWhite.j1 (k + 1) y0 y1 y2 y3 y4))
  | 0 => ⟨fun _ _ r h => by simp [lighterlaw14_PathsWhite.l0] at h, fun _ _ _ _ _ r h => by simp [lighterlaw14_PathsWhite.j1] at h⟩
  | k + 1 => by
    obtain ⟨ih0, ih1⟩ := lighterlaw14_PathsWhite.mono_l k
    refine ⟨?_, ?_⟩
    · intro y0 y1
      unfold lighterlaw14_PathsWhite.l0
      repeat' first
      | (with_reducible exact ih0 _ _)
      | (with_reducible exact ih1 _ _ _ _ _)
      | (with_reducible exact lighterlaw14_clean.mono _ _)
      | (with_reducible exact lighterlaw14_cleaned.mono _)
      | (with_reducible exact paths_Base.mono _ _)
      | (with_reducible exact LeO.refl _)
      | (with_reducible exact LeO.none _)
      | (with_reducible refine LeO.ite ?_ ?_)
      | (with_reducible refine LeO.bind ?_ (fun _ => ?_))
      | exact ih0 _ _
      | exact ih1 _ _ _ _ _
      | exact lighterlaw14_clean.mono _ _
      | exact lighterlaw14_cleaned.mono _
      | exact paths_Base.mono _ _
      | exact LeO.none _
      | refine LeO.ite ?_ ?_
      | refine LeO.bind ?_ (fun _ => ?_)
    · intro y0 y1 y2 y3 y4
      unfold lighterlaw14_PathsWhite.j1
      repeat' first
      | (with_reducible exact ih0 _ _)
      | (with_reducible exact ih1 _ _ _ _ _)
      | (with_reducible exact lighterlaw14_clean.mono _ _)
      | (with_reducible exact lighterlaw14_cleaned.mono _)
      | (with_reducible exact paths_Base.mono _ _)
      | (with_reducible exact LeO.refl _)
      | (with_reducible exact LeO.none _)
      | (with_reducible refine LeO.ite ?_ ?_)
      | (with_reducible refine LeO.bind ?_ (fun _ => ?_))
      | exact ih0 _ _
      | exact ih1 _ _ _ _ _
      | exact lighterlaw14_clean.mono _ _
      | exact lighterlaw14_cleaned.mono _
      | exact paths_Base.mono _ _
      | exact LeO.none _
      | refine LeO.ite ?_ ?_
      | refine LeO.bind ?_ (fun _ => ?_)
theorem lighterlaw14_PathsWhite.mono : ∀ a0 k, LeO (lighterlaw14_PathsWhite.f k a0) (lighterlaw14_PathsWhite.f (k + 1) a0) := by
  intro a0 k
  obtain ⟨ih0, ih1⟩ := lighterlaw14_PathsWhite.mono_l k
  unfold lighterlaw14_PathsWhite.f
  repeat' first
      | (with_reducible exact ih0 _ _)
      | (with_reducible exact ih1 _ _ _ _ _)
      | (with_reducible exact lighterlaw14_clean.mono _ _)
      | (with_reducible exact lighterlaw14_cleaned.mono _)
      | (with_reducible exact paths_Base.mono _ _)
      | (with_reducible exact LeO.refl _)
      | (with_reducible exact LeO.none _)
      | (with_reducible refine LeO.ite ?_ ?_)
      | (with_reducible refine LeO.bind ?_ (fun _ => ?_))
      | exact ih0 _ _
      | exact ih1 _ _ _ _ _
      | exact lighterlaw14_clean.mono _ _
      | exact lighterlaw14_cleaned.mono _
      | exact paths_Base.mono _ _
      | exact LeO.none _
      | refine LeO.ite ?_ ?_
      | refine LeO.bind ?_ (fun _ => ?_)
set_option maxHeartbeats 8000000 in
set_option maxRecDepth 100000 in
theorem lighterlaw14_PathsWhite.calls (k : Nat) (a0 : ByteArray) (r : Bool) (w : World) (h : lighterlaw14_PathsWhite.f k a0 = some r) :
    Calls Tryd.prog 4 #[.string a0] w fun e w' => e = .returned (.bool r) ∧ Below w.heap.size w w' := by
  have HB := Aside0.mk (Below.refl w.heap.size w)
  have H : (if (a0.size : Int) > 100 then ((lighterlaw14_cleaned.f k).bind fun t231 => (some t231)) else (lighterlaw14_PathsWhite.l0 k a0 0)) = some r := h
  clear h
  by_cases c2 : (a0.size : Int) > 100
  · rw [if_pos c2] at H
    have c2b0 : decide (100 < (a0.size : Int)) = true := decide_eq_true c2
    have c2b1 : decide (100 < a0.size) = true := decide_eq_true (by omega)
    clear c2
    replace H := Option.bind_eq_some_iff.mp H
    obtain ⟨t231, A30, H⟩ := H
    replace H : (some t231) = some r := H
    have A3 := Aside0.mk A30
    clear A30
    obtain rfl := Option.some.inj H
    go_enter Tryd.func4, Tryd.ntmps4
    go_wp2_with (first | ((with_reducible refine gate_callee (f := 8) rfl ?_); refine goesL_ (some 12) rfl rfl Tryd.func8 (by kernel_rfl) rfl #[] rfl (by (try simp only [List.map_toArray, List.map_cons, List.map_nil]); first | done | rfl | (simp only [List.length_drop, List.length_take]; rfl)) ?_; (with_reducible refine (lighterlaw14_cleaned.calls k  t231 _ A3.out).mono ?_); rintro e w4 ⟨rfl, hb⟩; refine ⟨_, rfl, ?_⟩; have n0_ := Aside0.mk (below_step (by repeat (first | (with_reducible first | exact HB.out | apply below_alloc | apply pw_below_drewN | apply below_drew1) | exact HB.out)) hb); clear HB; have HB := n0_; clear n0_; (try clear hb); (try clear hb2); (try clear hk); (try clear hi)))
    go_ret
    exact ⟨by first | rfl | (simp [errW_none, errW_some] <;> rfl) | (simp [*, errW_none, errW_some] <;> rfl), by repeat (first | (with_reducible first | exact HB.out | apply below_alloc | apply pw_below_drewN | apply below_drew1) | exact HB.out)⟩
  · rw [if_neg c2] at H
    have c2b0 : decide (100 < (a0.size : Int)) = false := decide_eq_false c2
    have c2b1 : decide (100 < a0.size) = false := decide_eq_false (by omega)
    clear c2
    have H' := Aside0.mk H
    clear H
    go_enter Tryd.func4, Tryd.ntmps4
    go_wp2
    go_loopg [0, 3] k (fun kq v0 v3 w' => ∃ (x0_1 : ByteArray) (x3_1 : Int), v0 = .string x0_1 ∧ v3 = .int .i64 x3_1 ∧ Aside0 (lighterlaw14_PathsWhite.l0 kq x0_1 x3_1 = some r) ∧ Aside0 (kq ≤ k) ∧ Aside0 (Below w.heap.size w w'))
    case atStart => exact ⟨(a0), (0), (by first | rfl | (simp; done) | (simp [*]; done) | (simp [*, bne_nil_e, beq_nil_e]; done)), (by first | rfl | (simp; done) | (simp [*]; done) | (simp [*, bne_nil_e, beq_nil_e]; done)), H', ⟨Nat.le_refl _⟩, ⟨by repeat (first | (with_reducible first | exact HB.out | apply below_alloc | apply pw_below_drewN | apply below_drew1) | exact HB.out)⟩⟩
    case round =>
      clear H'
      try clear c2
      try clear c2b0
      try clear c2b1
      try clear p2
      try clear c4
      obtain ⟨x0_1, x3_1, rfl, rfl, HA, HK1, HB⟩ := hrel
      cases gk with
      | zero => exact absurd HA.out (by simp [lighterlaw14_PathsWhite.l0])
      | succ k1 =>
        have H := HA.out
        clear HA
        simp only [lighterlaw14_PathsWhite.l0] at H
        by_cases c5 : x3_1 < 3
        · rw [if_pos c5] at H
          have c5b0 : decide (x3_1 < 3) = true := decide_eq_true c5
          clear c5
          replace H := Option.bind_eq_some_iff.mp H
          obtain ⟨⟨t233, t234, t235⟩, A60, H⟩ := H
          replace H : (if t234 = true then (if t233.toList = ([] : List UInt8) then (if t235 = true then (lighterlaw14_PathsWhite.j1 k1 x0_1 x3_1 t233 t235 false) else (lighterlaw14_PathsWhite.j1 k1 x0_1 x3_1 t233 t235 true)) else (lighterlaw14_PathsWhite.j1 k1 x0_1 x3_1 t233 t235 true)) else (if t235 = true then (if t233.toList = ([] : List UInt8) then (lighterlaw14_PathsWhite.j1 k1 x0_1 x3_1 t233 t235 true) else (lighterlaw14_PathsWhite.j1 k1 x0_1 x3_1 t233 t235 ((x0_1.size : Int) != (wrap64 ((t233.size : Int) + 4))))) else (if t233.toList = ([] : List UInt8) then (lighterlaw14_PathsWhite.j1 k1 x0_1 x3_1 t233 t235 false) else (lighterlaw14_PathsWhite.j1 k1 x0_1 x3_1 t233 t235 true)))) = some r := H
          have A6 := Aside0.mk A60
          clear A60
          have HC7 := Aside0.mk H
          clear H
          go_upto_region 7 with (first | ((with_reducible refine gate_callee (f := 11) rfl ?_); refine goesL_ (some 19) rfl rfl Tryd.func11 (by kernel_rfl) rfl #[.string x0_1] rfl (by (try simp only [List.map_toArray, List.map_cons, List.map_nil]); first | done | rfl | (simp only [List.length_drop, List.length_take]; rfl)) ?_; (with_reducible refine (paths_Whiteout.calls x0_1 t233 t234 t235 _ A6.out).mono ?_); rintro e w' ⟨rfl, ⟨nd, rfl⟩⟩; refine ⟨_, rfl, ?_⟩))
          (try simp only [Act.put, List.setIfInBounds_toArray, List.set_cons_zero, List.set_cons_succ])
          go_cut [58] (fun v58 wc => ∃ (kq : Nat) (x58_6 : Bool), v58 = .bool x58_6 ∧ Aside0 (lighterlaw14_PathsWhite.j1 kq x0_1 x3_1 t233 t235 x58_6 = some r) ∧ Aside0 (kq ≤ k1) ∧ Aside0 (Below w.heap.size w wc))
          case first =>
            have H := HC7.out
            clear HC7
            by_cases c8 : t234 = true
            · subst c8
              have H1 : (if t233.toList = ([] : List UInt8) then (if t235 = true then (lighterlaw14_PathsWhite.j1 k1 x0_1 x3_1 t233 t235 false) else (lighterlaw14_PathsWhite.j1 k1 x0_1 x3_1 t233 t235 true)) else (lighterlaw14_PathsWhite.j1 k1 x0_1 x3_1 t233 t235 true)) = some r := by rw [if_pos rfl] at H; exact H
              clear H
              have H := H1
              clear H1
              by_cases c9 : t233.toList = ([] : List UInt8)
              · rw [if_pos c9] at H
                have c9b0 : (t233.toList == ([] : List UInt8)) = true := beq_iff_eq.mpr c9
                have c9b1 : (t233.toList != ([] : List UInt8)) = false := bne_eq_false_iff_eq.mpr c9
                clear c9
                (first | rw [c9b0] | (simp only [i64_w, i32_w]; rw [c9b0]) | skip)
                by_cases c10 : t235 = true
                · subst c10
                  have H1 : (lighterlaw14_PathsWhite.j1 k1 x0_1 x3_1 t233 true false) = some r := by rw [if_pos rfl] at H; exact H
                  clear H
                  have H := H1
                  clear H1
                  have H' := Aside0.mk H
                  clear H
                  go_wp2
                  go_meet
                  case rel => exact ⟨_, (false), (by first | rfl | (simp; done) | (simp [*]; done) | (simp [*, bne_nil_e, beq_nil_e]; done)), H', ⟨by have := HK1.out; first | omega | exact Nat.le_refl _⟩, ⟨by repeat (first | (with_reducible first | exact HB.out | apply below_alloc | apply pw_below_drewN | apply below_drew1) | exact HB.out)⟩⟩
                · replace c10 := Bool.eq_false_iff.mpr c10
                  subst c10
                  have H1 : (lighterlaw14_PathsWhite.j1 k1 x0_1 x3_1 t233 false true) = some r := by rw [if_neg (show ¬ (false = true) by decide)] at H; exact H
                  clear H
                  have H := H1
                  clear H1
                  have H' := Aside0.mk H
                  clear H
                  go_wp2
                  go_meet
                  case rel => exact ⟨_, (true), (by first | rfl | (simp; done) | (simp [*]; done) | (simp [*, bne_nil_e, beq_nil_e]; done)), H', ⟨by have := HK1.out; first | omega | exact Nat.le_refl _⟩, ⟨by repeat (first | (with_reducible first | exact HB.out | apply below_alloc | apply pw_below_drewN | apply below_drew1) | exact HB.out)⟩⟩
              · rw [if_neg c9] at H
                have c9b0 : (t233.toList == ([] : List UInt8)) = false := beq_eq_false_iff_ne.mpr c9
                have c9b1 : (t233.toList != ([] : List UInt8)) = true := bne_iff_ne.mpr c9
                (first | rw [c9b0] | (simp only [i64_w, i32_w]; rw [c9b0]) | skip)
                have H' := Aside0.mk H
                clear H
                go_wp2
                go_meet
                case rel => exact ⟨_, (true), (by first | rfl | (simp; done) | (simp [*]; done) | (simp [*, bne_nil_e, beq_nil_e]; done)), H', ⟨by have := HK1.out; first | omega | exact Nat.le_refl _⟩, ⟨by repeat (first | (with_reducible first | exact HB.out | apply below_alloc | apply pw_below_drewN | apply below_drew1) | exact HB.out)⟩⟩
            · replace c8 := Bool.eq_false_iff.mpr c8
              subst c8
              have H1 : (if t235 = true then (if t233.toList = ([] : List UInt8) then (lighterlaw14_PathsWhite.j1 k1 x0_1 x3_1 t233 t235 true) else (lighterlaw14_PathsWhite.j1 k1 x0_1 x3_1 t233 t235 ((x0_1.size : Int) != (wrap64 ((t233.size : Int) + 4))))) else (if t233.toList = ([] : List UInt8) then (lighterlaw14_PathsWhite.j1 k1 x0_1 x3_1 t233 t235 false) else (lighterlaw14_PathsWhite.j1 k1 x0_1 x3_1 t233 t235 true))) = some r := by rw [if_neg (show ¬ (false = true) by decide)] at H; exact H
              clear H
              have H := H1
              clear H1
              by_cases c11 : t235 = true
              · subst c11
                have H1 : (if t233.toList = ([] : List UInt8) then (lighterlaw14_PathsWhite.j1 k1 x0_1 x3_1 t233 true true) else (lighterlaw14_PathsWhite.j1 k1 x0_1 x3_1 t233 true ((x0_1.size : Int) != (wrap64 ((t233.size : Int) + 4))))) = some r := by rw [if_pos rfl] at H; exact H
                clear H
                have H := H1
                clear H1
                by_cases c12 : t233.toList = ([] : List UInt8)
                · rw [if_pos c12] at H
                  have c12b0 : (t233.toList == ([] : List UInt8)) = true := beq_iff_eq.mpr c12
                  have c12b1 : (t233.toList != ([] : List UInt8)) = false := bne_eq_false_iff_eq.mpr c12
                  clear c12
                  have H' := Aside0.mk H
                  clear H
                  go_wp2
                  go_meet
                  case rel => exact ⟨_, (true), (by first | rfl | (simp; done) | (simp [*]; done) | (simp [*, bne_nil_e, beq_nil_e]; done)), H', ⟨by have := HK1.out; first | omega | exact Nat.le_refl _⟩, ⟨by repeat (first | (with_reducible first | exact HB.out | apply below_alloc | apply pw_below_drewN | apply below_drew1) | exact HB.out)⟩⟩
                · rw [if_neg c12] at H
                  have c12b0 : (t233.toList == ([] : List UInt8)) = false := beq_eq_false_iff_ne.mpr c12
                  have c12b1 : (t233.toList != ([] : List UInt8)) = true := bne_iff_ne.mpr c12
                  have H' := Aside0.mk H
                  clear H
                  go_wp2
                  go_meet
                  case rel => exact ⟨_, (((x0_1.size : Int) != (wrap64 ((t233.size : Int) + 4)))), (by first | rfl | (simp; done) | (simp [*]; done) | (simp [*, bne_nil_e, beq_nil_e]; done)), H', ⟨by have := HK1.out; first | omega | exact Nat.le_refl _⟩, ⟨by repeat (first | (with_reducible first | exact HB.out | apply below_alloc | apply pw_below_drewN | apply below_drew1) | exact HB.out)⟩⟩
              · replace c11 := Bool.eq_false_iff.mpr c11
                subst c11
                have H1 : (if t233.toList = ([] : List UInt8) then (lighterlaw14_PathsWhite.j1 k1 x0_1 x3_1 t233 false false) else (lighterlaw14_PathsWhite.j1 k1 x0_1 x3_1 t233 false true)) = some r := by rw [if_neg (show ¬ (false = true) by decide)] at H; exact H
                clear H
                have H := H1
                clear H1
                by_cases c13 : t233.toList = ([] : List UInt8)
                · rw [if_pos c13] at H
                  have c13b0 : (t233.toList == ([] : List UInt8)) = true := beq_iff_eq.mpr c13
                  have c13b1 : (t233.toList != ([] : List UInt8)) = false := bne_eq_false_iff_eq.mpr c13
                  clear c13
                  have H' := Aside0.mk H
                  clear H
                  go_wp2
                  go_meet
                  case rel => exact ⟨_, (false), (by first | rfl | (simp; done) | (simp [*]; done) | (simp [*, bne_nil_e, beq_nil_e]; done)), H', ⟨by have := HK1.out; first | omega | exact Nat.le_refl _⟩, ⟨by repeat (first | (with_reducible first | exact HB.out | apply below_alloc | apply pw_below_drewN | apply below_drew1) | exact HB.out)⟩⟩
                · rw [if_neg c13] at H
                  have c13b0 : (t233.toList == ([] : List UInt8)) = false := beq_eq_false_iff_ne.mpr c13
                  have c13b1 : (t233.toList != ([] : List UInt8)) = true := bne_iff_ne.mpr c13
                  have H' := Aside0.mk H
                  clear H
                  go_wp2
                  go_meet
                  case rel => exact ⟨_, (true), (by first | rfl | (simp; done) | (simp [*]; done) | (simp [*, bne_nil_e, beq_nil_e]; done)), H', ⟨by have := HK1.out; first | omega | exact Nat.le_refl _⟩, ⟨by repeat (first | (with_reducible first | exact HB.out | apply below_alloc | apply pw_below_drewN | apply below_drew1) | exact HB.out)⟩⟩
          case rest =>
            clear HC7
            try clear c1
            try clear c2
            try clear c2b0
            try clear c2b1
            try clear p2
            try clear c4
            try clear c5
            try clear c5b0
            try clear p6
            try clear c8
            try clear c9
            try clear c9b0
            try clear c9b1
            try clear c10
            try clear c11
            try clear c12
            try clear c12b0
            try clear c12b1
            try clear c13
            try clear c13b0
            try clear c13b1
            try clear p2
            obtain ⟨kq, x58_6, rfl, HA, HJ6, HB⟩ := hcut
            cases kq with
            | zero => exact absurd HA.out (by simp [lighterlaw14_PathsWhite.j1])
            | succ kj6 =>
              have H := HA.out
              clear HA
              simp only [lighterlaw14_PathsWhite.j1] at H
              by_cases c14 : x58_6 = true
              · subst c14
                have H1 : (some false) = some r := by rw [if_pos rfl] at H; exact H
                clear H
                have H := H1
                clear H1
                obtain rfl := Option.some.inj H
                go_wp2
                go_ret
                exact ⟨by first | rfl | (simp [errW_none, errW_some] <;> rfl) | (simp [*, errW_none, errW_some] <;> rfl), by repeat (first | (with_reducible first | exact HB.out | apply below_alloc | apply pw_below_drewN | apply below_drew1) | exact HB.out)⟩
              · replace c14 := Bool.eq_false_iff.mpr c14
                subst c14
                have H1 : ((Hand.paths_Clean.f x0_1).bind fun bt236 => (if t235 = true then (if bt236.2 = 0 then ((lighterlaw14_clean.f kj6 x0_1).bind fun t238 => (if t238 = true then ((paths_Base.f kj6 x0_1).bind fun t239 => (if t239.toList = x0_1.toList then (if t233.toList = ([] : List UInt8) then (if 4 + x0_1.size ≤ 9223372036854775807 then (lighterlaw14_PathsWhite.l0 kj6 ((⟨#[46, 119, 104, 46]⟩ : ByteArray) ++ x0_1) (wrap64 (x3_1 + 1))) else (none)) else ((lighterlaw14_clean.f kj6 t233).bind fun t240 => (if t240 = true then (if 4 + x0_1.size ≤ 9223372036854775807 then (lighterlaw14_PathsWhite.l0 kj6 ((⟨#[46, 119, 104, 46]⟩ : ByteArray) ++ x0_1) (wrap64 (x3_1 + 1))) else (none)) else (some false)))) else (if 4 + x0_1.size ≤ 9223372036854775807 then (lighterlaw14_PathsWhite.l0 kj6 ((⟨#[46, 119, 104, 46]⟩ : ByteArray) ++ x0_1) (wrap64 (x3_1 + 1))) else (none)))) else (if 4 + x0_1.size ≤ 9223372036854775807 then (lighterlaw14_PathsWhite.l0 kj6 ((⟨#[46, 119, 104, 46]⟩ : ByteArray) ++ x0_1) (wrap64 (x3_1 + 1))) else (none)))) else (if 4 + x0_1.size ≤ 9223372036854775807 then (lighterlaw14_PathsWhite.l0 kj6 ((⟨#[46, 119, 104, 46]⟩ : ByteArray) ++ x0_1) (wrap64 (x3_1 + 1))) else (none))) else (if 4 + x0_1.size ≤ 9223372036854775807 then (lighterlaw14_PathsWhite.l0 kj6 ((⟨#[46, 119, 104, 46]⟩ : ByteArray) ++ x0_1) (wrap64 (x3_1 + 1))) else (none)))) = some r := by rw [if_neg (show ¬ (false = true) by decide)] at H; exact H
                clear H
                have H := H1
                clear H1
                replace H := Option.bind_eq_some_iff.mp H
                obtain ⟨⟨t236, t237⟩, A150, H⟩ := H
                replace H : (if t235 = true then (if t237 = 0 then ((lighterlaw14_clean.f kj6 x0_1).bind fun t238 => (if t238 = true then ((paths_Base.f kj6 x0_1).bind fun t239 => (if t239.toList = x0_1.toList then (if t233.toList = ([] : List UInt8) then (if 4 + x0_1.size ≤ 9223372036854775807 then (lighterlaw14_PathsWhite.l0 kj6 ((⟨#[46, 119, 104, 46]⟩ : ByteArray) ++ x0_1) (wrap64 (x3_1 + 1))) else (none)) else ((lighterlaw14_clean.f kj6 t233).bind fun t240 => (if t240 = true then (if 4 + x0_1.size ≤ 9223372036854775807 then (lighterlaw14_PathsWhite.l0 kj6 ((⟨#[46, 119, 104, 46]⟩ : ByteArray) ++ x0_1) (wrap64 (x3_1 + 1))) else (none)) else (some false)))) else (if 4 + x0_1.size ≤ 9223372036854775807 then (lighterlaw14_PathsWhite.l0 kj6 ((⟨#[46, 119, 104, 46]⟩ : ByteArray) ++ x0_1) (wrap64 (x3_1 + 1))) else (none)))) else (if 4 + x0_1.size ≤ 9223372036854775807 then (lighterlaw14_PathsWhite.l0 kj6 ((⟨#[46, 119, 104, 46]⟩ : ByteArray) ++ x0_1) (wrap64 (x3_1 + 1))) else (none)))) else (if 4 + x0_1.size ≤ 9223372036854775807 then (lighterlaw14_PathsWhite.l0 kj6 ((⟨#[46, 119, 104, 46]⟩ : ByteArray) ++ x0_1) (wrap64 (x3_1 + 1))) else (none))) else (if 4 + x0_1.size ≤ 9223372036854775807 then (lighterlaw14_PathsWhite.l0 kj6 ((⟨#[46, 119, 104, 46]⟩ : ByteArray) ++ x0_1) (wrap64 (x3_1 + 1))) else (none))) = some r := H
                have A15 := Aside0.mk A150
                clear A150
                by_cases c16 : t235 = true
                · subst c16
                  have H1 : (if t237 = 0 then ((lighterlaw14_clean.f kj6 x0_1).bind fun t238 => (if t238 = true then ((paths_Base.f kj6 x0_1).bind fun t239 => (if t239.toList = x0_1.toList then (if t233.toList = ([] : List UInt8) then (if 4 + x0_1.size ≤ 9223372036854775807 then (lighterlaw14_PathsWhite.l0 kj6 ((⟨#[46, 119, 104, 46]⟩ : ByteArray) ++ x0_1) (wrap64 (x3_1 + 1))) else (none)) else ((lighterlaw14_clean.f kj6 t233).bind fun t240 => (if t240 = true then (if 4 + x0_1.size ≤ 9223372036854775807 then (lighterlaw14_PathsWhite.l0 kj6 ((⟨#[46, 119, 104, 46]⟩ : ByteArray) ++ x0_1) (wrap64 (x3_1 + 1))) else (none)) else (some false)))) else (if 4 + x0_1.size ≤ 9223372036854775807 then (lighterlaw14_PathsWhite.l0 kj6 ((⟨#[46, 119, 104, 46]⟩ : ByteArray) ++ x0_1) (wrap64 (x3_1 + 1))) else (none)))) else (if 4 + x0_1.size ≤ 9223372036854775807 then (lighterlaw14_PathsWhite.l0 kj6 ((⟨#[46, 119, 104, 46]⟩ : ByteArray) ++ x0_1) (wrap64 (x3_1 + 1))) else (none)))) else (if 4 + x0_1.size ≤ 9223372036854775807 then (lighterlaw14_PathsWhite.l0 kj6 ((⟨#[46, 119, 104, 46]⟩ : ByteArray) ++ x0_1) (wrap64 (x3_1 + 1))) else (none))) = some r := by rw [if_pos rfl] at H; exact H
                  clear H
                  have H := H1
                  clear H1
                  by_cases c17 : t237 = 0
                  · rw [if_pos c17] at H
                    have c17b0 : (t237 == 0) = true := beq_iff_eq.mpr c17
                    have c17b1 : (t237 != 0) = false := bne_eq_false_iff_eq.mpr c17
                    clear c17
                    replace H := Option.bind_eq_some_iff.mp H
                    obtain ⟨t238, A180, H⟩ := H
                    replace H : (if t238 = true then ((paths_Base.f kj6 x0_1).bind fun t239 => (if t239.toList = x0_1.toList then (if t233.toList = ([] : List UInt8) then (if 4 + x0_1.size ≤ 9223372036854775807 then (lighterlaw14_PathsWhite.l0 kj6 ((⟨#[46, 119, 104, 46]⟩ : ByteArray) ++ x0_1) (wrap64 (x3_1 + 1))) else (none)) else ((lighterlaw14_clean.f kj6 t233).bind fun t240 => (if t240 = true then (if 4 + x0_1.size ≤ 9223372036854775807 then (lighterlaw14_PathsWhite.l0 kj6 ((⟨#[46, 119, 104, 46]⟩ : ByteArray) ++ x0_1) (wrap64 (x3_1 + 1))) else (none)) else (some false)))) else (if 4 + x0_1.size ≤ 9223372036854775807 then (lighterlaw14_PathsWhite.l0 kj6 ((⟨#[46, 119, 104, 46]⟩ : ByteArray) ++ x0_1) (wrap64 (x3_1 + 1))) else (none)))) else (if 4 + x0_1.size ≤ 9223372036854775807 then (lighterlaw14_PathsWhite.l0 kj6 ((⟨#[46, 119, 104, 46]⟩ : ByteArray) ++ x0_1) (wrap64 (x3_1 + 1))) else (none))) = some r := H
                    have A18 := Aside0.mk A180
                    clear A180
                    by_cases c19 : t238 = true
                    · subst c19
                      have H1 : ((paths_Base.f kj6 x0_1).bind fun t239 => (if t239.toList = x0_1.toList then (if t233.toList = ([] : List UInt8) then (if 4 + x0_1.size ≤ 9223372036854775807 then (lighterlaw14_PathsWhite.l0 kj6 ((⟨#[46, 119, 104, 46]⟩ : ByteArray) ++ x0_1) (wrap64 (x3_1 + 1))) else (none)) else ((lighterlaw14_clean.f kj6 t233).bind fun t240 => (if t240 = true then (if 4 + x0_1.size ≤ 9223372036854775807 then (lighterlaw14_PathsWhite.l0 kj6 ((⟨#[46, 119, 104, 46]⟩ : ByteArray) ++ x0_1) (wrap64 (x3_1 + 1))) else (none)) else (some false)))) else (if 4 + x0_1.size ≤ 9223372036854775807 then (lighterlaw14_PathsWhite.l0 kj6 ((⟨#[46, 119, 104, 46]⟩ : ByteArray) ++ x0_1) (wrap64 (x3_1 + 1))) else (none)))) = some r := by rw [if_pos rfl] at H; exact H
                      clear H
                      have H := H1
                      clear H1
                      replace H := Option.bind_eq_some_iff.mp H
                      obtain ⟨t239, A200, H⟩ := H
                      replace H : (if t239.toList = x0_1.toList then (if t233.toList = ([] : List UInt8) then (if 4 + x0_1.size ≤ 9223372036854775807 then (lighterlaw14_PathsWhite.l0 kj6 ((⟨#[46, 119, 104, 46]⟩ : ByteArray) ++ x0_1) (wrap64 (x3_1 + 1))) else (none)) else ((lighterlaw14_clean.f kj6 t233).bind fun t240 => (if t240 = true then (if 4 + x0_1.size ≤ 9223372036854775807 then (lighterlaw14_PathsWhite.l0 kj6 ((⟨#[46, 119, 104, 46]⟩ : ByteArray) ++ x0_1) (wrap64 (x3_1 + 1))) else (none)) else (some false)))) else (if 4 + x0_1.size ≤ 9223372036854775807 then (lighterlaw14_PathsWhite.l0 kj6 ((⟨#[46, 119, 104, 46]⟩ : ByteArray) ++ x0_1) (wrap64 (x3_1 + 1))) else (none))) = some r := H
                      have A20 := Aside0.mk A200
                      clear A200
                      by_cases c21 : t239.toList = x0_1.toList
                      · rw [if_pos c21] at H
                        have c21b0 : (t239.toList == x0_1.toList) = true := beq_iff_eq.mpr c21
                        have c21b1 : (t239.toList != x0_1.toList) = false := bne_eq_false_iff_eq.mpr c21
                        clear c21
                        by_cases c22 : t233.toList = ([] : List UInt8)
                        · rw [if_pos c22] at H
                          have c22b0 : (t233.toList == ([] : List UInt8)) = true := beq_iff_eq.mpr c22
                          have c22b1 : (t233.toList != ([] : List UInt8)) = false := bne_eq_false_iff_eq.mpr c22
                          clear c22
                          by_cases c23 : 4 + x0_1.size ≤ 9223372036854775807
                          · rw [if_pos c23] at H
                            have c23b0 := eq_true c23
                            have c23b1 : decide (4 + x0_1.size ≤ 9223372036854775807) = true := decide_eq_true c23
                            try have c23b2 : (9223372036854775807 < 4 + x0_1.size) = False := eq_false (Nat.not_lt.2 c23)
                            have H' := Aside0.mk H
                            clear H
                            go_wp2_with (first | ((with_reducible refine gate_callee (f := 9) rfl ?_); refine goesL_ (some 61) rfl rfl Tryd.func9 (by kernel_rfl) rfl #[.string x0_1] rfl (by (try simp only [List.map_toArray, List.map_cons, List.map_nil]); first | done | rfl | (simp only [List.length_drop, List.length_take]; rfl)) ?_; (with_reducible refine (Hand.paths_Clean.calls x0_1 t236 t237 _ A15.out).mono ?_); rintro e w24 ⟨rfl, hb⟩; refine ⟨_, rfl, ?_⟩; have n0_ := Aside0.mk (below_step (by repeat (first | (with_reducible first | exact HB.out | apply below_alloc | apply pw_below_drewN | apply below_drew1) | exact HB.out)) hb); clear HB; have HB := n0_; clear n0_; (try clear hb); (try clear hb2); (try clear hk); (try clear hi)) | (go_at_call 17; (with_reducible refine (lighterlaw14_clean.calls kj6 x0_1 true _ A18.out).mono ?_); rintro e w' ⟨rfl, ⟨nd, rfl⟩⟩) | (go_at_call 12; (with_reducible refine (paths_Base.calls kj6 x0_1 t239 _ A20.out).mono ?_); rintro e w' ⟨rfl, ⟨nd, rfl⟩⟩))
                            go_roundg kj6
                            case measure => have := HK1.out; have := HJ6.out; omega
                            case rel => exact ⟨((⟨#[46, 119, 104, 46]⟩ : ByteArray) ++ x0_1), (wrap64 (x3_1 + 1)), (by first | rfl | (simp; done) | (simp [*]; done) | (simp [*, bne_nil_e, beq_nil_e]; done)), (by first | rfl | (simp; done) | (simp [*]; done) | (simp [*, bne_nil_e, beq_nil_e]; done)), H', ⟨by have := HK1.out; have := HJ6.out; omega⟩, ⟨by repeat (first | (with_reducible first | exact HB.out | apply below_alloc | apply pw_below_drewN | apply below_drew1) | exact HB.out)⟩⟩
                          · rw [if_neg c23] at H
                            exact absurd H (by simp)
                        · rw [if_neg c22] at H
                          have c22b0 : (t233.toList == ([] : List UInt8)) = false := beq_eq_false_iff_ne.mpr c22
                          have c22b1 : (t233.toList != ([] : List UInt8)) = true := bne_iff_ne.mpr c22
                          replace H := Option.bind_eq_some_iff.mp H
                          obtain ⟨t240, A250, H⟩ := H
                          replace H : (if t240 = true then (if 4 + x0_1.size ≤ 9223372036854775807 then (lighterlaw14_PathsWhite.l0 kj6 ((⟨#[46, 119, 104, 46]⟩ : ByteArray) ++ x0_1) (wrap64 (x3_1 + 1))) else (none)) else (some false)) = some r := H
                          have A25 := Aside0.mk A250
                          clear A250
                          by_cases c26 : t240 = true
                          · subst c26
                            have H1 : (if 4 + x0_1.size ≤ 9223372036854775807 then (lighterlaw14_PathsWhite.l0 kj6 ((⟨#[46, 119, 104, 46]⟩ : ByteArray) ++ x0_1) (wrap64 (x3_1 + 1))) else (none)) = some r := by rw [if_pos rfl] at H; exact H
                            clear H
                            have H := H1
                            clear H1
                            by_cases c27 : 4 + x0_1.size ≤ 9223372036854775807
                            · rw [if_pos c27] at H
                              have c27b0 := eq_true c27
                              have c27b1 : decide (4 + x0_1.size ≤ 9223372036854775807) = true := decide_eq_true c27
                              try have c27b2 : (9223372036854775807 < 4 + x0_1.size) = False := eq_false (Nat.not_lt.2 c27)
                              have H' := Aside0.mk H
                              clear H
                              go_wp2_with (first | ((with_reducible refine gate_callee (f := 9) rfl ?_); refine goesL_ (some 61) rfl rfl Tryd.func9 (by kernel_rfl) rfl #[.string x0_1] rfl (by (try simp only [List.map_toArray, List.map_cons, List.map_nil]); first | done | rfl | (simp only [List.length_drop, List.length_take]; rfl)) ?_; (with_reducible refine (Hand.paths_Clean.calls x0_1 t236 t237 _ A15.out).mono ?_); rintro e w28 ⟨rfl, hb⟩; refine ⟨_, rfl, ?_⟩; have n0_ := Aside0.mk (below_step (by repeat (first | (with_reducible first | exact HB.out | apply below_alloc | apply pw_below_drewN | apply below_drew1) | exact HB.out)) hb); clear HB; have HB := n0_; clear n0_; (try clear hb); (try clear hb2); (try clear hk); (try clear hi)) | (go_at_call 17; (with_reducible refine (lighterlaw14_clean.calls kj6 x0_1 true _ A18.out).mono ?_); rintro e w' ⟨rfl, ⟨nd, rfl⟩⟩) | (go_at_call 12; (with_reducible refine (paths_Base.calls kj6 x0_1 t239 _ A20.out).mono ?_); rintro e w' ⟨rfl, ⟨nd, rfl⟩⟩) | (go_at_call 17; (with_reducible refine (lighterlaw14_clean.calls kj6 t233 true _ A25.out).mono ?_); rintro e w' ⟨rfl, ⟨nd, rfl⟩⟩))
                              go_roundg kj6
                              case measure => have := HK1.out; have := HJ6.out; omega
                              case rel => exact ⟨((⟨#[46, 119, 104, 46]⟩ : ByteArray) ++ x0_1), (wrap64 (x3_1 + 1)), (by first | rfl | (simp; done) | (simp [*]; done) | (simp [*, bne_nil_e, beq_nil_e]; done)), (by first | rfl | (simp; done) | (simp [*]; done) | (simp [*, bne_nil_e, beq_nil_e]; done)), H', ⟨by have := HK1.out; have := HJ6.out; omega⟩, ⟨by repeat (first | (with_reducible first | exact HB.out | apply below_alloc | apply pw_below_drewN | apply below_drew1) | exact HB.out)⟩⟩
                            · rw [if_neg c27] at H
                              exact absurd H (by simp)
                          · replace c26 := Bool.eq_false_iff.mpr c26
                            subst c26
                            have H1 : (some false) = some r := by rw [if_neg (show ¬ (false = true) by decide)] at H; exact H
                            clear H
                            have H := H1
                            clear H1
                            obtain rfl := Option.some.inj H
                            go_wp2_with (first | ((with_reducible refine gate_callee (f := 9) rfl ?_); refine goesL_ (some 61) rfl rfl Tryd.func9 (by kernel_rfl) rfl #[.string x0_1] rfl (by (try simp only [List.map_toArray, List.map_cons, List.map_nil]); first | done | rfl | (simp only [List.length_drop, List.length_take]; rfl)) ?_; (with_reducible refine (Hand.paths_Clean.calls x0_1 t236 t237 _ A15.out).mono ?_); rintro e w29 ⟨rfl, hb⟩; refine ⟨_, rfl, ?_⟩; have n0_ := Aside0.mk (below_step (by repeat (first | (with_reducible first | exact HB.out | apply below_alloc | apply pw_below_drewN | apply below_drew1) | exact HB.out)) hb); clear HB; have HB := n0_; clear n0_; (try clear hb); (try clear hb2); (try clear hk); (try clear hi)) | (go_at_call 17; (with_reducible refine (lighterlaw14_clean.calls kj6 x0_1 true _ A18.out).mono ?_); rintro e w' ⟨rfl, ⟨nd, rfl⟩⟩) | (go_at_call 12; (with_reducible refine (paths_Base.calls kj6 x0_1 t239 _ A20.out).mono ?_); rintro e w' ⟨rfl, ⟨nd, rfl⟩⟩) | (go_at_call 17; (with_reducible refine (lighterlaw14_clean.calls kj6 t233 false _ A25.out).mono ?_); rintro e w' ⟨rfl, ⟨nd, rfl⟩⟩))
                            go_ret
                            exact ⟨by first | rfl | (simp [errW_none, errW_some] <;> rfl) | (simp [*, errW_none, errW_some] <;> rfl), by repeat (first | (with_reducible first | exact HB.out | apply below_alloc | apply pw_below_drewN | apply below_drew1) | exact HB.out)⟩
                      · rw [if_neg c21] at H
                        have c21b0 : (t239.toList == x0_1.toList) = false := beq_eq_false_iff_ne.mpr c21
                        have c21b1 : (t239.toList != x0_1.toList) = true := bne_iff_ne.mpr c21
                        by_cases c30 : 4 + x0_1.size ≤ 9223372036854775807
                        · rw [if_pos c30] at H
                          have c30b0 := eq_true c30
                          have c30b1 : decide (4 + x0_1.size ≤ 9223372036854775807) = true := decide_eq_true c30
                          try have c30b2 : (9223372036854775807 < 4 + x0_1.size) = False := eq_false (Nat.not_lt.2 c30)
                          have H' := Aside0.mk H
                          clear H
                          go_wp2_with (first | ((with_reducible refine gate_callee (f := 9) rfl ?_); refine goesL_ (some 61) rfl rfl Tryd.func9 (by kernel_rfl) rfl #[.string x0_1] rfl (by (try simp only [List.map_toArray, List.map_cons, List.map_nil]); first | done | rfl | (simp only [List.length_drop, List.length_take]; rfl)) ?_; (with_reducible refine (Hand.paths_Clean.calls x0_1 t236 t237 _ A15.out).mono ?_); rintro e w31 ⟨rfl, hb⟩; refine ⟨_, rfl, ?_⟩; have n0_ := Aside0.mk (below_step (by repeat (first | (with_reducible first | exact HB.out | apply below_alloc | apply pw_below_drewN | apply below_drew1) | exact HB.out)) hb); clear HB; have HB := n0_; clear n0_; (try clear hb); (try clear hb2); (try clear hk); (try clear hi)) | (go_at_call 17; (with_reducible refine (lighterlaw14_clean.calls kj6 x0_1 true _ A18.out).mono ?_); rintro e w' ⟨rfl, ⟨nd, rfl⟩⟩) | (go_at_call 12; (with_reducible refine (paths_Base.calls kj6 x0_1 t239 _ A20.out).mono ?_); rintro e w' ⟨rfl, ⟨nd, rfl⟩⟩))
                          go_roundg kj6
                          case measure => have := HK1.out; have := HJ6.out; omega
                          case rel => exact ⟨((⟨#[46, 119, 104, 46]⟩ : ByteArray) ++ x0_1), (wrap64 (x3_1 + 1)), (by first | rfl | (simp; done) | (simp [*]; done) | (simp [*, bne_nil_e, beq_nil_e]; done)), (by first | rfl | (simp; done) | (simp [*]; done) | (simp [*, bne_nil_e, beq_nil_e]; done)), H', ⟨by have := HK1.out; have := HJ6.out; omega⟩, ⟨by repeat (first | (with_reducible first | exact HB.out | apply below_alloc | apply pw_below_drewN | apply below_drew1) | exact HB.out)⟩⟩
                        · rw [if_neg c30] at H
                          exact absurd H (by simp)
                    · replace c19 := Bool.eq_false_iff.mpr c19
                      subst c19
                      have H1 : (if 4 + x0_1.size ≤ 9223372036854775807 then (lighterlaw14_PathsWhite.l0 kj6 ((⟨#[46, 119, 104, 46]⟩ : ByteArray) ++ x0_1) (wrap64 (x3_1 + 1))) else (none)) = some r := by rw [if_neg (show ¬ (false = true) by decide)] at H; exact H
                      clear H
                      have H := H1
                      clear H1
                      by_cases c32 : 4 + x0_1.size ≤ 9223372036854775807
                      · rw [if_pos c32] at H
                        have c32b0 := eq_true c32
                        have c32b1 : decide (4 + x0_1.size ≤ 9223372036854775807) = true := decide_eq_true c32
                        try have c32b2 : (9223372036854775807 < 4 + x0_1.size) = False := eq_false (Nat.not_lt.2 c32)
                        have H' := Aside0.mk H
                        clear H
                        go_wp2_with (first | ((with_reducible refine gate_callee (f := 9) rfl ?_); refine goesL_ (some 61) rfl rfl Tryd.func9 (by kernel_rfl) rfl #[.string x0_1] rfl (by (try simp only [List.map_toArray, List.map_cons, List.map_nil]); first | done | rfl | (simp only [List.length_drop, List.length_take]; rfl)) ?_; (with_reducible refine (Hand.paths_Clean.calls x0_1 t236 t237 _ A15.out).mono ?_); rintro e w33 ⟨rfl, hb⟩; refine ⟨_, rfl, ?_⟩; have n0_ := Aside0.mk (below_step (by repeat (first | (with_reducible first | exact HB.out | apply below_alloc | apply pw_below_drewN | apply below_drew1) | exact HB.out)) hb); clear HB; have HB := n0_; clear n0_; (try clear hb); (try clear hb2); (try clear hk); (try clear hi)) | (go_at_call 17; (with_reducible refine (lighterlaw14_clean.calls kj6 x0_1 false _ A18.out).mono ?_); rintro e w' ⟨rfl, ⟨nd, rfl⟩⟩))
                        go_roundg kj6
                        case measure => have := HK1.out; have := HJ6.out; omega
                        case rel => exact ⟨((⟨#[46, 119, 104, 46]⟩ : ByteArray) ++ x0_1), (wrap64 (x3_1 + 1)), (by first | rfl | (simp; done) | (simp [*]; done) | (simp [*, bne_nil_e, beq_nil_e]; done)), (by first | rfl | (simp; done) | (simp [*]; done) | (simp [*, bne_nil_e, beq_nil_e]; done)), H', ⟨by have := HK1.out; have := HJ6.out; omega⟩, ⟨by repeat (first | (with_reducible first | exact HB.out | apply below_alloc | apply pw_below_drewN | apply below_drew1) | exact HB.out)⟩⟩
                      · rw [if_neg c32] at H
                        exact absurd H (by simp)
                  · rw [if_neg c17] at H
                    have c17b0 : (t237 == 0) = false := beq_eq_false_iff_ne.mpr c17
                    have c17b1 : (t237 != 0) = true := bne_iff_ne.mpr c17
                    by_cases c34 : 4 + x0_1.size ≤ 9223372036854775807
                    · rw [if_pos c34] at H
                      have c34b0 := eq_true c34
                      have c34b1 : decide (4 + x0_1.size ≤ 9223372036854775807) = true := decide_eq_true c34
                      try have c34b2 : (9223372036854775807 < 4 + x0_1.size) = False := eq_false (Nat.not_lt.2 c34)
                      have H' := Aside0.mk H
                      clear H
                      go_wp2_with (first | ((with_reducible refine gate_callee (f := 9) rfl ?_); refine goesL_ (some 61) rfl rfl Tryd.func9 (by kernel_rfl) rfl #[.string x0_1] rfl (by (try simp only [List.map_toArray, List.map_cons, List.map_nil]); first | done | rfl | (simp only [List.length_drop, List.length_take]; rfl)) ?_; (with_reducible refine (Hand.paths_Clean.calls x0_1 t236 t237 _ A15.out).mono ?_); rintro e w35 ⟨rfl, hb⟩; refine ⟨_, rfl, ?_⟩; have n0_ := Aside0.mk (below_step (by repeat (first | (with_reducible first | exact HB.out | apply below_alloc | apply pw_below_drewN | apply below_drew1) | exact HB.out)) hb); clear HB; have HB := n0_; clear n0_; (try clear hb); (try clear hb2); (try clear hk); (try clear hi)))
                      go_roundg kj6
                      case measure => have := HK1.out; have := HJ6.out; omega
                      case rel => exact ⟨((⟨#[46, 119, 104, 46]⟩ : ByteArray) ++ x0_1), (wrap64 (x3_1 + 1)), (by first | rfl | (simp; done) | (simp [*]; done) | (simp [*, bne_nil_e, beq_nil_e]; done)), (by first | rfl | (simp; done) | (simp [*]; done) | (simp [*, bne_nil_e, beq_nil_e]; done)), H', ⟨by have := HK1.out; have := HJ6.out; omega⟩, ⟨by repeat (first | (with_reducible first | exact HB.out | apply below_alloc | apply pw_below_drewN | apply below_drew1) | exact HB.out)⟩⟩
                    · rw [if_neg c34] at H
                      exact absurd H (by simp)
                · replace c16 := Bool.eq_false_iff.mpr c16
                  subst c16
                  have H1 : (if 4 + x0_1.size ≤ 9223372036854775807 then (lighterlaw14_PathsWhite.l0 kj6 ((⟨#[46, 119, 104, 46]⟩ : ByteArray) ++ x0_1) (wrap64 (x3_1 + 1))) else (none)) = some r := by rw [if_neg (show ¬ (false = true) by decide)] at H; exact H
                  clear H
                  have H := H1
                  clear H1
                  by_cases c36 : 4 + x0_1.size ≤ 9223372036854775807
                  · rw [if_pos c36] at H
                    have c36b0 := eq_true c36
                    have c36b1 : decide (4 + x0_1.size ≤ 9223372036854775807) = true := decide_eq_true c36
                    try have c36b2 : (9223372036854775807 < 4 + x0_1.size) = False := eq_false (Nat.not_lt.2 c36)
                    have H' := Aside0.mk H
                    clear H
                    go_wp2_with (first | ((with_reducible refine gate_callee (f := 9) rfl ?_); refine goesL_ (some 61) rfl rfl Tryd.func9 (by kernel_rfl) rfl #[.string x0_1] rfl (by (try simp only [List.map_toArray, List.map_cons, List.map_nil]); first | done | rfl | (simp only [List.length_drop, List.length_take]; rfl)) ?_; (with_reducible refine (Hand.paths_Clean.calls x0_1 t236 t237 _ A15.out).mono ?_); rintro e w37 ⟨rfl, hb⟩; refine ⟨_, rfl, ?_⟩; have n0_ := Aside0.mk (below_step (by repeat (first | (with_reducible first | exact HB.out | apply below_alloc | apply pw_below_drewN | apply below_drew1) | exact HB.out)) hb); clear HB; have HB := n0_; clear n0_; (try clear hb); (try clear hb2); (try clear hk); (try clear hi)))
                    go_roundg kj6
                    case measure => have := HK1.out; have := HJ6.out; omega
                    case rel => exact ⟨((⟨#[46, 119, 104, 46]⟩ : ByteArray) ++ x0_1), (wrap64 (x3_1 + 1)), (by first | rfl | (simp; done) | (simp [*]; done) | (simp [*, bne_nil_e, beq_nil_e]; done)), (by first | rfl | (simp; done) | (simp [*]; done) | (simp [*, bne_nil_e, beq_nil_e]; done)), H', ⟨by have := HK1.out; have := HJ6.out; omega⟩, ⟨by repeat (first | (with_reducible first | exact HB.out | apply below_alloc | apply pw_below_drewN | apply below_drew1) | exact HB.out)⟩⟩
                  · rw [if_neg c36] at H
                    exact absurd H (by simp)
        · rw [if_neg c5] at H
          have c5b0 : decide (x3_1 < 3) = false := decide_eq_false c5
          clear c5
          replace H := Option.bind_eq_some_iff.mp H
          obtain ⟨t232, A380, H⟩ := H
          replace H : (some t232) = some r := H
          have A38 := Aside0.mk A380
          clear A380
          obtain rfl := Option.some.inj H
          go_wp2_with (first | ((with_reducible refine gate_callee (f := 8) rfl ?_); refine goesL_ (some 90) rfl rfl Tryd.func8 (by kernel_rfl) rfl #[] rfl (by (try simp only [List.map_toArray, List.map_cons, List.map_nil]); first | done | rfl | (simp only [List.length_drop, List.length_take]; rfl)) ?_; (with_reducible refine (lighterlaw14_cleaned.calls k1  t232 _ A38.out).mono ?_); rintro e w39 ⟨rfl, hb⟩; refine ⟨_, rfl, ?_⟩; have n0_ := Aside0.mk (below_step (by repeat (first | (with_reducible first | exact HB.out | apply below_alloc | apply pw_below_drewN | apply below_drew1) | exact HB.out)) hb); clear HB; have HB := n0_; clear n0_; (try clear hb); (try clear hb2); (try clear hk); (try clear hi)))
          go_ret
          exact ⟨by first | rfl | (simp [errW_none, errW_some] <;> rfl) | (simp [*, errW_none, errW_some] <;> rfl), by repeat (first | (with_reducible first | exact HB.out | apply below_alloc | apply pw_below_drewN | apply below_drew1) | exact HB.out)⟩

/-- THE ONE PURE STATEMENT of lighterlaw14_PathsWhite: yours. -/
def lighterlaw14_PathsWhite.Pure : Prop := ∀ (a0 : ByteArray), a0.size ≤ 140737488351232 → ∃ k, lighterlaw14_PathsWhite.f k a0 = some true
theorem lighterlaw14_PathsWhite.walk (P : lighterlaw14_PathsWhite.Pure) (a0 : ByteArray) (w : World) (w0 : a0.size ≤ 140737488351232) :
    Calls Tryd.prog 4 #[.string a0] w fun e w' => e = .returned (.bool true) ∧ Below w.heap.size w w' := by
  obtain ⟨k, h⟩ := P a0 w0
  refine (lighterlaw14_PathsWhite.calls k a0 true w h).mono ?_
  rintro e w' ⟨rfl, hd⟩
  exact ⟨rfl, hd⟩

-- NOT PRINTED: function 3 (lighterlaw14_PathsParts)

end Go.Proofs.YtoklancgpmnhcaaDoor.PAll
