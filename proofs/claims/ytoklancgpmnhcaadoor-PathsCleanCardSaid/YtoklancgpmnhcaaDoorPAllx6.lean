-- by a program of mine
import Derived.Test.YtoklancgpmnhcaaDoorPAllx0
import Derived.Test.YtoklancgpmnhcaaDoorPAllx1
import Derived.Test.YtoklancgpmnhcaaDoorPAllx4
import Derived.Test.YtoklancgpmnhcaaDoorPAllx5
namespace Go.Proofs.YtoklancgpmnhcaaDoor.PAll
open Go.RowKit Go.Proofs.YtoklancgpmnhcaaDoorW.PrintWords Go.Proofs.YtoklancgpmnhcaaDoorW.PrintLast Go.Proofs.YtoklancgpmnhcaaDoorW.PrintMore
attribute [local go_sem] max2_int min2_int max_two min_two max_three min_three max_four min_four   -- for this text's walks alone
set_option linter.unusedVariables false
set_option linter.unusedSimpArgs false

/-! ### lighterlaw14_PathsClean: function 6 -/
mutual
def lighterlaw14_PathsClean.j0 : Nat → ByteArray → Bool → Option (Bool)
  | 0, _, _ => none
  | k + 1, x3, x65 => if x65 = true then (some false) else (lighterlaw14_PathsClean.l0 k x3 x3 0)
def lighterlaw14_PathsClean.l0 : Nat → ByteArray → ByteArray → Int → Option (Bool)
  | 0, _, _, _ => none
  | k + 1, x3, x7, x8 => if x8 < 200 then (lighterlaw14_PathsClean.j2 k x3 x7 x8 (x7.toList != ([] : List UInt8))) else (lighterlaw14_PathsClean.j2 k x3 x7 x8 false)
def lighterlaw14_PathsClean.j2 : Nat → ByteArray → ByteArray → Int → Bool → Option (Bool)
  | 0, _, _, _, _ => none
  | k + 1, x3, x7, x8, x72 => if x72 = true then ((paths_Parent.f k x7).bind fun t212 => ((paths_Inside.f x7 x3).bind fun t213 => (if t213 = true then (if (t212.size : Int) ≥ (x7.size : Int) then (some false) else ((paths_Inside.f t212 x7).bind fun t214 => (if t214 = true then ((lighterlaw14_clean.f k t212).bind fun t215 => (if t215 = true then (lighterlaw14_PathsClean.l0 k x3 t212 (wrap64 (x8 + 1))) else (some false))) else (some false)))) else (some false)))) else (if x7.toList = ([] : List UInt8) then ((lighterlaw14_cleaned.f k).bind fun t211 => (some t211)) else (some false))
end
def lighterlaw14_PathsClean.f (k : Nat) (a0 : ByteArray) : Option (Bool) := if (a0.size : Int) > 400 then ((lighterlaw14_cleaned.f k).bind fun t196 => (some t196)) else ((Hand.paths_Clean.f a0).bind fun bt197 => (if bt197.2 = 0 then ((Hand.paths_Clean.f bt197.1).bind fun bt201 => ((lighterlaw14_clean.f k bt197.1).bind fun t203 => (if t203 = true then (if bt201.1.toList = bt197.1.toList then (if bt201.2 = 0 then ((lighterlaw14_clean.f k a0).bind fun t204 => (if t204 = true then (if bt197.1.toList = a0.toList then ((paths_Parent.f k bt197.1).bind fun t205 => ((paths_Base.f k bt197.1).bind fun t206 => ((paths_Join.f t205 t206).bind fun t207 => (lighterlaw14_PathsClean.j0 k bt197.1 (t207.toList != bt197.1.toList))))) else (lighterlaw14_PathsClean.j0 k bt197.1 true)) else ((paths_Parent.f k bt197.1).bind fun t208 => ((paths_Base.f k bt197.1).bind fun t209 => ((paths_Join.f t208 t209).bind fun t210 => (lighterlaw14_PathsClean.j0 k bt197.1 (t210.toList != bt197.1.toList))))))) else (lighterlaw14_PathsClean.j0 k bt197.1 true)) else (lighterlaw14_PathsClean.j0 k bt197.1 true)) else (lighterlaw14_PathsClean.j0 k bt197.1 true)))) else (if bt197.1.toList = ([] : List UInt8) then ((lighterlaw14_clean.f k a0).bind fun t199 => (if t199 = true then (some false) else ((lighterlaw14_cleaned.f k).bind fun t200 => (some t200)))) else (some false))))
theorem lighterlaw14_PathsClean.mono_l : ∀ k, (∀ y0 y1, LeO (lighterlaw14_PathsClean.j0 k y0 y1) (lighterlaw14_PathsClean.j0 (k + 1) y0 y1)) ∧ (∀ y0 y1 y2, LeO (lighterlaw14_PathsClean.l0 k y0 y1 y2) (lighterlaw14_PathsClean.l0 (k + 1) y0 y1 y2)) ∧ (∀ y0 y1 y2 y3, LeO (lighterlaw14_PathsClean.j2 k y0 y1 y2 y3) (lighterlaw14_PathsClean.j2 (k + 1) y0 y1 y2 y3))
  | 0 => ⟨fun _ _ r h => by simp [lighterlaw14_PathsClean.j0] at h, fun _ _ _ r h => by simp [lighterlaw14_PathsClean.l0] at h, fun _ _ _ _ r h => by simp [lighterlaw14_PathsClean.j2] at h⟩
  | k + 1 => by
    obtain ⟨ih0, ih1, ih2⟩ := lighterlaw14_PathsClean.mono_l k
    refine ⟨?_, ?_, ?_⟩
    · intro y0 y1
      unfold lighterlaw14_PathsClean.j0
      repeat' first
      | (with_reducible exact ih0 _ _)
      | (with_reducible exact ih1 _ _ _)
      | (with_reducible exact ih2 _ _ _ _)
      | (with_reducible exact lighterlaw14_clean.mono _ _)
      | (with_reducible exact lighterlaw14_cleaned.mono _)
      | (with_reducible exact paths_Base.mono _ _)
      | (with_reducible exact paths_Parent.mono _ _)
      | (with_reducible exact LeO.refl _)
      | (with_reducible exact LeO.none _)
      | (with_reducible refine LeO.ite ?_ ?_)
      | (with_reducible refine LeO.bind ?_ (fun _ => ?_))
      | exact ih0 _ _
      | exact ih1 _ _ _
      | exact ih2 _ _ _ _
      | exact lighterlaw14_clean.mono _ _
      | exact lighterlaw14_cleaned.mono _
      | exact paths_Base.mono _ _
      | exact paths_Parent.mono _ _
      | exact LeO.none _
      | refine LeO.ite ?_ ?_
      | refine LeO.bind ?_ (fun _ => ?_)
    · intro y0 y1 y2
      unfold lighterlaw14_PathsClean.l0
      repeat' first
      | (with_reducible exact ih0 _ _)
      | (with_reducible exact ih1 _ _ _)
      | (with_reducible exact ih2 _ _ _ _)
      | (with_reducible exact lighterlaw14_clean.mono _ _)
      | (with_reducible exact lighterlaw14_cleaned.mono _)
      | (with_reducible exact paths_Base.mono _ _)
      | (with_reducible exact paths_Parent.mono _ _)
      | (with_reducible exact LeO.refl _)
      | (with_reducible exact LeO.none _)
      | (with_reducible refine LeO.ite ?_ ?_)
      | (with_reducible refine LeO.bind ?_ (fun _ => ?_))
      | exact ih0 _ _
      | exact ih1 _ _ _
      | exact ih2 _ _ _ _
      | exact lighterlaw14_clean.mono _ _
      | exact lighterlaw14_cleaned.mono _
      | exact paths_Base.mono _ _
      | exact paths_Parent.mono _ _
      | exact LeO.none _
      | refine LeO.ite ?_ ?_
      | refine LeO.bind ?_ (fun _ => ?_)
    · intro y0 y1 y2 y3
      unfold lighterlaw14_PathsClean.j2
      repeat' first
      | (with_reducible exact ih0 _ _)
      | (with_reducible exact ih1 _ _ _)
      | (with_reducible exact ih2 _ _ _ _)
      | (with_reducible exact lighterlaw14_clean.mono _ _)
      | (with_reducible exact lighterlaw14_cleaned.mono _)
      | (with_reducible exact paths_Base.mono _ _)
      | (with_reducible exact paths_Parent.mono _ _)
      | (with_reducible exact LeO.refl _)
      | (with_reducible exact LeO.none _)
      | (with_reducible refine LeO.ite ?_ ?_)
      | (with_reducible refine LeO.bind ?_ (fun _ => ?_))
      | exact ih0 _ _
      | exact ih1 _ _ _
      | exact ih2 _ _ _ _
      | exact lighterlaw14_clean.mono _ _
      | exact lighterlaw14_cleaned.mono _
      | exact paths_Base.mono _ _
      | exact paths_Parent.mono _ _
      | exact LeO.none _
      | refine LeO.ite ?_ ?_
      | refine LeO.bind ?_ (fun _ => ?_)
theorem lighterlaw14_PathsClean.mono : ∀ a0 k, LeO (lighterlaw14_PathsClean.f k a0) (lighterlaw14_PathsClean.f (k + 1) a0) := by
  intro a0 k
  obtain ⟨ih0, ih1, ih2⟩ := lighterlaw14_PathsClean.mono_l k
  unfold lighterlaw14_PathsClean.f
  repeat' first
      | (with_reducible exact ih0 _ _)
      | (with_reducible exact ih1 _ _ _)
      | (with_reducible exact ih2 _ _ _ _)
      | (with_reducible exact lighterlaw14_clean.mono _ _)
      | (with_reducible exact lighterlaw14_cleaned.mono _)
      | (with_reducible exact paths_Base.mono _ _)
      | (with_reducible exact paths_Parent.mono _ _)
      | (with_reducible exact LeO.refl _)
      | (with_reducible exact LeO.none _)
      | (with_reducible refine LeO.ite ?_ ?_)
      | (with_reducible refine LeO.bind ?_ (fun _ => ?_))
      | exact ih0 _ _
      | exact ih1 _ _ _
      | exact ih2 _ _ _ _
      | exact lighterlaw14_clean.mono _ _
      | exact lighterlaw14_cleaned.mono _
      | exact paths_Base.mono _ _
      | exact paths_Parent.mono _ _
      | exact LeO.none _
      | refine LeO.ite ?_ ?_
      | refine LeO.bind ?_ (fun _ => ?_)
set_option maxHeartbeats 8000000 in
set_option maxRecDepth 100000 in
theorem lighterlaw14_PathsClean.calls (k : Nat) (a0 : ByteArray) (r : Bool) (w : World) (h : lighterlaw14_PathsClean.f k a0 = some r) :
    Calls Tryd.prog 6 #[.string a0] w fun e w' => e = .returned (.bool r) ∧ Below w.heap.size w w' := by
  have HB := Aside0.mk (Below.refl w.heap.size w)
  have H : (if (a0.size : Int) > 400 then ((lighterlaw14_cleaned.f k).bind fun t196 => (some t196)) else ((Hand.paths_Clean.f a0).bind fun bt197 => (if bt197.2 = 0 then ((Hand.paths_Clean.f bt197.1).bind fun bt201 => ((lighterlaw14_clean.f k bt197.1).bind fun t203 => (if t203 = true then (if bt201.1.toList = bt197.1.toList then (if bt201.2 = 0 then ((lighterlaw14_clean.f k a0).bind fun t204 => (if t204 = true then (if bt197.1.toList = a0.toList then ((paths_Parent.f k bt197.1).bind fun t205 => ((paths_Base.f k bt197.1).bind fun t206 => ((paths_Join.f t205 t206).bind fun t207 => (lighterlaw14_PathsClean.j0 k bt197.1 (t207.toList != bt197.1.toList))))) else (lighterlaw14_PathsClean.j0 k bt197.1 true)) else ((paths_Parent.f k bt197.1).bind fun t208 => ((paths_Base.f k bt197.1).bind fun t209 => ((paths_Join.f t208 t209).bind fun t210 => (lighterlaw14_PathsClean.j0 k bt197.1 (t210.toList != bt197.1.toList))))))) else (lighterlaw14_PathsClean.j0 k bt197.1 true)) else (lighterlaw14_PathsClean.j0 k bt197.1 true)) else (lighterlaw14_PathsClean.j0 k bt197.1 true)))) else (if bt197.1.toList = ([] : List UInt8) then ((lighterlaw14_clean.f k a0).bind fun t199 => (if t199 = true then (some false) else ((lighterlaw14_cleaned.f k).bind fun t200 => (some t200)))) else (some false))))) = some r := h
  clear h
  by_cases c2 : (a0.size : Int) > 400
  · rw [if_pos c2] at H
    have c2b0 : decide (400 < (a0.size : Int)) = true := decide_eq_true c2
    have c2b1 : decide (400 < a0.size) = true := decide_eq_true (by omega)
    clear c2
    replace H := Option.bind_eq_some_iff.mp H
    obtain ⟨t196, A30, H⟩ := H
    replace H : (some t196) = some r := H
    have A3 := Aside0.mk A30
    clear A30
    obtain rfl := Option.some.inj H
    go_enter Tryd.func6, Tryd.ntmps6
    go_wp2_with (first | ((with_reducible refine gate_callee (f := 8) rfl ?_); refine goesL_ (some 13) rfl rfl Tryd.func8 (by kernel_rfl) rfl #[] rfl (by (try simp only [List.map_toArray, List.map_cons, List.map_nil]); first | done | rfl | (simp only [List.length_drop, List.length_take]; rfl)) ?_; (with_reducible refine (lighterlaw14_cleaned.calls k  t196 _ A3.out).mono ?_); rintro e w4 ⟨rfl, hb⟩; refine ⟨_, rfl, ?_⟩; have n0_ := Aside0.mk (below_step (by repeat (first | (with_reducible first | exact HB.out | apply below_alloc | apply pw_below_drewN | apply below_drew1) | exact HB.out)) hb); clear HB; have HB := n0_; clear n0_; (try clear hb); (try clear hb2); (try clear hk); (try clear hi)))
    go_ret
    exact ⟨by first | rfl | (simp [errW_none, errW_some] <;> rfl) | (simp [*, errW_none, errW_some] <;> rfl), by repeat (first | (with_reducible first | exact HB.out | apply below_alloc | apply pw_below_drewN | apply below_drew1) | exact HB.out)⟩
  · rw [if_neg c2] at H
    have c2b0 : decide (400 < (a0.size : Int)) = false := decide_eq_false c2
    have c2b1 : decide (400 < a0.size) = false := decide_eq_false (by omega)
    clear c2
    replace H := Option.bind_eq_some_iff.mp H
    obtain ⟨⟨t197, t198⟩, A50, H⟩ := H
    replace H : (if t198 = 0 then ((Hand.paths_Clean.f t197).bind fun bt201 => ((lighterlaw14_clean.f k t197).bind fun t203 => (if t203 = true then (if bt201.1.toList = t197.toList then (if bt201.2 = 0 then ((lighterlaw14_clean.f k a0).bind fun t204 => (if t204 = true then (if t197.toList = a0.toList then ((paths_Parent.f k t197).bind fun t205 => ((paths_Base.f k t197).bind fun t206 => ((paths_Join.f t205 t206).bind fun t207 => (lighterlaw14_PathsClean.j0 k t197 (t207.toList != t197.toList))))) else (lighterlaw14_PathsClean.j0 k t197 true)) else ((paths_Parent.f k t197).bind fun t208 => ((paths_Base.f k t197).bind fun t209 => ((paths_Join.f t208 t209).bind fun t210 => (lighterlaw14_PathsClean.j0 k t197 (t210.toList != t197.toList))))))) else (lighterlaw14_PathsClean.j0 k t197 true)) else (lighterlaw14_PathsClean.j0 k t197 true)) else (lighterlaw14_PathsClean.j0 k t197 true)))) else (if t197.toList = ([] : List UInt8) then ((lighterlaw14_clean.f k a0).bind fun t199 => (if t199 = true then (some false) else ((lighterlaw14_cleaned.f k).bind fun t200 => (some t200)))) else (some false))) = some r := H
    have A5 := Aside0.mk A50
    clear A50
    by_cases c6 : t198 = 0
    · rw [if_pos c6] at H
      have c6b0 : (t198 == 0) = true := beq_iff_eq.mpr c6
      have c6b1 : (t198 != 0) = false := bne_eq_false_iff_eq.mpr c6
      clear c6
      replace H := Option.bind_eq_some_iff.mp H
      obtain ⟨⟨t201, t202⟩, A70, H⟩ := H
      replace H : ((lighterlaw14_clean.f k t197).bind fun t203 => (if t203 = true then (if t201.toList = t197.toList then (if t202 = 0 then ((lighterlaw14_clean.f k a0).bind fun t204 => (if t204 = true then (if t197.toList = a0.toList then ((paths_Parent.f k t197).bind fun t205 => ((paths_Base.f k t197).bind fun t206 => ((paths_Join.f t205 t206).bind fun t207 => (lighterlaw14_PathsClean.j0 k t197 (t207.toList != t197.toList))))) else (lighterlaw14_PathsClean.j0 k t197 true)) else ((paths_Parent.f k t197).bind fun t208 => ((paths_Base.f k t197).bind fun t209 => ((paths_Join.f t208 t209).bind fun t210 => (lighterlaw14_PathsClean.j0 k t197 (t210.toList != t197.toList))))))) else (lighterlaw14_PathsClean.j0 k t197 true)) else (lighterlaw14_PathsClean.j0 k t197 true)) else (lighterlaw14_PathsClean.j0 k t197 true))) = some r := H
      have A7 := Aside0.mk A70
      clear A70
      have HC8 := Aside0.mk H
      clear H
      go_enter Tryd.func6, Tryd.ntmps6
      go_upto_region 7 with (first | ((with_reducible refine gate_callee (f := 9) rfl ?_); refine goesL_ (some 16) rfl rfl Tryd.func9 (by kernel_rfl) rfl #[.string a0] rfl (by (try simp only [List.map_toArray, List.map_cons, List.map_nil]); first | done | rfl | (simp only [List.length_drop, List.length_take]; rfl)) ?_; (with_reducible refine (Hand.paths_Clean.calls a0 t197 t198 _ A5.out).mono ?_); rintro e w9 ⟨rfl, hb⟩; refine ⟨_, rfl, ?_⟩; have n0_ := Aside0.mk (below_step (by repeat (first | (with_reducible first | exact HB.out | apply below_alloc | apply pw_below_drewN | apply below_drew1) | exact HB.out)) hb); clear HB; have HB := n0_; clear n0_; (try clear hb); (try clear hb2); (try clear hk); (try clear hi)) | ((with_reducible refine gate_callee (f := 9) rfl ?_); refine goesL_ (some 33) rfl rfl Tryd.func9 (by kernel_rfl) rfl #[.string t197] rfl (by (try simp only [List.map_toArray, List.map_cons, List.map_nil]); first | done | rfl | (simp only [List.length_drop, List.length_take]; rfl)) ?_; (with_reducible refine (Hand.paths_Clean.calls t197 t201 t202 _ A7.out).mono ?_); rintro e w10 ⟨rfl, hb⟩; refine ⟨_, rfl, ?_⟩; have n0_ := Aside0.mk (below_step (by repeat (first | (with_reducible first | exact HB.out | apply below_alloc | apply pw_below_drewN | apply below_drew1) | exact HB.out)) hb); clear HB; have HB := n0_; clear n0_; (try clear hb); (try clear hb2); (try clear hk); (try clear hi)))
      (try simp only [Act.put, List.setIfInBounds_toArray, List.set_cons_zero, List.set_cons_succ])
      go_cut [65] (fun v65 wc => ∃ (kq : Nat) (x65_7 : Bool), v65 = .bool x65_7 ∧ Aside0 (lighterlaw14_PathsClean.j0 kq t197 x65_7 = some r) ∧ Aside0 (kq ≤ k) ∧ Aside0 (Below w.heap.size w wc))
      case first =>
        have H := HC8.out
        clear HC8
        replace H := Option.bind_eq_some_iff.mp H
        obtain ⟨t203, A110, H⟩ := H
        replace H : (if t203 = true then (if t201.toList = t197.toList then (if t202 = 0 then ((lighterlaw14_clean.f k a0).bind fun t204 => (if t204 = true then (if t197.toList = a0.toList then ((paths_Parent.f k t197).bind fun t205 => ((paths_Base.f k t197).bind fun t206 => ((paths_Join.f t205 t206).bind fun t207 => (lighterlaw14_PathsClean.j0 k t197 (t207.toList != t197.toList))))) else (lighterlaw14_PathsClean.j0 k t197 true)) else ((paths_Parent.f k t197).bind fun t208 => ((paths_Base.f k t197).bind fun t209 => ((paths_Join.f t208 t209).bind fun t210 => (lighterlaw14_PathsClean.j0 k t197 (t210.toList != t197.toList))))))) else (lighterlaw14_PathsClean.j0 k t197 true)) else (lighterlaw14_PathsClean.j0 k t197 true)) else (lighterlaw14_PathsClean.j0 k t197 true)) = some r := H
        have A11 := Aside0.mk A110
        clear A110
        by_cases c12 : t203 = true
        · subst c12
          have H1 : (if t201.toList = t197.toList then (if t202 = 0 then ((lighterlaw14_clean.f k a0).bind fun t204 => (if t204 = true then (if t197.toList = a0.toList then ((paths_Parent.f k t197).bind fun t205 => ((paths_Base.f k t197).bind fun t206 => ((paths_Join.f t205 t206).bind fun t207 => (lighterlaw14_PathsClean.j0 k t197 (t207.toList != t197.toList))))) else (lighterlaw14_PathsClean.j0 k t197 true)) else ((paths_Parent.f k t197).bind fun t208 => ((paths_Base.f k t197).bind fun t209 => ((paths_Join.f t208 t209).bind fun t210 => (lighterlaw14_PathsClean.j0 k t197 (t210.toList != t197.toList))))))) else (lighterlaw14_PathsClean.j0 k t197 true)) else (lighterlaw14_PathsClean.j0 k t197 true)) = some r := by rw [if_pos rfl] at H; exact H
          clear H
          have H := H1
          clear H1
          by_cases c13 : t201.toList = t197.toList
          · rw [if_pos c13] at H
            have c13b0 : (t201.toList == t197.toList) = true := beq_iff_eq.mpr c13
            have c13b1 : (t201.toList != t197.toList) = false := bne_eq_false_iff_eq.mpr c13
            clear c13
            (first | rw [c13b0] | (simp only [i64_w, i32_w]; rw [c13b0]) | skip)
            by_cases c14 : t202 = 0
            · rw [if_pos c14] at H
              have c14b0 : (t202 == 0) = true := beq_iff_eq.mpr c14
              have c14b1 : (t202 != 0) = false := bne_eq_false_iff_eq.mpr c14
              clear c14
              replace H := Option.bind_eq_some_iff.mp H
              obtain ⟨t204, A150, H⟩ := H
              replace H : (if t204 = true then (if t197.toList = a0.toList then ((paths_Parent.f k t197).bind fun t205 => ((paths_Base.f k t197).bind fun t206 => ((paths_Join.f t205 t206).bind fun t207 => (lighterlaw14_PathsClean.j0 k t197 (t207.toList != t197.toList))))) else (lighterlaw14_PathsClean.j0 k t197 true)) else ((paths_Parent.f k t197).bind fun t208 => ((paths_Base.f k t197).bind fun t209 => ((paths_Join.f t208 t209).bind fun t210 => (lighterlaw14_PathsClean.j0 k t197 (t210.toList != t197.toList)))))) = some r := H
              have A15 := Aside0.mk A150
              clear A150
              by_cases c16 : t204 = true
              · subst c16
                have H1 : (if t197.toList = a0.toList then ((paths_Parent.f k t197).bind fun t205 => ((paths_Base.f k t197).bind fun t206 => ((paths_Join.f t205 t206).bind fun t207 => (lighterlaw14_PathsClean.j0 k t197 (t207.toList != t197.toList))))) else (lighterlaw14_PathsClean.j0 k t197 true)) = some r := by rw [if_pos rfl] at H; exact H
                clear H
                have H := H1
                clear H1
                by_cases c17 : t197.toList = a0.toList
                · rw [if_pos c17] at H
                  have c17b0 : (t197.toList == a0.toList) = true := beq_iff_eq.mpr c17
                  have c17b1 : (t197.toList != a0.toList) = false := bne_eq_false_iff_eq.mpr c17
                  clear c17
                  replace H := Option.bind_eq_some_iff.mp H
                  obtain ⟨t205, A180, H⟩ := H
                  replace H : ((paths_Base.f k t197).bind fun t206 => ((paths_Join.f t205 t206).bind fun t207 => (lighterlaw14_PathsClean.j0 k t197 (t207.toList != t197.toList)))) = some r := H
                  have A18 := Aside0.mk A180
                  clear A180
                  replace H := Option.bind_eq_some_iff.mp H
                  obtain ⟨t206, A190, H⟩ := H
                  replace H : ((paths_Join.f t205 t206).bind fun t207 => (lighterlaw14_PathsClean.j0 k t197 (t207.toList != t197.toList))) = some r := H
                  have A19 := Aside0.mk A190
                  clear A190
                  replace H := Option.bind_eq_some_iff.mp H
                  obtain ⟨t207, A200, H⟩ := H
                  replace H : (lighterlaw14_PathsClean.j0 k t197 (t207.toList != t197.toList)) = some r := H
                  have A20 := Aside0.mk A200
                  clear A200
                  have H' := Aside0.mk H
                  clear H
                  go_wp2_with (first | ((with_reducible refine gate_callee (f := 17) rfl ?_); refine goesL_ (some 37) rfl rfl Tryd.func17 (by kernel_rfl) rfl #[.string t197] rfl (by (try simp only [List.map_toArray, List.map_cons, List.map_nil]); first | done | rfl | (simp only [List.length_drop, List.length_take]; rfl)) ?_; (with_reducible refine (lighterlaw14_clean.calls k t197 true _ A11.out).mono ?_); rintro e w' ⟨rfl, ⟨nd, rfl⟩⟩; refine ⟨_, rfl, ?_⟩) | (go_at_call 17; (with_reducible refine (lighterlaw14_clean.calls k a0 true _ A15.out).mono ?_); rintro e w' ⟨rfl, ⟨nd, rfl⟩⟩) | (go_at_call 18; (with_reducible refine (paths_Parent.calls k t197 t205 _ A18.out).mono ?_); rintro e w21 ⟨rfl, hb⟩; have n0_ := Aside0.mk (below_step (by repeat (first | (with_reducible first | exact HB.out | apply below_alloc | apply pw_below_drewN | apply below_drew1) | exact HB.out)) hb); clear HB; have HB := n0_; clear n0_; (try clear hb); (try clear hb2); (try clear hk); (try clear hi)) | (go_at_call 12; (with_reducible refine (paths_Base.calls k t197 t206 _ A19.out).mono ?_); rintro e w' ⟨rfl, ⟨nd, rfl⟩⟩) | (go_at_call 20; (with_reducible refine (paths_Join.calls t205 t206 t207 _ A20.out).mono ?_); rintro e w' ⟨rfl, ⟨nd, rfl⟩⟩))
                  go_meet
                  case rel => exact ⟨_, ((t207.toList != t197.toList)), (by first | rfl | (simp; done) | (simp [*]; done) | (simp [*, bne_nil_e, beq_nil_e]; done)), H', ⟨by first | omega | exact Nat.le_refl _⟩, ⟨by repeat (first | (with_reducible first | exact HB.out | apply below_alloc | apply pw_below_drewN | apply below_drew1) | exact HB.out)⟩⟩
                · rw [if_neg c17] at H
                  have c17b0 : (t197.toList == a0.toList) = false := beq_eq_false_iff_ne.mpr c17
                  have c17b1 : (t197.toList != a0.toList) = true := bne_iff_ne.mpr c17
                  have H' := Aside0.mk H
                  clear H
                  go_wp2_with (first | ((with_reducible refine gate_callee (f := 17) rfl ?_); refine goesL_ (some 37) rfl rfl Tryd.func17 (by kernel_rfl) rfl #[.string t197] rfl (by (try simp only [List.map_toArray, List.map_cons, List.map_nil]); first | done | rfl | (simp only [List.length_drop, List.length_take]; rfl)) ?_; (with_reducible refine (lighterlaw14_clean.calls k t197 true _ A11.out).mono ?_); rintro e w' ⟨rfl, ⟨nd, rfl⟩⟩; refine ⟨_, rfl, ?_⟩) | (go_at_call 17; (with_reducible refine (lighterlaw14_clean.calls k a0 true _ A15.out).mono ?_); rintro e w' ⟨rfl, ⟨nd, rfl⟩⟩))
                  go_meet
                  case rel => exact ⟨_, (true), (by first | rfl | (simp; done) | (simp [*]; done) | (simp [*, bne_nil_e, beq_nil_e]; done)), H', ⟨by first | omega | exact Nat.le_refl _⟩, ⟨by repeat (first | (with_reducible first | exact HB.out | apply below_alloc | apply pw_below_drewN | apply below_drew1) | exact HB.out)⟩⟩
              · replace c16 := Bool.eq_false_iff.mpr c16
                subst c16
                have H1 : ((paths_Parent.f k t197).bind fun t208 => ((paths_Base.f k t197).bind fun t209 => ((paths_Join.f t208 t209).bind fun t210 => (lighterlaw14_PathsClean.j0 k t197 (t210.toList != t197.toList))))) = some r := by rw [if_neg (show ¬ (false = true) by decide)] at H; exact H
                clear H
                have H := H1
                clear H1
                replace H := Option.bind_eq_some_iff.mp H
                obtain ⟨t208, A220, H⟩ := H
                replace H : ((paths_Base.f k t197).bind fun t209 => ((paths_Join.f t208 t209).bind fun t210 => (lighterlaw14_PathsClean.j0 k t197 (t210.toList != t197.toList)))) = some r := H
                have A22 := Aside0.mk A220
                clear A220
                replace H := Option.bind_eq_some_iff.mp H
                obtain ⟨t209, A230, H⟩ := H
                replace H : ((paths_Join.f t208 t209).bind fun t210 => (lighterlaw14_PathsClean.j0 k t197 (t210.toList != t197.toList))) = some r := H
                have A23 := Aside0.mk A230
                clear A230
                replace H := Option.bind_eq_some_iff.mp H
                obtain ⟨t210, A240, H⟩ := H
                replace H : (lighterlaw14_PathsClean.j0 k t197 (t210.toList != t197.toList)) = some r := H
                have A24 := Aside0.mk A240
                clear A240
                have H' := Aside0.mk H
                clear H
                go_wp2_with (first | ((with_reducible refine gate_callee (f := 17) rfl ?_); refine goesL_ (some 37) rfl rfl Tryd.func17 (by kernel_rfl) rfl #[.string t197] rfl (by (try simp only [List.map_toArray, List.map_cons, List.map_nil]); first | done | rfl | (simp only [List.length_drop, List.length_take]; rfl)) ?_; (with_reducible refine (lighterlaw14_clean.calls k t197 true _ A11.out).mono ?_); rintro e w' ⟨rfl, ⟨nd, rfl⟩⟩; refine ⟨_, rfl, ?_⟩) | (go_at_call 17; (with_reducible refine (lighterlaw14_clean.calls k a0 false _ A15.out).mono ?_); rintro e w' ⟨rfl, ⟨nd, rfl⟩⟩) | (go_at_call 18; (with_reducible refine (paths_Parent.calls k t197 t208 _ A22.out).mono ?_); rintro e w25 ⟨rfl, hb⟩; have n0_ := Aside0.mk (below_step (by repeat (first | (with_reducible first | exact HB.out | apply below_alloc | apply pw_below_drewN | apply below_drew1) | exact HB.out)) hb); clear HB; have HB := n0_; clear n0_; (try clear hb); (try clear hb2); (try clear hk); (try clear hi)) | (go_at_call 12; (with_reducible refine (paths_Base.calls k t197 t209 _ A23.out).mono ?_); rintro e w' ⟨rfl, ⟨nd, rfl⟩⟩) | (go_at_call 20; (with_reducible refine (paths_Join.calls t208 t209 t210 _ A24.out).mono ?_); rintro e w' ⟨rfl, ⟨nd, rfl⟩⟩))
                go_meet
                case rel => exact ⟨_, ((t210.toList != t197.toList)), (by first | rfl | (simp; done) | (simp [*]; done) | (simp [*, bne_nil_e, beq_nil_e]; done)), H', ⟨by first | omega | exact Nat.le_refl _⟩, ⟨by repeat (first | (with_reducible first | exact HB.out | apply below_alloc | apply pw_below_drewN | apply below_drew1) | exact HB.out)⟩⟩
            · rw [if_neg c14] at H
              have c14b0 : (t202 == 0) = false := beq_eq_false_iff_ne.mpr c14
              have c14b1 : (t202 != 0) = true := bne_iff_ne.mpr c14
              have H' := Aside0.mk H
              clear H
              go_wp2_with (first | ((with_reducible refine gate_callee (f := 17) rfl ?_); refine goesL_ (some 37) rfl rfl Tryd.func17 (by kernel_rfl) rfl #[.string t197] rfl (by (try simp only [List.map_toArray, List.map_cons, List.map_nil]); first | done | rfl | (simp only [List.length_drop, List.length_take]; rfl)) ?_; (with_reducible refine (lighterlaw14_clean.calls k t197 true _ A11.out).mono ?_); rintro e w' ⟨rfl, ⟨nd, rfl⟩⟩; refine ⟨_, rfl, ?_⟩))
              go_meet
              case rel => exact ⟨_, (true), (by first | rfl | (simp; done) | (simp [*]; done) | (simp [*, bne_nil_e, beq_nil_e]; done)), H', ⟨by first | omega | exact Nat.le_refl _⟩, ⟨by repeat (first | (with_reducible first | exact HB.out | apply below_alloc | apply pw_below_drewN | apply below_drew1) | exact HB.out)⟩⟩
          · rw [if_neg c13] at H
            have c13b0 : (t201.toList == t197.toList) = false := beq_eq_false_iff_ne.mpr c13
            have c13b1 : (t201.toList != t197.toList) = true := bne_iff_ne.mpr c13
            (first | rw [c13b0] | (simp only [i64_w, i32_w]; rw [c13b0]) | skip)
            have H' := Aside0.mk H
            clear H
            go_wp2_with (first | ((with_reducible refine gate_callee (f := 17) rfl ?_); refine goesL_ (some 37) rfl rfl Tryd.func17 (by kernel_rfl) rfl #[.string t197] rfl (by (try simp only [List.map_toArray, List.map_cons, List.map_nil]); first | done | rfl | (simp only [List.length_drop, List.length_take]; rfl)) ?_; (with_reducible refine (lighterlaw14_clean.calls k t197 true _ A11.out).mono ?_); rintro e w' ⟨rfl, ⟨nd, rfl⟩⟩; refine ⟨_, rfl, ?_⟩))
            go_meet
            case rel => exact ⟨_, (true), (by first | rfl | (simp; done) | (simp [*]; done) | (simp [*, bne_nil_e, beq_nil_e]; done)), H', ⟨by first | omega | exact Nat.le_refl _⟩, ⟨by repeat (first | (with_reducible first | exact HB.out | apply below_alloc | apply pw_below_drewN | apply below_drew1) | exact HB.out)⟩⟩
        · replace c12 := Bool.eq_false_iff.mpr c12
          subst c12
          have H1 : (lighterlaw14_PathsClean.j0 k t197 true) = some r := by rw [if_neg (show ¬ (false = true) by decide)] at H; exact H
          clear H
          have H := H1
          clear H1
          have H' := Aside0.mk H
          clear H
          go_wp2_with (first | ((with_reducible refine gate_callee (f := 17) rfl ?_); refine goesL_ (some 37) rfl rfl Tryd.func17 (by kernel_rfl) rfl #[.string t197] rfl (by (try simp only [List.map_toArray, List.map_cons, List.map_nil]); first | done | rfl | (simp only [List.length_drop, List.length_take]; rfl)) ?_; (with_reducible refine (lighterlaw14_clean.calls k t197 false _ A11.out).mono ?_); rintro e w' ⟨rfl, ⟨nd, rfl⟩⟩; refine ⟨_, rfl, ?_⟩))
          go_meet
          case rel => exact ⟨_, (true), (by first | rfl | (simp; done) | (simp [*]; done) | (simp [*, bne_nil_e, beq_nil_e]; done)), H', ⟨by first | omega | exact Nat.le_refl _⟩, ⟨by repeat (first | (with_reducible first | exact HB.out | apply below_alloc | apply pw_below_drewN | apply below_drew1) | exact HB.out)⟩⟩
      case rest =>
        clear HC8
        try clear c1
        try clear c2
        try clear c2b0
        try clear c2b1
        try clear p2
        try clear c6
        try clear c6b0
        try clear c6b1
        try clear c8
        try clear c9
        try clear c12
        try clear c13
        try clear c13b0
        try clear c13b1
        try clear c14
        try clear c14b0
        try clear c14b1
        try clear c16
        try clear c17
        try clear c17b0
        try clear c17b1
        obtain ⟨kq, x65_7, rfl, HA, HJ7, HB⟩ := hcut
        cases kq with
        | zero => exact absurd HA.out (by simp [lighterlaw14_PathsClean.j0])
        | succ kj7 =>
          have H := HA.out
          clear HA
          simp only [lighterlaw14_PathsClean.j0] at H
          by_cases c26 : x65_7 = true
          · subst c26
            have H1 : (some false) = some r := by rw [if_pos rfl] at H; exact H
            clear H
            have H := H1
            clear H1
            obtain rfl := Option.some.inj H
            go_wp2
            go_ret
            exact ⟨by first | rfl | (simp [errW_none, errW_some] <;> rfl) | (simp [*, errW_none, errW_some] <;> rfl), by repeat (first | (with_reducible first | exact HB.out | apply below_alloc | apply pw_below_drewN | apply below_drew1) | exact HB.out)⟩
          · replace c26 := Bool.eq_false_iff.mpr c26
            subst c26
            have H1 : (lighterlaw14_PathsClean.l0 kj7 t197 t197 0) = some r := by rw [if_neg (show ¬ (false = true) by decide)] at H; exact H
            clear H
            have H := H1
            clear H1
            have H' := Aside0.mk H
            clear H
            go_wp2
            go_loopg [7, 8] kj7 (fun kq v7 v8 w' => ∃ (x7_2 : ByteArray) (x8_2 : Int), v7 = .string x7_2 ∧ v8 = .int .i64 x8_2 ∧ Aside0 (lighterlaw14_PathsClean.l0 kq t197 x7_2 x8_2 = some r) ∧ Aside0 (kq ≤ kj7) ∧ Aside0 (Below w.heap.size w w'))
            case atStart => exact ⟨(t197), (0), (by first | rfl | (simp; done) | (simp [*]; done) | (simp [*, bne_nil_e, beq_nil_e]; done)), (by first | rfl | (simp; done) | (simp [*]; done) | (simp [*, bne_nil_e, beq_nil_e]; done)), H', ⟨Nat.le_refl _⟩, ⟨by repeat (first | (with_reducible first | exact HB.out | apply below_alloc | apply pw_below_drewN | apply below_drew1) | exact HB.out)⟩⟩
            case round =>
              clear H'
              try clear c1
              try clear c2
              try clear c2b0
              try clear c2b1
              try clear p2
              try clear c6
              try clear c6b0
              try clear c6b1
              try clear c8
              try clear c9
              try clear c12
              try clear c13
              try clear c13b0
              try clear c13b1
              try clear c14
              try clear c14b0
              try clear c14b1
              try clear c16
              try clear c17
              try clear c17b0
              try clear c17b1
              try clear c26
              try clear p2
              obtain ⟨x7_2, x8_2, rfl, rfl, HA, HK2, HB⟩ := hrel
              cases gk with
              | zero => exact absurd HA.out (by simp [lighterlaw14_PathsClean.l0])
              | succ k2 =>
                have H := HA.out
                clear HA
                simp only [lighterlaw14_PathsClean.l0] at H
                have HC27 := Aside0.mk H
                clear H
                go_upto_region 11 with (fail)
                go_cut [72] (fun v72 wc => ∃ (kq : Nat) (x72_26 : Bool), v72 = .bool x72_26 ∧ Aside0 (lighterlaw14_PathsClean.j2 kq t197 x7_2 x8_2 x72_26 = some r) ∧ Aside0 (kq ≤ k2) ∧ Aside0 (Below w.heap.size w wc))
                case first =>
                  have H := HC27.out
                  clear HC27
                  by_cases c28 : x8_2 < 200
                  · rw [if_pos c28] at H
                    have c28b0 : decide (x8_2 < 200) = true := decide_eq_true c28
                    clear c28
                    (first | rw [c28b0] | (simp only [i64_w, i32_w]; rw [c28b0]) | skip)
                    have H' := Aside0.mk H
                    clear H
                    go_wp2
                    go_meet
                    case rel => exact ⟨_, ((x7_2.toList != ([] : List UInt8))), (by first | rfl | (simp; done) | (simp [*]; done) | (simp [*, bne_nil_e, beq_nil_e]; done)), H', ⟨by have := HJ7.out; have := HK2.out; first | omega | exact Nat.le_refl _⟩, ⟨by repeat (first | (with_reducible first | exact HB.out | apply below_alloc | apply pw_below_drewN | apply below_drew1) | exact HB.out)⟩⟩
                  · rw [if_neg c28] at H
                    have c28b0 : decide (x8_2 < 200) = false := decide_eq_false c28
                    clear c28
                    (first | rw [c28b0] | (simp only [i64_w, i32_w]; rw [c28b0]) | skip)
                    have H' := Aside0.mk H
                    clear H
                    go_wp2
                    go_meet
                    case rel => exact ⟨_, (false), (by first | rfl | (simp; done) | (simp [*]; done) | (simp [*, bne_nil_e, beq_nil_e]; done)), H', ⟨by have := HJ7.out; have := HK2.out; first | omega | exact Nat.le_refl _⟩, ⟨by repeat (first | (with_reducible first | exact HB.out | apply below_alloc | apply pw_below_drewN | apply below_drew1) | exact HB.out)⟩⟩
                case rest =>
                  clear HC27
                  try clear c1
                  try clear c2
                  try clear c2b0
                  try clear c2b1
                  try clear p2
                  try clear c6
                  try clear c6b0
                  try clear c6b1
                  try clear c8
                  try clear c9
                  try clear c12
                  try clear c13
                  try clear c13b0
                  try clear c13b1
                  try clear c14
                  try clear c14b0
                  try clear c14b1
                  try clear c16
                  try clear c17
                  try clear c17b0
                  try clear c17b1
                  try clear c26
                  try clear c28
                  try clear c28b0
                  try clear p2
                  obtain ⟨kq, x72_26, rfl, HA, HJ26, HB⟩ := hcut
                  cases kq with
                  | zero => exact absurd HA.out (by simp [lighterlaw14_PathsClean.j2])
                  | succ kj26 =>
                    have H := HA.out
                    clear HA
                    simp only [lighterlaw14_PathsClean.j2] at H
                    by_cases c29 : x72_26 = true
                    · subst c29
                      have H1 : ((paths_Parent.f kj26 x7_2).bind fun t212 => ((paths_Inside.f x7_2 t197).bind fun t213 => (if t213 = true then (if (t212.size : Int) ≥ (x7_2.size : Int) then (some false) else ((paths_Inside.f t212 x7_2).bind fun t214 => (if t214 = true then ((lighterlaw14_clean.f kj26 t212).bind fun t215 => (if t215 = true then (lighterlaw14_PathsClean.l0 kj26 t197 t212 (wrap64 (x8_2 + 1))) else (some false))) else (some false)))) else (some false)))) = some r := by rw [if_pos rfl] at H; exact H
                      clear H
                      have H := H1
                      clear H1
                      replace H := Option.bind_eq_some_iff.mp H
                      obtain ⟨t212, A300, H⟩ := H
                      replace H : ((paths_Inside.f x7_2 t197).bind fun t213 => (if t213 = true then (if (t212.size : Int) ≥ (x7_2.size : Int) then (some false) else ((paths_Inside.f t212 x7_2).bind fun t214 => (if t214 = true then ((lighterlaw14_clean.f kj26 t212).bind fun t215 => (if t215 = true then (lighterlaw14_PathsClean.l0 kj26 t197 t212 (wrap64 (x8_2 + 1))) else (some false))) else (some false)))) else (some false))) = some r := H
                      have A30 := Aside0.mk A300
                      clear A300
                      replace H := Option.bind_eq_some_iff.mp H
                      obtain ⟨t213, A310, H⟩ := H
                      replace H : (if t213 = true then (if (t212.size : Int) ≥ (x7_2.size : Int) then (some false) else ((paths_Inside.f t212 x7_2).bind fun t214 => (if t214 = true then ((lighterlaw14_clean.f kj26 t212).bind fun t215 => (if t215 = true then (lighterlaw14_PathsClean.l0 kj26 t197 t212 (wrap64 (x8_2 + 1))) else (some false))) else (some false)))) else (some false)) = some r := H
                      have A31 := Aside0.mk A310
                      clear A310
                      by_cases c32 : t213 = true
                      · subst c32
                        have H1 : (if (t212.size : Int) ≥ (x7_2.size : Int) then (some false) else ((paths_Inside.f t212 x7_2).bind fun t214 => (if t214 = true then ((lighterlaw14_clean.f kj26 t212).bind fun t215 => (if t215 = true then (lighterlaw14_PathsClean.l0 kj26 t197 t212 (wrap64 (x8_2 + 1))) else (some false))) else (some false)))) = some r := by rw [if_pos rfl] at H; exact H
                        clear H
                        have H := H1
                        clear H1
                        by_cases c33 : (t212.size : Int) ≥ (x7_2.size : Int)
                        · rw [if_pos c33] at H
                          have c33b0 : decide ((x7_2.size : Int) ≤ (t212.size : Int)) = true := decide_eq_true c33
                          have c33b1 : decide (x7_2.size ≤ t212.size) = true := decide_eq_true (Int.ofNat_le.mp c33)
                          clear c33
                          obtain rfl := Option.some.inj H
                          go_wp2_with (first | ((with_reducible refine gate_callee (f := 18) rfl ?_); refine goesL_ (some 76) rfl rfl Tryd.func18 (by kernel_rfl) rfl #[.string x7_2] rfl (by (try simp only [List.map_toArray, List.map_cons, List.map_nil]); first | done | rfl | (simp only [List.length_drop, List.length_take]; rfl)) ?_; (with_reducible refine (paths_Parent.calls kj26 x7_2 t212 _ A30.out).mono ?_); rintro e w34 ⟨rfl, hb⟩; refine ⟨_, rfl, ?_⟩; have n0_ := Aside0.mk (below_step (by repeat (first | (with_reducible first | exact HB.out | apply below_alloc | apply pw_below_drewN | apply below_drew1) | exact HB.out)) hb); clear HB; have HB := n0_; clear n0_; (try clear hb); (try clear hb2); (try clear hk); (try clear hi)) | ((with_reducible refine gate_callee (f := 15) rfl ?_); refine goesL_ (some 79) rfl rfl Tryd.func15 (by kernel_rfl) rfl #[.string x7_2, .string t197] rfl (by (try simp only [List.map_toArray, List.map_cons, List.map_nil]); first | done | rfl | (simp only [List.length_drop, List.length_take]; rfl)) ?_; (with_reducible refine (paths_Inside.calls x7_2 t197 true _ A31.out).mono ?_); rintro e w' ⟨rfl, ⟨nd, rfl⟩⟩; refine ⟨_, rfl, ?_⟩))
                          go_ret
                          exact ⟨by first | rfl | (simp [errW_none, errW_some] <;> rfl) | (simp [*, errW_none, errW_some] <;> rfl), by repeat (first | (with_reducible first | exact HB.out | apply below_alloc | apply pw_below_drewN | apply below_drew1) | exact HB.out)⟩
                        · rw [if_neg c33] at H
                          have c33b0 : decide ((x7_2.size : Int) ≤ (t212.size : Int)) = false := decide_eq_false c33
                          have c33b1 : decide (x7_2.size ≤ t212.size) = false := decide_eq_false (fun h => c33 (Int.ofNat_le.mpr h))
                          clear c33
                          replace H := Option.bind_eq_some_iff.mp H
                          obtain ⟨t214, A350, H⟩ := H
                          replace H : (if t214 = true then ((lighterlaw14_clean.f kj26 t212).bind fun t215 => (if t215 = true then (lighterlaw14_PathsClean.l0 kj26 t197 t212 (wrap64 (x8_2 + 1))) else (some false))) else (some false)) = some r := H
                          have A35 := Aside0.mk A350
                          clear A350
                          by_cases c36 : t214 = true
                          · subst c36
                            have H1 : ((lighterlaw14_clean.f kj26 t212).bind fun t215 => (if t215 = true then (lighterlaw14_PathsClean.l0 kj26 t197 t212 (wrap64 (x8_2 + 1))) else (some false))) = some r := by rw [if_pos rfl] at H; exact H
                            clear H
                            have H := H1
                            clear H1
                            replace H := Option.bind_eq_some_iff.mp H
                            obtain ⟨t215, A370, H⟩ := H
                            replace H : (if t215 = true then (lighterlaw14_PathsClean.l0 kj26 t197 t212 (wrap64 (x8_2 + 1))) else (some false)) = some r := H
                            have A37 := Aside0.mk A370
                            clear A370
                            by_cases c38 : t215 = true
                            · subst c38
                              have H1 : (lighterlaw14_PathsClean.l0 kj26 t197 t212 (wrap64 (x8_2 + 1))) = some r := by rw [if_pos rfl] at H; exact H
                              clear H
                              have H := H1
                              clear H1
                              have H' := Aside0.mk H
                              clear H
                              go_wp2_with (first | ((with_reducible refine gate_callee (f := 18) rfl ?_); refine goesL_ (some 76) rfl rfl Tryd.func18 (by kernel_rfl) rfl #[.string x7_2] rfl (by (try simp only [List.map_toArray, List.map_cons, List.map_nil]); first | done | rfl | (simp only [List.length_drop, List.length_take]; rfl)) ?_; (with_reducible refine (paths_Parent.calls kj26 x7_2 t212 _ A30.out).mono ?_); rintro e w39 ⟨rfl, hb⟩; refine ⟨_, rfl, ?_⟩; have n0_ := Aside0.mk (below_step (by repeat (first | (with_reducible first | exact HB.out | apply below_alloc | apply pw_below_drewN | apply below_drew1) | exact HB.out)) hb); clear HB; have HB := n0_; clear n0_; (try clear hb); (try clear hb2); (try clear hk); (try clear hi)) | ((with_reducible refine gate_callee (f := 15) rfl ?_); refine goesL_ (some 79) rfl rfl Tryd.func15 (by kernel_rfl) rfl #[.string x7_2, .string t197] rfl (by (try simp only [List.map_toArray, List.map_cons, List.map_nil]); first | done | rfl | (simp only [List.length_drop, List.length_take]; rfl)) ?_; (with_reducible refine (paths_Inside.calls x7_2 t197 true _ A31.out).mono ?_); rintro e w' ⟨rfl, ⟨nd, rfl⟩⟩; refine ⟨_, rfl, ?_⟩) | (go_at_call 15; (with_reducible refine (paths_Inside.calls t212 x7_2 true _ A35.out).mono ?_); rintro e w' ⟨rfl, ⟨nd, rfl⟩⟩) | (go_at_call 17; (with_reducible refine (lighterlaw14_clean.calls kj26 t212 true _ A37.out).mono ?_); rintro e w' ⟨rfl, ⟨nd, rfl⟩⟩))
                              go_roundg kj26
                              case measure => have := HJ7.out; have := HK2.out; have := HJ26.out; omega
                              case rel => exact ⟨(t212), (wrap64 (x8_2 + 1)), (by first | rfl | (simp; done) | (simp [*]; done) | (simp [*, bne_nil_e, beq_nil_e]; done)), (by first | rfl | (simp; done) | (simp [*]; done) | (simp [*, bne_nil_e, beq_nil_e]; done)), H', ⟨by have := HJ7.out; have := HK2.out; have := HJ26.out; omega⟩, ⟨by repeat (first | (with_reducible first | exact HB.out | apply below_alloc | apply pw_below_drewN | apply below_drew1) | exact HB.out)⟩⟩
                            · replace c38 := Bool.eq_false_iff.mpr c38
                              subst c38
                              have H1 : (some false) = some r := by rw [if_neg (show ¬ (false = true) by decide)] at H; exact H
                              clear H
                              have H := H1
                              clear H1
                              obtain rfl := Option.some.inj H
                              go_wp2_with (first | ((with_reducible refine gate_callee (f := 18) rfl ?_); refine goesL_ (some 76) rfl rfl Tryd.func18 (by kernel_rfl) rfl #[.string x7_2] rfl (by (try simp only [List.map_toArray, List.map_cons, List.map_nil]); first | done | rfl | (simp only [List.length_drop, List.length_take]; rfl)) ?_; (with_reducible refine (paths_Parent.calls kj26 x7_2 t212 _ A30.out).mono ?_); rintro e w40 ⟨rfl, hb⟩; refine ⟨_, rfl, ?_⟩; have n0_ := Aside0.mk (below_step (by repeat (first | (with_reducible first | exact HB.out | apply below_alloc | apply pw_below_drewN | apply below_drew1) | exact HB.out)) hb); clear HB; have HB := n0_; clear n0_; (try clear hb); (try clear hb2); (try clear hk); (try clear hi)) | ((with_reducible refine gate_callee (f := 15) rfl ?_); refine goesL_ (some 79) rfl rfl Tryd.func15 (by kernel_rfl) rfl #[.string x7_2, .string t197] rfl (by (try simp only [List.map_toArray, List.map_cons, List.map_nil]); first | done | rfl | (simp only [List.length_drop, List.length_take]; rfl)) ?_; (with_reducible refine (paths_Inside.calls x7_2 t197 true _ A31.out).mono ?_); rintro e w' ⟨rfl, ⟨nd, rfl⟩⟩; refine ⟨_, rfl, ?_⟩) | (go_at_call 15; (with_reducible refine (paths_Inside.calls t212 x7_2 true _ A35.out).mono ?_); rintro e w' ⟨rfl, ⟨nd, rfl⟩⟩) | (go_at_call 17; (with_reducible refine (lighterlaw14_clean.calls kj26 t212 false _ A37.out).mono ?_); rintro e w' ⟨rfl, ⟨nd, rfl⟩⟩))
                              go_ret
                              exact ⟨by first | rfl | (simp [errW_none, errW_some] <;> rfl) | (simp [*, errW_none, errW_some] <;> rfl), by repeat (first | (with_reducible first | exact HB.out | apply below_alloc | apply pw_below_drewN | apply below_drew1) | exact HB.out)⟩
                          · replace c36 := Bool.eq_false_iff.mpr c36
                            subst c36
                            have H1 : (some false) = some r := by rw [if_neg (show ¬ (false = true) by decide)] at H; exact H
                            clear H
                            have H := H1
                            clear H1
                            obtain rfl := Option.some.inj H
                            go_wp2_with (first | ((with_reducible refine gate_callee (f := 18) rfl ?_); refine goesL_ (some 76) rfl rfl Tryd.func18 (by kernel_rfl) rfl #[.string x7_2] rfl (by (try simp only [List.map_toArray, List.map_cons, List.map_nil]); first | done | rfl | (simp only [List.length_drop, List.length_take]; rfl)) ?_; (with_reducible refine (paths_Parent.calls kj26 x7_2 t212 _ A30.out).mono ?_); rintro e w41 ⟨rfl, hb⟩; refine ⟨_, rfl, ?_⟩; have n0_ := Aside0.mk (below_step (by repeat (first | (with_reducible first | exact HB.out | apply below_alloc | apply pw_below_drewN | apply below_drew1) | exact HB.out)) hb); clear HB; have HB := n0_; clear n0_; (try clear hb); (try clear hb2); (try clear hk); (try clear hi)) | ((with_reducible refine gate_callee (f := 15) rfl ?_); refine goesL_ (some 79) rfl rfl Tryd.func15 (by kernel_rfl) rfl #[.string x7_2, .string t197] rfl (by (try simp only [List.map_toArray, List.map_cons, List.map_nil]); first | done | rfl | (simp only [List.length_drop, List.length_take]; rfl)) ?_; (with_reducible refine (paths_Inside.calls x7_2 t197 true _ A31.out).mono ?_); rintro e w' ⟨rfl, ⟨nd, rfl⟩⟩; refine ⟨_, rfl, ?_⟩) | (go_at_call 15; (with_reducible refine (paths_Inside.calls t212 x7_2 false _ A35.out).mono ?_); rintro e w' ⟨rfl, ⟨nd, rfl⟩⟩))
                            go_ret
                            exact ⟨by first | rfl | (simp [errW_none, errW_some] <;> rfl) | (simp [*, errW_none, errW_some] <;> rfl), by repeat (first | (with_reducible first | exact HB.out | apply below_alloc | apply pw_below_drewN | apply below_drew1) | exact HB.out)⟩
                      · replace c32 := Bool.eq_false_iff.mpr c32
                        subst c32
                        have H1 : (some false) = some r := by rw [if_neg (show ¬ (false = true) by decide)] at H; exact H
                        clear H
                        have H := H1
                        clear H1
                        obtain rfl := Option.some.inj H
                        go_wp2_with (first | ((with_reducible refine gate_callee (f := 18) rfl ?_); refine goesL_ (some 76) rfl rfl Tryd.func18 (by kernel_rfl) rfl #[.string x7_2] rfl (by (try simp only [List.map_toArray, List.map_cons, List.map_nil]); first | done | rfl | (simp only [List.length_drop, List.length_take]; rfl)) ?_; (with_reducible refine (paths_Parent.calls kj26 x7_2 t212 _ A30.out).mono ?_); rintro e w42 ⟨rfl, hb⟩; refine ⟨_, rfl, ?_⟩; have n0_ := Aside0.mk (below_step (by repeat (first | (with_reducible first | exact HB.out | apply below_alloc | apply pw_below_drewN | apply below_drew1) | exact HB.out)) hb); clear HB; have HB := n0_; clear n0_; (try clear hb); (try clear hb2); (try clear hk); (try clear hi)) | ((with_reducible refine gate_callee (f := 15) rfl ?_); refine goesL_ (some 79) rfl rfl Tryd.func15 (by kernel_rfl) rfl #[.string x7_2, .string t197] rfl (by (try simp only [List.map_toArray, List.map_cons, List.map_nil]); first | done | rfl | (simp only [List.length_drop, List.length_take]; rfl)) ?_; (with_reducible refine (paths_Inside.calls x7_2 t197 false _ A31.out).mono ?_); rintro e w' ⟨rfl, ⟨nd, rfl⟩⟩; refine ⟨_, rfl, ?_⟩))
                        go_ret
                        exact ⟨by first | rfl | (simp [errW_none, errW_some] <;> rfl) | (simp [*, errW_none, errW_some] <;> rfl), by repeat (first | (with_reducible first | exact HB.out | apply below_alloc | apply pw_below_drewN | apply below_drew1) | exact HB.out)⟩
                    · replace c29 := Bool.eq_false_iff.mpr c29
                      subst c29
                      have H1 : (if x7_2.toList = ([] : List UInt8) then ((lighterlaw14_cleaned.f kj26).bind fun t211 => (some t211)) else (some false)) = some r := by rw [if_neg (show ¬ (false = true) by decide)] at H; exact H
                      clear H
                      have H := H1
                      clear H1
                      by_cases c43 : x7_2.toList = ([] : List UInt8)
                      · rw [if_pos c43] at H
                        have c43b0 : (x7_2.toList == ([] : List UInt8)) = true := beq_iff_eq.mpr c43
                        have c43b1 : (x7_2.toList != ([] : List UInt8)) = false := bne_eq_false_iff_eq.mpr c43
                        clear c43
                        replace H := Option.bind_eq_some_iff.mp H
                        obtain ⟨t211, A440, H⟩ := H
                        replace H : (some t211) = some r := H
                        have A44 := Aside0.mk A440
                        clear A440
                        obtain rfl := Option.some.inj H
                        go_wp2_with (first | (go_at_call 8; (with_reducible refine (lighterlaw14_cleaned.calls kj26  t211 _ A44.out).mono ?_); rintro e w45 ⟨rfl, hb⟩; have n0_ := Aside0.mk (below_step (by repeat (first | (with_reducible first | exact HB.out | apply below_alloc | apply pw_below_drewN | apply below_drew1) | exact HB.out)) hb); clear HB; have HB := n0_; clear n0_; (try clear hb); (try clear hb2); (try clear hk); (try clear hi)))
                        go_ret
                        exact ⟨by first | rfl | (simp [errW_none, errW_some] <;> rfl) | (simp [*, errW_none, errW_some] <;> rfl), by repeat (first | (with_reducible first | exact HB.out | apply below_alloc | apply pw_below_drewN | apply below_drew1) | exact HB.out)⟩
                      · rw [if_neg c43] at H
                        have c43b0 : (x7_2.toList == ([] : List UInt8)) = false := beq_eq_false_iff_ne.mpr c43
                        have c43b1 : (x7_2.toList != ([] : List UInt8)) = true := bne_iff_ne.mpr c43
                        obtain rfl := Option.some.inj H
                        go_wp2
                        go_ret
                        exact ⟨by first | rfl | (simp [errW_none, errW_some] <;> rfl) | (simp [*, errW_none, errW_some] <;> rfl), by repeat (first | (with_reducible first | exact HB.out | apply below_alloc | apply pw_below_drewN | apply below_drew1) | exact HB.out)⟩
    · rw [if_neg c6] at H
      have c6b0 : (t198 == 0) = false := beq_eq_false_iff_ne.mpr c6
      have c6b1 : (t198 != 0) = true := bne_iff_ne.mpr c6
      by_cases c46 : t197.toList = ([] : List UInt8)
      · rw [if_pos c46] at H
        have c46b0 : (t197.toList == ([] : List UInt8)) = true := beq_iff_eq.mpr c46
        have c46b1 : (t197.toList != ([] : List UInt8)) = false := bne_eq_false_iff_eq.mpr c46
        clear c46
        replace H := Option.bind_eq_some_iff.mp H
        obtain ⟨t199, A470, H⟩ := H
        replace H : (if t199 = true then (some false) else ((lighterlaw14_cleaned.f k).bind fun t200 => (some t200))) = some r := H
        have A47 := Aside0.mk A470
        clear A470
        by_cases c48 : t199 = true
        · subst c48
          have H1 : (some false) = some r := by rw [if_pos rfl] at H; exact H
          clear H
          have H := H1
          clear H1
          obtain rfl := Option.some.inj H
          go_enter Tryd.func6, Tryd.ntmps6
          go_wp2_with (first | ((with_reducible refine gate_callee (f := 9) rfl ?_); refine goesL_ (some 16) rfl rfl Tryd.func9 (by kernel_rfl) rfl #[.string a0] rfl (by (try simp only [List.map_toArray, List.map_cons, List.map_nil]); first | done | rfl | (simp only [List.length_drop, List.length_take]; rfl)) ?_; (with_reducible refine (Hand.paths_Clean.calls a0 t197 t198 _ A5.out).mono ?_); rintro e w49 ⟨rfl, hb⟩; refine ⟨_, rfl, ?_⟩; have n0_ := Aside0.mk (below_step (by repeat (first | (with_reducible first | exact HB.out | apply below_alloc | apply pw_below_drewN | apply below_drew1) | exact HB.out)) hb); clear HB; have HB := n0_; clear n0_; (try clear hb); (try clear hb2); (try clear hk); (try clear hi)) | (go_at_call 17; (with_reducible refine (lighterlaw14_clean.calls k a0 true _ A47.out).mono ?_); rintro e w' ⟨rfl, ⟨nd, rfl⟩⟩))
          go_ret
          exact ⟨by first | rfl | (simp [errW_none, errW_some] <;> rfl) | (simp [*, errW_none, errW_some] <;> rfl), by repeat (first | (with_reducible first | exact HB.out | apply below_alloc | apply pw_below_drewN | apply below_drew1) | exact HB.out)⟩
        · replace c48 := Bool.eq_false_iff.mpr c48
          subst c48
          have H1 : ((lighterlaw14_cleaned.f k).bind fun t200 => (some t200)) = some r := by rw [if_neg (show ¬ (false = true) by decide)] at H; exact H
          clear H
          have H := H1
          clear H1
          replace H := Option.bind_eq_some_iff.mp H
          obtain ⟨t200, A500, H⟩ := H
          replace H : (some t200) = some r := H
          have A50 := Aside0.mk A500
          clear A500
          obtain rfl := Option.some.inj H
          go_enter Tryd.func6, Tryd.ntmps6
          go_wp2_with (first | ((with_reducible refine gate_callee (f := 9) rfl ?_); refine goesL_ (some 16) rfl rfl Tryd.func9 (by kernel_rfl) rfl #[.string a0] rfl (by (try simp only [List.map_toArray, List.map_cons, List.map_nil]); first | done | rfl | (simp only [List.length_drop, List.length_take]; rfl)) ?_; (with_reducible refine (Hand.paths_Clean.calls a0 t197 t198 _ A5.out).mono ?_); rintro e w51 ⟨rfl, hb⟩; refine ⟨_, rfl, ?_⟩; have n0_ := Aside0.mk (below_step (by repeat (first | (with_reducible first | exact HB.out | apply below_alloc | apply pw_below_drewN | apply below_drew1) | exact HB.out)) hb); clear HB; have HB := n0_; clear n0_; (try clear hb); (try clear hb2); (try clear hk); (try clear hi)) | (go_at_call 17; (with_reducible refine (lighterlaw14_clean.calls k a0 false _ A47.out).mono ?_); rintro e w' ⟨rfl, ⟨nd, rfl⟩⟩) | (go_at_call 8; (with_reducible refine (lighterlaw14_cleaned.calls k  t200 _ A50.out).mono ?_); rintro e w52 ⟨rfl, hb⟩; have n0_ := Aside0.mk (below_step (by repeat (first | (with_reducible first | exact HB.out | apply below_alloc | apply pw_below_drewN | apply below_drew1) | exact HB.out)) hb); clear HB; have HB := n0_; clear n0_; (try clear hb); (try clear hb2); (try clear hk); (try clear hi)))
          go_ret
          exact ⟨by first | rfl | (simp [errW_none, errW_some] <;> rfl) | (simp [*, errW_none, errW_some] <;> rfl), by repeat (first | (with_reducible first | exact HB.out | apply below_alloc | apply pw_below_drewN | apply below_drew1) | exact HB.out)⟩
      · rw [if_neg c46] at H
        have c46b0 : (t197.toList == ([] : List UInt8)) = false := beq_eq_false_iff_ne.mpr c46
        have c46b1 : (t197.toList != ([] : List UInt8)) = true := bne_iff_ne.mpr c46
        obtain rfl := Option.some.inj H
        go_enter Tryd.func6, Tryd.ntmps6
        go_wp2_with (first | ((with_reducible refine gate_callee (f := 9) rfl ?_); refine goesL_ (some 16) rfl rfl Tryd.func9 (by kernel_rfl) rfl #[.string a0] rfl (by (try simp only [List.map_toArray, List.map_cons, List.map_nil]); first | done | rfl | (simp only [List.length_drop, List.length_take]; rfl)) ?_; (with_reducible refine (Hand.paths_Clean.calls a0 t197 t198 _ A5.out).mono ?_); rintro e w53 ⟨rfl, hb⟩; refine ⟨_, rfl, ?_⟩; have n0_ := Aside0.mk (below_step (by repeat (first | (with_reducible first | exact HB.out | apply below_alloc | apply pw_below_drewN | apply below_drew1) | exact HB.out)) hb); clear HB; have HB := n0_; clear n0_; (try clear hb); (try clear hb2); (try clear hk); (try clear hi)))
        go_ret
        exact ⟨by first | rfl | (simp [errW_none, errW_some] <;> rfl) | (simp [*, errW_none, errW_some] <;> rfl), by repeat (first | (with_reducible first | exact HB.out | apply below_alloc | apply pw_below_drewN | apply below_drew1) | exact HB.out)⟩

/-- THE ONE PURE STATEMENT of lighterlaw14_PathsClean: yours. -/
def lighterlaw14_PathsClean.Pure : Prop := ∀ (a0 : ByteArray), a0.size ≤ 140737488351232 → ∃ k, lighterlaw14_PathsClean.f k a0 = some true
theorem lighterlaw14_PathsClean.walk (P : lighterlaw14_PathsClean.Pure) (a0 : ByteArray) (w : World) (w0 : a0.size ≤ 140737488351232) :
    Calls Tryd.prog 6 #[.string a0] w fun e w' => e = .returned (.bool true) ∧ Below w.heap.size w w' := by
  obtain ⟨k, h⟩ := P a0 w0
  refine (lighterlaw14_PathsClean.calls k a0 true w h).mono ?_
  rintro e w' ⟨rfl, hd⟩
  exact ⟨rfl, hd⟩

end Go.Proofs.YtoklancgpmnhcaaDoor.PAll
