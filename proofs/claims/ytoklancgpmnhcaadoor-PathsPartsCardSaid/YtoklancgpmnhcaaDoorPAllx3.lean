/- Functions of the program as plain Lean functions, and that the calls come to these: written by a program of this session. By an AI agent. -/
import Derived.Test.YtoklancgpmnhcaaDoorPAllx0
import Derived.Test.YtoklancgpmnhcaaDoorPAllx2
namespace Go.Proofs.YtoklancgpmnhcaaDoor.PAll
open Go.RowKit Go.Proofs.YtoklancgpmnhcaaDoorW.PrintWords Go.Proofs.YtoklancgpmnhcaaDoorW.PrintLast Go.Proofs.YtoklancgpmnhcaaDoorW.PrintMore
attribute [local go_sem] max2_int min2_int max_two min_two max_three min_three max_four min_four   -- for this text's walks alone
set_option linter.unusedVariables false
set_option linter.unusedSimpArgs false

/-! ### lighterref14_Clean: function 10 -/
mutual
def lighterref14_Clean.l0 : Nat → List ByteArray → List ByteArray → Int → Option (ByteArray × Int)
  | 0, _, _, _ => none
  | k + 1, x4, x5, x6 => if x6 < (x4.length : Int) then (if 0 ≤ x6 then (if (rdOf ByteArray.empty x4 x6).toList = ([] : List UInt8) then (lighterref14_Clean.j1 k x4 x5 x6 true) else (lighterref14_Clean.j1 k x4 x5 x6 ((rdOf ByteArray.empty x4 x6).toList == ([46] : List UInt8)))) else (none)) else ((lighterref14_joined.f k x5).bind fun t145 => (if (t145.size : Int) > 200 then (some ((⟨#[]⟩ : ByteArray), 3)) else (some (t145, 0))))
def lighterref14_Clean.j1 : Nat → List ByteArray → List ByteArray → Int → Bool → Option (ByteArray × Int)
  | 0, _, _, _, _ => none
  | k + 1, x4, x5, x6, x27 => if x27 = true then (lighterref14_Clean.l0 k x4 x5 (wrap64 (x6 + 1))) else (if 0 ≤ x6 then (if x6 < (x4.length : Int) then ((lighterref14_nought.f k (rdOf ByteArray.empty x4 x6)).bind fun t149 => (if t149 = true then (lighterref14_Clean.j2 k x4 x5 x6 true) else (if (rdOf ByteArray.empty x4 x6).toList = ([46, 46] : List UInt8) then (lighterref14_Clean.j2 k x4 x5 x6 ((x5.length : Int) == 0)) else (lighterref14_Clean.j2 k x4 x5 x6 false)))) else (none)) else (none))
def lighterref14_Clean.j2 : Nat → List ByteArray → List ByteArray → Int → Bool → Option (ByteArray × Int)
  | 0, _, _, _, _ => none
  | k + 1, x4, x5, x6, x44 => if x44 = true then (some ((⟨#[]⟩ : ByteArray), 71)) else (if 0 ≤ x6 then (if x6 < (x4.length : Int) then (if (rdOf ByteArray.empty x4 x6).toList = ([46, 46] : List UInt8) then (if 0 ≤ (wrap64 ((x5.length : Int) - 1)) then (if (wrap64 ((x5.length : Int) - 1)) ≤ (x5.length : Int) then ((some (x5.take ((wrap64 ((x5.length : Int) - 1)) : Int).toNat : List ByteArray)).bind fun y152 => (if ([] : List ByteArray).length + y152.length < 8796093022208 then (lighterref14_Clean.l0 k x4 (([] : List ByteArray) ++ y152) (wrap64 (x6 + 1))) else (none))) else (none)) else (none)) else (if x5.length < 8796093022208 then (lighterref14_Clean.l0 k x4 (x5 ++ [rdOf ByteArray.empty x4 x6]) (wrap64 (x6 + 1))) else (none))) else (none)) else (none))
end
def lighterref14_Clean.f (k : Nat) (a0 : ByteArray) : Option (ByteArray × Int) := (lighterref14_Parts.f k a0).bind fun t142 => (lighterref14_Clean.l0 k t142 ([] : List ByteArray) 0)
theorem lighterref14_Clean.mono_l : ∀ k, (∀ y0 y1 y2, LeO (lighterref14_Clean.l0 k y0 y1 y2) (lighterref14_Clean.l0 (k + 1) y0 y1 y2)) ∧ (∀ y0 y1 y2 y3, LeO (lighterref14_Clean.j1 k y0 y1 y2 y3) (lighterref14_Clean.j1 (k + 1) y0 y1 y2 y3)) ∧ (∀ y0 y1 y2 y3, LeO (lighterref14_Clean.j2 k y0 y1 y2 y3) (lighterref14_Clean.j2 (k + 1) y0 y1 y2 y3))
  | 0 => ⟨fun _ _ _ r h => by simp [lighterref14_Clean.l0] at h, fun _ _ _ _ r h => by simp [lighterref14_Clean.j1] at h, fun _ _ _ _ r h => by simp [lighterref14_Clean.j2] at h⟩
  | k + 1 => by
    obtain ⟨ih0, ih1, ih2⟩ := lighterref14_Clean.mono_l k
    refine ⟨?_, ?_, ?_⟩
    · intro y0 y1 y2
      unfold lighterref14_Clean.l0
      repeat' first
      | (with_reducible exact ih0 _ _ _)
      | (with_reducible exact ih1 _ _ _ _)
      | (with_reducible exact ih2 _ _ _ _)
      | (with_reducible exact lighterref14_Parts.mono _ _)
      | (with_reducible exact lighterref14_joined.mono _ _)
      | (with_reducible exact lighterref14_nought.mono _ _)
      | (with_reducible exact LeO.refl _)
      | (with_reducible exact LeO.none _)
      | (with_reducible refine LeO.ite ?_ ?_)
      | (with_reducible refine LeO.bind ?_ (fun _ => ?_))
      | exact ih0 _ _ _
      | exact ih1 _ _ _ _
      | exact ih2 _ _ _ _
      | exact lighterref14_Parts.mono _ _
      | exact lighterref14_joined.mono _ _
      | exact lighterref14_nought.mono _ _
      | exact LeO.none _
      | refine LeO.ite ?_ ?_
      | refine LeO.bind ?_ (fun _ => ?_)
    · intro y0 y1 y2 y3
      unfold lighterref14_Clean.j1
      repeat' first
      | (with_reducible exact ih0 _ _ _)
      | (with_reducible exact ih1 _ _ _ _)
      | (with_reducible exact ih2 _ _ _ _)
      | (with_reducible exact lighterref14_Parts.mono _ _)
      | (with_reducible exact lighterref14_joined.mono _ _)
      | (with_reducible exact lighterref14_nought.mono _ _)
      | (with_reducible exact LeO.refl _)
      | (with_reducible exact LeO.none _)
      | (with_reducible refine LeO.ite ?_ ?_)
      | (with_reducible refine LeO.bind ?_ (fun _ => ?_))
      | exact ih0 _ _ _
      | exact ih1 _ _ _ _
      | exact ih2 _ _ _ _
      | exact lighterref14_Parts.mono _ _
      | exact lighterref14_joined.mono _ _
      | exact lighterref14_nought.mono _ _
      | exact LeO.none _
      | refine LeO.ite ?_ ?_
      | refine LeO.bind ?_ (fun _ => ?_)
    · intro y0 y1 y2 y3
      unfold lighterref14_Clean.j2
      repeat' first
      | (with_reducible exact ih0 _ _ _)
      | (with_reducible exact ih1 _ _ _ _)
      | (with_reducible exact ih2 _ _ _ _)
      | (with_reducible exact lighterref14_Parts.mono _ _)
      | (with_reducible exact lighterref14_joined.mono _ _)
      | (with_reducible exact lighterref14_nought.mono _ _)
      | (with_reducible exact LeO.refl _)
      | (with_reducible exact LeO.none _)
      | (with_reducible refine LeO.ite ?_ ?_)
      | (with_reducible refine LeO.bind ?_ (fun _ => ?_))
      | exact ih0 _ _ _
      | exact ih1 _ _ _ _
      | exact ih2 _ _ _ _
      | exact lighterref14_Parts.mono _ _
      | exact lighterref14_joined.mono _ _
      | exact lighterref14_nought.mono _ _
      | exact LeO.none _
      | refine LeO.ite ?_ ?_
      | refine LeO.bind ?_ (fun _ => ?_)
theorem lighterref14_Clean.mono : ∀ a0 k, LeO (lighterref14_Clean.f k a0) (lighterref14_Clean.f (k + 1) a0) := by
  intro a0 k
  obtain ⟨ih0, ih1, ih2⟩ := lighterref14_Clean.mono_l k
  unfold lighterref14_Clean.f
  repeat' first
      | (with_reducible exact ih0 _ _ _)
      | (with_reducible exact ih1 _ _ _ _)
      | (with_reducible exact ih2 _ _ _ _)
      | (with_reducible exact lighterref14_Parts.mono _ _)
      | (with_reducible exact lighterref14_joined.mono _ _)
      | (with_reducible exact lighterref14_nought.mono _ _)
      | (with_reducible exact LeO.refl _)
      | (with_reducible exact LeO.none _)
      | (with_reducible refine LeO.ite ?_ ?_)
      | (with_reducible refine LeO.bind ?_ (fun _ => ?_))
      | exact ih0 _ _ _
      | exact ih1 _ _ _ _
      | exact ih2 _ _ _ _
      | exact lighterref14_Parts.mono _ _
      | exact lighterref14_joined.mono _ _
      | exact lighterref14_nought.mono _ _
      | exact LeO.none _
      | refine LeO.ite ?_ ?_
      | refine LeO.bind ?_ (fun _ => ?_)
set_option maxHeartbeats 8000000 in
set_option maxRecDepth 100000 in
theorem lighterref14_Clean.calls (k : Nat) (a0 : ByteArray) (r1 : ByteArray) (r2 : Int) (w : World) (h : lighterref14_Clean.f k a0 = some (r1, r2)) :
    Calls Tryd.prog 10 #[.string a0] w fun e w' => e = .returned (.tuple #[.string r1, .int .i64 r2]) ∧ Below w.heap.size w w' := by
  have HB := Aside0.mk (Below.refl w.heap.size w)
  have H : ((lighterref14_Parts.f k a0).bind fun t142 => (lighterref14_Clean.l0 k t142 ([] : List ByteArray) 0)) = some (r1, r2) := h
  clear h
  replace H := Option.bind_eq_some_iff.mp H
  obtain ⟨t142, A20, H⟩ := H
  replace H : (lighterref14_Clean.l0 k t142 ([] : List ByteArray) 0) = some (r1, r2) := H
  have A2 := Aside0.mk A20
  clear A20
  have H' := Aside0.mk H
  clear H
  go_enter Tryd.func10, Tryd.ntmps10
  go_wp2_with (first | ((with_reducible refine gate_callee (f := 25) rfl ?_); refine goesL_ (some 9) rfl rfl Tryd.func25 (by kernel_rfl) rfl #[.string a0] rfl (by (try simp only [List.map_toArray, List.map_cons, List.map_nil]); first | done | rfl | (simp only [List.length_drop, List.length_take]; rfl)) ?_; (with_reducible refine (lighterref14_Parts.calls k a0 t142 _ A2.out).mono ?_); rintro e w3 ⟨v143, rfl, ho0, hb⟩; refine ⟨_, rfl, ?_⟩; have n0_ := Aside0.mk (Kd.R_lower ho0 (below_size (by repeat (first | (with_reducible first | exact HB.out | apply below_alloc | apply pw_below_drewN | apply below_drew1) | exact HB.out)))); have n1_ := Aside0.mk (below_step (by repeat (first | (with_reducible first | exact HB.out | apply below_alloc | apply pw_below_drewN | apply below_drew1) | exact HB.out)) hb); clear HB; have HO144 := n0_; have HB := n1_; clear n0_ n1_; (try clear hb); (try clear hb2); (try clear hk); (try clear hi); (try clear ho0)))
  go_loopg [5, 6] k (fun kq v5 v6 w' => ∃ (x5_1 : List ByteArray) (x6_1 : Int), v6 = .int .i64 x6_1 ∧ Aside0 (lighterref14_Clean.l0 kq t142 x5_1 x6_1 = some (r1, r2)) ∧ Aside0 (kq ≤ k) ∧ Aside0 (Kd.R Kd.string 9 w' w.heap.size (fun k_ => some k_ ≠ (v5 : Value).ownBlock) v143 t142) ∧ Aside0 (Kd.R Kd.string 9 w' w.heap.size (fun k_ => some k_ ≠ (v143 : Value).ownBlock) v5 x5_1) ∧ Aside0 (Below w.heap.size w w'))
  case atStart => exact ⟨(([] : List ByteArray)), (0), (by first | rfl | (simp; done) | (simp [*]; done) | (simp [*, bne_nil_e, beq_nil_e]; done)), H', ⟨Nat.le_refl _⟩, ⟨by (with_reducible repeat (first | apply Kd.R_alloc | apply Kd.R_drewN | apply Kd.R_drew)); exact Kd.R_mono HO144.out (fun _ hk => (by simp [Value.ownBlock]))⟩, ⟨by first | exact Kd.R_nil _ _ _ _ _ | exact Kd.N_nil _ _ _ _ _ | exact Kd.V_nil _ _ _ _ _ | exact Kd.Q_nil _ _ _ _ _ | exact Kd.S_nil _ _ _ _ _⟩, ⟨by repeat (first | (with_reducible first | exact HB.out | apply below_alloc | apply pw_below_drewN | apply below_drew1) | exact HB.out)⟩⟩
  case round =>
    clear H'
    try clear c1
    try clear c2
    try clear p2
    obtain ⟨x5_1, x6_1, rfl, HA, HK1, HO_4, HO_5, HB⟩ := hrel
    cases gk with
    | zero => exact absurd HA.out (by simp [lighterref14_Clean.l0])
    | succ k1 =>
      have H := HA.out
      clear HA
      simp only [lighterref14_Clean.l0] at H
      by_cases c4 : x6_1 < (t142.length : Int)
      · rw [if_pos c4] at H
        have c4b0 : decide (x6_1 < (t142.length : Int)) = true := decide_eq_true c4
        clear c4
        have HC5 := Aside0.mk H
        clear H
        obtain ⟨Ao6, co6, eo6⟩ := Kd.R_slice HO_4.out
        subst eo6
        go_upto_region 6 with (fail)
        go_cut [27] (fun v27 wc => ∃ (kq : Nat) (x27_4 : Bool), v27 = .bool x27_4 ∧ Aside0 (lighterref14_Clean.j1 kq t142 x5_1 x6_1 x27_4 = some (r1, r2)) ∧ Aside0 (kq ≤ k1) ∧ Aside0 (Kd.R Kd.string 9 wc w.heap.size (fun k_ => some k_ ≠ (u5 : Value).ownBlock) (.slice Ao6 t142.length co6) t142) ∧ Aside0 (Kd.R Kd.string 9 wc w.heap.size (fun k_ => some k_ ≠ ((.slice Ao6 t142.length co6) : Value).ownBlock) u5 x5_1) ∧ Aside0 (Below w.heap.size w wc))
        case first =>
          have H := HC5.out
          clear HC5
          by_cases c7 : 0 ≤ x6_1
          · rw [if_pos c7] at H
            have c7b0 : decide (0 ≤ x6_1) = true := decide_eq_true c7
            clear c7
            (first | rw [c7b0] | (simp only [i64_w, i32_w]; rw [c7b0]) | skip)
            by_cases c8 : (rdOf ByteArray.empty t142 x6_1).toList = ([] : List UInt8)
            · rw [if_pos c8] at H
              have c8b0 : ((rdOf ByteArray.empty t142 x6_1).toList == ([] : List UInt8)) = true := beq_iff_eq.mpr c8
              have c8b1 : ((rdOf ByteArray.empty t142 x6_1).toList != ([] : List UInt8)) = false := bne_eq_false_iff_eq.mpr c8
              clear c8
              have H' := Aside0.mk H
              clear H
              have p146 : 0 ≤ (x6_1 : Int) := of_decide_eq_true (by first | (with_reducible assumption) | assumption)
              have q146 : x6_1 < (t142.length : Int) := of_decide_eq_true (by first | (with_reducible assumption) | assumption)
              obtain ⟨ad146, e146, hx146_0⟩ := Kd.at_string (Kd.R_reads' HO_4.out).2.2 x6_1 p146 q146
              cases e146
              replace p146 := eq_true p146
              replace q146 := eq_true q146
              go_wp2
              go_meet
              case rel => exact ⟨_, (true), (by first | rfl | (simp; done) | (simp [*]; done) | (simp [*, bne_nil_e, beq_nil_e]; done)), H', ⟨by have := HK1.out; first | omega | exact Nat.le_refl _⟩, ⟨by (with_reducible repeat (first | apply Kd.R_alloc | apply Kd.R_drewN | apply Kd.R_drew)); exact HO_4.out⟩, ⟨by (with_reducible repeat (first | apply Kd.R_alloc | apply Kd.R_drewN | apply Kd.R_drew)); exact HO_5.out⟩, ⟨by repeat (first | (with_reducible first | exact HB.out | apply below_alloc | apply pw_below_drewN | apply below_drew1) | exact HB.out)⟩⟩
            · rw [if_neg c8] at H
              have c8b0 : ((rdOf ByteArray.empty t142 x6_1).toList == ([] : List UInt8)) = false := beq_eq_false_iff_ne.mpr c8
              have c8b1 : ((rdOf ByteArray.empty t142 x6_1).toList != ([] : List UInt8)) = true := bne_iff_ne.mpr c8
              have H' := Aside0.mk H
              clear H
              have p146 : 0 ≤ (x6_1 : Int) := of_decide_eq_true (by first | (with_reducible assumption) | assumption)
              have q146 : x6_1 < (t142.length : Int) := of_decide_eq_true (by first | (with_reducible assumption) | assumption)
              obtain ⟨ad146, e146, hx146_0⟩ := Kd.at_string (Kd.R_reads' HO_4.out).2.2 x6_1 p146 q146
              cases e146
              replace p146 := eq_true p146
              replace q146 := eq_true q146
              have p147 : 0 ≤ (x6_1 : Int) := of_decide_eq_true (by first | (with_reducible assumption) | assumption)
              have q147 : x6_1 < (t142.length : Int) := of_decide_eq_true (by first | (with_reducible assumption) | assumption)
              obtain ⟨ad147, e147, hx147_0⟩ := Kd.at_string (Kd.R_reads' HO_4.out).2.2 x6_1 p147 q147
              obtain rfl : ad146 = ad147 := (by injection e147)
              replace p147 := eq_true p147
              replace q147 := eq_true q147
              go_wp2
              go_meet
              case rel => exact ⟨_, (((rdOf ByteArray.empty t142 x6_1).toList == ([46] : List UInt8))), (by first | rfl | (simp; done) | (simp [*]; done) | (simp [*, bne_nil_e, beq_nil_e]; done)), H', ⟨by have := HK1.out; first | omega | exact Nat.le_refl _⟩, ⟨by (with_reducible repeat (first | apply Kd.R_alloc | apply Kd.R_drewN | apply Kd.R_drew)); exact HO_4.out⟩, ⟨by (with_reducible repeat (first | apply Kd.R_alloc | apply Kd.R_drewN | apply Kd.R_drew)); exact HO_5.out⟩, ⟨by repeat (first | (with_reducible first | exact HB.out | apply below_alloc | apply pw_below_drewN | apply below_drew1) | exact HB.out)⟩⟩
          · rw [if_neg c7] at H
            exact absurd H (by simp)
        case rest =>
          clear HC5
          try clear c1
          try clear p1
          try clear q1
          try clear hx1
          try clear c2
          try clear p2
          try clear c4
          try clear c4b0
          try clear c7
          try clear c7b0
          try clear c8
          try clear c8b0
          try clear c8b1
          try clear hx146_0
          try clear hx147_0
          try clear p146
          try clear p147
          try clear p2
          try clear q146
          try clear q147
          obtain ⟨kq, x27_4, rfl, HA, HJ4, HO_4, HO_5, HB⟩ := hcut
          cases kq with
          | zero => exact absurd HA.out (by simp [lighterref14_Clean.j1])
          | succ kj4 =>
            have H := HA.out
            clear HA
            simp only [lighterref14_Clean.j1] at H
            by_cases c9 : x27_4 = true
            · subst c9
              have H1 : (lighterref14_Clean.l0 kj4 t142 x5_1 (wrap64 (x6_1 + 1))) = some (r1, r2) := by rw [if_pos rfl] at H; exact H
              clear H
              have H := H1
              clear H1
              have H' := Aside0.mk H
              clear H
              go_wp2
              go_roundg kj4
              case measure => have := HK1.out; have := HJ4.out; omega
              case rel => exact ⟨(x5_1), (wrap64 (x6_1 + 1)), (by first | rfl | (simp; done) | (simp [*]; done) | (simp [*, bne_nil_e, beq_nil_e]; done)), H', ⟨by have := HK1.out; have := HJ4.out; omega⟩, ⟨by (with_reducible repeat (first | apply Kd.R_alloc | apply Kd.R_drewN | apply Kd.R_drew)); exact HO_4.out⟩, ⟨by (with_reducible repeat (first | apply Kd.R_alloc | apply Kd.R_drewN | apply Kd.R_drew)); exact HO_5.out⟩, ⟨by repeat (first | (with_reducible first | exact HB.out | apply below_alloc | apply pw_below_drewN | apply below_drew1) | exact HB.out)⟩⟩
            · replace c9 := Bool.eq_false_iff.mpr c9
              subst c9
              have H1 : (if 0 ≤ x6_1 then (if x6_1 < (t142.length : Int) then ((lighterref14_nought.f kj4 (rdOf ByteArray.empty t142 x6_1)).bind fun t149 => (if t149 = true then (lighterref14_Clean.j2 kj4 t142 x5_1 x6_1 true) else (if (rdOf ByteArray.empty t142 x6_1).toList = ([46, 46] : List UInt8) then (lighterref14_Clean.j2 kj4 t142 x5_1 x6_1 ((x5_1.length : Int) == 0)) else (lighterref14_Clean.j2 kj4 t142 x5_1 x6_1 false)))) else (none)) else (none)) = some (r1, r2) := by rw [if_neg (show ¬ (false = true) by decide)] at H; exact H
              clear H
              have H := H1
              clear H1
              have HC10 := Aside0.mk H
              clear H
              go_upto_region 7 with (fail)
              go_cut [44] (fun v44 wc => ∃ (kq : Nat) (x44_9 : Bool), v44 = .bool x44_9 ∧ Aside0 (lighterref14_Clean.j2 kq t142 x5_1 x6_1 x44_9 = some (r1, r2)) ∧ Aside0 (kq ≤ kj4) ∧ Aside0 (Kd.R Kd.string 9 wc w.heap.size (fun k_ => some k_ ≠ (u5 : Value).ownBlock) (.slice Ao6 t142.length co6) t142) ∧ Aside0 (Kd.R Kd.string 9 wc w.heap.size (fun k_ => some k_ ≠ ((.slice Ao6 t142.length co6) : Value).ownBlock) u5 x5_1) ∧ Aside0 (Below w.heap.size w wc))
              case first =>
                have H := HC10.out
                clear HC10
                by_cases c11 : 0 ≤ x6_1
                · rw [if_pos c11] at H
                  have c11b0 : decide (0 ≤ x6_1) = true := decide_eq_true c11
                  clear c11
                  (first | rw [c11b0] | (simp only [i64_w, i32_w]; rw [c11b0]) | skip)
                  by_cases c12 : x6_1 < (t142.length : Int)
                  · rw [if_pos c12] at H
                    have c12b0 : decide (x6_1 < (t142.length : Int)) = true := decide_eq_true c12
                    clear c12
                    replace H := Option.bind_eq_some_iff.mp H
                    obtain ⟨t149, A130, H⟩ := H
                    replace H : (if t149 = true then (lighterref14_Clean.j2 kj4 t142 x5_1 x6_1 true) else (if (rdOf ByteArray.empty t142 x6_1).toList = ([46, 46] : List UInt8) then (lighterref14_Clean.j2 kj4 t142 x5_1 x6_1 ((x5_1.length : Int) == 0)) else (lighterref14_Clean.j2 kj4 t142 x5_1 x6_1 false))) = some (r1, r2) := H
                    have A13 := Aside0.mk A130
                    clear A130
                    by_cases c14 : t149 = true
                    · subst c14
                      have H1 : (lighterref14_Clean.j2 kj4 t142 x5_1 x6_1 true) = some (r1, r2) := by rw [if_pos rfl] at H; exact H
                      clear H
                      have H := H1
                      clear H1
                      have H' := Aside0.mk H
                      clear H
                      have p148 : 0 ≤ (x6_1 : Int) := of_decide_eq_true (by first | (with_reducible assumption) | assumption)
                      have q148 : x6_1 < (t142.length : Int) := of_decide_eq_true (by first | (with_reducible assumption) | assumption)
                      obtain ⟨ad148, e148, hx148_0⟩ := Kd.at_string (Kd.R_reads' HO_4.out).2.2 x6_1 p148 q148
                      cases e148
                      replace p148 := eq_true p148
                      replace q148 := eq_true q148
                      go_wp2_with (first | ((with_reducible refine gate_callee (f := 26) rfl ?_); refine goesL_ (some 32) rfl rfl Tryd.func26 (by kernel_rfl) rfl #[.string (rdOf ByteArray.empty t142 x6_1)] rfl (by (try simp only [List.map_toArray, List.map_cons, List.map_nil]); first | done | rfl | (simp only [List.length_drop, List.length_take]; rfl)) ?_; (with_reducible refine (lighterref14_nought.calls kj4 (rdOf ByteArray.empty t142 x6_1) true _ A13.out).mono ?_); rintro e w' ⟨rfl, ⟨nd, rfl⟩⟩; refine ⟨_, rfl, ?_⟩))
                      go_meet
                      case rel => exact ⟨_, (true), (by first | rfl | (simp; done) | (simp [*]; done) | (simp [*, bne_nil_e, beq_nil_e]; done)), H', ⟨by have := HK1.out; have := HJ4.out; first | omega | exact Nat.le_refl _⟩, ⟨by (with_reducible repeat (first | apply Kd.R_alloc | apply Kd.R_drewN | apply Kd.R_drew)); exact HO_4.out⟩, ⟨by (with_reducible repeat (first | apply Kd.R_alloc | apply Kd.R_drewN | apply Kd.R_drew)); exact HO_5.out⟩, ⟨by repeat (first | (with_reducible first | exact HB.out | apply below_alloc | apply pw_below_drewN | apply below_drew1) | exact HB.out)⟩⟩
                    · replace c14 := Bool.eq_false_iff.mpr c14
                      subst c14
                      have H1 : (if (rdOf ByteArray.empty t142 x6_1).toList = ([46, 46] : List UInt8) then (lighterref14_Clean.j2 kj4 t142 x5_1 x6_1 ((x5_1.length : Int) == 0)) else (lighterref14_Clean.j2 kj4 t142 x5_1 x6_1 false)) = some (r1, r2) := by rw [if_neg (show ¬ (false = true) by decide)] at H; exact H
                      clear H
                      have H := H1
                      clear H1
                      by_cases c15 : (rdOf ByteArray.empty t142 x6_1).toList = ([46, 46] : List UInt8)
                      · rw [if_pos c15] at H
                        have c15b0 : ((rdOf ByteArray.empty t142 x6_1).toList == ([46, 46] : List UInt8)) = true := beq_iff_eq.mpr c15
                        have c15b1 : ((rdOf ByteArray.empty t142 x6_1).toList != ([46, 46] : List UInt8)) = false := bne_eq_false_iff_eq.mpr c15
                        clear c15
                        have H' := Aside0.mk H
                        clear H
                        have p148 : 0 ≤ (x6_1 : Int) := of_decide_eq_true (by first | (with_reducible assumption) | assumption)
                        have q148 : x6_1 < (t142.length : Int) := of_decide_eq_true (by first | (with_reducible assumption) | assumption)
                        obtain ⟨ad148, e148, hx148_0⟩ := Kd.at_string (Kd.R_reads' HO_4.out).2.2 x6_1 p148 q148
                        cases e148
                        replace p148 := eq_true p148
                        replace q148 := eq_true q148
                        go_wp2_with (first | ((with_reducible refine gate_callee (f := 26) rfl ?_); refine goesL_ (some 32) rfl rfl Tryd.func26 (by kernel_rfl) rfl #[.string (rdOf ByteArray.empty t142 x6_1)] rfl (by (try simp only [List.map_toArray, List.map_cons, List.map_nil]); first | done | rfl | (simp only [List.length_drop, List.length_take]; rfl)) ?_; (with_reducible refine (lighterref14_nought.calls kj4 (rdOf ByteArray.empty t142 x6_1) false _ A13.out).mono ?_); rintro e w' ⟨rfl, ⟨nd, rfl⟩⟩; refine ⟨_, rfl, ?_⟩; have p150 : 0 ≤ (x6_1 : Int) := of_decide_eq_true (by first | (with_reducible assumption) | assumption); have q150 : x6_1 < (t142.length : Int) := of_decide_eq_true (by first | (with_reducible assumption) | assumption); obtain ⟨ad150, e150, hx150_0⟩ := Kd.at_string (Kd.R_reads' HO_4.out).2.2 x6_1 p150 q150; obtain rfl : ad148 = ad150 := (by injection e150); replace p150 := eq_true p150; replace q150 := eq_true q150; obtain ⟨Ao16, co16, eo16⟩ := Kd.R_slice HO_5.out; subst eo16))
                        go_meet
                        case rel => exact ⟨_, (((x5_1.length : Int) == 0)), (by first | rfl | (simp; done) | (simp [*]; done) | (simp [*, bne_nil_e, beq_nil_e]; done)), H', ⟨by have := HK1.out; have := HJ4.out; first | omega | exact Nat.le_refl _⟩, ⟨by (with_reducible repeat (first | apply Kd.R_alloc | apply Kd.R_drewN | apply Kd.R_drew)); exact HO_4.out⟩, ⟨by (with_reducible repeat (first | apply Kd.R_alloc | apply Kd.R_drewN | apply Kd.R_drew)); exact HO_5.out⟩, ⟨by repeat (first | (with_reducible first | exact HB.out | apply below_alloc | apply pw_below_drewN | apply below_drew1) | exact HB.out)⟩⟩
                      · rw [if_neg c15] at H
                        have c15b0 : ((rdOf ByteArray.empty t142 x6_1).toList == ([46, 46] : List UInt8)) = false := beq_eq_false_iff_ne.mpr c15
                        have c15b1 : ((rdOf ByteArray.empty t142 x6_1).toList != ([46, 46] : List UInt8)) = true := bne_iff_ne.mpr c15
                        have H' := Aside0.mk H
                        clear H
                        have p148 : 0 ≤ (x6_1 : Int) := of_decide_eq_true (by first | (with_reducible assumption) | assumption)
                        have q148 : x6_1 < (t142.length : Int) := of_decide_eq_true (by first | (with_reducible assumption) | assumption)
                        obtain ⟨ad148, e148, hx148_0⟩ := Kd.at_string (Kd.R_reads' HO_4.out).2.2 x6_1 p148 q148
                        cases e148
                        replace p148 := eq_true p148
                        replace q148 := eq_true q148
                        go_wp2_with (first | ((with_reducible refine gate_callee (f := 26) rfl ?_); refine goesL_ (some 32) rfl rfl Tryd.func26 (by kernel_rfl) rfl #[.string (rdOf ByteArray.empty t142 x6_1)] rfl (by (try simp only [List.map_toArray, List.map_cons, List.map_nil]); first | done | rfl | (simp only [List.length_drop, List.length_take]; rfl)) ?_; (with_reducible refine (lighterref14_nought.calls kj4 (rdOf ByteArray.empty t142 x6_1) false _ A13.out).mono ?_); rintro e w' ⟨rfl, ⟨nd, rfl⟩⟩; refine ⟨_, rfl, ?_⟩; have p150 : 0 ≤ (x6_1 : Int) := of_decide_eq_true (by first | (with_reducible assumption) | assumption); have q150 : x6_1 < (t142.length : Int) := of_decide_eq_true (by first | (with_reducible assumption) | assumption); obtain ⟨ad150, e150, hx150_0⟩ := Kd.at_string (Kd.R_reads' HO_4.out).2.2 x6_1 p150 q150; obtain rfl : ad148 = ad150 := (by injection e150); replace p150 := eq_true p150; replace q150 := eq_true q150))
                        go_meet
                        case rel => exact ⟨_, (false), (by first | rfl | (simp; done) | (simp [*]; done) | (simp [*, bne_nil_e, beq_nil_e]; done)), H', ⟨by have := HK1.out; have := HJ4.out; first | omega | exact Nat.le_refl _⟩, ⟨by (with_reducible repeat (first | apply Kd.R_alloc | apply Kd.R_drewN | apply Kd.R_drew)); exact HO_4.out⟩, ⟨by (with_reducible repeat (first | apply Kd.R_alloc | apply Kd.R_drewN | apply Kd.R_drew)); exact HO_5.out⟩, ⟨by repeat (first | (with_reducible first | exact HB.out | apply below_alloc | apply pw_below_drewN | apply below_drew1) | exact HB.out)⟩⟩
                  · rw [if_neg c12] at H
                    exact absurd H (by simp)
                · rw [if_neg c11] at H
                  exact absurd H (by simp)
              case rest =>
                clear HC10
                try clear c1
                try clear p1
                try clear q1
                try clear hx1
                try clear c2
                try clear p2
                try clear c4
                try clear c4b0
                try clear p6
                try clear c7
                try clear c7b0
                try clear c8
                try clear c8b0
                try clear c8b1
                try clear c9
                try clear c10
                try clear c11
                try clear c11b0
                try clear c12
                try clear c12b0
                try clear c14
                try clear p14
                try clear q14
                try clear hx14
                try clear c15
                try clear c15b0
                try clear c15b1
                try clear p15
                try clear q15
                try clear hx15
                try clear hx146_0
                try clear hx147_0
                try clear hx148_0
                try clear hx150_0
                try clear p1
                try clear p146
                try clear p147
                try clear p148
                try clear p150
                try clear p2
                try clear q1
                try clear q146
                try clear q147
                try clear q148
                try clear q150
                obtain ⟨kq, x44_9, rfl, HA, HJ9, HO_4, HO_5, HB⟩ := hcut
                cases kq with
                | zero => exact absurd HA.out (by simp [lighterref14_Clean.j2])
                | succ kj9 =>
                  have H := HA.out
                  clear HA
                  simp only [lighterref14_Clean.j2] at H
                  by_cases c17 : x44_9 = true
                  · subst c17
                    have H1 : (some ((⟨#[]⟩ : ByteArray), 71)) = some (r1, r2) := by rw [if_pos rfl] at H; exact H
                    clear H
                    have H := H1
                    clear H1
                    simp only [Option.some.injEq, Prod.mk.injEq] at H
                    obtain ⟨rfl, rfl⟩ := H
                    go_wp2
                    go_ret2
                    exact ⟨by first | rfl | (simp [errW_none, errW_some] <;> rfl) | (simp [*, errW_none, errW_some] <;> rfl), by repeat (first | (with_reducible first | exact HB.out | apply below_alloc | apply pw_below_drewN | apply below_drew1) | exact HB.out)⟩
                  · replace c17 := Bool.eq_false_iff.mpr c17
                    subst c17
                    have H1 : (if 0 ≤ x6_1 then (if x6_1 < (t142.length : Int) then (if (rdOf ByteArray.empty t142 x6_1).toList = ([46, 46] : List UInt8) then (if 0 ≤ (wrap64 ((x5_1.length : Int) - 1)) then (if (wrap64 ((x5_1.length : Int) - 1)) ≤ (x5_1.length : Int) then ((some (x5_1.take ((wrap64 ((x5_1.length : Int) - 1)) : Int).toNat : List ByteArray)).bind fun y152 => (if ([] : List ByteArray).length + y152.length < 8796093022208 then (lighterref14_Clean.l0 kj9 t142 (([] : List ByteArray) ++ y152) (wrap64 (x6_1 + 1))) else (none))) else (none)) else (none)) else (if x5_1.length < 8796093022208 then (lighterref14_Clean.l0 kj9 t142 (x5_1 ++ [rdOf ByteArray.empty t142 x6_1]) (wrap64 (x6_1 + 1))) else (none))) else (none)) else (none)) = some (r1, r2) := by rw [if_neg (show ¬ (false = true) by decide)] at H; exact H
                    clear H
                    have H := H1
                    clear H1
                    by_cases c18 : 0 ≤ x6_1
                    · rw [if_pos c18] at H
                      have c18b0 : decide (0 ≤ x6_1) = true := decide_eq_true c18
                      clear c18
                      by_cases c19 : x6_1 < (t142.length : Int)
                      · rw [if_pos c19] at H
                        have c19b0 : decide (x6_1 < (t142.length : Int)) = true := decide_eq_true c19
                        clear c19
                        by_cases c20 : (rdOf ByteArray.empty t142 x6_1).toList = ([46, 46] : List UInt8)
                        · rw [if_pos c20] at H
                          have c20b0 : ((rdOf ByteArray.empty t142 x6_1).toList == ([46, 46] : List UInt8)) = true := beq_iff_eq.mpr c20
                          have c20b1 : ((rdOf ByteArray.empty t142 x6_1).toList != ([46, 46] : List UInt8)) = false := bne_eq_false_iff_eq.mpr c20
                          clear c20
                          obtain ⟨ji21, hji21⟩ : ∃ j_ : Int, (wrap64 ((x5_1.length : Int) - 1)) = j_ := ⟨_, rfl⟩
                          replace H : (if 0 ≤ (ji21) then (if (ji21) ≤ (x5_1.length : Int) then ((some (x5_1.take ((ji21) : Int).toNat : List ByteArray)).bind fun y152 => (if ([] : List ByteArray).length + y152.length < 8796093022208 then (lighterref14_Clean.l0 kj9 t142 (([] : List ByteArray) ++ y152) (wrap64 (x6_1 + 1))) else (none))) else (none)) else (none)) = some (r1, r2) := by first | (rw [hji21] at H; exact H) | (simp only [hji21] at H ⊢; exact H)
                          have hji21w : (IntKind.i64.wrap ((x5_1.length : Int) - 1)) = ji21 := (i64_w _).trans hji21
                          by_cases c22 : 0 ≤ (ji21)
                          · rw [if_pos c22] at H
                            have c22b0 := eq_true c22
                            have c22b1 : decide (0 ≤ (ji21)) = true := decide_eq_true c22
                            clear c22
                            by_cases c23 : (ji21) ≤ (x5_1.length : Int)
                            · rw [if_pos c23] at H
                              have c23b0 := eq_true c23
                              have c23b1 : decide ((ji21) ≤ (x5_1.length : Int)) = true := decide_eq_true c23
                              clear c23
                              obtain ⟨y152, hy152⟩ : ∃ y_ : List ByteArray, y_ = (x5_1.take ((ji21) : Int).toNat) := ⟨_, rfl⟩
                              replace H : (if ([] : List ByteArray).length + y152.length < 8796093022208 then (lighterref14_Clean.l0 kj9 t142 (([] : List ByteArray) ++ y152) (wrap64 (x6_1 + 1))) else (none)) = some (r1, r2) := by first | (rw [hy152]; with_reducible exact H) | (have H2_ := (Option.bind_some _ _).symm.trans H; rw [hy152]; with_reducible exact H2_) | (have H2_ := (Option.bind_some _ _).symm.trans H; with_reducible exact H2_) | with_reducible exact H | (rw [hy152]; exact H) | exact H
                              have Ny152 := Aside0.mk hy152
                              clear hy152
                              by_cases c24 : ([] : List ByteArray).length + y152.length < 8796093022208
                              · rw [if_pos c24] at H
                                have LMc24 := Aside0.mk c24
                                clear c24
                                obtain ⟨y156, hy156⟩ : ∃ y_ : List ByteArray, y_ = (([] : List ByteArray) ++ y152) := ⟨_, rfl⟩
                                replace H : (lighterref14_Clean.l0 kj9 t142 y156 (wrap64 (x6_1 + 1))) = some (r1, r2) := by first | (rw [hy156]; with_reducible exact H) | (have H2_ := (Option.bind_some _ _).symm.trans H; rw [hy156]; with_reducible exact H2_) | (have H2_ := (Option.bind_some _ _).symm.trans H; with_reducible exact H2_) | with_reducible exact H | (rw [hy156]; exact H) | exact H
                                have Ny156 := Aside0.mk hy156
                                clear hy156
                                have H' := Aside0.mk H
                                clear H
                                have p151 : 0 ≤ (x6_1 : Int) := of_decide_eq_true (by first | (with_reducible assumption) | assumption)
                                have q151 : x6_1 < (t142.length : Int) := of_decide_eq_true (by first | (with_reducible assumption) | assumption)
                                obtain ⟨ad151, e151, hx151_0⟩ := Kd.at_string (Kd.R_reads' HO_4.out).2.2 x6_1 p151 q151
                                cases e151
                                replace p151 := eq_true p151
                                replace q151 := eq_true q151
                                obtain ⟨Ao25, co25, eo25⟩ := Kd.R_slice HO_5.out
                                subst eo25
                                have q26 : ((ji21) : Int) ≤ ((x5_1.length : Int) : Int) := of_decide_eq_true (by first | (with_reducible assumption) | assumption)
                                obtain ⟨i026, hi026, _, hsz26, _⟩ := info_parts info9
                                have hroom26 : x5_1.length ≤ co25 := (Kd.R_reads' HO_5.out).2.1
                                have hC26 : Kd.C Kd.string _ Ao25 x5_1.length x5_1 := (Kd.R_reads' HO_5.out).2.2
                                have hcut26 := cut_to (P := Tryd.prog) 35 9 .i64 Tryd.underlying35 hi026 Ao25 x5_1.length co25 (ji21) (of_decide_eq_true (by first | (with_reducible assumption) | assumption)) q26 hroom26
                                have hr26 := Kd.C_take (m := ((ji21) : Int).toNat) hC26 (by omega)
                                have hy26 : y152.length = ((ji21) : Int).toNat := (by rw [Ny152.out, List.length_take]; omega)
                                rw [← Ny152.out] at hr26
                                rw [← hy26] at hcut26
                                have HR155 := Aside0.mk hr26
                                have HC155 := Aside0.mk (show y152.length ≤ co25 from by omega)
                                clear hr26 hC26 hroom26 hi026 hsz26
                                have KY26 := Aside0.mk hy26
                                clear hy26
                                have KL26 := Aside0.mk (show ((ji21) : Int).toNat ≤ x5_1.length from by omega)
                                replace q26 := eq_true q26
                                go_wp2_with (first | ((with_reducible refine gate_builtin (b := .append) (xs := #[.const (.slice none 0 0), .tmp 54]) rfl ?_); (try (refine gate_guard (by rfl) ?_; dsimp only)); at_builtin; refine Kd.R_append_rows Kd.string (w0 := w) w.heap.size rfl (.const (.slice none 0 0)) (.tmp 54) 35 9 (.string ⟨#[]⟩) 16 rfl Tryd.underlying35 info9 rfl (by decide) (by omega) (.slice none 0 0) ([] : List ByteArray) y152 _ _ _ (fun k_ => some k_ ≠ (.slice (some ad151) t142.length co6 : Value).ownBlock ∧ some k_ ≠ (.slice Ao25 x5_1.length co25 : Value).ownBlock) (fun _ => False) rfl rfl ?aO ?aR (fun _ _ h => h) (fun _ h => h.elim) ?aF ?aB ?aS ?aL ?_; (case aR => repeat (first | exact (by repeat (first | (with_reducible exact HR155.out) | (with_reducible refine Kd.C_alloc ?_ _) | (with_reducible refine Kd.C_drewN ?_ _) | (with_reducible refine Kd.C_drew ?_) | exact HR155.out)) | (with_reducible refine Kd.C_alloc ?_ _) | (with_reducible refine Kd.C_drewN ?_ _) | (with_reducible refine Kd.C_drew ?_))); (case aB => exact (by repeat (first | (with_reducible first | exact HB.out | apply below_alloc | apply pw_below_drewN | apply below_drew1) | exact HB.out))); (case aF => exact (fun k_ hk => ⟨Kd.fresh' (Kd.R_lt (by (with_reducible repeat (first | apply Kd.R_alloc | apply Kd.R_drewN | apply Kd.R_drew)); exact HO_4.out)) k_ hk, Kd.fresh' (Kd.R_lt (by (with_reducible repeat (first | apply Kd.R_alloc | apply Kd.R_drewN | apply Kd.R_drew)); exact HO_5.out)) k_ hk⟩)); (case aO => exact ((Kd.R_nil _ _ _ _ (fun k_ => some k_ ≠ (.slice (some ad151) t142.length co6 : Value).ownBlock ∧ some k_ ≠ (.slice Ao25 x5_1.length co25 : Value).ownBlock)))); (case aS => exact (below_size (by repeat (first | (with_reducible first | exact HB.out | apply below_alloc | apply pw_below_drewN | apply below_drew1) | exact HB.out)))); (case aL => have := LMc24.out; omega); intro v157 w27 ho hb hg hat; rw [← Ny156.out] at ho; have n0_ := Aside0.mk (Kd.R_after (Kd.R_apart_nil (by (with_reducible repeat (first | apply Kd.R_alloc | apply Kd.R_drewN | apply Kd.R_drew)); exact HO_4.out)) hg hat); have n1_ := Aside0.mk (Kd.R_after (Kd.R_apart_nil (by (with_reducible repeat (first | apply Kd.R_alloc | apply Kd.R_drewN | apply Kd.R_drew)); exact HO_5.out)) hg hat); have n2_ := Aside0.mk (hb); have n3_ := Aside0.mk ((show Kd.C Kd.string w27 Ao25 y152.length y152 from by rw [Ny152.out]; exact Kd.C_take (m := ((ji21) : Int).toNat) ((Kd.R_reads' (Kd.R_after (Kd.R_apart_nil (by (with_reducible repeat (first | apply Kd.R_alloc | apply Kd.R_drewN | apply Kd.R_drew)); exact HO_5.out)) hg hat)).2.2) KL26.out)); have n4_ := Aside0.mk (ho); clear HO_4; clear HO_5; clear HB; clear HR155; have HO_4 := n0_; have HO_5 := n1_; have HB := n2_; have HR155 := n3_; have HO158 := n4_; clear n0_ n1_ n2_ n3_ n4_; clear ho hb hg hat))
                                go_roundg kj9
                                case measure => have := HK1.out; have := HJ4.out; have := HJ9.out; omega
                                case rel => exact ⟨(y156), (wrap64 (x6_1 + 1)), (by first | rfl | (simp; done) | (simp [*]; done) | (simp [*, bne_nil_e, beq_nil_e]; done)), H', ⟨by have := HK1.out; have := HJ4.out; have := HJ9.out; omega⟩, ⟨by (with_reducible repeat (first | apply Kd.R_alloc | apply Kd.R_drewN | apply Kd.R_drew)); exact Kd.R_mono HO_4.out (fun _ hk => hk.2)⟩, ⟨by (with_reducible repeat (first | apply Kd.R_alloc | apply Kd.R_drewN | apply Kd.R_drew)); exact Kd.R_mono HO158.out (fun _ hk => hk.1)⟩, ⟨by repeat (first | (with_reducible first | exact HB.out | apply below_alloc | apply pw_below_drewN | apply below_drew1) | exact HB.out)⟩⟩
                              · rw [if_neg c24] at H
                                exact absurd H (by simp)
                            · rw [if_neg c23] at H
                              exact absurd H (by simp)
                          · rw [if_neg c22] at H
                            exact absurd H (by simp)
                        · rw [if_neg c20] at H
                          have c20b0 : ((rdOf ByteArray.empty t142 x6_1).toList == ([46, 46] : List UInt8)) = false := beq_eq_false_iff_ne.mpr c20
                          have c20b1 : ((rdOf ByteArray.empty t142 x6_1).toList != ([46, 46] : List UInt8)) = true := bne_iff_ne.mpr c20
                          by_cases c28 : x5_1.length < 8796093022208
                          · rw [if_pos c28] at H
                            have LMc28 := Aside0.mk c28
                            clear c28
                            obtain ⟨y160, hy160⟩ : ∃ y_ : List ByteArray, y_ = (x5_1 ++ [rdOf ByteArray.empty t142 x6_1]) := ⟨_, rfl⟩
                            replace H : (lighterref14_Clean.l0 kj9 t142 y160 (wrap64 (x6_1 + 1))) = some (r1, r2) := by first | (rw [hy160]; with_reducible exact H) | (have H2_ := (Option.bind_some _ _).symm.trans H; rw [hy160]; with_reducible exact H2_) | (have H2_ := (Option.bind_some _ _).symm.trans H; with_reducible exact H2_) | with_reducible exact H | (rw [hy160]; exact H) | exact H
                            have Ny160 := Aside0.mk hy160
                            clear hy160
                            have H' := Aside0.mk H
                            clear H
                            have p151 : 0 ≤ (x6_1 : Int) := of_decide_eq_true (by first | (with_reducible assumption) | assumption)
                            have q151 : x6_1 < (t142.length : Int) := of_decide_eq_true (by first | (with_reducible assumption) | assumption)
                            obtain ⟨ad151, e151, hx151_0⟩ := Kd.at_string (Kd.R_reads' HO_4.out).2.2 x6_1 p151 q151
                            cases e151
                            replace p151 := eq_true p151
                            replace q151 := eq_true q151
                            have p159 : 0 ≤ (x6_1 : Int) := of_decide_eq_true (by first | (with_reducible assumption) | assumption)
                            have q159 : x6_1 < (t142.length : Int) := of_decide_eq_true (by first | (with_reducible assumption) | assumption)
                            obtain ⟨ad159, e159, hx159_0⟩ := Kd.at_string (Kd.R_reads' HO_4.out).2.2 x6_1 p159 q159
                            obtain rfl : ad151 = ad159 := (by injection e159)
                            replace p159 := eq_true p159
                            replace q159 := eq_true q159
                            go_wp2_with (first | ((with_reducible refine gate_builtin (b := .append) (xs := #[.tmp 56, .tmp 61]) rfl ?_); (try (refine gate_guard (by rfl) ?_; dsimp only)); at_builtin; refine Kd.R_append Kd.string (w0 := w) w.heap.size rfl (.tmp 56) (.tmp 61) 35 9 (.string ⟨#[]⟩) 16 rfl Tryd.underlying35 info9 rfl (by decide) (by omega) u5 x5_1 (rdOf ByteArray.empty t142 x6_1) [.string (rdOf ByteArray.empty t142 x6_1)] (fun k_ => some k_ ≠ (.slice (some ad151) t142.length co6 : Value).ownBlock) (fun _ => False) rfl rfl ?aP (fun _ hk => hk.elim) ?aF ?aO ?aB ?aS ?aL ?_; (case aP => exact rfl); (case aB => exact (by repeat (first | (with_reducible first | exact HB.out | apply below_alloc | apply pw_below_drewN | apply below_drew1) | exact HB.out))); (case aF => exact (fun k_ hk => Kd.fresh' (Kd.R_lt (by (with_reducible repeat (first | apply Kd.R_alloc | apply Kd.R_drewN | apply Kd.R_drew)); exact HO_4.out)) k_ hk)); (case aO => exact (by (with_reducible repeat (first | apply Kd.R_alloc | apply Kd.R_drewN | apply Kd.R_drew)); exact HO_5.out)); (case aS => exact (below_size (by repeat (first | (with_reducible first | exact HB.out | apply below_alloc | apply pw_below_drewN | apply below_drew1) | exact HB.out)))); (case aL => have := LMc28.out; omega); intro v161 w29 ho hb hg hat; rw [← Ny160.out] at ho; have n0_ := Aside0.mk (Kd.R_after (ok := (fun _ => True)) (by (with_reducible repeat (first | apply Kd.R_alloc | apply Kd.R_drewN | apply Kd.R_drew)); exact Kd.R_mono HO_4.out (fun _ hk => ⟨trivial, hk⟩)) hg hat); have n1_ := Aside0.mk (hb); have n2_ := Aside0.mk (ho); clear HO_4; clear HB; clear HO_5; have HO_4 := n0_; have HB := n1_; have HO162 := n2_; clear n0_ n1_ n2_; clear ho hb hg hat))
                            go_roundg kj9
                            case measure => have := HK1.out; have := HJ4.out; have := HJ9.out; omega
                            case rel => exact ⟨(y160), (wrap64 (x6_1 + 1)), (by first | rfl | (simp; done) | (simp [*]; done) | (simp [*, bne_nil_e, beq_nil_e]; done)), H', ⟨by have := HK1.out; have := HJ4.out; have := HJ9.out; omega⟩, ⟨by (with_reducible repeat (first | apply Kd.R_alloc | apply Kd.R_drewN | apply Kd.R_drew)); exact Kd.R_mono HO_4.out (fun _ hk => hk.2)⟩, ⟨by (with_reducible repeat (first | apply Kd.R_alloc | apply Kd.R_drewN | apply Kd.R_drew)); exact HO162.out⟩, ⟨by repeat (first | (with_reducible first | exact HB.out | apply below_alloc | apply pw_below_drewN | apply below_drew1) | exact HB.out)⟩⟩
                          · rw [if_neg c28] at H
                            exact absurd H (by simp)
                      · rw [if_neg c19] at H
                        exact absurd H (by simp)
                    · rw [if_neg c18] at H
                      exact absurd H (by simp)
      · rw [if_neg c4] at H
        have c4b0 : decide (x6_1 < (t142.length : Int)) = false := decide_eq_false c4
        clear c4
        replace H := Option.bind_eq_some_iff.mp H
        obtain ⟨t145, A300, H⟩ := H
        replace H : (if (t145.size : Int) > 200 then (some ((⟨#[]⟩ : ByteArray), 3)) else (some (t145, 0))) = some (r1, r2) := H
        have A30 := Aside0.mk A300
        clear A300
        by_cases c31 : (t145.size : Int) > 200
        · rw [if_pos c31] at H
          have c31b0 : decide (200 < (t145.size : Int)) = true := decide_eq_true c31
          have c31b1 : decide (200 < t145.size) = true := decide_eq_true (by omega)
          clear c31
          simp only [Option.some.injEq, Prod.mk.injEq] at H
          obtain ⟨rfl, rfl⟩ := H
          obtain ⟨Ao32, co32, eo32⟩ := Kd.R_slice HO_4.out
          subst eo32
          obtain ⟨Ao33, co33, eo33⟩ := Kd.R_slice HO_5.out
          subst eo33
          go_wp2_with (first | ((with_reducible refine gate_callee (f := 27) rfl ?_); refine goesL_ (some 64) rfl rfl Tryd.func27 (by kernel_rfl) rfl #[.slice Ao33 x5_1.length co33] rfl (by (try simp only [List.map_toArray, List.map_cons, List.map_nil]); first | done | rfl | (simp only [List.length_drop, List.length_take]; rfl)) ?_; (with_reducible refine (lighterref14_joined.calls k1 _ _ x5_1 t145 _ ?side1 ?side2 A30.out).mono ?_); (case side1 => repeat (first | exact (Kd.R_reads' HO_5.out).2.2 | (with_reducible refine Kd.C_alloc ?_ _) | (with_reducible refine Kd.C_drewN ?_ _) | (with_reducible refine Kd.C_drew ?_))); (case side2 => exact (Kd.R_reads' HO_5.out).2.1); rintro e w' ⟨rfl, ⟨nd, rfl⟩⟩; refine ⟨_, rfl, ?_⟩))
          go_ret2
          exact ⟨by first | rfl | (simp [errW_none, errW_some] <;> rfl) | (simp [*, errW_none, errW_some] <;> rfl), by repeat (first | (with_reducible first | exact HB.out | apply below_alloc | apply pw_below_drewN | apply below_drew1) | exact HB.out)⟩
        · rw [if_neg c31] at H
          have c31b0 : decide (200 < (t145.size : Int)) = false := decide_eq_false c31
          have c31b1 : decide (200 < t145.size) = false := decide_eq_false (by omega)
          clear c31
          simp only [Option.some.injEq, Prod.mk.injEq] at H
          obtain ⟨rfl, rfl⟩ := H
          obtain ⟨Ao34, co34, eo34⟩ := Kd.R_slice HO_4.out
          subst eo34
          obtain ⟨Ao35, co35, eo35⟩ := Kd.R_slice HO_5.out
          subst eo35
          go_wp2_with (first | ((with_reducible refine gate_callee (f := 27) rfl ?_); refine goesL_ (some 64) rfl rfl Tryd.func27 (by kernel_rfl) rfl #[.slice Ao35 x5_1.length co35] rfl (by (try simp only [List.map_toArray, List.map_cons, List.map_nil]); first | done | rfl | (simp only [List.length_drop, List.length_take]; rfl)) ?_; (with_reducible refine (lighterref14_joined.calls k1 _ _ x5_1 t145 _ ?side1 ?side2 A30.out).mono ?_); (case side1 => repeat (first | exact (Kd.R_reads' HO_5.out).2.2 | (with_reducible refine Kd.C_alloc ?_ _) | (with_reducible refine Kd.C_drewN ?_ _) | (with_reducible refine Kd.C_drew ?_))); (case side2 => exact (Kd.R_reads' HO_5.out).2.1); rintro e w' ⟨rfl, ⟨nd, rfl⟩⟩; refine ⟨_, rfl, ?_⟩))
          go_ret2
          exact ⟨by first | rfl | (simp [errW_none, errW_some] <;> rfl) | (simp [*, errW_none, errW_some] <;> rfl), by repeat (first | (with_reducible first | exact HB.out | apply below_alloc | apply pw_below_drewN | apply below_drew1) | exact HB.out)⟩

/-! ### lighterref14_Whiteout: function 13 -/
def lighterref14_Whiteout.j0 : Nat → ByteArray → Bool → Option (ByteArray × Bool × Bool)
  | 0, _, _ => none
  | k + 1, x0, x15 => if x15 = true then (some ((⟨#[]⟩ : ByteArray), false, false)) else (if 4 ≤ (x0.size : Int) then (if (x0.extract 4 x0.size).toList = ([46] : List UInt8) then (some ((⟨#[]⟩ : ByteArray), false, false)) else (if (x0.extract 4 x0.size).toList = ([46, 46] : List UInt8) then (some ((⟨#[]⟩ : ByteArray), false, false)) else (if ((x0.extract 4 x0.size).size : Int) > 3 then (if 0 ≤ 4 then (if 4 ≤ ((x0.extract 4 x0.size).size : Int) then (if ((x0.extract 4 x0.size).extract 0 4).toList = ([46, 119, 104, 46] : List UInt8) then (some ((⟨#[]⟩ : ByteArray), false, false)) else (some (x0.extract 4 x0.size, false, true))) else (none)) else (none)) else (some (x0.extract 4 x0.size, false, true))))) else (none))
def lighterref14_Whiteout.f (k : Nat) (a0 : ByteArray) : Option (ByteArray × Bool × Bool) := if a0.toList = ([46, 119, 104, 46, 46, 119, 104, 46, 46, 111, 112, 113] : List UInt8) then (some ((⟨#[]⟩ : ByteArray), true, true)) else (if (a0.size : Int) < 5 then (lighterref14_Whiteout.j0 k a0 true) else (if 0 ≤ 4 then (if 4 ≤ (a0.size : Int) then (lighterref14_Whiteout.j0 k a0 ((a0.extract 0 4).toList != ([46, 119, 104, 46] : List UInt8))) else (none)) else (none)))
theorem lighterref14_Whiteout.mono_l : ∀ k, (∀ y0 y1, LeO (lighterref14_Whiteout.j0 k y0 y1) (lighterref14_Whiteout.j0 (k + 1) y0 y1))
  | 0 => fun _ _ r h => by simp [lighterref14_Whiteout.j0] at h
  | k + 1 => by
    have ih0 := lighterref14_Whiteout.mono_l k
    · intro y0 y1
      unfold lighterref14_Whiteout.j0
      repeat' first
      | (with_reducible exact ih0 _ _)
      | (with_reducible exact LeO.refl _)
      | (with_reducible exact LeO.none _)
      | (with_reducible refine LeO.ite ?_ ?_)
      | (with_reducible refine LeO.bind ?_ (fun _ => ?_))
      | exact ih0 _ _
      | exact LeO.none _
      | refine LeO.ite ?_ ?_
      | refine LeO.bind ?_ (fun _ => ?_)
theorem lighterref14_Whiteout.mono : ∀ a0 k, LeO (lighterref14_Whiteout.f k a0) (lighterref14_Whiteout.f (k + 1) a0) := by
  intro a0 k
  have ih0 := lighterref14_Whiteout.mono_l k
  unfold lighterref14_Whiteout.f
  repeat' first
      | (with_reducible exact ih0 _ _)
      | (with_reducible exact LeO.refl _)
      | (with_reducible exact LeO.none _)
      | (with_reducible refine LeO.ite ?_ ?_)
      | (with_reducible refine LeO.bind ?_ (fun _ => ?_))
      | exact ih0 _ _
      | exact LeO.none _
      | refine LeO.ite ?_ ?_
      | refine LeO.bind ?_ (fun _ => ?_)
set_option maxHeartbeats 8000000 in
set_option maxRecDepth 100000 in
theorem lighterref14_Whiteout.calls (k : Nat) (a0 : ByteArray) (r1 : ByteArray) (r2 : Bool) (r3 : Bool) (w : World) (h : lighterref14_Whiteout.f k a0 = some (r1, r2, r3)) :
    Calls Tryd.prog 13 #[.string a0] w fun e w' => e = .returned (.tuple #[.string r1, .bool r2, .bool r3]) ∧ Drawn0 w w' := by
  have H : (if a0.toList = ([46, 119, 104, 46, 46, 119, 104, 46, 46, 111, 112, 113] : List UInt8) then (some ((⟨#[]⟩ : ByteArray), true, true)) else (if (a0.size : Int) < 5 then (lighterref14_Whiteout.j0 k a0 true) else (if 0 ≤ 4 then (if 4 ≤ (a0.size : Int) then (lighterref14_Whiteout.j0 k a0 ((a0.extract 0 4).toList != ([46, 119, 104, 46] : List UInt8))) else (none)) else (none)))) = some (r1, r2, r3) := h
  clear h
  by_cases c2 : a0.toList = ([46, 119, 104, 46, 46, 119, 104, 46, 46, 111, 112, 113] : List UInt8)
  · rw [if_pos c2] at H
    have c2b0 : (a0.toList == ([46, 119, 104, 46, 46, 119, 104, 46, 46, 111, 112, 113] : List UInt8)) = true := beq_iff_eq.mpr c2
    have c2b1 : (a0.toList != ([46, 119, 104, 46, 46, 119, 104, 46, 46, 111, 112, 113] : List UInt8)) = false := bne_eq_false_iff_eq.mpr c2
    clear c2
    simp only [Option.some.injEq, Prod.mk.injEq] at H
    obtain ⟨rfl, rfl, rfl⟩ := H
    go_enter Tryd.func13, Tryd.ntmps13
    go_wp2
    go_ret3
    exact ⟨by first | rfl | (simp; done) | (simp [*]; done), by repeat (first | exact Drawn0.refl _ | apply Drawn0.step)⟩
  · rw [if_neg c2] at H
    have c2b0 : (a0.toList == ([46, 119, 104, 46, 46, 119, 104, 46, 46, 111, 112, 113] : List UInt8)) = false := beq_eq_false_iff_ne.mpr c2
    have c2b1 : (a0.toList != ([46, 119, 104, 46, 46, 119, 104, 46, 46, 111, 112, 113] : List UInt8)) = true := bne_iff_ne.mpr c2
    have HC3 := Aside0.mk H
    clear H
    go_enter Tryd.func13, Tryd.ntmps13
    go_upto_region 3 with (fail)
    go_cut [15] (fun v15 wc => ∃ (kq : Nat) (x15_2 : Bool), v15 = .bool x15_2 ∧ Aside0 (lighterref14_Whiteout.j0 kq a0 x15_2 = some (r1, r2, r3)) ∧ Aside0 (kq ≤ k) ∧ Drawn0 w wc)
    case first =>
      have H := HC3.out
      clear HC3
      by_cases c4 : (a0.size : Int) < 5
      · rw [if_pos c4] at H
        have c4b0 : decide ((a0.size : Int) < 5) = true := decide_eq_true c4
        have c4b1 : decide (a0.size < 5) = true := decide_eq_true (by omega)
        clear c4
        (first | rw [c4b0] | (simp only [i64_w, i32_w]; rw [c4b0]) | skip)
        have H' := Aside0.mk H
        clear H
        go_wp2
        go_meet
        case rel => exact ⟨_, (true), (by first | rfl | (simp; done) | (simp [*]; done) | (simp [*, bne_nil_e, beq_nil_e]; done)), H', ⟨by first | omega | exact Nat.le_refl _⟩, by repeat (first | exact Drawn0.refl _ | apply Drawn0.step)⟩
      · rw [if_neg c4] at H
        have c4b0 : decide ((a0.size : Int) < 5) = false := decide_eq_false c4
        have c4b1 : decide (a0.size < 5) = false := decide_eq_false (by omega)
        clear c4
        (first | rw [c4b0] | (simp only [i64_w, i32_w]; rw [c4b0]) | skip)
        by_cases c5 : 0 ≤ 4
        · rw [if_pos c5] at H
          have c5b0 := eq_true c5
          have c5b1 : decide (0 ≤ 4) = true := decide_eq_true c5
          clear c5
          by_cases c6 : 4 ≤ (a0.size : Int)
          · rw [if_pos c6] at H
            have c6b0 := eq_true c6
            have c6b1 : decide (4 ≤ (a0.size : Int)) = true := decide_eq_true c6
            clear c6
            have H' := Aside0.mk H
            clear H
            go_wp2
            go_meet
            case rel => exact ⟨_, (((a0.extract 0 4).toList != ([46, 119, 104, 46] : List UInt8))), (by first | rfl | (simp; done) | (simp [*]; done) | (simp [*, bne_nil_e, beq_nil_e]; done)), H', ⟨by first | omega | exact Nat.le_refl _⟩, by repeat (first | exact Drawn0.refl _ | apply Drawn0.step)⟩
          · rw [if_neg c6] at H
            exact absurd H (by simp)
        · rw [if_neg c5] at H
          exact absurd H (by simp)
    case rest =>
      clear HC3
      try clear c1
      try clear c2
      try clear c2b0
      try clear c2b1
      try clear p2
      try clear c4
      try clear c4b0
      try clear c4b1
      try clear c5
      try clear c5b0
      try clear c5b1
      try clear c6
      try clear c6b0
      try clear c6b1
      obtain ⟨kq, x15_2, rfl, HA, HJ2, ⟨mc2, rfl⟩⟩ := hcut
      cases kq with
      | zero => exact absurd HA.out (by simp [lighterref14_Whiteout.j0])
      | succ kj2 =>
        have H := HA.out
        clear HA
        simp only [lighterref14_Whiteout.j0] at H
        by_cases c7 : x15_2 = true
        · subst c7
          have H1 : (some ((⟨#[]⟩ : ByteArray), false, false)) = some (r1, r2, r3) := by rw [if_pos rfl] at H; exact H
          clear H
          have H := H1
          clear H1
          simp only [Option.some.injEq, Prod.mk.injEq] at H
          obtain ⟨rfl, rfl, rfl⟩ := H
          go_wp2
          go_ret3
          exact ⟨by first | rfl | (simp; done) | (simp [*]; done), by repeat (first | exact Drawn0.refl _ | apply Drawn0.step)⟩
        · replace c7 := Bool.eq_false_iff.mpr c7
          subst c7
          have H1 : (if 4 ≤ (a0.size : Int) then (if (a0.extract 4 a0.size).toList = ([46] : List UInt8) then (some ((⟨#[]⟩ : ByteArray), false, false)) else (if (a0.extract 4 a0.size).toList = ([46, 46] : List UInt8) then (some ((⟨#[]⟩ : ByteArray), false, false)) else (if ((a0.extract 4 a0.size).size : Int) > 3 then (if 0 ≤ 4 then (if 4 ≤ ((a0.extract 4 a0.size).size : Int) then (if ((a0.extract 4 a0.size).extract 0 4).toList = ([46, 119, 104, 46] : List UInt8) then (some ((⟨#[]⟩ : ByteArray), false, false)) else (some (a0.extract 4 a0.size, false, true))) else (none)) else (none)) else (some (a0.extract 4 a0.size, false, true))))) else (none)) = some (r1, r2, r3) := by rw [if_neg (show ¬ (false = true) by decide)] at H; exact H
          clear H
          have H := H1
          clear H1
          by_cases c8 : 4 ≤ (a0.size : Int)
          · rw [if_pos c8] at H
            have c8b0 := eq_true c8
            have c8b1 : decide (4 ≤ (a0.size : Int)) = true := decide_eq_true c8
            clear c8
            by_cases c9 : (a0.extract 4 a0.size).toList = ([46] : List UInt8)
            · rw [if_pos c9] at H
              have c9b0 : ((a0.extract 4 a0.size).toList == ([46] : List UInt8)) = true := beq_iff_eq.mpr c9
              have c9b1 : ((a0.extract 4 a0.size).toList != ([46] : List UInt8)) = false := bne_eq_false_iff_eq.mpr c9
              clear c9
              simp only [Option.some.injEq, Prod.mk.injEq] at H
              obtain ⟨rfl, rfl, rfl⟩ := H
              go_wp2
              go_ret3
              exact ⟨by first | rfl | (simp; done) | (simp [*]; done), by repeat (first | exact Drawn0.refl _ | apply Drawn0.step)⟩
            · rw [if_neg c9] at H
              have c9b0 : ((a0.extract 4 a0.size).toList == ([46] : List UInt8)) = false := beq_eq_false_iff_ne.mpr c9
              have c9b1 : ((a0.extract 4 a0.size).toList != ([46] : List UInt8)) = true := bne_iff_ne.mpr c9
              by_cases c10 : (a0.extract 4 a0.size).toList = ([46, 46] : List UInt8)
              · rw [if_pos c10] at H
                have c10b0 : ((a0.extract 4 a0.size).toList == ([46, 46] : List UInt8)) = true := beq_iff_eq.mpr c10
                have c10b1 : ((a0.extract 4 a0.size).toList != ([46, 46] : List UInt8)) = false := bne_eq_false_iff_eq.mpr c10
                clear c10
                simp only [Option.some.injEq, Prod.mk.injEq] at H
                obtain ⟨rfl, rfl, rfl⟩ := H
                go_wp2
                go_ret3
                exact ⟨by first | rfl | (simp; done) | (simp [*]; done), by repeat (first | exact Drawn0.refl _ | apply Drawn0.step)⟩
              · rw [if_neg c10] at H
                have c10b0 : ((a0.extract 4 a0.size).toList == ([46, 46] : List UInt8)) = false := beq_eq_false_iff_ne.mpr c10
                have c10b1 : ((a0.extract 4 a0.size).toList != ([46, 46] : List UInt8)) = true := bne_iff_ne.mpr c10
                by_cases c11 : ((a0.extract 4 a0.size).size : Int) > 3
                · rw [if_pos c11] at H
                  have c11b0 : decide (3 < ((a0.extract 4 a0.size).size : Int)) = true := decide_eq_true c11
                  have c11b1 : decide (3 < (a0.extract 4 a0.size).size) = true := decide_eq_true (by omega)
                  (try (have c11b2 : decide (3 < ((a0.size - 4 : Nat) : Int)) = true := decide_eq_true (by have e0_ : (a0.extract 4 a0.size).size = _ := ByteArray.size_extract; omega)))
                  (try (have c11b3 : decide (3 < (a0.size - 4 : Nat)) = true := decide_eq_true (by have e0_ : (a0.extract 4 a0.size).size = _ := ByteArray.size_extract; omega)))
                  clear c11
                  by_cases c12 : 0 ≤ 4
                  · rw [if_pos c12] at H
                    have c12b0 := eq_true c12
                    have c12b1 : decide (0 ≤ 4) = true := decide_eq_true c12
                    clear c12
                    by_cases c13 : 4 ≤ ((a0.extract 4 a0.size).size : Int)
                    · rw [if_pos c13] at H
                      have c13b0 := eq_true c13
                      have c13b1 : decide (4 ≤ ((a0.extract 4 a0.size).size : Int)) = true := decide_eq_true c13
                      (try (have c13b7 : (4 ≤ ((a0.size - 4 : Nat) : Int)) = True := eq_true (by have e0_ : (a0.extract 4 a0.size).size = _ := ByteArray.size_extract; omega)))
                      (try (have c13b8 : decide (4 ≤ ((a0.size - 4 : Nat) : Int)) = true := decide_eq_true (by have e0_ : (a0.extract 4 a0.size).size = _ := ByteArray.size_extract; omega)))
                      (try (have c13b9 : (4 ≤ (a0.size - 4 : Nat)) = True := eq_true (by have e0_ : (a0.extract 4 a0.size).size = _ := ByteArray.size_extract; omega)))
                      clear c13
                      by_cases c14 : ((a0.extract 4 a0.size).extract 0 4).toList = ([46, 119, 104, 46] : List UInt8)
                      · rw [if_pos c14] at H
                        have c14b0 : (((a0.extract 4 a0.size).extract 0 4).toList == ([46, 119, 104, 46] : List UInt8)) = true := beq_iff_eq.mpr c14
                        have c14b1 : (((a0.extract 4 a0.size).extract 0 4).toList != ([46, 119, 104, 46] : List UInt8)) = false := bne_eq_false_iff_eq.mpr c14
                        clear c14
                        simp only [Option.some.injEq, Prod.mk.injEq] at H
                        obtain ⟨rfl, rfl, rfl⟩ := H
                        go_wp2
                        go_ret3
                        exact ⟨by first | rfl | (simp; done) | (simp [*]; done), by repeat (first | exact Drawn0.refl _ | apply Drawn0.step)⟩
                      · rw [if_neg c14] at H
                        have c14b0 : (((a0.extract 4 a0.size).extract 0 4).toList == ([46, 119, 104, 46] : List UInt8)) = false := beq_eq_false_iff_ne.mpr c14
                        have c14b1 : (((a0.extract 4 a0.size).extract 0 4).toList != ([46, 119, 104, 46] : List UInt8)) = true := bne_iff_ne.mpr c14
                        simp only [Option.some.injEq, Prod.mk.injEq] at H
                        obtain ⟨rfl, rfl, rfl⟩ := H
                        go_wp2
                        go_ret3
                        exact ⟨by first | rfl | (simp; done) | (simp [*]; done), by repeat (first | exact Drawn0.refl _ | apply Drawn0.step)⟩
                    · rw [if_neg c13] at H
                      exact absurd H (by simp)
                  · rw [if_neg c12] at H
                    exact absurd H (by simp)
                · rw [if_neg c11] at H
                  have c11b0 : decide (3 < ((a0.extract 4 a0.size).size : Int)) = false := decide_eq_false c11
                  have c11b1 : decide (3 < (a0.extract 4 a0.size).size) = false := decide_eq_false (by omega)
                  (try (have c11b2 : decide (3 < ((a0.size - 4 : Nat) : Int)) = false := decide_eq_false (by have e0_ : (a0.extract 4 a0.size).size = _ := ByteArray.size_extract; omega)))
                  (try (have c11b3 : decide (3 < (a0.size - 4 : Nat)) = false := decide_eq_false (by have e0_ : (a0.extract 4 a0.size).size = _ := ByteArray.size_extract; omega)))
                  clear c11
                  simp only [Option.some.injEq, Prod.mk.injEq] at H
                  obtain ⟨rfl, rfl, rfl⟩ := H
                  go_wp2
                  go_ret3
                  exact ⟨by first | rfl | (simp; done) | (simp [*]; done), by repeat (first | exact Drawn0.refl _ | apply Drawn0.step)⟩
          · rw [if_neg c8] at H
            exact absurd H (by simp)

/-! ### lighterref14_Base: function 14 -/
def lighterref14_Base.f (k : Nat) (a0 : ByteArray) : Option (ByteArray) := (lighterref14_Parts.f k a0).bind fun t163 => (if 0 ≤ (wrap64 ((t163.length : Int) - 1)) then (if (wrap64 ((t163.length : Int) - 1)) < (t163.length : Int) then (some (rdOf ByteArray.empty t163 (wrap64 ((t163.length : Int) - 1)))) else (none)) else (none))
theorem lighterref14_Base.mono : ∀ a0 k, LeO (lighterref14_Base.f k a0) (lighterref14_Base.f (k + 1) a0) := by
  intro a0 k
  unfold lighterref14_Base.f
  repeat' first
      | (with_reducible exact lighterref14_Parts.mono _ _)
      | (with_reducible exact LeO.refl _)
      | (with_reducible exact LeO.none _)
      | (with_reducible refine LeO.ite ?_ ?_)
      | (with_reducible refine LeO.bind ?_ (fun _ => ?_))
      | exact lighterref14_Parts.mono _ _
      | exact LeO.none _
      | refine LeO.ite ?_ ?_
      | refine LeO.bind ?_ (fun _ => ?_)
set_option maxHeartbeats 8000000 in
set_option maxRecDepth 100000 in
theorem lighterref14_Base.calls (k : Nat) (a0 : ByteArray) (r : ByteArray) (w : World) (h : lighterref14_Base.f k a0 = some r) :
    Calls Tryd.prog 14 #[.string a0] w fun e w' => e = .returned (.string r) ∧ Below w.heap.size w w' := by
  have HB := Aside0.mk (Below.refl w.heap.size w)
  have H : ((lighterref14_Parts.f k a0).bind fun t163 => (if 0 ≤ (wrap64 ((t163.length : Int) - 1)) then (if (wrap64 ((t163.length : Int) - 1)) < (t163.length : Int) then (some (rdOf ByteArray.empty t163 (wrap64 ((t163.length : Int) - 1)))) else (none)) else (none))) = some r := h
  clear h
  replace H := Option.bind_eq_some_iff.mp H
  obtain ⟨t163, A20, H⟩ := H
  replace H : (if 0 ≤ (wrap64 ((t163.length : Int) - 1)) then (if (wrap64 ((t163.length : Int) - 1)) < (t163.length : Int) then (some (rdOf ByteArray.empty t163 (wrap64 ((t163.length : Int) - 1)))) else (none)) else (none)) = some r := H
  have A2 := Aside0.mk A20
  clear A20
  obtain ⟨ji3, hji3⟩ : ∃ j_ : Int, (wrap64 ((t163.length : Int) - 1)) = j_ := ⟨_, rfl⟩
  replace H : (if 0 ≤ (ji3) then (if (ji3) < (t163.length : Int) then (some (rdOf ByteArray.empty t163 (ji3))) else (none)) else (none)) = some r := by first | (rw [hji3] at H; exact H) | (simp only [hji3] at H ⊢; exact H)
  (try rw [hji3] at A2)
  have hji3w : (IntKind.i64.wrap ((t163.length : Int) - 1)) = ji3 := (i64_w _).trans hji3
  by_cases c4 : 0 ≤ (ji3)
  · rw [if_pos c4] at H
    have c4b0 : decide (0 ≤ (ji3)) = true := decide_eq_true c4
    clear c4
    by_cases c5 : (ji3) < (t163.length : Int)
    · rw [if_pos c5] at H
      have c5b0 : decide ((ji3) < (t163.length : Int)) = true := decide_eq_true c5
      clear c5
      obtain rfl := Option.some.inj H
      go_enter Tryd.func14, Tryd.ntmps14
      go_wp2_with (first | ((with_reducible refine gate_callee (f := 25) rfl ?_); refine goesL_ (some 5) rfl rfl Tryd.func25 (by kernel_rfl) rfl #[.string a0] rfl (by (try simp only [List.map_toArray, List.map_cons, List.map_nil]); first | done | rfl | (simp only [List.length_drop, List.length_take]; rfl)) ?_; (with_reducible refine (lighterref14_Parts.calls k a0 t163 _ A2.out).mono ?_); rintro e w6 ⟨v164, rfl, ho0, hb⟩; refine ⟨_, rfl, ?_⟩; have n0_ := Aside0.mk (Kd.R_lower ho0 (below_size (by repeat (first | (with_reducible first | exact HB.out | apply below_alloc | apply pw_below_drewN | apply below_drew1) | exact HB.out)))); have n1_ := Aside0.mk (below_step (by repeat (first | (with_reducible first | exact HB.out | apply below_alloc | apply pw_below_drewN | apply below_drew1) | exact HB.out)) hb); clear HB; have HO165 := n0_; have HB := n1_; clear n0_ n1_; (try clear hb); (try clear hb2); (try clear hk); (try clear hi); (try clear ho0); obtain ⟨Ao7, co7, eo7⟩ := Kd.R_slice HO165.out; subst eo7; have p166 : 0 ≤ ((ji3) : Int) := of_decide_eq_true (by first | (with_reducible assumption) | assumption); have q166 : (ji3) < (t163.length : Int) := of_decide_eq_true (by first | (with_reducible assumption) | assumption); obtain ⟨ad166, e166, hx166_0⟩ := Kd.at_string (Kd.R_reads' HO165.out).2.2 (ji3) p166 q166; cases e166; replace p166 := eq_true p166; replace q166 := eq_true q166))
      go_ret
      exact ⟨by first | rfl | (simp [errW_none, errW_some] <;> rfl) | (simp only [← hji3]; first | rfl | (simp [errW_none, errW_some] <;> rfl)) | (simp [*, errW_none, errW_some] <;> rfl), by repeat (first | (with_reducible first | exact HB.out | apply below_alloc | apply pw_below_drewN | apply below_drew1) | exact HB.out)⟩
    · rw [if_neg c5] at H
      exact absurd H (by simp)
  · rw [if_neg c4] at H
    exact absurd H (by simp)

end Go.Proofs.YtoklancgpmnhcaaDoor.PAll
