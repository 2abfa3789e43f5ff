/- Contracts of functions of layer 15 that read a list of entries: the program's Write and the reference's. Contract of the reference's Write, and of Great. Contracts of the reader's take and end: by the kit's walk. One entry's bytes, as the chapter's example has them. Contract of packed, the chapter's example. Contracts of Great and of the law TarWrite. The law TarWrite: it returns true. A list of entries that comes in. The listed tables, as the small machine wants them. By an AI agent. -/
import Derived.Test.YtbgilaacfbinbaaGreatDoorRowTarWriteC
import Derived.Deep.MidRow
import Derived.ChangeSame
import Derived.Laws.IdiomArrays
import Derived.OpenShut
import Derived.Carry
import Derived.Test.YtbgilaacfbinbaaGreatDoorRows
import Derived.MakeChecks
import Derived.LaidMore
set_option linter.unusedVariables false
set_option linter.unusedSimpArgs false
namespace Go.Proofs.YtbgilaacfbinbaaGreatDoor.PM
open Go Go.Proofs Go.RowKit
set_option maxRecDepth 100000
set_option linter.unusedVariables false
set_option linter.unusedSimpArgs false

theorem Meets.of_below {P : Program} {f : FuncId} {args : List Value} {H : VH} {r : Value} (hr : closedV r = true)
    (h : ∀ (μ : Mu) (w : World) (args' : List Value), Wd w → HR μ H w → VRs μ args args' → Calls P f ⟨args'⟩ w fun e w' => e = .returned r ∧ Below w.heap.size w w') : Meets P f args H (fun r' _ => r' = r) := by
  intro μ w args' hw hrr hargs
  refine (h μ w args' hw hrr hargs).mono ?_
  rintro e w' ⟨rfl, hb⟩
  have hv : VR μ r r := by
    have hl : closedL [r] = true := by simp [closedL, hr]
    cases closedL_self (l := [r]) hl with
    | cons a _ => exact a.mono (fun b p hp => by cases b <;> cases hp)
  exact ⟨r, r, μ, H, rfl, hv, hrr.later hb.block hb.size, fun _ _ h => h, Nat.le_refl _, fun _ _ => rfl, fun b p hbb hp => by
    have := mu_lt hp
    rw [hrr.len] at this
    omega, hb, rfl⟩
/-- A row of whatever codec that is one of entries. -/
def asEnt (C : Codec) (l : List C.α) : List Ent := l.map fun x => entC.dec (C.enc x)
def entRow (C : Codec) (e : Nat) (l : List C.α) : Prop := e = 5 ∧ ∀ x ∈ l, entC.okl (C.enc x) = true
theorem asEnt_get {C : Codec} {l : List C.α} (i : Nat) (y : Ent) (h : (asEnt C l)[i]? = some y) : ∃ x, l[i]? = some x ∧ y = entC.dec (C.enc x) := by
  unfold asEnt at h
  rw [List.getElem?_map] at h
  cases hx : l[i]? with
  | none => rw [hx] at h; cases h
  | some x => rw [hx] at h; exact ⟨x, rfl, (Option.some.inj h).symm⟩
theorem HR.toEnt {μ : Mu} {C : Codec} {e : Nat} {l : List C.α} {w : World} (he : entRow C e l) (h : HR μ [.row C e l .ro] w) : HR μ [.row entC 5 (asEnt C l) .ro] w := by
  obtain ⟨rfl, ho⟩ := he
  have g0 : ∀ {b : Nat} {X : VB}, hget [VB.row entC 5 (asEnt C l) .ro] b = X → X ≠ .dead → b = 0 ∧ X = .row entC 5 (asEnt C l) .ro := fun {b X} hg hX => by
    cases b with
    | zero => exact ⟨rfl, hg.symm⟩
    | succ b => exact absurd hg.symm hX
  refine ⟨h.len, ?_, ?_, ?_, ?_⟩
  · intro b C' e' l' m' hg
    obtain ⟨rfl, hh⟩ := g0 hg (by intro hh; cases hh)
    cases hh
    obtain ⟨p, hp, r⟩ := h.row 0 C 5 l .ro rfl
    have hen : ∀ (i : Nat) (y : Ent), (asEnt C l)[i]? = some y → ∃ x, l[i]? = some x ∧ entC.enc y = C.enc x := fun i y hy => by
      obtain ⟨x, h1, rfl⟩ := asEnt_get i y hy
      exact ⟨x, h1, entC.h_dec _ (ho x (List.mem_of_getElem? h1))⟩
    refine ⟨p, hp, r.pe, r.blk, fun y hy => ?_, fun i j y v h1 h2 => ?_, fun hm => by cases hm⟩
    · obtain ⟨i, hi, rfl⟩ := List.getElem_of_mem hy
      obtain ⟨x, h1, h2⟩ := hen i _ (List.getElem?_eq_getElem hi)
      rw [h2]
      exact r.lens x (List.mem_of_getElem? h1)
    · obtain ⟨x, h3, h4⟩ := hen i y h1
      rw [h4] at h2
      exact r.cells i j x v h3 h2
  · intro b s o hg
    obtain ⟨_, hh⟩ := g0 hg (by intro hh; cases hh)
    cases hh
  · intro b1 b2 C1 C2 e1 e2 l1 l2 m2 p1 p2 hne g1
    obtain ⟨_, hh⟩ := g0 g1 (by intro hh; cases hh)
    cases hh
  · intro b1 b2 s1 s2 o1 o2 p1 p2 hne g1
    obtain ⟨_, hh⟩ := g0 g1 (by intro hh; cases hh)
    cases hh
/-- What is read of a list of entries. -/
def listG (g : List Ent → Prop × Value) : Read
  | [.slice none 0 0], _ => some ((g []).1, (g []).2)
  | [.slice (some ⟨0, 0, none⟩) n c], [.row C e l _] => some ((n = l.length ∧ C.flat = true ∧ entRow C e l) ∧ (g (asEnt C l)).1, (g (asEnt C l)).2)
  | _, _ => none
theorem ReadOk.of_list {P : Program} {f : FuncId} {g : List Ent → Prop × Value} (he : callable P f) (h0 : (g []).1 → closedV (g []).2 = true ∧ ∀ H, Meets P f [.slice none 0 0] H (fun r' _ => r' = (g []).2))
    (h : ∀ (l : List Ent) (c : Nat), (g l).1 → closedV (g l).2 = true ∧ Meets P f [.slice (some ⟨0, 0, none⟩) l.length c] [.row entC 5 l .ro] (fun r' _ => r' = (g l).2)) : ReadOk P f (listG g) where
  enter := he
  meets args H c r hg hc := by
    unfold listG at hg
    split at hg
    · cases hg
      exact ⟨(h0 hc).1, (h0 hc).2 _⟩
    · rename_i n cc C e l m
      cases hg
      obtain ⟨⟨rfl, hf, her⟩, hc⟩ := hc
      obtain ⟨h1, h2⟩ := h (asEnt C l) cc hc
      refine ⟨h1, .of_below h1 fun μ w args' hw hr hargs => ?_⟩
      have hr1 : HR μ [.row C e l .ro] w := by
        have := hr.toRo
        have e1 : ([VB.row C e l m].map roB) = [VB.row C e l .ro] := by
          show [bif C.flat then VB.row C e l .ro else VB.dead] = _
          rw [hf]; rfl
        rw [e1] at this
        exact this
      have hl : (asEnt C l).length = l.length := by unfold asEnt; rw [List.length_map]
      rw [hl] at h2
      refine (h2 μ w args' hw (hr1.toEnt her) hargs).mono ?_
      rintro ee w' ⟨r', r'', μ', H', rfl, k1, _, _, _, _, _, k7, rfl⟩
      obtain ⟨rfl, _⟩ := closedV_same (ν := μ') h1 k1
      exact ⟨rfl, k7⟩
    · cases hg
def writeV (l : List Ent) : Value := bif decide ((l.length : Int) > 200) then .tuple ⟨[.string ⟨#[]⟩, .int .i64 63]⟩ else wrV (zs 1024) (wrFrom l ⟨#[]⟩)
theorem writeV_closed (l : List Ent) : closedV (writeV l) = true := by
  unfold writeV
  cases decide ((l.length : Int) > 200) with
  | true => rfl
  | false =>
    show closedV (wrV (zs 1024) (wrFrom l ⟨#[]⟩)) = true
    cases wrFrom l ⟨#[]⟩ <;> rfl
abbrev writeG : List Ent → Prop × Value := fun l => ((∀ x ∈ l, EntZ x), writeV l)
theorem pwrite_ok : ReadOk Tryz.prog 10 (listG writeG) := by
  have h16 : ∀ x w, Wd w → EntZ x → Calls Tryz.prog 16 #[.agg (entA x)] w fun e w' => e = .returned (.bool (entMay x)) ∧ Below w.heap.size w w' := fun x w hw hz =>
    pmay_ok.calls (args := [.agg (entA x)]) rfl ⟨by have := hz.n; omega, by have := hz.d; omega⟩ w hw
  have h18 : ∀ x w, Wd w → EntZ x → entMay x = true → Calls Tryz.prog 18 #[.agg (entA x)] w fun e w' => e = .returned (.string (entTxt x)) ∧ Below w.heap.size w w' := fun x w hw hz hm => by
    obtain ⟨k1, k4, m0, m1⟩ := mayR_k (show mayR x.1 x.2.1 x.2.2.1 x.2.2.2.1 x.2.2.2.2.1 = true from hm)
    exact ent_ok.calls (args := [.agg (entA x)]) rfl ⟨⟨k1, k4⟩, hz.n, hz.d, m0, m1, hz.b⟩ w hw
  have h19 : ∀ w, Wd w → Calls Tryz.prog 19 #[.int .i64 1024] w fun e w' => e = .returned (.string (zs 1024)) ∧ Below w.heap.size w w' := fun w hw =>
    zeros_ok.calls (args := [.int .i64 1024]) rfl ⟨by decide, by decide⟩ w hw
  have hS : ∀ x, EntZ x → (entTxt x).size ≤ 2147483648 := fun x hz => by
    have := entS_size (k := x.1) (n := x.2.1) (d := x.2.2.1) (m := x.2.2.2.1) (b := x.2.2.2.2.1) hz.n hz.d
    have hb := hz.b
    show (entS _ _ _ _ _).size ≤ _
    omega
  refine .of_list ⟨_, _, Tryz.func10, by kernel_rfl, rfl⟩ (fun _ => ⟨writeV_closed [], fun H => .of_below (writeV_closed []) fun μ w args' hw hr hargs => ?_⟩) fun l c hz => ⟨writeV_closed l, .of_below (writeV_closed l) fun μ w args' hw hr hargs => ?_⟩
  · cases hargs with
    | cons hv hn =>
      cases hn
      cases hv
      exact write_nil (zs 1024) h19 rfl none 0 w hw
  · cases hargs with
    | cons hv hn =>
      cases hn
      by_cases h2 : 200 < l.length
      · have e : writeV l = .tuple #[.string ⟨#[]⟩, .int .i64 63] := by unfold writeV; rw [decide_eq_true (by omega)]; rfl
        show Calls _ _ _ _ fun e w' => e = .returned (writeV l) ∧ _
        rw [e]
        generalize hn : l.length = n at hv h2
        cases hv with
        | slice hp hn hl => exact write_many _ _ _ h2 w
        | slice0 a => omega
      · have e : writeV l = wrV (zs 1024) (wrFrom l ⟨#[]⟩) := by unfold writeV; rw [decide_eq_false (by omega)]; rfl
        show Calls _ _ _ _ fun e w' => e = .returned (writeV l) ∧ _
        rw [e]
        generalize hn : l.length = n at hv
        cases hv with
        | slice hp hnn hl =>
          rename_i c' p
          obtain ⟨q, hq, ro⟩ := hr.row 0 entC 5 l .ro rfl
          obtain rfl := Option.some.inj (hp.symm.trans hq)
          rw [← hn]
          refine write_any entMay entTxt (zs 1024) h16 h18 h19 hS rfl l p.blk (p.base + 0 * p.esz + 0) c' w hw ro.blk (fun i x hx j v hv => ?_) (by omega) hz
          obtain ⟨v', h1, h2⟩ := ro.cells i j x v hx hv
          have hf : v' = v := by
            have hm : v ∈ entC.enc x := List.mem_of_getElem? hv
            obtain ⟨u, rfl, hu⟩ := entC.h_flat rfl x v hm
            exact plainV_same (by cases v <;> first | rfl | cases hu) h2
          rw [← hf, ← h1]
          have : p.esz = 5 := ro.pe
          unfold Place.at
          rw [this]
          congr 2
        | slice0 a =>
          have : l = [] := List.eq_nil_of_length_eq_zero hn
          subst this
          exact write_nil (zs 1024) h19 rfl (some a) 0 w hw
end Go.Proofs.YtbgilaacfbinbaaGreatDoor.PM

namespace Go.Proofs.YtbgilaacfbinbaaGreatDoor.PM
open Go Go.Proofs Go.RowKit
set_option maxRecDepth 100000
set_option linter.unusedVariables false
set_option linter.unusedSimpArgs false

attribute [local irreducible] wrCat entMay
theorem rcall11_ok : CallOk Tryz.prog rcall11 := callOf_cons rmay_ok.spec (callOf_cons rrec_ok.spec (callOf_cons rhead_ok.spec (callOf_cons rfull_ok.spec (callOf_cons rzeros_ok.spec callOf_nil))))
theorem rwLp_ok : CodeOk Tryz.prog Tryz.f11.ntmps (.loop (lp Tryz.f11 5)) rwLp := by
  refine loop_ok (call := rcall11) (hint := hints 11) (tb := noTab) hm rcall11_ok (by kernel_rfl) (by repeat' first | exact trivial | constructor | (intro _ h; cases h)) fun fr H K h => ?_
  unfold rwLp at h
  split at h
  · rename_i n c s i
    obtain ⟨l, ⟨rfl, rfl, h1, h2, h3, rfl⟩, h4⟩ := h
    have e := wrFrom_eq l s
    refine ⟨_, rw_rounds l c h1 h2 K l.length 0 s (by omega) (by omega) (fun t ht => ?_) (fun ht => ?_)⟩ <;> rw [List.drop_zero, e] at ht <;> cases ha : l.all entMay <;> rw [ha] at ht h4 <;> cases ht
    · exact h4
    · exact h4
  · exact h.elim
def tab11 : Tab := ⟨fun | 5 => some rwLp | _ => none, fun _ => none⟩
theorem rwrite_nil (K : Value → VH → Prop) (hK : K (.tuple ⟨[.string (⟨#[]⟩ ++ zs 1024), .int .i64 0]⟩) []) :
    runF Tryz.prog (callOf [(25, pureS zerosG)]) (hints 11) unrollTab 5 Tryz.f11 [.slice none 0 0] [] K := by
  refine toR (R := (((0 : Int) ≤ (1024 : Int)) ∧ ((1024 : Int) < ((2 : Int) ^ 40))) ∧ (K (.tuple (Array.mk [(.string ((ByteArray.mk #[]) ++ (zs 1024))), (.int .i64 (0 : Int))])) [])) (by kernel_rfl) ?_
  exact ⟨⟨by decide, by decide⟩, hK⟩
theorem wrCat_size : ∀ (l : List Ent) (s : ByteArray), (∀ x ∈ l, EntZ x) → (wrCat l s).size ≤ s.size + l.length * 2147483648
  | [], s, _ => by unfold wrCat; omega
  | x :: r, s, hz => by
    have ih := wrCat_size r (s ++ entTxt x) fun y hy => hz y (List.mem_cons_of_mem _ hy)
    have z := hz x List.mem_cons_self
    have h1 : (entTxt x).size ≤ x.2.2.2.2.1.size + 10000 := entS_size z.n z.d
    have hb := z.b
    rw [ByteArray.size_append] at ih
    unfold wrCat
    rw [List.length_cons]
    omega
theorem rwrite_run (l : List Ent) (c : Nat) (hz : ∀ x ∈ l, EntZ x) (K : Value → VH → Prop) (hK : K (writeV l) [.row entC 5 l .ro]) :
    runF Tryz.prog (callOf [(25, pureS zerosG)]) (hints 11) tab11 1 Tryz.f11 [.slice (some ⟨0, 0, none⟩) l.length c] [.row entC 5 l .ro] K := by
  refine toR (R := bcase (decide ((↑l.length : Int) > (200 : Int))) (K (.tuple (Array.mk [(.string (ByteArray.mk #[])), (.int .i64 (63 : Int))])) [(VB.row (flatC [(FK.i .i64), FK.s, FK.s, (FK.i .i64), FK.s]) 5 l .ro)]) (∃ (l_1 : (List Ent)), ((((0 : Int) = (0 : Int)) ∧ ((l.length = l_1.length) ∧ ((l_1.length ≤ 200) ∧ ((∀ (x : Ent), ((x ∈ l_1) → (EntZ x))) ∧ ((0 = 0) ∧ ([(VB.row (flatC [(FK.i .i64), FK.s, FK.s, (FK.i .i64), FK.s]) 5 l .ro)] = [(VB.row (flatC [(FK.i .i64), FK.s, FK.s, (FK.i .i64), FK.s]) 5 l_1 .ro)])))))) ∧ (bcase (l_1.all entMay) ((((0 : Int) ≤ (1024 : Int)) ∧ ((1024 : Int) < ((2 : Int) ^ 40))) ∧ (need (decide (((wrCat l_1 (ByteArray.mk #[])).size + 1024) < 9223372036854775808)) (K (.tuple (Array.mk [(.string ((wrCat l_1 (ByteArray.mk #[])) ++ (zs 1024))), (.int .i64 (0 : Int))])) [(VB.row (flatC [(FK.i .i64), FK.s, FK.s, (FK.i .i64), FK.s]) 5 l_1 .ro)]))) (∀ (x : (List Value)), (K (.tuple (Array.mk [(.string (ByteArray.mk #[])), (.int .i64 (2 : Int))])) [(VB.row (flatC [(FK.i .i64), FK.s, FK.s, (FK.i .i64), FK.s]) 5 l_1 .ro)])))))) (by kernel_rfl) ?_
  have e := wrFrom_eq l ⟨#[]⟩
  unfold writeV at hK
  rw [e] at hK
  refine bcase_of (fun h => ?_) (fun h => ?_)
  · rw [h] at hK
    exact hK
  · rw [h, cond_false] at hK
    have hl : l.length ≤ 200 := by have := of_decide_eq_false h; omega
    have z := wrCat_size l ⟨#[]⟩ hz
    have z0 : (ByteArray.mk #[]).size = 0 := rfl
    refine ⟨l, ⟨rfl, rfl, hl, hz, rfl, rfl⟩, bcase_of (fun h2 => ⟨⟨by decide, by decide⟩, need_of (decide_eq_true (by omega)) ?_⟩) (fun h2 x => ?_)⟩ <;> rw [h2] at hK <;> exact hK
theorem rwrite_ok : ReadOk Tryz.prog 11 (listG writeG) := by
  have he : callable Tryz.prog 11 := ⟨_, _, Tryz.func11, by kernel_rfl, rfl⟩
  have hc2 : CallOk Tryz.prog (callOf [(25, pureS zerosG)]) := callOf_cons rzeros_ok.spec callOf_nil
  have e0 : writeV [] = .tuple ⟨[.string (⟨#[]⟩ ++ zs 1024), .int .i64 0]⟩ := rfl
  refine .of_list he (fun _ => ⟨writeV_closed [], fun H => ?_⟩) fun l c hz => ⟨writeV_closed l, ?_⟩
  · have h1 : Meets Tryz.prog 11 [.slice none 0 0] [] (fun r' _ => r' = writeV []) :=
      runF_meets (tb := unrollTab) hm hc2 Ro.empty Tryz.func11 (by kernel_rfl) (by repeat' first | exact trivial | constructor | (intro _ h; cases h)) (rwrite_nil _ e0.symm)
    exact h1.lift rfl H fun r H' e => by subst e; exact ⟨writeV_closed [], rfl⟩
  · exact runF_meets (tb := tab11) hm hc2 (.cons rfl Ro.empty) Tryz.func11 (by kernel_rfl) (by repeat' first | exact trivial | constructor | (intro _ h; cases h; exact rwLp_ok) | (intro _ h; cases h)) (rwrite_run l c hz _ rfl)
end Go.Proofs.YtbgilaacfbinbaaGreatDoor.PM

set_option linter.unusedVariables false
set_option linter.unusedSimpArgs false
namespace Go.Proofs.YtbgilaacfbinbaaGreatDoor.PM
open Go Go.Proofs Go.Shelf Go.RowKit Go.Lib

set_option maxHeartbeats 4000000 in
set_option maxRecDepth 1000000 in
theorem take_any (b : Nat) (s : ByteArray) (x y : Value) (w : World) (hw : Wd w) (hb : w.heap[b]? = some (.cells #[.string s, x, y] 63 (0, 0))) (hs : s.size < 1099511627776) :
    Calls Tryz.prog 26 #[.pointer (some ⟨b, 0, none⟩), .int .i64 512] w fun e w' =>
      (s.size < 512 → e = .returned (.tuple #[.string ⟨#[]⟩, .bool false])) ∧ (512 ≤ s.size → e = .returned (.tuple #[.string (s.extract 0 512), .bool true]) ∧ w'.heap[b]? = some (.cells #[.string (s.extract 512 s.size), x, y] 63 (0, 0))) ∧ Below b w w' := by
  have mixed : (Tryz.prog).follows .mixedOrders = true := by kernel_rfl
  have t3 := Tryz.underlying3; have a3 := Tryz.isAgg3; have z3 := Tryz.sizeOf3; have v3 := Tryz.zeroValue3; have u3 := run_underlying Tryz.underlying3
  have t4 := Tryz.underlying4; have a4 := Tryz.isAgg4; have z4 := Tryz.sizeOf4; have v4 := Tryz.zeroValue4; have u4 := run_underlying Tryz.underlying4
  have t9 := Tryz.underlying9; have a9 := Tryz.isAgg9; have z9 := Tryz.sizeOf9; have v9 := Tryz.zeroValue9; have u9 := run_underlying Tryz.underlying9
  have t63 := Tryz.underlying63; have a63 := Tryz.isAgg63; have z63 := Tryz.sizeOf63; have u63 := run_underlying Tryz.underlying63
  have e46 : ∀ args w, (callFunc 46 args).run Tryz.prog w = .ok (.enter 46 args) w := enters_of Tryz.func46 (by kernel_rfl) rfl
  have hB : Calls Tryz.prog 46 #[.int .i64 512] w fun e w' => e = .returned (.int .i64 1) ∧ Below w.heap.size w w' :=
    blocks_ok.calls (args := [.int .i64 512]) rfl (by decide) w hw
  go_enter Tryz.func26, Tryz.ntmps26
  go_wp2_with (go_at_fn 46; refine hB.mono ?_)
  rintro e w1 ⟨rfl, h1⟩
  have hlt : b < w.heap.size := (Array.getElem?_eq_some_iff.1 hb).1
  have hb1 : w1.heap[b]? = some (.cells #[.string s, x, y] 63 (0, 0)) := (h1.block b hlt).trans hb
  have c0 : w1.cell? ⟨b, 0, none⟩ = some (.string s) := by rw [cell_of_heap hb1]; rfl
  have f0 : w1.frozen? ⟨b, 0, none⟩ = false := frozen_of_heap hb1 0
  by_cases hsz : s.size < 512
  · have hsi : ((s.size : Int) < 512) := by omega
    go_wp2
    go_ret2
    exact ⟨fun _ => rfl, fun h => absurd h (by omega), h1.mono (Nat.le_of_lt hlt)⟩
  · have hsi : ¬ ((s.size : Int) < 512) := by omega
    go_wp2
    go_ret2
    refine ⟨fun h => absurd h (by omega), fun _ => ⟨rfl, ?_⟩, (h1.mono (Nat.le_of_lt hlt)).setCell (p := ⟨b, 0, none⟩) (Nat.le_refl _) _⟩
    simp [World.setCell, Array.getElem?_modify, hb1]
set_option maxHeartbeats 4000000 in
set_option maxRecDepth 1000000 in
theorem end_any (b : Nat) (s : ByteArray) (y : Value) (w : World) (hb : w.heap[b]? = some (.cells #[.string s, .map none, y] 63 (0, 0))) (hs : s.size < 1099511627776) (htr : 512 ≤ s.size → Lib.trimB s.data.toList 0 = []) :
    Calls Tryz.prog 27 #[.pointer (some ⟨b, 0, none⟩)] w fun e w' =>
      (s.size < 512 → e = .returned (.bool false)) ∧ (512 ≤ s.size → e = .returned (.bool true)) ∧ Below w.heap.size w w' := by
  have mixed : (Tryz.prog).follows .mixedOrders = true := by kernel_rfl
  have t3 := Tryz.underlying3; have a3 := Tryz.isAgg3; have z3 := Tryz.sizeOf3; have v3 := Tryz.zeroValue3; have u3 := run_underlying Tryz.underlying3
  have t4 := Tryz.underlying4; have a4 := Tryz.isAgg4; have z4 := Tryz.sizeOf4; have v4 := Tryz.zeroValue4; have u4 := run_underlying Tryz.underlying4
  have t9 := Tryz.underlying9; have a9 := Tryz.isAgg9; have z9 := Tryz.sizeOf9; have v9 := Tryz.zeroValue9; have u9 := run_underlying Tryz.underlying9
  have t63 := Tryz.underlying63; have a63 := Tryz.isAgg63; have z63 := Tryz.sizeOf63; have u63 := run_underlying Tryz.underlying63
  have t61 := Tryz.underlying61; have a61 := Tryz.isAgg61; have z61 := Tryz.sizeOf61; have u61 := run_underlying Tryz.underlying61
  have t58 := Tryz.underlying58; have a58 := Tryz.isAgg58; have z58 := Tryz.sizeOf58; have u58 := run_underlying Tryz.underlying58
  have e47 : ∀ args w, (callFunc 47 args).run Tryz.prog w = .ok (.enter 47 args) w := enters_of Tryz.func47 (by kernel_rfl) rfl
  have c0 : w.cell? ⟨b, 0, none⟩ = some (.string s) := by rw [cell_of_heap hb]; rfl
  have c1 : w.cell? ⟨b, 1, none⟩ = some (.map none) := by rw [cell_of_heap hb]; rfl
  have hT := Tryz.strings_Trim_one s 0 (by decide) w (by omega)
  by_cases hsz : s.size < 512
  · have hsi : ¬ ((512 : Int) ≤ (s.size : Int)) := by omega
    have key : Calls Tryz.prog 27 #[.pointer (some ⟨b, 0, none⟩)] w fun e w' => e = .returned (.bool false) ∧ Below w.heap.size w w' := by
      clear htr hsz hT
      go_enter Tryz.func27, Tryz.ntmps27
      go_wp2
      go_ret
      exact ⟨rfl, Below.refl _ _⟩
    exact key.mono fun e w' h => ⟨fun _ => h.1, fun h' => absurd h' (by omega), h.2⟩
  · have hsi : ((512 : Int) ≤ (s.size : Int)) := by omega
    have hT' : Calls Tryz.prog 47 #[.string s, .string ⟨#[0]⟩] w fun e w' => e = .returned (.string ⟨#[]⟩) ∧ w'.heap[b]? = some (.cells #[.string s, .map none, y] 63 (0, 0)) ∧ Below w.heap.size w w' := hT.mono fun e w' h => by
      refine ⟨by rw [h.1, htr (by omega)], ?_, ?_⟩
      · rcases h.2 with rfl | rfl <;> exact hb
      · rcases h.2 with rfl | rfl
        · exact Below.refl _ _
        · exact (Below.refl _ _).drew
    have key : Calls Tryz.prog 27 #[.pointer (some ⟨b, 0, none⟩)] w fun e w' => e = .returned (.bool true) ∧ Below w.heap.size w w' := by
      clear htr hsz hT
      go_enter Tryz.func27, Tryz.ntmps27
      go_wp2_with (go_at_fn 47; refine hT'.mono ?_)
      rintro e w1 ⟨rfl, hb1, hbel⟩
      have d1 : w1.cell? ⟨b, 1, none⟩ = some (.map none) := by rw [cell_of_heap hb1]; rfl
      have hm : (binOp .eql 58 (.map none) (.map none)).run Tryz.prog w1 = .ok (.bool true) w1 := by
        have h : ∀ d : Nat, (Op.equalIn (d + 1) 58 (.map none) (.map none)).run Tryz.prog w1 = .ok true w1 := fun d => by simp [Op.equalIn, run_underlying Tryz.underlying58]
        simp only [binOp]
        simp [Op.equal, Op.maxDepth, h 9999]
      go_wp2
      go_ret
      exact ⟨rfl, hbel⟩
    exact key.mono fun e w' h => ⟨fun h' => absurd h' hsz, fun _ => h.1, h.2⟩
set_option maxHeartbeats 4000000 in
set_option maxRecDepth 1000000 in
theorem read_short (s : ByteArray) (hs : s.size < 512) (w : World) (hw : Wd w) :
    Calls Tryz.prog 13 #[.string s] w fun e w' => e = .returned (.tuple #[.slice none 0 0, .int .i64 10]) ∧ Below w.heap.size w w' := by
  have mixed : (Tryz.prog).follows .mixedOrders = true := by kernel_rfl
  have t3 := Tryz.underlying3; have a3 := Tryz.isAgg3; have z3 := Tryz.sizeOf3; have v3 := Tryz.zeroValue3; have u3 := run_underlying Tryz.underlying3
  have t4 := Tryz.underlying4; have a4 := Tryz.isAgg4; have z4 := Tryz.sizeOf4; have v4 := Tryz.zeroValue4; have u4 := run_underlying Tryz.underlying4
  have t9 := Tryz.underlying9; have a9 := Tryz.isAgg9; have z9 := Tryz.sizeOf9; have v9 := Tryz.zeroValue9; have u9 := run_underlying Tryz.underlying9
  have t63 := Tryz.underlying63; have a63 := Tryz.isAgg63; have z63 := Tryz.sizeOf63; have v63 := Tryz.zeroValue63; have u63 := run_underlying Tryz.underlying63
  have e26 : ∀ args w, (callFunc 26 args).run Tryz.prog w = .ok (.enter 26 args) w := enters_of Tryz.func26 (by kernel_rfl) rfl
  go_enter Tryz.func13, Tryz.ntmps13
  go_wp2
  go_loopg [2] 0 (fun g s2 wx => s2 = .slice none 0 0 ∧ wx = w.alloc (.cells #[.string s, .map none, .slice none 0 0] 63))
  case atStart => exact ⟨rfl, rfl⟩
  case round =>
    obtain ⟨rfl, rfl⟩ := hrel
    have hbel : Below w.heap.size w (w.alloc (.cells #[.string s, .map none, .slice none 0 0] 63)) := (Below.refl _ w).alloc (Nat.le_refl _) _
    have hW : Wd (w.alloc (.cells #[.string s, .map none, .slice none 0 0] 63)) := hw.below hbel
    have hT := take_any w.heap.size s (.map none) (.slice none 0 0) _ hW (heap_alloc_last w _) (by omega)
    go_wp2_with (go_at_fn 26; refine hT.mono ?_)
    rintro e w1 ⟨h1, _, h3⟩
    obtain rfl := h1 hs
    go_wp2
    go_ret2
    exact ⟨rfl, hbel.trans h3⟩
set_option maxHeartbeats 4000000 in
set_option maxRecDepth 1000000 in
theorem read_zero (s : ByteArray) (hs : 512 ≤ s.size) (hs2 : s.size < 1099511627776) (hh : s.extract 0 512 = zs 512) (ht : 512 ≤ (s.extract 512 s.size).size → Lib.trimB (s.extract 512 s.size).data.toList 0 = []) (w : World) (hw : Wd w) (q : Int) (hq1 : Aside ((s.extract 512 s.size).size < 512 → q = 10)) (hq2 : Aside (¬ (s.extract 512 s.size).size < 512 → q = 0)) :
    Calls Tryz.prog 13 #[.string s] w fun e w' => e = .returned (.tuple #[.slice none 0 0, .int .i64 q]) ∧ Below w.heap.size w w' := by
  have h19 : ∀ w, Wd w → Calls Tryz.prog 19 #[.int .i64 512] w fun e w' => e = .returned (.string (zs 512)) ∧ Below w.heap.size w w' := fun w hw =>
    zeros_ok.calls (args := [.int .i64 512]) rfl ⟨by decide, by decide⟩ w hw
  generalize zs 512 = z at h19 hh
  have mixed : (Tryz.prog).follows .mixedOrders = true := by kernel_rfl
  have t3 := Tryz.underlying3; have a3 := Tryz.isAgg3; have z3 := Tryz.sizeOf3; have v3 := Tryz.zeroValue3; have u3 := run_underlying Tryz.underlying3
  have t4 := Tryz.underlying4; have a4 := Tryz.isAgg4; have z4 := Tryz.sizeOf4; have v4 := Tryz.zeroValue4; have u4 := run_underlying Tryz.underlying4
  have t9 := Tryz.underlying9; have a9 := Tryz.isAgg9; have z9 := Tryz.sizeOf9; have v9 := Tryz.zeroValue9; have u9 := run_underlying Tryz.underlying9
  have t63 := Tryz.underlying63; have a63 := Tryz.isAgg63; have z63 := Tryz.sizeOf63; have v63 := Tryz.zeroValue63; have u63 := run_underlying Tryz.underlying63
  have e26 : ∀ args w, (callFunc 26 args).run Tryz.prog w = .ok (.enter 26 args) w := enters_of Tryz.func26 (by kernel_rfl) rfl
  have e19 : ∀ args w, (callFunc 19 args).run Tryz.prog w = .ok (.enter 19 args) w := enters_of Tryz.func19 (by kernel_rfl) rfl
  have e27 : ∀ args w, (callFunc 27 args).run Tryz.prog w = .ok (.enter 27 args) w := enters_of Tryz.func27 (by kernel_rfl) rfl
  go_enter Tryz.func13, Tryz.ntmps13
  go_wp2
  go_loopg [2] 0 (fun g s2 wx => s2 = .slice none 0 0 ∧ wx = w.alloc (.cells #[.string s, .map none, .slice none 0 0] 63))
  case atStart => exact ⟨rfl, rfl⟩
  case round =>
    obtain ⟨rfl, rfl⟩ := hrel
    have hbel : Below w.heap.size w (w.alloc (.cells #[.string s, .map none, .slice none 0 0] 63)) := (Below.refl _ w).alloc (Nat.le_refl _) _
    have hW : Wd (w.alloc (.cells #[.string s, .map none, .slice none 0 0] 63)) := hw.below hbel
    have hT := take_any w.heap.size s (.map none) (.slice none 0 0) _ hW (heap_alloc_last w _) (by omega)
    go_wp2_with (go_at_fn 26; refine hT.mono ?_)
    rintro e w1 ⟨_, h2, h3⟩
    obtain ⟨rfl, hb⟩ := h2 hs
    rw [hh]
    have hb1 := hbel.trans h3
    have hW1 := hw.below hb1
    go_wp2_with (go_at_fn 19; refine (h19 _ hW1).mono ?_)
    rintro e w2 ⟨rfl, h4⟩
    have hlt : w.heap.size < w1.heap.size := (Array.getElem?_eq_some_iff.1 hb).1
    have hb2 : w2.heap[w.heap.size]? = some (.cells #[.string (s.extract 512 s.size), .map none, .slice none 0 0] 63 (0, 0)) := (h4.block _ hlt).trans hb
    have hb3 := hb1.trans (h4.mono (Nat.le_of_lt hlt))
    have hz : (s.extract 512 s.size).size < 1099511627776 := by rw [ByteArray.size_extract]; omega
    have hE := end_any w.heap.size (s.extract 512 s.size) (.slice none 0 0) w2 hb2 hz ht
    have hlt2 : w.heap.size ≤ w2.heap.size := by have := h4.size; omega
    clear hT hb2 ht
    by_cases hq : (s.extract 512 s.size).size < 512
    · have hE' := hE.mono (R' := fun e w' => e = .returned (.bool false) ∧ Below w2.heap.size w2 w') fun e w' h => ⟨h.1 hq, h.2.2⟩
      have HQ : Aside ((s.extract 512 s.size).size < 512) := hq
      clear hE hq hz hb hs2 hlt h3 h4 hb1 hW1 hs hh hW h19
      go_wp2_with (go_at_fn 27; refine hE'.mono ?_)
      rintro e w3 ⟨rfl, h5⟩
      go_wp2
      go_ret2
      exact ⟨by rw [hq1.out HQ.out]; rfl, hb3.trans (h5.mono hlt2)⟩
    · have hE' := hE.mono (R' := fun e w' => e = .returned (.bool true) ∧ Below w2.heap.size w2 w') fun e w' h => ⟨h.2.1 (by omega), h.2.2⟩
      have HQ : Aside (¬ (s.extract 512 s.size).size < 512) := hq
      clear hE hq hz hb hs2 hlt h3 h4 hb1 hW1 hs hh hW h19
      go_wp2_with (go_at_fn 27; refine hE'.mono ?_)
      rintro e w3 ⟨rfl, h5⟩
      go_wp2
      go_ret2
      exact ⟨by rw [hq2.out HQ.out]; rfl, hb3.trans (h5.mono hlt2)⟩
theorem zs_extract (a n : Nat) (h : a ≤ n) : (zs n).extract 0 a = zs a ∧ (zs n).extract a n = zs (n - a) := by
  constructor
  · refine li_inj ?_
    show ((zs n).extract 0 a).data.toList = _
    simp [zs, li, ofL, ByteArray.data_extract, List.take_replicate, Nat.min_eq_left h]
  · refine li_inj ?_
    show ((zs n).extract a n).data.toList = _
    simp [zs, li, ofL, ByteArray.data_extract, List.take_replicate]
theorem dropW (n : Nat) : (List.replicate n (0 : UInt8)).dropWhile (· == 0) = [] := by
  induction n with
  | zero => rfl
  | succ n ih => rw [List.replicate_succ, List.dropWhile_cons]; exact ih
theorem trimB_zs (n : Nat) : Lib.trimB (zs n).data.toList 0 = [] := by
  have e : (zs n).data.toList = List.replicate n 0 := by simp [zs, ofL]
  rw [e]
  unfold Lib.trimB Lib.trimRightB
  rw [List.reverse_replicate, dropW]
  rfl
/-- What Read says of zeros, of no more than a block, and of two blocks. -/
def read0G : Pure
  | [.string s] => some (s = zs 512 ∨ s = zs 1024 ∨ s = ⟨#[]⟩, .tuple ⟨[.slice none 0 0, .int .i64 (bif Nat.beq s.size 1024 then 0 else 10)]⟩)
  | _ => none
theorem read0_ok : PureOk Tryz.prog 13 read0G :=
  .of_shelf Tryz.func13 (by kernel_rfl) rfl fun args c r hg => by
    unfold read0G at hg
    split at hg
    · rename_i s
      cases hg
      refine ⟨rfl, fun hc => ⟨rfl, fun w hw => ?_⟩⟩
      have z1 : ∀ n, (zs n).extract 512 (zs n).size = (zs n).extract 512 n := fun n => by rw [zs_size]
      have z2 : (zs 512).extract 512 512 = zs 0 := (zs_extract 512 512 (Nat.le_refl _)).2
      have z3 : (zs 1024).extract 512 1024 = zs 512 := (zs_extract 512 1024 (by omega)).2
      rcases hc with h | h | h
      · have e : s.size = 512 := by rw [h, zs_size]
        rw [e]
        refine read_zero s (by omega) (by omega) (by rw [h]; exact (zs_extract 512 512 (Nat.le_refl _)).1) (fun h2 => ?_) w hw _ (fun _ => rfl) (fun h2 => ?_)
        · rw [h, z1, z2, zs_size] at h2; omega
        · exact absurd (by rw [h, z1, z2, zs_size]; omega) h2
      · have e : s.size = 1024 := by rw [h, zs_size]
        rw [e]
        refine read_zero s (by omega) (by omega) (by rw [h]; exact (zs_extract 512 1024 (by omega)).1) (fun h2 => ?_) w hw _ (fun h2 => ?_) (fun _ => rfl)
        · rw [h, z1, z3]; exact trimB_zs _
        · rw [h, z1, z3, zs_size] at h2; omega
      · have e : s.size = 0 := by rw [h]; rfl
        rw [e]
        exact read_short s (by omega) w hw
    · cases hg
end Go.Proofs.YtbgilaacfbinbaaGreatDoor.PM

namespace Go.Proofs.YtbgilaacfbinbaaGreatDoor.PM
open Go Go.Proofs Go.RowKit
set_option maxRecDepth 1000000
def hiE : Ent := (1, ⟨#[97]⟩, ⟨#[]⟩, 420, ⟨#[104, 105]⟩, ())
def hiT : ByteArray := entTxt hiE ++ zs 1024
theorem hi1 : (li hiT).length = 2048 := by kernel_rfl
theorem hi2 : ((li hiT).take 2) = [97, 0] := by kernel_rfl
theorem hi3 : (((li hiT).drop 100).take 8) = [48, 48, 48, 48, 54, 52, 52, 0] := by kernel_rfl
theorem hi4 : (((li hiT).drop 124).take 12) = [48, 48, 48, 48, 48, 48, 48, 48, 48, 48, 50, 0] := by kernel_rfl
theorem hi5 : (((li hiT).drop 512).take 3) = [104, 105, 0] := by kernel_rfl
end Go.Proofs.YtbgilaacfbinbaaGreatDoor.PM

namespace Go.Proofs.YtbgilaacfbinbaaGreatDoor.PM
open Go Go.Proofs Go.RowKit
set_option maxRecDepth 100000
set_option linter.unusedVariables false
set_option linter.unusedSimpArgs false

section
variable (A T : ByteArray) (fR : ByteArray → Int) (cR : ByteArray → Prop)
def write9 : Read
  | [.slice none 0 0], _ => some (True, .tuple ⟨[.string A, .int .i64 0]⟩)
  | [.slice (some ⟨0, 0, none⟩) n c], [.row C e l _] => some ((n = l.length ∧ C.flat = true ∧ entRow C e l) ∧ asEnt C l = [hiE], .tuple ⟨[.string T, .int .i64 0]⟩)
  | _, _ => none
def read9 : Pure
  | [.string s] => some (cR s, .tuple ⟨[.slice none 0 0, .int .i64 (fR s)]⟩)
  | _ => none
theorem mkz (n : Nat) : ByteArray.mk (Array.mk (List.map (fun (x : Int) => (UInt8.ofNat x.toNat)) (List.map (intC .u8).numOf (List.take n (List.drop 0 (List.replicate n (0 : (intC .u8).α))))))) = zs n := by
  refine li_inj ?_
  show List.map (fun (x : Int) => (UInt8.ofNat x.toNat)) (List.map (intC .u8).numOf (List.take n (List.drop 0 (List.replicate n (0 : (intC .u8).α))))) = li (zs n)
  simp [zs, li, ofL]
theorem sameB {s t : ByteArray} (h : s = t) : (s.toList == t.toList) = true := by rw [h]; exact beq_self_eq_true _
theorem extract_li (s : ByteArray) (a b : Nat) : li (s.extract a b) = ((li s).drop a).take (b - a) := by
  show (s.extract a b).data.toList = _
  rw [ByteArray.data_extract]
  simp [li, List.take_drop]
theorem packed_run (K : Value → VH → Prop) (hK : ∀ H, K (.bool true) H) (c1 : cR A) (c2 : cR (zs 512)) (c3 : cR ⟨#[]⟩) (hA : A = zs 1024) (f1 : fR A = 0) (f2 : fR (zs 512) = 10) (f3 : fR ⟨#[]⟩ = 10)
    (t0 : T.size = 2048) (t1 : T.extract 0 2 = ⟨#[97, 0]⟩) (t2 : T.extract 100 108 = ⟨#[48, 48, 48, 48, 54, 52, 52, 0]⟩) (t3 : T.extract 124 136 = ⟨#[48, 48, 48, 48, 48, 48, 48, 48, 48, 48, 50, 0]⟩) (t4 : T.extract 512 515 = ⟨#[104, 105, 0]⟩) :
    runF Tryz.prog (callOf [(10, readS (write9 A T)), (13, pureS (read9 fR cR))]) (hints 9) noTab 1 Tryz.f9 [] [] K := by
  have hK := hK []
  refine toR (R := True ∧ ((cR A) ∧ ((cR (ByteArray.mk (Array.mk (List.map (fun (x : Int) => (UInt8.ofNat x.toNat)) (List.map (intC .u8).numOf (List.take 512 (List.drop 0 (List.replicate 512 (0 : (intC .u8).α))))))))) ∧ ((cR (ByteArray.mk #[])) ∧ ((((1 = 1) ∧ (((flatC [(FK.i .i64), FK.s, FK.s, (FK.i .i64), FK.s]).flat = true) ∧ (entRow (flatC [(FK.i .i64), FK.s, FK.s, (FK.i .i64), FK.s]) 5 [((1 : Int), (ByteArray.mk #[97]), (ByteArray.mk #[]), (420 : Int), (ByteArray.mk #[104, 105]), ())]))) ∧ ((asEnt (flatC [(FK.i .i64), FK.s, FK.s, (FK.i .i64), FK.s]) [((1 : Int), (ByteArray.mk #[97]), (ByteArray.mk #[]), (420 : Int), (ByteArray.mk #[104, 105]), ())]) = [hiE])) ∧ (bcase (A.toList == (ByteArray.mk (Array.mk (List.map (fun (x : Int) => (UInt8.ofNat x.toNat)) (List.map (intC .u8).numOf (List.take 1024 (List.drop 0 (List.replicate 1024 (0 : (intC .u8).α)))))))).toList) (bcase ((fR A) == (0 : Int)) (bcase ((fR (ByteArray.mk (Array.mk (List.map (fun (x : Int) => (UInt8.ofNat x.toNat)) (List.map (intC .u8).numOf (List.take 512 (List.drop 0 (List.replicate 512 (0 : (intC .u8).α))))))))) == (10 : Int)) (bcase ((fR (ByteArray.mk #[])) == (10 : Int)) (bcase ((↑T.size : Int) == (2048 : Int)) (need (decide ((2 : Int) ≤ (↑T.size : Int))) (bcase ((T.extract 0 2).toList == (ByteArray.mk #[97, 0]).toList) (need (decide ((108 : Int) ≤ (↑T.size : Int))) (bcase ((T.extract 100 108).toList == (ByteArray.mk #[48, 48, 48, 48, 54, 52, 52, 0]).toList) (need (decide ((136 : Int) ≤ (↑T.size : Int))) (bcase ((T.extract 124 136).toList == (ByteArray.mk #[48, 48, 48, 48, 48, 48, 48, 48, 48, 48, 50, 0]).toList) (need (decide ((515 : Int) ≤ (↑T.size : Int))) (K (.bool ((T.extract 512 515).toList == (ByteArray.mk #[104, 105, 0]).toList)) [])) (K (.bool false) []))) (K (.bool false) []))) (K (.bool false) []))) (K (.bool false) [])) (K (.bool false) [])) (K (.bool false) [])) (K (.bool false) [])) (K (.bool false) []))))))) (by kernel_rfl) ?_
  rw [mkz, mkz]
  have e0 : ∀ q : Nat, q ≤ 2048 → decide ((q : Int) ≤ (T.size : Int)) = true := fun q h => decide_eq_true (by omega)
  have hK : K (.bool ((T.extract 512 515).toList == (ByteArray.mk #[104, 105, 0]).toList)) [] := by rw [sameB t4]; exact hK
  refine ⟨trivial, c1, c2, c3, ⟨⟨rfl, rfl, rfl, fun x hx => by cases hx with | head => rfl | tail _ h => cases h⟩, rfl⟩, bcase_t (sameB hA) (bcase_t (by rw [f1]; rfl) (bcase_t (by rw [f2]; rfl) (bcase_t (by rw [f3]; rfl) (bcase_t (by rw [t0]; rfl) (need_of (e0 2 (by omega)) (bcase_t (sameB t1) (need_of (e0 108 (by omega)) (bcase_t (sameB t2) (need_of (e0 136 (by omega)) (bcase_t (sameB t3) (need_of (e0 515 (by omega)) hK)))))))))))⟩
end
theorem hiT_eq : (⟨#[]⟩ ++ entTxt hiE) ++ zs 1024 = hiT := by
  rw [show (⟨#[]⟩ : ByteArray) ++ entTxt hiE = entTxt hiE from ByteArray.empty_append]
  rfl
theorem hi_may : entMay hiE = true := by kernel_rfl
theorem write9_ok : ReadOk Tryz.prog 10 (write9 (zs 1024) hiT) where
  enter := pwrite_ok.enter
  meets args H c r hg hc := by
    unfold write9 at hg
    split at hg
    · cases hg
      have e : (⟨#[]⟩ : ByteArray) ++ zs 1024 = zs 1024 := ByteArray.empty_append
      have := pwrite_ok.meets [.slice none 0 0] H (∀ x ∈ ([] : List Ent), EntZ x) (writeV []) rfl (fun x hx => by cases hx)
      have e2 : writeV [] = .tuple ⟨[.string (⟨#[]⟩ ++ zs 1024), .int .i64 0]⟩ := rfl
      rw [e2, e] at this
      exact this
    · rename_i n cc C e l m
      cases hg
      obtain ⟨h1, h2⟩ := hc
      have hz : EntZ hiE := ⟨by decide, by decide, by decide⟩
      have := pwrite_ok.meets [.slice (some ⟨0, 0, none⟩) n cc] [.row C e l m] _ (writeV (asEnt C l)) rfl ⟨h1, by rw [h2]; intro x hx; cases hx with | head => exact hz | tail _ h => cases h⟩
      have e2 : writeV (asEnt C l) = .tuple ⟨[.string hiT, .int .i64 0]⟩ := by
        rw [h2, ← hiT_eq]
        show wrV (zs 1024) (bif entMay hiE then some (⟨#[]⟩ ++ entTxt hiE) else none) = _
        rw [hi_may]
        rfl
      rw [e2] at this
      exact this
    · cases hg
def fR0 (s : ByteArray) : Int := bif Nat.beq s.size 1024 then 0 else 10
def cR0 (s : ByteArray) : Prop := s = zs 512 ∨ s = zs 1024 ∨ s = ⟨#[]⟩
def packedG : Pure
  | [] => some (True, .bool true)
  | _ => none
theorem read9_ok : PureOk Tryz.prog 13 (read9 fR0 cR0) := by
  have e : read9 fR0 cR0 = read0G := rfl
  rw [e]
  exact read0_ok
theorem packed_ok : PureOk Tryz.prog 9 packedG := by
  refine .of_run (call := callOf [(10, readS (write9 (zs 1024) hiT)), (13, pureS (read9 fR0 cR0))]) (hint := hints 9) (tb := noTab) hm (callOf_cons write9_ok.spec (callOf_cons read9_ok.spec callOf_nil)) Tryz.func9 (by kernel_rfl) rfl (by kernel_rfl) (by repeat' first | exact trivial | constructor |  (intro _ h; cases h)) fun args c r h => ?_
  unfold packedG at h
  split at h
  · cases h
    refine ⟨rfl, fun _ => ⟨rfl, 1, fun K hK => ?_⟩⟩
    have ex : ∀ (a b : Nat) (l : List UInt8), ((li hiT).drop a).take (b - a) = l → hiT.extract a b = ⟨⟨l⟩⟩ := fun a b l h => li_inj ((extract_li _ _ _).trans h)
    exact packed_run (zs 1024) hiT fR0 cR0 K hK (.inr (.inl rfl)) (.inl rfl) (.inr (.inr rfl)) rfl (by unfold fR0; rw [zs_size]; rfl) (by unfold fR0; rw [zs_size]; rfl) rfl
      (by rw [← li_size]; exact hi1) (ex 0 2 _ (by rw [List.drop_zero]; exact hi2)) (ex 100 108 _ hi3) (ex 124 136 _ hi4) (ex 512 515 _ hi5)
  · cases h
end Go.Proofs.YtbgilaacfbinbaaGreatDoor.PM

namespace Go.Proofs.YtbgilaacfbinbaaGreatDoor.PM
open Go Go.Proofs Go.RowKit
set_option maxRecDepth 100000
set_option linter.unusedVariables false
set_option linter.unusedSimpArgs false

def bigE (x : Ent) : Bool := decide ((x.2.1.size : Int) > 300) || (decide ((x.2.2.1.size : Int) > 300) || decide ((x.2.2.2.2.1.size : Int) > 1500))
theorem gr_step (l : List Ent) (c : Nat) (most : Int) (K : Kont) (kk i : Nat) (hl : l.length < 2 ^ 63)
    (h0 : ¬ i < l.length → K (.exit 0) [(0, .slice (some ⟨0, 0, none⟩) l.length c), (1, .int .i64 most)] [.row entC 5 l .ro])
    (h1 : ∀ x, l[i]? = some x → bigE x = true → K .ret [(4, .bool true)] [.row entC 5 l .ro])
    (h2 : ∀ x, l[i]? = some x → bigE x = false → rnds Tryz.prog (callOf []) (hints 8) noTab kk (lp Tryz.f8 2) [(0, .slice (some ⟨0, 0, none⟩) l.length c), (1, .int .i64 most), (5, .int .i64 ((i + 1 : Nat) : Int))] [.row entC 5 l .ro] K) :
    rnds Tryz.prog (callOf []) (hints 8) noTab (kk + 1) (lp Tryz.f8 2) [(0, .slice (some ⟨0, 0, none⟩) l.length c), (1, .int .i64 most), (5, .int .i64 (i : Int))] [.row entC 5 l .ro] K := by
  refine toR (R := bcase (decide ((↑i : Int) < (↑l.length : Int))) (need (decide ((↑i : Int) < (↑l.length : Int))) (need ((decide ((0 + (↑i : Int).toNat) < l.length)) && true) (bcase (decide ((↑(ByteArray.size (l.getD (0 + (↑i : Int).toNat) ((0 : (FK.i .i64).T), (ByteArray.mk #[]), (ByteArray.mk #[]), (0 : (FK.i .i64).T), (ByteArray.mk #[]), ())).snd.fst) : Int) > (300 : Int))) (K .ret [(4, (.bool true))] [(VB.row (flatC [(FK.i .i64), FK.s, FK.s, (FK.i .i64), FK.s]) 5 l .ro)]) (need (decide ((↑i : Int) < (↑l.length : Int))) (need ((decide ((0 + (↑i : Int).toNat) < l.length)) && true) (bcase (decide ((↑(ByteArray.size (l.getD (0 + (↑i : Int).toNat) ((0 : (FK.i .i64).T), (ByteArray.mk #[]), (ByteArray.mk #[]), (0 : (FK.i .i64).T), (ByteArray.mk #[]), ())).snd.snd.fst) : Int) > (300 : Int))) (K .ret [(4, (.bool true))] [(VB.row (flatC [(FK.i .i64), FK.s, FK.s, (FK.i .i64), FK.s]) 5 l .ro)]) (need (decide ((↑i : Int) < (↑l.length : Int))) (need ((decide ((0 + (↑i : Int).toNat) < l.length)) && true) (bcase (decide ((↑(ByteArray.size (l.getD (0 + (↑i : Int).toNat) ((0 : (FK.i .i64).T), (ByteArray.mk #[]), (ByteArray.mk #[]), (0 : (FK.i .i64).T), (ByteArray.mk #[]), ())).snd.snd.snd.snd.fst) : Int) > (1500 : Int))) (K .ret [(4, (.bool true))] [(VB.row (flatC [(FK.i .i64), FK.s, FK.s, (FK.i .i64), FK.s]) 5 l .ro)]) (rnds Tryz.prog (callOf []) (hints 8) noTab kk (lp Tryz.f8 2) [(0, (.slice (some (Addr.mk 0 0 none)) l.length c)), (1, (.int .i64 most)), (5, (.int .i64 (IntKind.i64.wrap ((↑i : Int) + (1 : Int)))))] [(VB.row (flatC [(FK.i .i64), FK.s, FK.s, (FK.i .i64), FK.s]) 5 l .ro)] K)))))))))) (K (.exit 0) [(0, (.slice (some (Addr.mk 0 0 none)) l.length c)), (1, (.int .i64 most))] [(VB.row (flatC [(FK.i .i64), FK.s, FK.s, (FK.i .i64), FK.s]) 5 l .ro)])) (by kernel_rfl) ?_
  by_cases hi : i < l.length
  · have g1 : decide ((i : Int) < (l.length : Int)) = true := decide_eq_true (by omega)
    have g2 : (decide (0 + (i : Int).toNat < l.length) && true) = true := by rw [decide_eq_true (by omega)]; rfl
    have w0 : IntKind.i64.wrap ((i : Int) + 1) = ((i + 1 : Nat) : Int) := wrap_id (by omega) (by omega)
    have gx : l[i]? = some (l.getD (0 + (i : Int).toNat) ((0 : (FK.i .i64).T), (ByteArray.mk #[]), (ByteArray.mk #[]), (0 : (FK.i .i64).T), (ByteArray.mk #[]), ())) := by
      rw [show 0 + (i : Int).toNat = i by omega, List.getD_eq_getElem?_getD, List.getElem?_eq_getElem hi]; rfl
    rw [w0]
    generalize l.getD (0 + (i : Int).toNat) ((0 : (FK.i .i64).T), (ByteArray.mk #[]), (ByteArray.mk #[]), (0 : (FK.i .i64).T), (ByteArray.mk #[]), ()) = x at gx ⊢
    have h1 := h1 x gx
    have h2 := h2 x gx
    unfold bigE at h1 h2
    refine bcase_t g1 (need_of g1 (need_of g2 (bcase_of (fun a1 => h1 (by rw [a1]; rfl)) (fun a1 => need_of g1 (need_of g2 (bcase_of (fun a2 => h1 (by rw [a1, a2]; rfl)) (fun a2 => need_of g1 (need_of g2 (bcase_of (fun a3 => h1 (by rw [a1, a2, a3]; rfl)) (fun a3 => h2 (by rw [a1, a2, a3]; rfl)))))))))))
  · exact bcase_f (decide_eq_false (by omega)) (h0 hi)
theorem gr_rounds (l : List Ent) (c : Nat) (most : Int) (K : Kont) (hl : l.length < 2 ^ 63) : ∀ (d i : Nat), i + d = l.length →
    bcase ((l.drop i).any bigE) (K .ret [(4, .bool true)] [.row entC 5 l .ro]) (K (.exit 0) [(0, .slice (some ⟨0, 0, none⟩) l.length c), (1, .int .i64 most)] [.row entC 5 l .ro]) →
    rnds Tryz.prog (callOf []) (hints 8) noTab (d + 1) (lp Tryz.f8 2) [(0, .slice (some ⟨0, 0, none⟩) l.length c), (1, .int .i64 most), (5, .int .i64 (i : Int))] [.row entC 5 l .ro] K
  | 0, i, hi, hK => by
    refine gr_step l c most K 0 i hl (fun _ => ?_) (fun x hx => ?_) (fun x hx => ?_)
    · rw [List.drop_of_length_le (by omega)] at hK; exact hK
    · have := (List.getElem?_eq_some_iff.1 hx).1; omega
    · have := (List.getElem?_eq_some_iff.1 hx).1; omega
  | d + 1, i, hi, hK => by
    have ih := gr_rounds l c most K hl d (i + 1) (by omega)
    refine gr_step l c most K (d + 1) i hl (fun h => absurd (by omega) h) (fun x hx hb => ?_) (fun x hx hb => ?_)
    · obtain ⟨hlt, hx'⟩ := List.getElem?_eq_some_iff.1 hx
      rw [List.drop_eq_getElem_cons hlt, hx', List.any_cons, hb] at hK
      exact hK
    · obtain ⟨hlt, hx'⟩ := List.getElem?_eq_some_iff.1 hx
      rw [List.drop_eq_getElem_cons hlt, hx', List.any_cons, hb, Bool.false_or] at hK
      exact ih hK
def grLp : LSpec
  | [(0, .slice (some ⟨0, 0, none⟩) n c), (1, .int .i64 most), (5, .int .i64 i)], H, K => ∃ l : List Ent, (i = 0 ∧ n = l.length ∧ l.length < 2 ^ 63 ∧ H = [.row entC 5 l .ro]) ∧
      bcase (l.any bigE) (K .ret [(4, .bool true)] [.row entC 5 l .ro]) (K (.exit 0) [(0, .slice (some ⟨0, 0, none⟩) n c), (1, .int .i64 most)] [.row entC 5 l .ro])
  | _, _, _ => False
theorem grLp_ok : CodeOk Tryz.prog Tryz.f8.ntmps (.loop (lp Tryz.f8 2)) grLp := by
  refine loop_ok (call := callOf []) (hint := hints 8) (tb := noTab) hm (callOf_nil) (by kernel_rfl) (by repeat' first | exact trivial | constructor |  (intro _ h; cases h)) fun fr H K h => ?_
  unfold grLp at h
  split at h
  · obtain ⟨l, ⟨rfl, rfl, h1, rfl⟩, hK⟩ := h
    exact ⟨_, gr_rounds l _ _ K h1 l.length 0 (by omega) hK⟩
  · exact h.elim
def tab8 : Tab := ⟨fun | 2 => some grLp | _ => none, fun _ => none⟩
def greatB (l : List Ent) (most : Int) : Bool := l.any bigE || decide ((l.length : Int) > most)
/-- What is read of a list of entries, with other arguments. -/
def listR (g : List Value → List Ent → Prop × Value) : Read
  | .slice none 0 0 :: rest, _ => some ((g rest []).1, (g rest []).2)
  | .slice (some ⟨0, 0, none⟩) n c :: rest, [.row C e l _] => some ((n = l.length ∧ C.flat = true ∧ entRow C e l) ∧ (g rest (asEnt C l)).1, (g rest (asEnt C l)).2)
  | _, _ => none
theorem ReadOk.of_listR {P : Program} {f : FuncId} {g : List Value → List Ent → Prop × Value} (he : callable P f)
    (h0 : ∀ rest, (g rest []).1 → closedV (g rest []).2 = true ∧ ∀ H, Meets P f (.slice none 0 0 :: rest) H (fun r' _ => r' = (g rest []).2))
    (h : ∀ (rest : List Value) (l : List Ent) (c : Nat), (g rest l).1 → closedV (g rest l).2 = true ∧ Meets P f (.slice (some ⟨0, 0, none⟩) l.length c :: rest) [.row entC 5 l .ro] (fun r' _ => r' = (g rest l).2)) : ReadOk P f (listR g) where
  enter := he
  meets args H c r hg hc := by
    unfold listR at hg
    split at hg
    · cases hg
      exact ⟨(h0 _ hc).1, (h0 _ hc).2 _⟩
    · rename_i n cc rest C e l m
      cases hg
      obtain ⟨⟨rfl, hf, her⟩, hc⟩ := hc
      obtain ⟨h1, h2⟩ := h rest (asEnt C l) cc hc
      refine ⟨h1, .of_below h1 fun μ w args' hw hr hargs => ?_⟩
      have hr1 : HR μ [.row C e l .ro] w := by
        have := hr.toRo
        have e1 : ([VB.row C e l m].map roB) = [VB.row C e l .ro] := by
          show [bif C.flat then VB.row C e l .ro else VB.dead] = _
          rw [hf]; rfl
        rw [e1] at this
        exact this
      have hl : (asEnt C l).length = l.length := by unfold asEnt; rw [List.length_map]
      rw [hl] at h2
      refine (h2 μ w args' hw (hr1.toEnt her) hargs).mono ?_
      rintro ee w' ⟨r', r'', μ', H', rfl, k1, _, _, _, _, _, k7, rfl⟩
      obtain ⟨rfl, _⟩ := closedV_same (ν := μ') h1 k1
      exact ⟨rfl, k7⟩
    · cases hg
def greatG : List Value → List Ent → Prop × Value
  | [.int .i64 most], l => (l.length < 2 ^ 63, .bool (greatB l most))
  | _, _ => (False, .bool false)
theorem great_nil (most : Int) (K : Value → VH → Prop) (hK : K (.bool (decide ((0 : Int) > most))) []) :
    runF Tryz.prog (callOf []) (hints 8) unrollTab 5 Tryz.f8 [.slice none 0 0, .int .i64 most] [] K := by
  refine toR (R := K (.bool (decide ((↑0 : Int) > most))) []) (by kernel_rfl) ?_
  exact hK
theorem great_run (l : List Ent) (c : Nat) (most : Int) (hl : l.length < 2 ^ 63) (K : Value → VH → Prop) (hK : K (.bool (greatB l most)) [.row entC 5 l .ro]) :
    runF Tryz.prog (callOf []) (hints 8) tab8 1 Tryz.f8 [.slice (some ⟨0, 0, none⟩) l.length c, .int .i64 most] [.row entC 5 l .ro] K := by
  refine toR (R := ∃ (l_1 : (List Ent)), ((((0 : Int) = (0 : Int)) ∧ ((l.length = l_1.length) ∧ ((l_1.length < 9223372036854775808) ∧ ([(VB.row (flatC [(FK.i .i64), FK.s, FK.s, (FK.i .i64), FK.s]) 5 l .ro)] = [(VB.row (flatC [(FK.i .i64), FK.s, FK.s, (FK.i .i64), FK.s]) 5 l_1 .ro)])))) ∧ (bcase (l_1.any bigE) (K (.bool true) [(VB.row (flatC [(FK.i .i64), FK.s, FK.s, (FK.i .i64), FK.s]) 5 l_1 .ro)]) (K (.bool (decide ((↑l.length : Int) > most))) [(VB.row (flatC [(FK.i .i64), FK.s, FK.s, (FK.i .i64), FK.s]) 5 l_1 .ro)])))) (by kernel_rfl) ?_
  unfold greatB at hK
  refine ⟨l, ⟨rfl, rfl, hl, rfl⟩, bcase_of (fun h => ?_) (fun h => ?_)⟩ <;> rw [h] at hK <;> exact hK
theorem great_ok : ReadOk Tryz.prog 8 (listR greatG) := by
  have he : callable Tryz.prog 8 := ⟨_, _, Tryz.func8, by kernel_rfl, rfl⟩
  refine .of_listR he (fun rest hc => ?_) fun rest l c hc => ?_
  · unfold greatG at hc ⊢
    split at hc
    · rename_i ll most
      refine ⟨rfl, fun H => ?_⟩
      have h1 : Meets Tryz.prog 8 [.slice none 0 0, .int .i64 most] [] (fun r' _ => r' = .bool (greatB [] most)) :=
        runF_meets (tb := unrollTab) hm (callOf_nil (P := Tryz.prog)) Ro.empty Tryz.func8 (by kernel_rfl) (by repeat' first | exact trivial | constructor | (intro _ h; cases h)) (great_nil most _ rfl)
      exact h1.lift rfl H fun r H' e => by subst e; exact ⟨rfl, rfl⟩
    · exact hc.elim
  · unfold greatG at hc ⊢
    split at hc
    · rename_i ll most
      exact ⟨rfl, runF_meets (tb := tab8) hm (callOf_nil (P := Tryz.prog)) (.cons rfl Ro.empty) Tryz.func8 (by kernel_rfl) (by repeat' first | exact trivial | constructor | (intro _ h; cases h; exact grLp_ok) | (intro _ h; cases h)) (great_run _ c most hc _ rfl)⟩
    · exact hc.elim
end Go.Proofs.YtbgilaacfbinbaaGreatDoor.PM

namespace Go.Proofs.YtbgilaacfbinbaaGreatDoor.PM
open Go Go.Proofs Go.RowKit
set_option maxRecDepth 100000
set_option linter.unusedVariables false
set_option linter.unusedSimpArgs false

def wrS (l : List Ent) : ByteArray := bif decide ((l.length : Int) > 200) then ⟨#[]⟩ else bif l.all entMay then wrCat l ⟨#[]⟩ ++ zs 1024 else ⟨#[]⟩
def wrE (l : List Ent) : Int := bif decide ((l.length : Int) > 200) then 63 else bif l.all entMay then 0 else 2
theorem writeV_eq (l : List Ent) : writeV l = .tuple ⟨[.string (wrS l), .int .i64 (wrE l)]⟩ := by
  unfold writeV wrS wrE
  rw [wrFrom_eq l ⟨#[]⟩]
  cases decide ((l.length : Int) > 200) <;> cases l.all entMay <;> rfl
def EntZs (l : List Ent) : Prop := ∀ x ∈ l, EntZ x
section
variable (sF : List Ent → ByteArray) (eF : List Ent → Int) (gF : List Ent → Int → Bool)
def writeR : Read
  | [.slice none 0 0], _ => some (True, .tuple ⟨[.string (sF []), .int .i64 (eF [])]⟩)
  | [.slice (some ⟨0, 0, none⟩) n c], [.row C e l _] => some ((n = l.length ∧ C.flat = true ∧ entRow C e l) ∧ EntZs (asEnt C l), .tuple ⟨[.string (sF (asEnt C l)), .int .i64 (eF (asEnt C l))]⟩)
  | _, _ => none
def greatR : Read
  | [.slice none 0 0, .int .i64 most], _ => some (True, .bool (gF [] most))
  | [.slice (some ⟨0, 0, none⟩) n c, .int .i64 most], [.row C e l _] => some ((n = l.length ∧ C.flat = true ∧ entRow C e l) ∧ (asEnt C l).length < 2 ^ 63, .bool (gF (asEnt C l) most))
  | _, _ => none
end
theorem ReadOk.toR {f : FuncId} (h : ReadOk Tryz.prog f (listG writeG)) : ReadOk Tryz.prog f (writeR wrS wrE) where
  enter := h.enter
  meets args H c r hg hc := by
    unfold writeR at hg
    split at hg
    · cases hg
      have := h.meets [.slice none 0 0] H (∀ x ∈ ([] : List Ent), EntZ x) (writeV []) rfl (fun x hx => by cases hx)
      rw [writeV_eq] at this
      exact this
    · rename_i n cc C e l m
      cases hg
      have := h.meets [.slice (some ⟨0, 0, none⟩) n cc] [.row C e l m] _ (writeV (asEnt C l)) rfl hc
      rw [writeV_eq] at this
      exact this
    · cases hg
theorem greatR_ok : ReadOk Tryz.prog 8 (greatR greatB) where
  enter := great_ok.enter
  meets args H c r hg hc := by
    unfold greatR at hg
    split at hg
    · rename_i most
      cases hg
      exact great_ok.meets [.slice none 0 0, .int .i64 most] _ _ (.bool (greatB [] most)) rfl (by decide : ([] : List Ent).length < 2 ^ 63)
    · rename_i n cc most C e l m
      cases hg
      exact great_ok.meets [.slice (some ⟨0, 0, none⟩) n cc, .int .i64 most] [.row C e l m] _ (.bool (greatB (asEnt C l) most)) rfl hc
    · cases hg
theorem law_step (x : Ent) (r : List Ent) (c cc : Nat) (many : Int) (K : Kont) (kk i : Nat) (h1 : 0 ≤ many) (h2 : many < 256) (hi : i < 500)
    (hx : i < 190 + many.toNat % 20 → ∀ c2, rnds Tryz.prog (callOf []) (hints 3) noTab kk (lp Tryz.f3 11) [(0, .slice (some ⟨0, 0, none⟩) (r.length + 1) c), (1, .int .u8 many), (9, .slice (some ⟨1, 0, none⟩) (i + 1) c2), (10, .int .i64 ((i + 1 : Nat) : Int))] [.row entC 5 (x :: r) .ro, .row entC 5 (List.replicate (i + 1) x) .own] K)
    (h0 : ¬ i < 190 + many.toNat % 20 → K (.exit 0) [(9, .slice (some ⟨1, 0, none⟩) i cc)] [.row entC 5 (x :: r) .ro, .row entC 5 (List.replicate i x) .own]) :
    rnds Tryz.prog (callOf []) (hints 3) noTab (kk + 1) (lp Tryz.f3 11) [(0, .slice (some ⟨0, 0, none⟩) (r.length + 1) c), (1, .int .u8 many), (9, .slice (some ⟨1, 0, none⟩) i cc), (10, .int .i64 (i : Int))] [.row entC 5 (x :: r) .ro, .row entC 5 (List.replicate i x) .own] K := by
  refine toR (R := bcase (decide ((↑i : Int) < (IntKind.i64.wrap ((190 : Int) + ((IntKind.i64.wrap many).tmod (20 : Int)))))) (need (decide ((0 : Int) < (↑(r.length + 1) : Int))) (need (((0 + i).beq (List.replicate i x).length) && ((((i + 1) * 64).ble 140737488355328) && true)) (rnds Tryz.prog (callOf []) (hints 3) noTab kk (lp Tryz.f3 11) [(0, (.slice (some (Addr.mk 0 0 none)) (r.length + 1) c)), (1, (.int .u8 many)), (9, (.slice (some (Addr.mk 1 0 none)) (i + 1) (i + 1))), (10, (.int .i64 (IntKind.i64.wrap ((↑i : Int) + (1 : Int)))))] [(VB.row (flatC [(FK.i .i64), FK.s, FK.s, (FK.i .i64), FK.s]) 5 (x :: r) .ro), (VB.row (flatC [(FK.i .i64), FK.s, FK.s, (FK.i .i64), FK.s]) 5 ((List.replicate i x) ++ [((x.fst, x.snd.fst, x.snd.snd.fst, x.snd.snd.snd.fst, x.snd.snd.snd.snd.fst, ()).fst, (x.fst, x.snd.fst, x.snd.snd.fst, x.snd.snd.snd.fst, x.snd.snd.snd.snd.fst, ()).snd.fst, (x.fst, x.snd.fst, x.snd.snd.fst, x.snd.snd.snd.fst, x.snd.snd.snd.snd.fst, ()).snd.snd.fst, (x.fst, x.snd.fst, x.snd.snd.fst, x.snd.snd.snd.fst, x.snd.snd.snd.snd.fst, ()).snd.snd.snd.fst, (x.fst, x.snd.fst, x.snd.snd.fst, x.snd.snd.snd.fst, x.snd.snd.snd.snd.fst, ()).snd.snd.snd.snd.fst, ())]) .own)] K))) (K (.exit 0) [(9, (.slice (some (Addr.mk 1 0 none)) i cc))] [(VB.row (flatC [(FK.i .i64), FK.s, FK.s, (FK.i .i64), FK.s]) 5 (x :: r) .ro), (VB.row (flatC [(FK.i .i64), FK.s, FK.s, (FK.i .i64), FK.s]) 5 (List.replicate i x) .own)])) (by kernel_rfl) ?_
  have w0 : IntKind.i64.wrap many = many := wrap_id (by omega) (by omega)
  have e1 : many.tmod 20 = ((many.toNat % 20 : Nat) : Int) := by rw [Int.tmod_eq_emod_of_nonneg h1]; omega
  have w1 : IntKind.i64.wrap (190 + ((many.toNat % 20 : Nat) : Int)) = ((190 + many.toNat % 20 : Nat) : Int) := wrap_id (by omega) (by omega)
  have w2 : IntKind.i64.wrap ((i : Int) + 1) = ((i + 1 : Nat) : Int) := wrap_id (by omega) (by omega)
  rw [w0, e1, w1, w2]
  refine bcase_of (fun h => ?_) (fun h => h0 (by have := of_decide_eq_false h; omega))
  refine need_of (decide_eq_true (by omega)) (need_of ?_ ?_)
  · rw [List.length_replicate]
    have b1 : Nat.beq (0 + i) i = true := by rw [Nat.beq_eq]; omega
    have b2 : Nat.ble ((i + 1) * 64) 140737488355328 = true := by rw [Nat.ble_eq]; omega
    rw [b1, b2]
    rfl
  · have := hx (by have := of_decide_eq_true h; omega) (i + 1)
    rw [List.replicate_succ'] at this
    exact this
theorem law_rounds (x : Ent) (r : List Ent) (c : Nat) (many : Int) (K : Kont) (h1 : 0 ≤ many) (h2 : many < 256)
    (hK : ∀ cc, K (.exit 0) [(9, .slice (some ⟨1, 0, none⟩) (190 + many.toNat % 20) cc)] [.row entC 5 (x :: r) .ro, .row entC 5 (List.replicate (190 + many.toNat % 20) x) .own]) : ∀ (d i cc : Nat), i + d = 190 + many.toNat % 20 →
    rnds Tryz.prog (callOf []) (hints 3) noTab (d + 1) (lp Tryz.f3 11) [(0, .slice (some ⟨0, 0, none⟩) (r.length + 1) c), (1, .int .u8 many), (9, .slice (some ⟨1, 0, none⟩) i cc), (10, .int .i64 (i : Int))] [.row entC 5 (x :: r) .ro, .row entC 5 (List.replicate i x) .own] K
  | 0, i, cc, hi => law_step x r c cc many K 0 i h1 h2 (by omega) (fun h => by omega) (fun _ => by
      have : i = 190 + many.toNat % 20 := by omega
      rw [this]
      exact hK cc)
  | d + 1, i, cc, hi => law_step x r c cc many K (d + 1) i h1 h2 (by omega) (fun _ c2 => law_rounds x r c many K h1 h2 hK d (i + 1) c2 (by omega)) (fun h => absurd (by omega) h)
theorem law_first (x : Ent) (r : List Ent) (c : Nat) (many : Int) (K : Kont) (h1 : 0 ≤ many) (h2 : many < 256)
    (hK : ∀ cc, K (.exit 0) [(9, .slice (some ⟨1, 0, none⟩) (190 + many.toNat % 20) cc)] [.row entC 5 (x :: r) .ro, .row entC 5 (List.replicate (190 + many.toNat % 20) x) .own]) (kk : Nat) (hk : kk = 190 + many.toNat % 20) :
    rnds Tryz.prog (callOf []) (hints 3) noTab (kk + 1) (lp Tryz.f3 11) [(0, .slice (some ⟨0, 0, none⟩) (r.length + 1) c), (1, .int .u8 many), (9, .slice none 0 0), (10, .int .i64 0)] [.row entC 5 (x :: r) .ro] K := by
  refine toR (R := bcase (decide ((0 : Int) < (IntKind.i64.wrap ((190 : Int) + ((IntKind.i64.wrap many).tmod (20 : Int)))))) (need (decide ((0 : Int) < (↑(r.length + 1) : Int))) (rnds Tryz.prog (callOf []) (hints 3) noTab kk (lp Tryz.f3 11) [(0, (.slice (some (Addr.mk 0 0 none)) (r.length + 1) c)), (1, (.int .u8 many)), (9, (.slice (some (Addr.mk 1 0 none)) 1 1)), (10, (.int .i64 (IntKind.i64.wrap ((0 : Int) + (1 : Int)))))] [(VB.row (flatC [(FK.i .i64), FK.s, FK.s, (FK.i .i64), FK.s]) 5 (x :: r) .ro), (VB.row (flatC [(FK.i .i64), FK.s, FK.s, (FK.i .i64), FK.s]) 5 [((x.fst, x.snd.fst, x.snd.snd.fst, x.snd.snd.snd.fst, x.snd.snd.snd.snd.fst, ()).fst, (x.fst, x.snd.fst, x.snd.snd.fst, x.snd.snd.snd.fst, x.snd.snd.snd.snd.fst, ()).snd.fst, (x.fst, x.snd.fst, x.snd.snd.fst, x.snd.snd.snd.fst, x.snd.snd.snd.snd.fst, ()).snd.snd.fst, (x.fst, x.snd.fst, x.snd.snd.fst, x.snd.snd.snd.fst, x.snd.snd.snd.snd.fst, ()).snd.snd.snd.fst, (x.fst, x.snd.fst, x.snd.snd.fst, x.snd.snd.snd.fst, x.snd.snd.snd.snd.fst, ()).snd.snd.snd.snd.fst, ())] .own)] K)) (K (.exit 0) [(9, (.slice none 0 0))] [(VB.row (flatC [(FK.i .i64), FK.s, FK.s, (FK.i .i64), FK.s]) 5 (x :: r) .ro)])) (by kernel_rfl) ?_
  have w0 : IntKind.i64.wrap many = many := wrap_id (by omega) (by omega)
  have e1 : many.tmod 20 = ((many.toNat % 20 : Nat) : Int) := by rw [Int.tmod_eq_emod_of_nonneg h1]; omega
  have w1 : IntKind.i64.wrap (190 + ((many.toNat % 20 : Nat) : Int)) = ((190 + many.toNat % 20 : Nat) : Int) := wrap_id (by omega) (by omega)
  rw [w0, e1, w1]
  refine bcase_t (decide_eq_true (by omega)) (need_of (decide_eq_true (by omega)) ?_)
  obtain ⟨d, rfl⟩ : ∃ d, kk = d + 1 := ⟨kk - 1, by omega⟩
  exact law_rounds x r c many K h1 h2 hK d 1 1 (by omega)
def lawLp : LSpec
  | [(0, .slice (some ⟨0, 0, none⟩) n c), (1, .int .u8 many), (9, .slice none 0 0), (10, .int .i64 i)], H, K => ∃ (x : Ent) (r : List Ent), (i = 0 ∧ n = r.length + 1 ∧ 0 ≤ many ∧ many < 256 ∧ H = [.row entC 5 (x :: r) .ro]) ∧
      ∀ cc, K (.exit 0) [(9, .slice (some ⟨1, 0, none⟩) (190 + many.toNat % 20) cc)] [.row entC 5 (x :: r) .ro, .row entC 5 (List.replicate (190 + many.toNat % 20) x) .own]
  | _, _, _ => False
theorem lawLp_ok : CodeOk Tryz.prog Tryz.f3.ntmps (.loop (lp Tryz.f3 11)) lawLp := by
  refine loop_ok (call := callOf []) (hint := hints 3) (tb := noTab) hm (callOf_nil) (by kernel_rfl) (by repeat' first | exact trivial | constructor |  (intro _ h; cases h)) fun fr H K h => ?_
  unfold lawLp at h
  split at h
  · obtain ⟨x, r, ⟨rfl, rfl, h1, h2, rfl⟩, hK⟩ := h
    exact ⟨_, law_first x r _ _ K h1 h2 hK _ rfl⟩
  · exact h.elim
def tab3 : Tab := ⟨fun | 11 => some lawLp | _ => none, fun _ => none⟩
section
variable (sF : List Ent → ByteArray) (eF : List Ent → Int) (gF : List Ent → Int → Bool)
abbrev call3 : FuncId → Spec := callOf [(8, readS (greatR gF)), (9, pureS packedG), (10, readS (writeR sF eF)), (11, readS (writeR sF eF))]
theorem law_nil (many : Int) (K : Value → VH → Prop) (hK : ∀ H, K (.bool true) H) :
    runF Tryz.prog (call3 sF eF gF) (hints 3) tab3 1 Tryz.f3 [.slice none 0 0, .int .u8 many] [] K := by
  have hK := hK []
  refine toR (R := True ∧ (bcase (gF [] (12 : Int)) (True ∧ (K (.bool true) [])) (True ∧ (True ∧ (bcase (!((sF []).toList == (sF []).toList)) (K (.bool false) []) (bcase ((eF []) != (eF [])) (K (.bool false) []) (True ∧ (K (.bool true) [])))))))) (by kernel_rfl) ?_
  exact ⟨trivial, bcase_of (fun _ => ⟨trivial, hK⟩) fun _ => ⟨trivial, trivial, bcase_not (bcase_t (beq_self_eq_true _) (bcase_f (bne_self_eq_false _) ⟨trivial, hK⟩))⟩⟩
theorem asEnt_id (l : List Ent) : asEnt (flatC [.i .i64, .s, .s, .i .i64, .s]) l = l := by
  unfold asEnt
  have : ∀ x : Ent, entC.dec (entC.enc x) = x := fun x => rfl
  rw [show (fun x : Ent => entC.dec (entC.enc x)) = id from funext this, List.map_id]
theorem entRow_id (l : List Ent) : entRow (flatC [.i .i64, .s, .s, .i .i64, .s]) 5 l := ⟨rfl, fun x _ => rfl⟩
theorem law_run (l : List Ent) (c : Nat) (many : Int) (hl : l.length < 2 ^ 63) (h1 : 0 ≤ many) (h2 : many < 256) (hg : gF l 12 = false → EntZs l) (K : Value → VH → Prop) (hK : ∀ H, K (.bool true) H) :
    runF Tryz.prog (call3 sF eF gF) (hints 3) tab3 1 Tryz.f3 [.slice (some ⟨0, 0, none⟩) l.length c, .int .u8 many] [.row entC 5 l .ro] K := by
  refine toR (R := (((l.length = l.length) ∧ (((flatC [(FK.i .i64), FK.s, FK.s, (FK.i .i64), FK.s]).flat = true) ∧ (entRow (flatC [(FK.i .i64), FK.s, FK.s, (FK.i .i64), FK.s]) 5 l))) ∧ ((asEnt (flatC [(FK.i .i64), FK.s, FK.s, (FK.i .i64), FK.s]) l).length < 9223372036854775808)) ∧ (bcase (gF (asEnt (flatC [(FK.i .i64), FK.s, FK.s, (FK.i .i64), FK.s]) l) (12 : Int)) (True ∧ (K (.bool true) [(VB.row (flatC [(FK.i .i64), FK.s, FK.s, (FK.i .i64), FK.s]) 5 l .ro)])) ((((l.length = l.length) ∧ (((flatC [(FK.i .i64), FK.s, FK.s, (FK.i .i64), FK.s]).flat = true) ∧ (entRow (flatC [(FK.i .i64), FK.s, FK.s, (FK.i .i64), FK.s]) 5 l))) ∧ (EntZs (asEnt (flatC [(FK.i .i64), FK.s, FK.s, (FK.i .i64), FK.s]) l))) ∧ ((((l.length = l.length) ∧ (((flatC [(FK.i .i64), FK.s, FK.s, (FK.i .i64), FK.s]).flat = true) ∧ (entRow (flatC [(FK.i .i64), FK.s, FK.s, (FK.i .i64), FK.s]) 5 l))) ∧ (EntZs (asEnt (flatC [(FK.i .i64), FK.s, FK.s, (FK.i .i64), FK.s]) l))) ∧ (bcase (!((sF (asEnt (flatC [(FK.i .i64), FK.s, FK.s, (FK.i .i64), FK.s]) l)).toList == (sF (asEnt (flatC [(FK.i .i64), FK.s, FK.s, (FK.i .i64), FK.s]) l)).toList)) (K (.bool false) [(VB.row (flatC [(FK.i .i64), FK.s, FK.s, (FK.i .i64), FK.s]) 5 l .ro)]) (bcase ((eF (asEnt (flatC [(FK.i .i64), FK.s, FK.s, (FK.i .i64), FK.s]) l)) != (eF (asEnt (flatC [(FK.i .i64), FK.s, FK.s, (FK.i .i64), FK.s]) l))) (K (.bool false) [(VB.row (flatC [(FK.i .i64), FK.s, FK.s, (FK.i .i64), FK.s]) 5 l .ro)]) (bcase ((↑l.length : Int) == (0 : Int)) (True ∧ (K (.bool true) [(VB.row (flatC [(FK.i .i64), FK.s, FK.s, (FK.i .i64), FK.s]) 5 l .ro)])) (need (decide ((0 : Int) < (↑l.length : Int))) (need ((decide (0 < l.length)) && true) (bcase (decide ((↑(ByteArray.size (l.getD 0 ((0 : (FK.i .i64).T), (ByteArray.mk #[]), (ByteArray.mk #[]), (0 : (FK.i .i64).T), (ByteArray.mk #[]), ())).snd.snd.snd.snd.fst) : Int) > (100 : Int))) (True ∧ (K (.bool true) [(VB.row (flatC [(FK.i .i64), FK.s, FK.s, (FK.i .i64), FK.s]) 5 l .ro)])) (∃ (x : Ent), (∃ (r : (List Ent)), ((((0 : Int) = (0 : Int)) ∧ ((l.length = (r.length + 1)) ∧ (((0 : Int) ≤ many) ∧ ((many < (256 : Int)) ∧ ([(VB.row (flatC [(FK.i .i64), FK.s, FK.s, (FK.i .i64), FK.s]) 5 l .ro)] = [(VB.row (flatC [(FK.i .i64), FK.s, FK.s, (FK.i .i64), FK.s]) 5 (x :: r) .ro)]))))) ∧ (∀ (cc : Nat), (((((190 + (many.toNat % 20)) = (List.replicate (190 + (many.toNat % 20)) x).length) ∧ (((flatC [(FK.i .i64), FK.s, FK.s, (FK.i .i64), FK.s]).flat = true) ∧ (entRow (flatC [(FK.i .i64), FK.s, FK.s, (FK.i .i64), FK.s]) 5 (List.replicate (190 + (many.toNat % 20)) x)))) ∧ (EntZs (asEnt (flatC [(FK.i .i64), FK.s, FK.s, (FK.i .i64), FK.s]) (List.replicate (190 + (many.toNat % 20)) x)))) ∧ (((((190 + (many.toNat % 20)) = (List.replicate (190 + (many.toNat % 20)) x).length) ∧ (((flatC [(FK.i .i64), FK.s, FK.s, (FK.i .i64), FK.s]).flat = true) ∧ (entRow (flatC [(FK.i .i64), FK.s, FK.s, (FK.i .i64), FK.s]) 5 (List.replicate (190 + (many.toNat % 20)) x)))) ∧ (EntZs (asEnt (flatC [(FK.i .i64), FK.s, FK.s, (FK.i .i64), FK.s]) (List.replicate (190 + (many.toNat % 20)) x)))) ∧ (bcase ((sF (asEnt (flatC [(FK.i .i64), FK.s, FK.s, (FK.i .i64), FK.s]) (List.replicate (190 + (many.toNat % 20)) x))).toList == (sF (asEnt (flatC [(FK.i .i64), FK.s, FK.s, (FK.i .i64), FK.s]) (List.replicate (190 + (many.toNat % 20)) x))).toList) (bcase ((eF (asEnt (flatC [(FK.i .i64), FK.s, FK.s, (FK.i .i64), FK.s]) (List.replicate (190 + (many.toNat % 20)) x))) == (eF (asEnt (flatC [(FK.i .i64), FK.s, FK.s, (FK.i .i64), FK.s]) (List.replicate (190 + (many.toNat % 20)) x)))) (True ∧ (K (.bool true) [(VB.row (flatC [(FK.i .i64), FK.s, FK.s, (FK.i .i64), FK.s]) 5 (x :: r) .ro)])) (K (.bool false) [(VB.row (flatC [(FK.i .i64), FK.s, FK.s, (FK.i .i64), FK.s]) 5 (x :: r) .ro)])) (K (.bool false) [(VB.row (flatC [(FK.i .i64), FK.s, FK.s, (FK.i .i64), FK.s]) 5 (x :: r) .ro)])))))))))))))))))) (by kernel_rfl) ?_
  rw [asEnt_id l]
  refine ⟨⟨⟨rfl, rfl, entRow_id l⟩, by omega⟩, bcase_of (fun _ => ⟨trivial, hK _⟩) (fun hgg => ?_)⟩
  have hz := hg hgg
  refine ⟨⟨⟨rfl, rfl, entRow_id l⟩, hz⟩, ⟨⟨rfl, rfl, entRow_id l⟩, hz⟩, bcase_not (bcase_t (beq_self_eq_true _) (bcase_f (bne_self_eq_false _) (bcase_of (fun _ => ⟨trivial, hK _⟩) (fun h0 => ?_))))⟩
  cases l with
  | nil => cases h0
  | cons x r =>
    have hr : ∀ n, EntZs (List.replicate n x) := fun n y hy => by rw [List.eq_of_mem_replicate hy]; exact hz x List.mem_cons_self
    refine need_of (decide_eq_true (by rw [List.length_cons]; omega)) (need_of (by rw [List.length_cons, decide_eq_true (by omega)]; rfl) (bcase_of (fun _ => ⟨trivial, hK _⟩) (fun _ => ⟨x, r, ⟨rfl, rfl, h1, h2, rfl⟩, fun cc => ?_⟩)))
    rw [asEnt_id (List.replicate (190 + many.toNat % 20) x)]
    exact ⟨⟨⟨by rw [List.length_replicate], rfl, entRow_id _⟩, hr _⟩, ⟨⟨by rw [List.length_replicate], rfl, entRow_id _⟩, hr _⟩, bcase_t (beq_self_eq_true _) (bcase_t (beq_self_eq_true _) ⟨trivial, hK _⟩)⟩
end
theorem great_false {l : List Ent} (h : greatB l 12 = false) : EntZs l := by
  unfold greatB at h
  simp only [Bool.or_eq_false_iff] at h
  intro x hx
  have h1 := List.any_eq_false.1 h.1 x hx
  unfold bigE at h1
  simp only [Bool.or_eq_true, decide_eq_true_eq, not_or] at h1
  exact ⟨by omega, by omega, by omega⟩
theorem law3_ok (many : Int) (h1 : 0 ≤ many) (h2 : many < 256) :
    Meets Tryz.prog 3 [.slice none 0 0, .int .u8 many] [] (fun r' _ => r' = .bool true) ∧
    ∀ (l : List Ent) (c : Nat), l.length < 2 ^ 63 → Meets Tryz.prog 3 [.slice (some ⟨0, 0, none⟩) l.length c, .int .u8 many] [.row entC 5 l .ro] (fun r' _ => r' = .bool true) := by
  have hc : CallOk Tryz.prog (call3 wrS wrE greatB) := callOf_cons greatR_ok.spec (callOf_cons packed_ok.spec (callOf_cons pwrite_ok.toR.spec (callOf_cons rwrite_ok.toR.spec callOf_nil)))
  refine ⟨?_, fun l c hl => ?_⟩
  · exact runF_meets (tb := tab3) hm hc Ro.empty Tryz.func3 (by kernel_rfl) (by repeat' first | exact trivial | constructor | (intro _ h; cases h; exact lawLp_ok) | (intro _ h; cases h)) (law_nil wrS wrE greatB many _ fun _ => rfl)
  · exact runF_meets (tb := tab3) hm hc (.cons rfl Ro.empty) Tryz.func3 (by kernel_rfl) (by repeat' first | exact trivial | constructor | (intro _ h; cases h; exact lawLp_ok) | (intro _ h; cases h)) (law_run wrS wrE greatB l c many hl h1 h2 great_false _ fun _ => rfl)
end Go.Proofs.YtbgilaacfbinbaaGreatDoor.PM

namespace Go.Proofs.YtbgilaacfbinbaaGreatDoor.PM
open Go Go.Proofs Go.RowKit Go.ChangeShapes
set_option maxRecDepth 100000
set_option linter.unusedVariables false
set_option linter.unusedSimpArgs false
variable {H : Type} {enc : TypeId × Value → H} {P : Program} {w : World} {base : Nat} {sp : Nat → Bool} {held : Bool}

theorem open_str {t : TypeId} (ht : P.underlying t = some .string) {n : Nat} {cs : List Value} {y : DataW H × List MemPlace} (h : DataW.trod enc P w base sp held n t cs = some y) : ∃ s : ByteArray, cs = [.string s] := by
  cases n with
  | zero => simp [DataW.trod] at h
  | succ n =>
    unfold DataW.trod at h
    rw [ht] at h
    split at h <;> simp_all
theorem open_i64 {t : TypeId} (ht : P.underlying t = some (.int .i64)) {n : Nat} {cs : List Value} {y : DataW H × List MemPlace} (h : DataW.trod enc P w base sp held n t cs = some y) : ∃ c : Int, cs = [.int .i64 c] := by
  cases n with
  | zero => simp [DataW.trod] at h
  | succ n =>
    unfold DataW.trod at h
    rw [ht] at h
    split at h <;> simp_all
theorem list5 {cs : List Value} (h : cs.length = 5) : cs = (cs.drop 0).take 1 ++ ((cs.drop 1).take 1 ++ ((cs.drop 2).take 1 ++ ((cs.drop 3).take 1 ++ (cs.drop 4).take 1))) := by
  match cs, h with
  | [a, b, c, d, e], _ => rfl
theorem open_ent {cs : List Value} {n : Nat} {y : DataW H × List MemPlace} (h : DataW.trod enc Tryz.prog w base sp held n 29 cs = some y) : ∃ x : Ent, cs = entC.enc x := by
  obtain ⟨xs, m, rfl, rfl, hl, hlen, hfs⟩ := DataW.trod_struct Tryz.underlying29 h
  have c29 : Tryz.prog.cellsOf 29 = 5 := by kernel_rfl
  have c9 : Tryz.prog.cellsOf 9 = 1 := by kernel_rfl
  have c3 : Tryz.prog.cellsOf 3 = 1 := by kernel_rfl
  rw [c29] at hl
  match xs, hlen with
  | [x0, x1, x2, x3, x4], _ =>
    have g0 : DataW.trod enc Tryz.prog w base sp held m 3 ((cs.drop 0).take (Tryz.prog.cellsOf 3)) = some x0 := hfs 0 _ rfl
    have g1 : DataW.trod enc Tryz.prog w base sp held m 9 ((cs.drop 1).take (Tryz.prog.cellsOf 9)) = some x1 := hfs 1 _ rfl
    have g2 : DataW.trod enc Tryz.prog w base sp held m 9 ((cs.drop 2).take (Tryz.prog.cellsOf 9)) = some x2 := hfs 2 _ rfl
    have g3 : DataW.trod enc Tryz.prog w base sp held m 3 ((cs.drop 3).take (Tryz.prog.cellsOf 3)) = some x3 := hfs 3 _ rfl
    have g4 : DataW.trod enc Tryz.prog w base sp held m 9 ((cs.drop 4).take (Tryz.prog.cellsOf 9)) = some x4 := hfs 4 _ rfl
    rw [c3] at g0 g3
    rw [c9] at g1 g2 g4
    obtain ⟨k, h0⟩ := open_i64 Tryz.underlying3 g0
    obtain ⟨s1, h1⟩ := open_str Tryz.underlying9 g1
    obtain ⟨s2, h2⟩ := open_str Tryz.underlying9 g2
    obtain ⟨m3, h3⟩ := open_i64 Tryz.underlying3 g3
    obtain ⟨s4, h4⟩ := open_str Tryz.underlying9 g4
    have e := list5 hl
    rw [h0, h1, h2, h3, h4] at e
    exact ⟨(k, s1, s2, m3, s4, ()), e⟩
theorem HR.one {p : Place} {l : List Ent} (h : RowOk [p] w entC 5 l .ro p) : HR [p] [.row entC 5 l .ro] w := by
  have g0 : ∀ {b : Nat} {X : VB}, hget [VB.row entC 5 l .ro] b = X → X ≠ .dead → b = 0 ∧ X = .row entC 5 l .ro := fun {b X} hg hX => by
    cases b with
    | zero => exact ⟨rfl, hg.symm⟩
    | succ b => exact absurd hg.symm hX
  refine ⟨rfl, ?_, ?_, ?_, ?_⟩
  · intro b C' e' l' m' hg
    obtain ⟨rfl, hh⟩ := g0 hg (by intro hh; cases hh)
    cases hh
    exact ⟨p, rfl, h⟩
  · intro b s o hg
    obtain ⟨_, hh⟩ := g0 hg (by intro hh; cases hh)
    cases hh
  · intro b1 b2 C1 C2 e1 e2 l1 l2 m2 p1 p2 hne g1
    obtain ⟨_, hh⟩ := g0 g1 (by intro hh; cases hh)
    cases hh
  · intro b1 b2 s1 s2 o1 o2 p1 p2 hne g1
    obtain ⟨_, hh⟩ := g0 g1 (by intro hh; cases hh)
    cases hh
theorem enc5 (x : Ent) : (entC.enc x).length = 5 := rfl
theorem enc_plain {x : Ent} {v : Value} (h : v ∈ entC.enc x) : plainV v = true := by
  obtain ⟨u, rfl, hu⟩ := entC.h_flat rfl x v h
  cases v <;> first | rfl | cases hu
/-- A list of entries, as it comes in: nil, or a row that is there. -/
theorem ents_in {fuel : Nat} {v : Value} {y : DataW H × List MemPlace} (hw0 : 0 < w.heap.size) (h : DataW.trod enc Tryz.prog w 0 (fun _ => true) true fuel 22 [v] = some y) :
    v = .slice none 0 0 ∨ ∃ (l : List Ent) (μ : Mu) (n c : Nat), l.length = n ∧ n < 2 ^ 63 ∧ HR μ [.row entC 5 l .ro] w ∧ VR μ (.slice (some ⟨0, 0, none⟩) n c) v := by
  have c29 : Tryz.prog.cellsOf 29 = 5 := by kernel_rfl
  rcases DataW.trod_slice Tryz.underlying22 h with ⟨h1, _⟩ | ⟨a, len, cap, elems, rest, n, rfl, h1, _, hb, hlc, hm, hel, hel2, hsp, _⟩
  · exact .inl (by simpa using h1)
  · right
    obtain rfl : v = .slice (some a) len cap := by simpa using h1
    obtain ⟨hrl, hrest⟩ := hsp rfl
    rw [c29] at hel2 hrest
    have cell : ∀ i, i < cap → ∃ x : Ent, ∀ (j : Nat) (u : Value), (entC.enc x)[j]? = some u → w.cell? ((a.add (i * 5)).add j) = some u := fun i hi => by
      have hh : ∃ y, (w.cells? 0 (a.add (i * 5)) 5).bind (DataW.trod enc Tryz.prog w 0 (fun _ => true) true n 29) = some y := by
        by_cases hil : i < len
        · rw [hel2 i hil, List.getElem?_eq_getElem (by omega)]; exact ⟨_, rfl⟩
        · have := hrest (i - len) (by omega)
          rw [show len + (i - len) = i by omega] at this
          rw [this, List.getElem?_eq_getElem (by omega)]; exact ⟨_, rfl⟩
      obtain ⟨y, hy⟩ := hh
      rw [Option.bind_eq_some_iff] at hy
      obtain ⟨cs, h2, h3⟩ := hy
      obtain ⟨x, rfl⟩ := open_ent h3
      obtain ⟨_, h5, h6⟩ := World.cells?_some h2
      refine ⟨x, fun j u hj => ?_⟩
      rw [h6 j (by have := (List.getElem?_eq_some_iff.1 hj).1; rw [h5] at this; exact this)]
      exact hj
    by_cases hc0 : cap = 0
    · subst hc0
      obtain rfl : len = 0 := by omega
      refine ⟨[], [⟨0, 0, 5, none⟩], 0, 0, rfl, by decide, HR.one ⟨rfl, hw0, fun x hx => (by cases hx), fun i j x u hx => (by cases hx), fun hm => (by cases hm)⟩, .slice0 a⟩
    · obtain ⟨x0, hx0⟩ := cell 0 (by omega)
      have h7 := hx0 0 (.int .i64 x0.1) rfl
      have e0 : (a.add (0 * 5)).add 0 = a := by simp [Addr.add]
      rw [e0] at h7
      have hs := World.cell?_spot h7
      obtain ⟨b, off, spot⟩ := a
      obtain rfl : spot = none := hs
      have hblk : b < w.heap.size := World.block_lt_of_cell? w _ h7
      let f : Nat → Ent := fun i => if hi : i < cap then (cell i hi).choose else x0
      have hf : ∀ i, i < cap → ∀ (j : Nat) (u : Value), (entC.enc (f i))[j]? = some u → w.cell? ⟨b, off + i * 5 + j, none⟩ = some u := fun i hi j u hj => by
        have h8 : f i = (cell i hi).choose := dif_pos hi
        rw [h8] at hj
        have h9 := (cell i hi).choose_spec j u hj
        have e : ((⟨b, off, none⟩ : Addr).add (i * 5)).add j = ⟨b, off + i * 5 + j, none⟩ := by
          unfold Addr.add
          split <;> split <;> simp_all
        rw [e] at h9
        exact h9
      have hget : ∀ (i : Nat) (x : Ent), ((List.range len).map f)[i]? = some x → i < len ∧ x = f i := fun i x hx => by
        rw [List.getElem?_map] at hx
        by_cases hi : i < len
        · rw [List.getElem?_range hi] at hx
          exact ⟨hi, (Option.some.inj hx).symm⟩
        · rw [List.getElem?_eq_none (by simpa using Nat.le_of_not_lt hi)] at hx
          cases hx
      refine ⟨(List.range len).map f, [⟨b, off, 5, none⟩], len, 0, by simp, by unfold maxLen at hm; omega, HR.one ⟨rfl, hblk, fun x _ => enc5 x, fun i j x u hx hu => ?_, fun hm => (by cases hm)⟩, ?_⟩
      · obtain ⟨hi, rfl⟩ := hget i x hx
        exact ⟨u, hf i (by omega) j u hu, VR.plain (enc_plain (List.mem_of_getElem? hu))⟩
      · have := VR.slice (μ := [⟨b, off, 5, none⟩]) (b := 0) (i := 0) (n := len) (c := 0) (c' := cap) (p := ⟨b, off, 5, none⟩) rfl hlc (fun L hL => by cases hL)
        simpa [Place.at] using this
end Go.Proofs.YtbgilaacfbinbaaGreatDoor.PM

namespace Go.Proofs.YtbgilaacfbinbaaGreatDoor.PM
open Go Go.Proofs Go.RowKit Go.ChangeShapes
set_option maxRecDepth 100000
set_option linter.unusedVariables false
set_option linter.unusedSimpArgs false

theorem arr_cells {H : Type} {enc : TypeId × Value → H} {P : Program} {w : World} {base : Nat} {sp : Nat → Bool} {held : Bool} {t e : TypeId} {n : Nat} {k : IntKind} {fuel : Nat} {cs : List Value} {p : List MemPlace} {zs : List Int}
    (ht : P.underlying t = some (.array n e)) (he : P.underlying e = some (.int k)) (hc : P.cellsOf e = 1) (hct : P.cellsOf t = n)
    (h : DataW.trod enc P w base sp held fuel t cs = some (.agg (zs.map fun z => .lit (.int k z)), p)) : cs = zs.map (.int k) := by
  obtain ⟨xs, m, _, ex, hlen, hl, hel⟩ := DataW.trod_array ht h
  rw [hct] at hlen
  have e1 : xs.map (·.1) = zs.map fun z => (.lit (.int k z) : DataW H) := (DataW.agg.inj (Prod.mk.inj ex).1).symm
  have hz : zs.length = n := by
    have := congrArg List.length e1
    simp at this
    omega
  refine List.ext_getElem? fun i => ?_
  by_cases hi : i < n
  · have h1 := hel i hi
    rw [hc, Nat.mul_one, List.getElem?_eq_getElem (by omega)] at h1
    obtain ⟨q, h2, h3, _⟩ := DataW.trod_int he h1
    have h4 : (cs.drop i).take 1 = [cs[i]'(by omega)] := by
      rw [List.drop_eq_getElem_cons (by omega), List.take_succ_cons, List.take_zero]
    rw [h4] at h2
    have h5 : cs[i]'(by omega) = .int k q := by simpa using h2
    have h6 := congrArg (fun l => l[i]?) e1
    simp only [List.getElem?_map] at h6
    rw [List.getElem?_eq_getElem (show i < xs.length by omega), List.getElem?_eq_getElem (show i < zs.length by omega), h3] at h6
    simp at h6
    rw [List.getElem?_eq_getElem (by omega), h5, List.getElem?_map, List.getElem?_eq_getElem (by omega), h6]
    rfl
  · rw [List.getElem?_eq_none (by omega), List.getElem?_eq_none (by simp; omega)]
theorem laid_get {P : Program} {w : World} {n : String} {d : DataW Unit} : ∀ {laid : List (String × DataW Unit)} {ps : List MemPlace}, DataW.LaidVars P w laid ps → (n, d) ∈ laid →
    ∃ g t cs fuel p, P.globalNamed n = some g ∧ (P.globals[g]?).map (·.type) = some t ∧ w.var? P n = some cs ∧ DataW.trod (fun _ => ()) P w 0 (fun _ => true) false fuel t cs.toList = some (d, p)
  | [], ps, h, hm => by cases hm
  | (n', d') :: r, ps, h, hm => by
    obtain ⟨g, t, cs, fuel, p, q, h1, h2, h3, h4, h5, _⟩ := h
    cases hm with
    | head => exact ⟨g, t, cs, fuel, p, h1, h2, h3, h4⟩
    | tail _ hm => exact laid_get h5 hm
theorem tab_of {w : World} {n : String} {d : DataW Unit} {laid : List (String × DataW Unit)} {ps : List MemPlace} (h : DataW.LaidVars Tryz.prog w laid ps) (hm : (n, d) ∈ laid) {g : Nat} {t e : TypeId} {len : Nat} {k : IntKind} {zs : List Int}
    (hg : Tryz.prog.globalNamed n = some g) (ht : (Tryz.prog.globals[g]?).map (·.type) = some t) (ht2 : Tryz.prog.underlying t = some (.array len e)) (he : Tryz.prog.underlying e = some (.int k)) (hc : Tryz.prog.cellsOf e = 1) (hct : Tryz.prog.cellsOf t = len)
    (hd : d = .agg (zs.map fun z => .lit (.int k z))) : ∃ T fz, w.heap[g]? = some (.cells ⟨zs.map (.int k)⟩ T fz) := by
  obtain ⟨g', t', cs, fuel, p, h1, h2, h3, h4⟩ := laid_get h hm
  obtain rfl := Option.some.inj (hg.symm.trans h1)
  obtain rfl := Option.some.inj (ht.symm.trans h2)
  subst hd
  have := arr_cells ht2 he hc hct h4
  unfold World.var? at h3
  rw [hg, Option.bind_some] at h3
  split at h3
  · rename_i cs' T fz hh
    cases h3
    exact ⟨T, fz, by rw [hh, ← this]⟩
  · cases h3
def intsOf (l : List Value) : List Int := l.map fun | .int _ z => z | _ => 0
theorem wd_of {w : World} (h : laidMetH Tryz.prog Rows.tarWriteRow.laid w) : Wd w := by
  rw [MakeChecks.laidMetH_plain _ _ _ (by kernel_rfl)] at h
  obtain ⟨ps, hv, _, _⟩ := h
  intro g cs hg
  match g, hg with
  | 0, hg =>
    obtain rfl := Option.some.inj hg
    exact tab_of (n := "lighter/tar.kinds") (d := Rows.laid_lighter_tar_kinds) hv (.tail _ (.tail _ (.tail _ (.tail _ (.tail _ (.tail _ (.head _))))))) (g := 0) (t := 79) (e := 5) (len := 5) (k := .u8) (zs := intsOf glob0) (by kernel_rfl) (by kernel_rfl) (by kernel_rfl) (by kernel_rfl) (by kernel_rfl) (by kernel_rfl) rfl
  | 6, hg =>
    obtain rfl := Option.some.inj hg
    exact tab_of (n := "internal/strconv.uint64pow10") (d := Rows.laid_internal_strconv_uint64pow10) hv (.tail _ (.tail _ (.head _))) (g := 6) (t := 148) (e := 116) (len := 20) (k := .u64) (zs := intsOf glob6) (by kernel_rfl) (by kernel_rfl) (by kernel_rfl) (by kernel_rfl) (by kernel_rfl) (by kernel_rfl) rfl
  | 7, hg =>
    obtain rfl := Option.some.inj hg
    exact tab_of (n := "math/bits.deBruijn32tab") (d := Rows.laid_math_bits_deBruijn32tab) hv (.head _) (g := 7) (t := 157) (e := 5) (len := 32) (k := .u8) (zs := intsOf glob7) (by kernel_rfl) (by kernel_rfl) (by kernel_rfl) (by kernel_rfl) (by kernel_rfl) (by kernel_rfl) rfl
  | 8, hg =>
    obtain rfl := Option.some.inj hg
    exact tab_of (n := "math/bits.deBruijn64tab") (d := Rows.laid_math_bits_deBruijn64tab) hv (.tail _ (.head _)) (g := 8) (t := 158) (e := 5) (len := 64) (k := .u8) (zs := intsOf glob8) (by kernel_rfl) (by kernel_rfl) (by kernel_rfl) (by kernel_rfl) (by kernel_rfl) (by kernel_rfl) rfl
  | 1, hg | 2, hg | 3, hg | 4, hg | 5, hg => cases hg
  | n + 9, hg => cases hg
theorem slice_of {t e : TypeId} {P : Program} {w : World} {r : Reach} {base : Nat} {v : Value} (ht : P.underlying t = some (.slice e)) (h : Value.okWide P w r base t v) : ∃ a n c, v = .slice a n c := by
  simp only [Value.okWide, ht, Cell.okWide] at h
  cases v <;> simp_all [Cell.ok]
theorem law_any {w : World} (hw : Wd w) {H : Type} {enc : TypeId × Value → H} {v : Value} {d : DataW H} {ps : List MemPlace} (hv : ∃ a n c, v = .slice a n c) (h : DataW.Trod enc Tryz.prog w 0 (fun _ => true) true 22 v d ps) {many : Int} (h1 : 0 ≤ many) (h2 : many < 256) :
    Calls Tryz.prog 3 #[v, .int .u8 many] w fun e w' => e = .returned (.bool true) ∧ Below w.heap.size w w' := by
  obtain ⟨fuel, hf⟩ := h
  obtain ⟨a, n, c, rfl⟩ := hv
  have hw0 : 0 < w.heap.size := by have := hw.lt (g := 0) (cs := glob0) rfl; omega
  obtain ⟨m1, m2⟩ := law3_ok many h1 h2
  have fin : ∀ {args : List Value} {H : VH} {μ : Mu} {args' : List Value}, Meets Tryz.prog 3 args H (fun r' _ => r' = .bool true) → HR μ H w → VRs μ args args' → Calls Tryz.prog 3 ⟨args'⟩ w fun e w' => e = .returned (.bool true) ∧ Below w.heap.size w w' := fun hm hr ha => by
    refine (hm _ w _ hw hr ha).mono ?_
    rintro e w' ⟨r', r'', μ', H', rfl, k1, _, _, _, _, _, k7, rfl⟩
    cases k1
    exact ⟨rfl, k7⟩
  rcases ents_in hw0 hf with hn | ⟨l, μ, len, c2, hl, hlt, hr, hvr⟩
  · cases hn
    exact fin m1 (HR.empty w) (.cons .nils (.cons (.int _ _) .nil))
  · subst hl
    exact fin (m2 l c2 hlt) hr (.cons hvr (.cons (.int _ _) .nil))
end Go.Proofs.YtbgilaacfbinbaaGreatDoor.PM
