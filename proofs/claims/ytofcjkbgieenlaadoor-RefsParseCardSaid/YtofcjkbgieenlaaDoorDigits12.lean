/- Contract of digests.digits (a Builder): by the kit's walk. By an AI agent. -/
import Derived.Test.YtofcjkbgieenlaaDoorBuilder12
import Derived.Test.YtofcjkbgieenlaaDoorRefsN
import Derived.Deep.WholeRow
set_option linter.unusedVariables false
set_option linter.unusedSimpArgs false
namespace Go.Proofs.YtofcjkbgieenlaaDoor.PM
open Go Go.Proofs Go.Shelf Go.RowKit Go.Lib

def digCells (x : List Int) : Array Value := ⟨digL x⟩
def hexB (n : Int) : UInt8 := (([48, 49, 50, 51, 52, 53, 54, 55, 56, 57, 97, 98, 99, 100, 101, 102] : List UInt8)).getD n.toNat 0
theorem hexT_at (q : Nat) (h : q < 16) : ((⟨#[48, 49, 50, 51, 52, 53, 54, 55, 56, 57, 97, 98, 99, 100, 101, 102]⟩ : ByteArray)[q]?) = some (hexB q) := by
  match q, h with
  | 0, _ | 1, _ | 2, _ | 3, _ | 4, _ | 5, _ | 6, _ | 7, _ | 8, _ | 9, _ | 10, _ | 11, _ | 12, _ | 13, _ | 14, _ | 15, _ => rfl
  | n + 16, h => exact absurd h (by omega)
theorem hexT_at' (q : Nat) (h : q < 16) : ∀ hh, ((⟨#[48, 49, 50, 51, 52, 53, 54, 55, 56, 57, 97, 98, 99, 100, 101, 102]⟩ : ByteArray)[q]'hh) = hexB q := fun hh => by
  have h1 := hexT_at q h
  rw [getElem?_pos (⟨#[48, 49, 50, 51, 52, 53, 54, 55, 56, 57, 97, 98, 99, 100, 101, 102]⟩ : ByteArray) q hh] at h1
  exact Option.some.inj h1
def hexN (x : List Int) (i : Nat) : List UInt8 := (x.take i).flatMap fun c => [hexB (c / 16), hexB (c % 16)]
theorem loadAt (P : Program) (x : List Int) (w : World) : (loadCellsFrom ⟨w.heap.size, 0, none⟩ 0 32 #[]).run P ((w.alloc (.cells (digCells x) 24)).alloc (.cells #[.pointer none, .slice none 0 0] 75)) = .ok (digCells x) ((w.alloc (.cells (digCells x) 24)).alloc (.cells #[.pointer none, .slice none 0 0] 75)) := by
  have hl : (digCells x).toList.length = 32 := rfl
  have := run_loadCells_list (P := P) ((w.alloc (.cells (digCells x) 24)).alloc (.cells #[.pointer none, .slice none 0 0] 75)) ⟨w.heap.size, 0, none⟩ (digCells x).toList (fun j v hv => by
    have hadd : (⟨w.heap.size, 0, none⟩ : Addr).add j = ⟨w.heap.size, j, none⟩ := by unfold Addr.add; split <;> simp_all
    rw [hadd, cell_of_row _ _ j (digCells x) 24 (0, 0) (by rw [Lib.alloc_old _ _ _ (by simp)]; exact heap_alloc_last w _)]
    simpa using hv)
  simpa [loadCells, hl] using this
theorem hexN_len (x : List Int) (i : Nat) : (hexN x i).length ≤ 2 * i := by
  have : ∀ l : List Int, (l.flatMap fun c => [hexB (c / 16), hexB (c % 16)]).length = 2 * l.length := fun l => by
    induction l with
    | nil => rfl
    | cons a l ih => rw [List.flatMap_cons, List.length_append, ih]; simp; omega
  unfold hexN
  rw [this, List.length_take]
  omega
theorem hexN_succ (x : List Int) (i : Nat) (h : i < x.length) : hexN x (i + 1) = hexN x i ++ [hexB (x.getD i 0 / 16)] ++ [hexB (x.getD i 0 % 16)] := by
  unfold hexN
  rw [List.take_add_one, List.flatMap_append, List.getD_eq_getElem?_getD, List.getElem?_eq_getElem h]
  simp
set_option maxHeartbeats 4000000 in
set_option maxRecDepth 1000000 in
theorem digits_any {P : Program} (mixed : P.follows .mixedOrders = true) (h58 : P.funcs[58]? = some Tryd.f58)
    (t3 : P.underlying 3 = some (.int .i64)) (a3 : ∀ w, (isAgg 3).run P w = .ok false w) (z3 : ∀ w, (sizeOf 3).run P w = .ok 1 w) (v3 : ∀ w, (zeroValue 3).run P w = .ok (.int .i64 0) w)
    (t5 : P.underlying 5 = some (.int .u8)) (a5 : ∀ w, (isAgg 5).run P w = .ok false w) (z5 : ∀ w, (sizeOf 5).run P w = .ok 1 w) (v5 : ∀ w, (zeroValue 5).run P w = .ok (.int .u8 0) w)
    (t9 : P.underlying 9 = some .string) (a9 : ∀ w, (isAgg 9).run P w = .ok false w) (z9 : ∀ w, (sizeOf 9).run P w = .ok 1 w) (v9 : ∀ w, (zeroValue 9).run P w = .ok (.string ⟨#[]⟩) w)
    (v75 : ∀ w, (zeroValue 75).run P w = .ok (.agg #[.pointer none, .slice none 0 0]) w)
    (t24 : P.underlying 24 = some (.array 32 5)) (a24 : ∀ w, (isAgg 24).run P w = .ok true w) (z24 : ∀ w, (sizeOf 24).run P w = .ok 32 w) (i24 : (P.info? 24).map (·.size) = some 32)
    (e68 : ∀ args w, (callFunc 68 args).run P w = .ok (.enter 68 args) w) (e69 : ∀ args w, (callFunc 69 args).run P w = .ok (.enter 69 args) w)
    (hW : ∀ (B b : Nat) (bs : List Value) (c : Int) (w : World), Lib.IsBuilder 75 5 B b bs w → bs.length + 1 ≤ 140737488355328 → B ≤ w.heap.size →
      Calls P 68 #[.pointer (some ⟨b, 0, none⟩), .int .u8 c] w fun e w' => e = .returned .nilIface ∧ (Lib.BuilderAt 75 5 B b (.pointer (some ⟨b, 0, none⟩)) (bs ++ [.int .u8 c]) w' ∧ Below B w w'))
    (hS : ∀ (B b : Nat) (l : List UInt8) (w : World), Lib.IsBuilder 75 5 B b (Lib.byteCells l) w → B ≤ w.heap.size → Calls P 69 #[.pointer (some ⟨b, 0, none⟩)] w fun e w' => e = .returned (.string ⟨l.toArray⟩) ∧ Below B w w')
    (x : List Int) (hx : bytesL x) (hxl : x.length = 32) (w : World) : Calls P 58 #[.agg (digCells x)] w fun e w' => e = .returned (.string ⟨(hexN x 32).toArray⟩) ∧ Below w.heap.size w w' := by
  have hlc := run_loadCellsFrom_new (P := P) w 24 (digCells x) 32 rfl
  have hidx : ∀ (i : Nat) (wr : World), i < 32 → (Instr.index 24 (.agg (digCells x)) (.int .i64 i)).run P wr = .ok (.int .u8 (x.getD i 0)) wr := fun i wr hi => by
    have e1 : (digCells x)[i]? = some (.int .u8 (x.getD i 0)) := by
      have : ∀ i, i < 32 → (digL x)[i]? = some (.int .u8 (x.getD i 0)) := by
        unfold digL dig
        intro i hi
        match i, hi with
        | 0, _ | 1, _ | 2, _ | 3, _ | 4, _ | 5, _ | 6, _ | 7, _ | 8, _ | 9, _ | 10, _ | 11, _ | 12, _ | 13, _ | 14, _ | 15, _ | 16, _ | 17, _ | 18, _ | 19, _ | 20, _ | 21, _ | 22, _ | 23, _ | 24, _ | 25, _ | 26, _ | 27, _ | 28, _ | 29, _ | 30, _ | 31, _ => rfl
        | n + 32, h => exact absurd h (by omega)
      rw [digCells, List.getElem?_toArray]
      exact this i hi
    have h1 : (0 : Int) ≤ (i : Int) ∧ (i : Int) < 32 := by omega
    simp [Instr.index, run_underlying t24, asIntOf, h1, part, a5, z5, e1, hi]
  have a24' : Aside (∀ w, (isAgg 24).run P w = .ok true w) := a24
  have z24' : Aside (∀ w, (sizeOf 24).run P w = .ok 32 w) := z24
  have t24' : Aside (P.underlying 24 = some (.array 32 5)) := t24
  clear a24 z24 t24
  go_enter h58, Tryd.ntmps58
  go_wp2
  have hl2 := loadAt P x w
  simp only [a24'.out, z24'.out, Result.andThen, ↓reduceIte, hl2]
  rw [Oper.upon_value]
  go_wp2
  go_loopg [7] 32 (fun g s7 wx => ∃ i : Nat, i + g = 32 ∧ s7 = .int .i64 i ∧ Lib.IsBuilder 75 5 (w.heap.size + 1) (w.heap.size + 1) (Lib.byteCells (hexN x i)) wx ∧ Below w.heap.size w wx ∧ w.heap.size + 2 ≤ wx.heap.size)
  case atStart =>
    refine ⟨0, by omega, rfl, ?_, ((Below.refl _ w).alloc (Nat.le_refl _) _).alloc (by simp) _, by simp⟩
    have := fresh_isBuilder 75 5 (w.alloc (.cells (digCells x) 24))
    simpa [byteCells, hexN] using this
  case round =>
    obtain ⟨i, hig, rfl, hb, hbel, hsz⟩ := hrel
    cases gk with
    | zero =>
      obtain rfl : i = 32 := by omega
      go_wp2_with (go_at_fn 69; refine (hS (w.heap.size + 1) (w.heap.size + 1) _ _ hb (by omega)).mono ?_)
      rintro e w1 ⟨rfl, h1⟩
      intro h1
      go_wp2
      go_ret
      exact ⟨rfl, hbel.trans (h1.mono (by omega))⟩
    | succ g =>
      have hi : i < 32 := by omega
      have hiz : (i : Int) < 32 := by omega
      have hc := hx i
      obtain ⟨c, hce⟩ : ∃ c, c = x.getD i 0 := ⟨_, rfl⟩
      have hidx' := hidx i wr hi
      rw [← hce] at hidx' hc
      obtain ⟨q, hq⟩ : ∃ q : Nat, (q : Int) = c / 16 := ⟨(c / 16).toNat, by omega⟩
      obtain ⟨r, hr⟩ : ∃ r : Nat, (r : Int) = c % 16 := ⟨(c % 16).toNat, by omega⟩
      have q1 : c.tdiv 16 % 256 = (q : Int) := by rw [Int.tdiv_eq_ediv_of_nonneg hc.1]; omega
      have r1 : c.tmod 16 % 256 = (r : Int) := by rw [Int.tmod_eq_emod_of_nonneg hc.1]; omega
      have r1' : c.tmod 16 = (r : Int) := by rw [Int.tmod_eq_emod_of_nonneg hc.1]; omega
      have q2 : q < 16 := by omega
      have r2 : r < 16 := by omega
      have hx1 := hexT_at' q q2
      have hx2 := hexT_at' r r2
      have Hce : Aside (c = x.getD i 0) := hce
      have Hc : Aside (0 ≤ c ∧ c < 256) := hc
      have Hq : Aside ((q : Int) = c / 16) := hq
      have Hr : Aside ((r : Int) = c % 16) := hr
      have hlen : (byteCells (hexN x i)).length ≤ 64 := by rw [byteCells_length]; have := hexN_len x i; omega
      clear hce hc hq hr hidx hx
      go_wp2_with (go_at_fn 68; refine (hW (w.heap.size + 1) (w.heap.size + 1) _ _ _ hb (by omega) (by omega)).mono ?_)
      rintro e w1 ⟨rfl, h1, h2⟩
      go_wp2_with (go_at_fn 68; refine (hW (w.heap.size + 1) (w.heap.size + 1) _ _ _ (Or.inr h1) (by simp only [List.length_append, List.length_singleton]; omega) (by have := h2.size; omega)).mono ?_)
      rintro e w2 ⟨rfl, h3, h4⟩
      go_wp2
      go_roundg g
      case measure => omega
      case rel =>
        refine ⟨i + 1, by omega, by simp, Or.inr ?_, hbel.trans ((h2.trans (h4.mono (by omega))).mono (by omega)), by have := h2.size; have := h4.size; omega⟩
        have e1 : byteCells (hexN x (i + 1)) = byteCells (hexN x i) ++ [Value.int .u8 ((hexB q).toNat : Int)] ++ [Value.int .u8 ((hexB r).toNat : Int)] := by
          rw [hexN_succ x i (by omega), ← Hce.out, ← Hq.out, ← Hr.out]
          simp [byteCells]
        rw [e1]
        simpa [hx1, hx2] using h3
theorem hexS_of (q : Nat) (h : q < 16) : hexS (q : Int) = ⟨#[hexB q]⟩ := by
  match q, h with
  | 0, _ | 1, _ | 2, _ | 3, _ | 4, _ | 5, _ | 6, _ | 7, _ | 8, _ | 9, _ | 10, _ | 11, _ | 12, _ | 13, _ | 14, _ | 15, _ => rfl
  | n + 16, h => exact absurd h (by omega)
theorem tellFrom_hex (x : List Int) (hx : bytesL x) (hl : x.length = 32) : ∀ (d i : Nat), i + d = 32 → tellFrom x d i (headT ++ ⟨(hexN x i).toArray⟩) = headT ++ ⟨(hexN x 32).toArray⟩
  | 0, i, h => by rw [show i = 32 by omega]; rfl
  | d + 1, i, h => by
    have hb := hx i
    obtain ⟨q, hq⟩ : ∃ q : Nat, (q : Int) = x.getD i 0 / 16 := ⟨(x.getD i 0 / 16).toNat, by omega⟩
    obtain ⟨r, hr⟩ : ∃ r : Nat, (r : Int) = x.getD i 0 % 16 := ⟨(x.getD i 0 % 16).toNat, by omega⟩
    unfold tellFrom
    rw [Int.tdiv_eq_ediv_of_nonneg hb.1, Int.tmod_eq_emod_of_nonneg hb.1, ← hq, ← hr, hexS_of q (by omega), hexS_of r (by omega)]
    have e : headT ++ ⟨(hexN x i).toArray⟩ ++ ⟨#[hexB q]⟩ ++ ⟨#[hexB r]⟩ = headT ++ ⟨(hexN x (i + 1)).toArray⟩ := by
      rw [hexN_succ x i (by omega), ← hq, ← hr]
      apply li_inj
      simp only [li_append]
      simp [li]
    rw [e]
    exact tellFrom_hex x hx hl d (i + 1) (by omega)
theorem tellS_hex (x : List Int) (hx : bytesL x) (hl : x.length = 32) : tellS x = headT ++ ⟨(hexN x 32).toArray⟩ := by
  have := tellFrom_hex x hx hl 32 0 rfl
  rw [show headT ++ ⟨(hexN x 0).toArray⟩ = headT from rfl] at this
  exact this
def digitsG : Pure
  | [.agg ⟨l⟩] => bif isDig l then some (bytesL (decI l), .string ⟨(hexN (decI l) 32).toArray⟩) else none
  | _ => none
theorem isDig_len {l : List Value} (h : isDig l = true) : (decI l).length = 32 := by
  simp only [isDig, Bool.and_eq_true] at h
  have h3 := congrArg List.length (enc_decI h.1)
  rw [List.length_map] at h3
  rw [h3]
  exact Nat.eq_of_beq_eq_true h.2
theorem plainL_dig (x : List Int) : plainL (digL x) = true := rfl
theorem digits_ok : PureOk Tryd.prog 58 digitsG :=
  .of_shelf Tryd.func58 (by kernel_rfl) rfl fun args c r hg => by
    unfold digitsG at hg
    split at hg
    · rename_i l
      cases hd : isDig l with
      | false => rw [hd] at hg; cases hg
      | true =>
        rw [hd] at hg
        cases hg
        have hl := isDig_len hd
        have e : l = digL (decI l) := dig_of hd
        refine ⟨by rw [e]; show (plainL (digL (decI l)) && true) = true; rw [plainL_dig]; rfl, fun hcc => ⟨rfl, fun w => ?_⟩⟩
        have X := Tryd.Builder_Extra_169
        have := digits_any (P := Tryd.prog) (by kernel_rfl) Tryd.func58 Tryd.underlying3 Tryd.isAgg3 Tryd.sizeOf3 Tryd.zeroValue3 Tryd.underlying5 Tryd.isAgg5 Tryd.sizeOf5 Tryd.zeroValue5 Tryd.underlying9 Tryd.isAgg9 Tryd.sizeOf9 Tryd.zeroValue9
          Tryd.zeroValue75 Tryd.underlying24 Tryd.isAgg24 Tryd.sizeOf24 (by kernel_rfl) (enters_of Tryd.func68 (by kernel_rfl) rfl) (enters_of Tryd.func69 (by kernel_rfl) rfl) writeByte_ok (fun B b l w h hB => Tryd.Builder_String_any B b l w h hB) (decI l) hcc hl w
        rw [digCells, ← e] at this
        exact this
    · cases hg
end Go.Proofs.YtofcjkbgieenlaaDoor.PM
