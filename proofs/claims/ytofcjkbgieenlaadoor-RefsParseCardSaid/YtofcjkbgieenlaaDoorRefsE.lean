/- Contracts of functions of the reference of digests: digit, value, Text. By an AI agent. -/
import Derived.Test.YtofcjkbgieenlaaDoorRefsD
namespace Go.Proofs.YtofcjkbgieenlaaDoor.PM
open Go Go.Proofs
set_option maxRecDepth 100000
set_option linter.unusedVariables false

theorem wrap_u8 {x : Int} (h0 : 0 ≤ x) (h1 : x < 256) : IntKind.u8.wrap x = x := by
  show x % 256 = x
  omega
abbrev hexT : ByteArray := ⟨#[48,49,50,51,52,53,54,55,56,57,97,98,99,100,101,102]⟩
def hexS (c : Int) : ByteArray := hexT.extract c.toNat (c + 1).toNat
theorem hexS_size {c : Int} (h0 : 0 ≤ c) (h1 : c < 16) : (hexS c).size = 1 := by
  unfold hexS
  rw [ByteArray.size_extract]
  show min (c + 1).toNat 16 - c.toNat = 1
  omega
def hexG : Pure
  | [.int .u8 c] => some (0 ≤ c ∧ c < 16, .string (hexS c))
  | _ => none
theorem hex_ok : PureOk Tryd.prog 57 hexG := by
  refine .of_run (call := callOf []) (hint := hints 57) (tb := noTab) hm (callOf_nil) Tryd.func57 (by kernel_rfl) rfl (by kernel_rfl) (by repeat' first | exact trivial | constructor |  (intro _ h; cases h)) fun args c r h => ?_
  unfold hexG at h
  split at h
  · rename_i c
    cases h
    refine ⟨rfl, fun hs => ⟨rfl, 1, fun K hK => ?_⟩⟩
    have hw : IntKind.u8.wrap (c + 1) = c + 1 := wrap_u8 (by omega) (by omega)
    refine to (R := need ((decide ((0 : Int) ≤ c)) && ((decide (c ≤ (IntKind.u8.wrap (c + (1 : Int))))) && (decide ((IntKind.u8.wrap (c + (1 : Int))) ≤ (↑16 : Int))))) (K (.string ((ByteArray.mk #[48, 49, 50, 51, 52, 53, 54, 55, 56, 57, 97, 98, 99, 100, 101, 102]).extract c.toNat (IntKind.u8.wrap (c + (1 : Int))).toNat)) [])) (by kernel_rfl) ?_
    rw [hw]
    exact need_of (by simp; omega) (hK _)
  · cases h
/-- The value of a digit, from one on. -/
def valAt (c : Int) : Nat → Int → Option Int
  | 0, _ => none
  | d + 1, i => bif bt (hexS i) 0 == c then some i else valAt c d (i + 1)
def valS (c : Int) : Int := (valAt c 16 0).getD 0
def valueLp : LSpec
  | [(0, .int .u8 c), (3, .int .u8 i)], [], K => i = 0 ∧ bcase (valAt c 16 0).isSome (K .ret [(2, .int .u8 ((valAt c 16 0).getD 0))] []) (K (.exit 0) [] [])
  | _, _, _ => False
theorem value_rounds (c : Int) (K : Kont) : ∀ (d : Nat) (i : Int), 0 ≤ i → i + d = 16 →
    bcase (valAt c d i).isSome (K .ret [(2, .int .u8 ((valAt c d i).getD 0))] []) (K (.exit 0) [] []) →
    rnds Tryd.prog (callOf [(57, pureS hexG)]) (hints 40) noTab (d + 1) (lp Tryd.f40 2) [(0, .int .u8 c), (3, .int .u8 i)] [] K
  | 0, i, h0, hi, hK => by
    refine to (R := bcase (decide (i < (16 : Int))) ((((0 : Int) ≤ i) ∧ (i < (16 : Int))) ∧ (need (decide ((0 : Int) < (↑(hexS i).size : Int))) (bcase ((bt (hexS i) (0 : Int)) == c) (K .ret [(2, (.int .u8 i))] []) (rnds Tryd.prog (callOf [(57, (pureS hexG))]) (hints 40) noTab (nat_lit 0) (lp Tryd.f40 2) [(0, (.int .u8 c)), (3, (.int .u8 (IntKind.u8.wrap (i + (1 : Int)))))] [] K)))) (K (.exit 0) [] [])) (by kernel_rfl) ?_
    exact bcase_f (by simp; omega) hK
  | d + 1, i, h0, hi, hK => by
    have hw : IntKind.u8.wrap (i + 1) = i + 1 := wrap_u8 (by omega) (by omega)
    have h1 := hexS_size h0 (by omega : i < 16)
    refine to (R := bcase (decide (i < (16 : Int))) ((((0 : Int) ≤ i) ∧ (i < (16 : Int))) ∧ (need (decide ((0 : Int) < (↑(hexS i).size : Int))) (bcase ((bt (hexS i) (0 : Int)) == c) (K .ret [(2, (.int .u8 i))] []) (rnds Tryd.prog (callOf [(57, (pureS hexG))]) (hints 40) noTab (d + 1) (lp Tryd.f40 2) [(0, (.int .u8 c)), (3, (.int .u8 (IntKind.u8.wrap (i + (1 : Int)))))] [] K)))) (K (.exit 0) [] [])) (by kernel_rfl) ?_
    rw [hw, h1]
    refine bcase_t (by simp; omega) ⟨⟨h0, by omega⟩, need_of rfl (bcase_of (fun h => ?_) (fun h => ?_))⟩
    · simpa only [valAt, h, cond_true, bcase, Option.isSome_some, Option.getD_some] using hK
    · refine value_rounds c K d (i + 1) (by omega) (by omega) ?_
      simpa only [valAt, h, cond_false] using hK
theorem valueLp_ok : CodeOk Tryd.prog Tryd.f40.ntmps (.loop (lp Tryd.f40 2)) valueLp := by
  refine loop_ok (call := callOf [(57, pureS hexG)]) (hint := hints 40) (tb := noTab) hm (callOf_cons hex_ok.spec callOf_nil) (by kernel_rfl) (by repeat' first | exact trivial | constructor |  (intro _ h; cases h)) fun fr H K h => ?_
  unfold valueLp at h
  split at h
  · obtain ⟨rfl, hK⟩ := h
    exact ⟨_, value_rounds _ _ 16 0 (by omega) (by omega) hK⟩
  · exact h.elim
def tab40 : Tab := ⟨fun | 2 => some valueLp | _ => none, fun _ => none⟩
def valueG : Pure
  | [.int .u8 c] => some (True, .int .u8 (valS c))
  | _ => none
theorem value_ok : PureOk Tryd.prog 40 valueG := by
  refine .of_run (call := callOf [(57, pureS hexG)]) (hint := hints 40) (tb := tab40) hm (callOf_cons hex_ok.spec callOf_nil) Tryd.func40 (by kernel_rfl) rfl (by kernel_rfl) (by repeat' first | exact trivial | constructor | (intro _ h; cases h; exact valueLp_ok) | (intro _ h; cases h)) fun args c r h => ?_
  unfold valueG at h
  split at h
  · rename_i c
    cases h
    refine ⟨rfl, fun hs => ⟨rfl, 1, fun K hK => ?_⟩⟩
    refine to (R := ((0 : Int) = (0 : Int)) ∧ (bcase (valAt c 16 (0 : Int)).isSome (K (.int .u8 ((valAt c 16 (0 : Int)).getD (0 : Int))) []) (K (.int .u8 (0 : Int)) []))) (by kernel_rfl) ?_
    refine ⟨rfl, bcase_of (fun h => hK _) (fun h => ?_)⟩
    have : valS c = 0 := by
      unfold valS
      cases hv : valAt c 16 0 with
      | none => rfl
      | some v => rw [hv] at h; cases h
    rw [this] at hK
    exact hK _
  · cases h
/-- Digests: so many numbers. -/
def isDig (l : List Value) : Bool := allI .u8 l && Nat.beq l.length 32
def bytesL (x : List Int) : Prop := ∀ i, 0 ≤ x.getD i 0 ∧ x.getD i 0 < 256
def dig (b : Nat → Int) : List Value := [.int .u8 (b 0), .int .u8 (b 1), .int .u8 (b 2), .int .u8 (b 3), .int .u8 (b 4), .int .u8 (b 5), .int .u8 (b 6), .int .u8 (b 7), .int .u8 (b 8), .int .u8 (b 9), .int .u8 (b 10), .int .u8 (b 11), .int .u8 (b 12), .int .u8 (b 13), .int .u8 (b 14), .int .u8 (b 15), .int .u8 (b 16), .int .u8 (b 17), .int .u8 (b 18), .int .u8 (b 19), .int .u8 (b 20), .int .u8 (b 21), .int .u8 (b 22), .int .u8 (b 23), .int .u8 (b 24), .int .u8 (b 25), .int .u8 (b 26), .int .u8 (b 27), .int .u8 (b 28), .int .u8 (b 29), .int .u8 (b 30), .int .u8 (b 31)]
theorem dig_of {l : List Value} (h : isDig l = true) : l = dig fun i => (decI l).getD i 0 := by
  simp only [isDig, Bool.and_eq_true] at h
  obtain ⟨h1, h2⟩ := h
  have h2 := Nat.eq_of_beq_eq_true h2
  have h3 := enc_decI h1
  have h4 : (decI l).length = 32 := by have := congrArg List.length h3; rw [List.length_map] at this; omega
  generalize decI l = x at h3 h4
  rw [← h3]
  match x, h4 with
  | [a0, a1, a2, a3, a4, a5, a6, a7, a8, a9, a10, a11, a12, a13, a14, a15, a16, a17, a18, a19, a20, a21, a22, a23, a24, a25, a26, a27, a28, a29, a30, a31], _ => rfl
/-- A digest's text, from a place on. -/
def tellFrom (x : List Int) : Nat → Nat → ByteArray → ByteArray
  | 0, _, s => s
  | d + 1, i, s => tellFrom x d (i + 1) ((s ++ hexS ((x.getD i 0).tdiv 16)) ++ hexS ((x.getD i 0).tmod 16))
def tellLp : LSpec
  | [(1, .pointer (some ⟨0, 0, some 0⟩)), (3, .string s), (4, .int .i64 i)], H, K => ∃ x : List Int, (i = 0 ∧ s.size = 7 ∧ bytesL x ∧ H = [.row (arrC .u8) 32 [x] .own]) ∧ K (.exit 0) [(3, .string (tellFrom x 32 0 s))] [.row (arrC .u8) 32 [x] .own]
  | _, _, _ => False
theorem plainL_int {k : IntKind} : ∀ {l : List Value}, allI k l = true → plainL l = true
  | [], _ => rfl
  | v :: l, h => by
    cases v <;> simp only [allI, Bool.and_eq_true] at h <;> first | (cases h; done) | skip
    simp only [plainL, plainV, plainL_int h.2, Bool.and_true]
theorem tell_rounds (x : List Int) (hx : bytesL x) (K : Kont) : ∀ (d i : Nat) (s : ByteArray), i + d = 32 → s.size = 7 + 2 * i →
    K (.exit 0) [(3, .string (tellFrom x d i s))] [.row (arrC .u8) 32 [x] .own] →
    rnds Tryd.prog (callOf [(57, pureS hexG)]) (hints 41) noTab (d + 1) (lp Tryd.f41 3) [(1, .pointer (some ⟨0, 0, some 0⟩)), (3, .string s), (4, .int .i64 i)] [.row (arrC .u8) 32 [x] .own] K
  | 0, i, s, hi, hs, hK => by
    refine to (R := bcase (decide ((↑i : Int) < (32 : Int))) (need ((decide ((↑i : Int) < (↑32 : Int))) && true) (need ((((↑i : Int).toNat + 1).ble 32) && true) (need ((decide ((↑i : Int) < (↑32 : Int))) && true) (need ((((↑i : Int).toNat + 1).ble 32) && true) ((((0 : Int) ≤ (IntKind.u8.wrap ((x.getD (↑i : Int).toNat (0 : Int)).tdiv (16 : Int)))) ∧ ((IntKind.u8.wrap ((x.getD (↑i : Int).toNat (0 : Int)).tdiv (16 : Int))) < (16 : Int))) ∧ (need ((decide ((s.size + (hexS (IntKind.u8.wrap ((x.getD (↑i : Int).toNat (0 : Int)).tdiv (16 : Int)))).size) < 9223372036854775808)) && true) ((((0 : Int) ≤ ((x.getD (↑i : Int).toNat (0 : Int)).tmod (16 : Int))) ∧ (((x.getD (↑i : Int).toNat (0 : Int)).tmod (16 : Int)) < (16 : Int))) ∧ (need ((decide (((s ++ (hexS (IntKind.u8.wrap ((x.getD (↑i : Int).toNat (0 : Int)).tdiv (16 : Int))))).size + (hexS ((x.getD (↑i : Int).toNat (0 : Int)).tmod (16 : Int))).size) < 9223372036854775808)) && true) (rnds Tryd.prog (callOf [(57, (pureS hexG))]) (hints 41) noTab (nat_lit 0) (lp Tryd.f41 3) [(1, (.pointer (some (Addr.mk 0 0 (some 0))))), (3, (.string ((s ++ (hexS (IntKind.u8.wrap ((x.getD (↑i : Int).toNat (0 : Int)).tdiv (16 : Int))))) ++ (hexS ((x.getD (↑i : Int).toNat (0 : Int)).tmod (16 : Int)))))), (4, (.int .i64 (IntKind.i64.wrap ((↑i : Int) + (1 : Int)))))] [(.row (arrC .u8) 32 [x] .own)] K))))))))) (K (.exit 0) [(3, (.string s))] [(.row (arrC .u8) 32 [x] .own)])) (by kernel_rfl) ?_
    exact bcase_f (by simp; omega) hK
  | d + 1, i, s, hi, hs, hK => by
    have hw : IntKind.i64.wrap ((i : Int) + 1) = ((i + 1 : Nat) : Int) := wrap_id (by omega) (by omega)
    have hb := hx i
    have ih := tell_rounds x hx K d (i + 1) ((s ++ hexS ((x.getD i 0).tdiv 16)) ++ hexS ((x.getD i 0).tmod 16)) (by omega)
    have hq : (x.getD i 0).tdiv 16 = x.getD i 0 / 16 := Int.tdiv_eq_ediv_of_nonneg hb.1
    have hr : (x.getD i 0).tmod 16 = x.getD i 0 % 16 := Int.tmod_eq_emod_of_nonneg hb.1
    have hw2 : IntKind.u8.wrap ((x.getD i 0).tdiv 16) = (x.getD i 0).tdiv 16 := wrap_u8 (by omega) (by omega)
    have h1 := hexS_size (c := (x.getD i 0).tdiv 16) (by omega) (by omega)
    have h2 := hexS_size (c := (x.getD i 0).tmod 16) (by omega) (by omega)
    refine to (R := bcase (decide ((↑i : Int) < (32 : Int))) (need ((decide ((↑i : Int) < (↑32 : Int))) && true) (need ((((↑i : Int).toNat + 1).ble 32) && true) (need ((decide ((↑i : Int) < (↑32 : Int))) && true) (need ((((↑i : Int).toNat + 1).ble 32) && true) ((((0 : Int) ≤ (IntKind.u8.wrap ((x.getD (↑i : Int).toNat (0 : Int)).tdiv (16 : Int)))) ∧ ((IntKind.u8.wrap ((x.getD (↑i : Int).toNat (0 : Int)).tdiv (16 : Int))) < (16 : Int))) ∧ (need ((decide ((s.size + (hexS (IntKind.u8.wrap ((x.getD (↑i : Int).toNat (0 : Int)).tdiv (16 : Int)))).size) < 9223372036854775808)) && true) ((((0 : Int) ≤ ((x.getD (↑i : Int).toNat (0 : Int)).tmod (16 : Int))) ∧ (((x.getD (↑i : Int).toNat (0 : Int)).tmod (16 : Int)) < (16 : Int))) ∧ (need ((decide (((s ++ (hexS (IntKind.u8.wrap ((x.getD (↑i : Int).toNat (0 : Int)).tdiv (16 : Int))))).size + (hexS ((x.getD (↑i : Int).toNat (0 : Int)).tmod (16 : Int))).size) < 9223372036854775808)) && true) (rnds Tryd.prog (callOf [(57, (pureS hexG))]) (hints 41) noTab (d + 1) (lp Tryd.f41 3) [(1, (.pointer (some (Addr.mk 0 0 (some 0))))), (3, (.string ((s ++ (hexS (IntKind.u8.wrap ((x.getD (↑i : Int).toNat (0 : Int)).tdiv (16 : Int))))) ++ (hexS ((x.getD (↑i : Int).toNat (0 : Int)).tmod (16 : Int)))))), (4, (.int .i64 (IntKind.i64.wrap ((↑i : Int) + (1 : Int)))))] [(.row (arrC .u8) 32 [x] .own)] K))))))))) (K (.exit 0) [(3, (.string s))] [(.row (arrC .u8) 32 [x] .own)])) (by kernel_rfl) ?_
    simp only [hw, Int.toNat_natCast, hw2, ByteArray.size_append, h1, h2]
    refine bcase_t (by simp; omega) (need_of (by simp; omega) (need_of (by simp only [Nat.ble_eq, Bool.and_true]; omega) (need_of (by simp; omega) (need_of (by simp only [Nat.ble_eq, Bool.and_true]; omega)
      ⟨⟨by omega, by omega⟩, need_of (by simp; omega) ⟨⟨by omega, by omega⟩, need_of (by simp; omega) (ih ?_ hK)⟩⟩))))
    rw [ByteArray.size_append, ByteArray.size_append, h1, h2]
    omega
theorem tellLp_ok : CodeOk Tryd.prog Tryd.f41.ntmps (.loop (lp Tryd.f41 3)) tellLp := by
  refine loop_ok (call := callOf [(57, pureS hexG)]) (hint := hints 41) (tb := noTab) hm (callOf_cons hex_ok.spec callOf_nil) (by kernel_rfl) (by repeat' first | exact trivial | constructor |  (intro _ h; cases h)) fun fr H K h => ?_
  unfold tellLp at h
  split at h
  · obtain ⟨x, ⟨rfl, h1, h2, rfl⟩, hK⟩ := h
    exact ⟨_, tell_rounds x h2 _ 32 0 _ (by omega) h1 hK⟩
  · exact h.elim
def tab41 : Tab := ⟨fun | 3 => some tellLp | _ => none, fun _ => none⟩
abbrev headT : ByteArray := ⟨#[115, 104, 97, 50, 53, 54, 58]⟩
def tellS (x : List Int) : ByteArray := tellFrom x 32 0 headT
def tellG : Pure
  | [.agg ⟨l⟩] => bif isDig l then some (bytesL (decI l), .string (tellS (decI l))) else none
  | _ => none
theorem tell_ok : PureOk Tryd.prog 41 tellG := by
  refine .of_run (call := callOf [(57, pureS hexG)]) (hint := hints 41) (tb := tab41) hm (callOf_cons hex_ok.spec callOf_nil) Tryd.func41 (by kernel_rfl) rfl (by kernel_rfl) (by repeat' first | exact trivial | constructor | (intro _ h; cases h; exact tellLp_ok) | (intro _ h; cases h)) fun args c r h => ?_
  unfold tellG at h
  split at h
  · rename_i l
    cases hd : isDig l with
    | false => rw [hd] at h; cases h
    | true =>
    rw [hd] at h
    cases h
    refine ⟨?_, fun hs => ⟨rfl, 1, fun K hK => ?_⟩⟩
    · simp only [isDig, Bool.and_eq_true] at hd
      show (plainL l && true) = true
      rw [plainL_int hd.1]
      rfl
    revert hs hK
    rw [dig_of hd]
    generalize (fun i => (decI l).getD i 0) = b
    intro hs hK
    refine to (R := ∃ x, ((((0 : Int) = (0 : Int)) ∧ ((7 = 7) ∧ ((bytesL x) ∧ ((canonH [(1, (.pointer (some (Addr.mk 0 0 (some 0))))), (3, (.string (ByteArray.mk #[115, 104, 97, 50, 53, 54, 58]))), (4, (.int .i64 (0 : Int)))] [(.row (arrC .u8) 32 [[(b 0), (b 1), (b 2), (b 3), (b 4), (b 5), (b 6), (b 7), (b 8), (b 9), (b 10), (b 11), (b 12), (b 13), (b 14), (b 15), (b 16), (b 17), (b 18), (b 19), (b 20), (b 21), (b 22), (b 23), (b 24), (b 25), (b 26), (b 27), (b 28), (b 29), (b 30), (b 31)]] .own)]) = [(.row (arrC .u8) 32 [x] .own)])))) ∧ (K (.string (tellFrom x 32 0 (ByteArray.mk #[115, 104, 97, 50, 53, 54, 58]))) []))) (by kernel_rfl) ?_
    exact ⟨decI (dig b), ⟨rfl, rfl, hs, rfl⟩, hK _⟩
  · cases h
end Go.Proofs.YtofcjkbgieenlaaDoor.PM
