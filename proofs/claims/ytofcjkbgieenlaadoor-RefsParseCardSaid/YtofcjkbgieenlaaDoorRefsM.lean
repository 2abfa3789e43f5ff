/- Contracts of the library's functions, of the shelf, and of word, parted, part. By an AI agent. -/
import Derived.Test.YtofcjkbgieenlaaDoorRefsL
import Derived.Test.YtofcjkbgieenlaaDoorShelf12
namespace Go.Proofs.YtofcjkbgieenlaaDoor.PM
open Go Go.Proofs Go.RowKit
set_option maxRecDepth 100000
set_option linter.unusedVariables false
set_option linter.unusedSimpArgs false

theorem PureOk.of_shelf {P : Program} {f : FuncId} {fn : Func} {b : Code} {g : Pure} (hf : P.funcs[f]? = some fn) (hn : (fn.name == "runtime.NumGoroutine") = false) (hb : fn.body = some b)
    (h : ∀ args c r, g args = some (c, r) → closedL args = true ∧ (c → closedV r = true ∧ ∀ w, Calls P f ⟨args⟩ w fun e w' => e = .returned r ∧ Below w.heap.size w w')) : PureOk P f g where
  enter := ⟨fn, b, hf, hn, hb⟩
  args args c r hg := (h args c r hg).1
  meets args c r hg hcc := by
    obtain ⟨h0, h1⟩ := h args c r hg
    obtain ⟨h2, h3⟩ := h1 hcc
    exact ⟨h2, .of_calls h0 h2 h3⟩
/-- A function of two texts. -/
def two (cond : ByteArray → ByteArray → Prop) (f : ByteArray → ByteArray → Value) : Pure
  | [.string s, .string t] => some (cond s t, f s t)
  | _ => none
theorem two_ok {P : Program} {n : FuncId} {fn : Func} {b : Code} {cond : ByteArray → ByteArray → Prop} {f : ByteArray → ByteArray → Value} (hf : P.funcs[n]? = some fn) (hn : (fn.name == "runtime.NumGoroutine") = false) (hb : fn.body = some b)
    (hc : ∀ s t, closedV (f s t) = true) (h : ∀ s t, cond s t → ∀ w, Calls P n #[.string s, .string t] w fun e w' => e = .returned (f s t) ∧ w' = w) : PureOk P n (two cond f) :=
  .of_shelf hf hn hb fun args c r hg => by
    unfold two at hg
    split at hg
    · rename_i s t
      cases hg
      exact ⟨rfl, fun hcc => ⟨hc s t, fun w => (h s t hcc w).mono fun e w' k => ⟨k.1, by rw [k.2]; exact Below.refl _ _⟩⟩⟩
    · cases hg
/-- A text, and a byte. -/
def sb (cond : ByteArray → Int → Prop) (f : ByteArray → Int → Value) : Pure
  | [.string s, .int _ c] => some (cond s c, f s c)
  | _ => none
def oneB (t : ByteArray) : UInt8 := t.data.toList.getD 0 0
theorem trimLeft_ok : PureOk Tryd.prog 81 (two (fun s t => t = ⟨#[45]⟩) fun s t => .string ⟨(Lib.trimLeftB s.data.toList 45).toArray⟩) :=
  two_ok Tryd.func81 (by kernel_rfl) rfl (fun _ _ => rfl) fun s t h w => by subst h; exact Tryd.strings_TrimLeft_one s 45 (by decide) w
theorem cutPrefix_ok : PureOk Tryd.prog 28 (two (fun s t => True) fun s t => .tuple #[.string ⟨(Lib.trimPrefix s.data.toList t.data.toList).toArray⟩, .bool (Lib.hasPrefix s.data.toList t.data.toList)]) :=
  two_ok Tryd.func28 (by kernel_rfl) rfl (fun _ _ => rfl) fun s t h w => Tryd.strings_CutPrefix s t w
theorem contains_ok : PureOk Tryd.prog 21 (two (fun s t => t = ⟨#[47]⟩) fun s t => .bool (decide (0 ≤ Lib.indexByte s.data.toList 47))) :=
  two_ok Tryd.func21 (by kernel_rfl) rfl (fun _ _ => rfl) fun s t h w => by subst h; exact Tryd.strings_Contains_one s 47 w
theorem index_ok : PureOk Tryd.prog 52 (two (fun s t => ∃ c, t = ⟨#[c]⟩) fun s t => .int .i64 (Lib.indexByte s.data.toList (oneB t))) :=
  two_ok Tryd.func52 (by kernel_rfl) rfl (fun _ _ => rfl) fun s t h w => by obtain ⟨c, rfl⟩ := h; exact Tryd.stringslite_Index_one s c w

def wb (c : Int) : Bool := smallB c || digitB c
def wordN (s : ByteArray) : Nat → Nat → Nat
  | 0, i => i
  | d + 1, i => bif wb (bt s i) then wordN s d (i + 1) else i
def wordEnd (s : ByteArray) : Nat := wordN s s.size 0
theorem wordN_le (s : ByteArray) : ∀ d i, i ≤ wordN s d i ∧ wordN s d i ≤ i + d
  | 0, i => ⟨Nat.le_refl _, Nat.le_refl _⟩
  | d + 1, i => by
    have := wordN_le s d (i + 1)
    unfold wordN
    cases wb (bt s i) <;> simp only [cond_true, cond_false] <;> omega
def wordLp : LSpec
  | [(0, .string s), (4, .int .i64 i)], [], K => (i = 0 ∧ s.size < 2 ^ 62) ∧ K (.exit 0) [(0, .string s), (4, .int .i64 (wordEnd s))] []
  | _, _, _ => False
theorem word_rounds (s : ByteArray) (hs : s.size < 2 ^ 62) (K : Kont) : ∀ (d i : Nat), i + d = s.size → K (.exit 0) [(0, .string s), (4, .int .i64 (wordN s d i))] [] →
    rnds Tryd.prog (callOf [(60, pureS smallG), (45, pureS digitG)]) (hints 64) noTab (d + 1) (lp Tryd.f64 2) [(0, .string s), (4, .int .i64 i)] [] K
  | 0, i, hi, hK => by
    refine to (R := bcase (decide ((↑i : Int) < (↑s.size : Int))) (need (decide ((↑i : Int) < (↑s.size : Int))) (True ∧ (bcase (smallB (bt s (↑i : Int))) (rnds Tryd.prog (callOf [(60, (pureS smallG)), (45, (pureS digitG))]) (hints 64) noTab (nat_lit 0) (lp Tryd.f64 2) [(0, (.string s)), (4, (.int .i64 (IntKind.i64.wrap ((↑i : Int) + (1 : Int)))))] [] K) (need (decide ((↑i : Int) < (↑s.size : Int))) (True ∧ (bcase (digitB (bt s (↑i : Int))) (rnds Tryd.prog (callOf [(60, (pureS smallG)), (45, (pureS digitG))]) (hints 64) noTab (nat_lit 0) (lp Tryd.f64 2) [(0, (.string s)), (4, (.int .i64 (IntKind.i64.wrap ((↑i : Int) + (1 : Int)))))] [] K) (K (.exit 0) [(0, (.string s)), (4, (.int .i64 (↑i : Int)))] []))))))) (K (.exit 0) [(0, (.string s)), (4, (.int .i64 (↑i : Int)))] [])) (by kernel_rfl) ?_
    exact bcase_f (by simp; omega) hK
  | d + 1, i, hi, hK => by
    have hw : IntKind.i64.wrap ((i : Int) + 1) = ((i + 1 : Nat) : Int) := wrap_id (by omega) (by omega)
    have ih := word_rounds s hs K d (i + 1) (by omega)
    unfold wordN wb at hK
    obtain ⟨n, hn⟩ : ∃ n, n = d + 1 := ⟨_, rfl⟩; rw [← hn] at ih ⊢
    refine to (R := bcase (decide ((↑i : Int) < (↑s.size : Int))) (need (decide ((↑i : Int) < (↑s.size : Int))) (True ∧ (bcase (smallB (bt s (↑i : Int))) (rnds Tryd.prog (callOf [(60, (pureS smallG)), (45, (pureS digitG))]) (hints 64) noTab n (lp Tryd.f64 2) [(0, (.string s)), (4, (.int .i64 (IntKind.i64.wrap ((↑i : Int) + (1 : Int)))))] [] K) (need (decide ((↑i : Int) < (↑s.size : Int))) (True ∧ (bcase (digitB (bt s (↑i : Int))) (rnds Tryd.prog (callOf [(60, (pureS smallG)), (45, (pureS digitG))]) (hints 64) noTab n (lp Tryd.f64 2) [(0, (.string s)), (4, (.int .i64 (IntKind.i64.wrap ((↑i : Int) + (1 : Int)))))] [] K) (K (.exit 0) [(0, (.string s)), (4, (.int .i64 (↑i : Int)))] []))))))) (K (.exit 0) [(0, (.string s)), (4, (.int .i64 (↑i : Int)))] [])) (by kernel_rfl) ?_
    rw [hw]
    refine bcase_t (by simp; omega) (need_of (by simp; omega) ⟨trivial, bcase_of (fun a => ?_) (fun a => need_of (by simp; omega) ⟨trivial, bcase_of (fun b => ?_) (fun b => ?_)⟩)⟩)
    · try simp only [a, bcase_tt, bcase_ff, Int.toNat_natCast, Bool.not_true, Bool.not_false, cond_true, cond_false, Bool.and_true, Bool.and_false, Bool.true_and, Bool.false_and, Bool.or_true, Bool.or_false, Bool.true_or, Bool.false_or] at hK
      exact ih hK
    · try simp only [a, b, bcase_tt, bcase_ff, Int.toNat_natCast, Bool.not_true, Bool.not_false, cond_true, cond_false, Bool.and_true, Bool.and_false, Bool.true_and, Bool.false_and, Bool.or_true, Bool.or_false, Bool.true_or, Bool.false_or] at hK
      exact ih hK
    · try simp only [a, b, bcase_tt, bcase_ff, Int.toNat_natCast, Bool.not_true, Bool.not_false, cond_true, cond_false, Bool.and_true, Bool.and_false, Bool.true_and, Bool.false_and, Bool.or_true, Bool.or_false, Bool.true_or, Bool.false_or] at hK
      exact hK
theorem wordLp_ok : CodeOk Tryd.prog Tryd.f64.ntmps (.loop (lp Tryd.f64 2)) wordLp := by
  refine loop_ok (call := callOf [(60, pureS smallG), (45, pureS digitG)]) (hint := hints 64) (tb := noTab) hm (callOf_cons small_ok.spec (callOf_cons digit_ok.spec callOf_nil)) (by kernel_rfl) (by repeat' first | exact trivial | constructor |  (intro _ h; cases h)) fun fr H K h => ?_
  unfold wordLp at h
  split at h
  · obtain ⟨⟨rfl, h1⟩, hK⟩ := h
    exact ⟨_, word_rounds _ h1 _ _ 0 (Nat.zero_add _) hK⟩
  · exact h.elim
def tab64 : Tab := ⟨fun | 2 => some wordLp | _ => none, fun _ => none⟩
attribute [irreducible] wordEnd
def wordR (s : ByteArray) : ByteArray := s.extract (wordEnd s) s.size
def wordG : Pure
  | [.string s] => some (s.size < 2 ^ 62, .tuple ⟨[.string (wordR s), .bool (decide ((wordEnd s : Int) > 0))]⟩)
  | _ => none
theorem word_ok : PureOk Tryd.prog 64 wordG := by
  refine .of_run (call := callOf [(60, pureS smallG), (45, pureS digitG)]) (hint := hints 64) (tb := tab64) hm (callOf_cons small_ok.spec (callOf_cons digit_ok.spec callOf_nil)) Tryd.func64 (by kernel_rfl) rfl (by kernel_rfl) (by repeat' first | exact trivial | constructor | (intro _ h; cases h; exact wordLp_ok) | (intro _ h; cases h)) fun args c r h => ?_
  unfold wordG at h
  split at h
  · rename_i s
    cases h
    refine ⟨rfl, fun hs => ⟨rfl, 1, fun K hK => ?_⟩⟩
    have hle : wordEnd s ≤ s.size := by unfold wordEnd; have := (wordN_le s s.size 0).2; omega
    refine to (R := (((0 : Int) = (0 : Int)) ∧ (s.size < 4611686018427387904)) ∧ (need ((decide ((↑(wordEnd s) : Int) ≤ (↑s.size : Int))) && (decide ((↑s.size : Int) ≤ (↑s.size : Int)))) (K (.tuple (Array.mk [(.string (s.extract (↑(wordEnd s) : Int).toNat (↑s.size : Int).toNat)), (.bool (decide ((↑(wordEnd s) : Int) > (0 : Int))))])) []))) (by kernel_rfl) ?_
    exact ⟨⟨rfl, hs⟩, need_of (by simp; omega) (hK [])⟩
  · cases h

/-- A text without what may part two words, at its front. -/
def partedS (s : ByteArray) : ByteArray × Bool :=
  let t : ByteArray := ⟨(Lib.trimLeftB s.data.toList 45).toArray⟩
  bif decide ((t.size : Int) < s.size) then (t, true) else
  bif Lib.hasPrefix s.data.toList [46] then (⟨(Lib.trimPrefix s.data.toList [46]).toArray⟩, true) else
  bif Lib.hasPrefix s.data.toList [95, 95] then (⟨(Lib.trimPrefix s.data.toList [95, 95]).toArray⟩, true) else
  bif Lib.hasPrefix s.data.toList [95] then (⟨(Lib.trimPrefix s.data.toList [95]).toArray⟩, true) else (s, false)
def partedG : Pure
  | [.string s] => some (s.size < 2 ^ 62, .tuple ⟨[.string (partedS s).1, .bool (partedS s).2]⟩)
  | _ => none
theorem pick0 (a b c : ByteArray) : pickS [Value.string a, .string b, .string c] 0 = a := rfl
theorem pick1 (a b c : ByteArray) : pickS [Value.string a, .string b, .string c] 1 = b := rfl
theorem pick2 (a b c : ByteArray) : pickS [Value.string a, .string b, .string c] 2 = c := rfl
theorem parted_ok : PureOk Tryd.prog 65 partedG := by
  refine .of_run (call := callOf [(81, pureS (two (fun s t => t = ⟨#[45]⟩) fun s t => .string ⟨(Lib.trimLeftB s.data.toList 45).toArray⟩)), (28, pureS (two (fun s t => True) fun s t => .tuple #[.string ⟨(Lib.trimPrefix s.data.toList t.data.toList).toArray⟩, .bool (Lib.hasPrefix s.data.toList t.data.toList)]))]) (hint := hints 65) (tb := unrollTab) hm (callOf_cons trimLeft_ok.spec (callOf_cons cutPrefix_ok.spec callOf_nil)) Tryd.func65 (by kernel_rfl) rfl (by kernel_rfl) (by repeat' first | exact trivial | constructor |  (intro _ h; cases h)) fun args c r h => ?_
  unfold partedG at h
  split at h
  · rename_i s
    cases h
    refine ⟨rfl, fun hs => ⟨rfl, 9, fun K hK => ?_⟩⟩
    refine to (R := ((ByteArray.mk #[45]) = (ByteArray.mk #[45])) ∧ (bcase (decide ((↑(ByteArray.mk (Lib.trimLeftB s.data.toList 45).toArray).size : Int) < (↑s.size : Int))) (K (.tuple (Array.mk [(.string (ByteArray.mk (Lib.trimLeftB s.data.toList 45).toArray)), (.bool true)])) []) (True ∧ (bcase (Lib.hasPrefix s.data.toList (pickS (Array.mk [(.string (ByteArray.mk #[46])), (.string (ByteArray.mk #[95, 95])), (.string (ByteArray.mk #[95]))]).toList 0).data.toList) (K (.tuple (Array.mk [(.string (ByteArray.mk (Lib.trimPrefix s.data.toList (pickS (Array.mk [(.string (ByteArray.mk #[46])), (.string (ByteArray.mk #[95, 95])), (.string (ByteArray.mk #[95]))]).toList 0).data.toList).toArray)), (.bool true)])) []) (True ∧ (bcase (Lib.hasPrefix s.data.toList (pickS (Array.mk [(.string (ByteArray.mk #[46])), (.string (ByteArray.mk #[95, 95])), (.string (ByteArray.mk #[95]))]).toList 1).data.toList) (K (.tuple (Array.mk [(.string (ByteArray.mk (Lib.trimPrefix s.data.toList (pickS (Array.mk [(.string (ByteArray.mk #[46])), (.string (ByteArray.mk #[95, 95])), (.string (ByteArray.mk #[95]))]).toList 1).data.toList).toArray)), (.bool true)])) []) (True ∧ (bcase (Lib.hasPrefix s.data.toList (pickS (Array.mk [(.string (ByteArray.mk #[46])), (.string (ByteArray.mk #[95, 95])), (.string (ByteArray.mk #[95]))]).toList 2).data.toList) (K (.tuple (Array.mk [(.string (ByteArray.mk (Lib.trimPrefix s.data.toList (pickS (Array.mk [(.string (ByteArray.mk #[46])), (.string (ByteArray.mk #[95, 95])), (.string (ByteArray.mk #[95]))]).toList 2).data.toList).toArray)), (.bool true)])) []) (K (.tuple (Array.mk [(.string s), (.bool false)])) []))))))))) (by kernel_rfl) ?_
    simp only [pick0, pick1, pick2]
    simp only [partedS] at hK
    refine ⟨trivial, ?_⟩
    repeat' first | with_reducible exact trivial | with_reducible refine need_of (by first | first | with_reducible assumption | (simp only [List.length_cons, List.length_nil, Nat.zero_add, Nat.zero_lt_succ, decide_true, Bool.and_true, Bool.and_self]; done) | with_reducible exact pos_of (by assumption) | with_reducible exact pos_of' (by assumption) | omega | (simp only [ByteArray.size_append, sz1, decide_eq_true_eq, *]; omega) | decide | (simp only [Bool.and_true, Bool.and_eq_true, decide_eq_true_eq, ByteArray.size_extract, ByteArray.size_append, sz1, Int.toNat_natCast, List.getD_eq_getElem?_getD, beq_iff_eq, decide_eq_false_iff_not] at *; omega) | ((repeat' constructor) <;> first | rfl | first | with_reducible assumption | (simp only [List.length_cons, List.length_nil, Nat.zero_add, Nat.zero_lt_succ, decide_true, Bool.and_true, Bool.and_self]; done) | with_reducible exact pos_of (by assumption) | with_reducible exact pos_of' (by assumption) | omega | (simp only [ByteArray.size_append, sz1, decide_eq_true_eq, *]; omega) | decide | (simp only [Bool.and_true, Bool.and_eq_true, decide_eq_true_eq, ByteArray.size_extract, ByteArray.size_append, sz1, Int.toNat_natCast, List.getD_eq_getElem?_getD, beq_iff_eq, decide_eq_false_iff_not] at *; omega))) ?_ | with_reducible refine And.intro (by first | first | with_reducible assumption | (simp only [List.length_cons, List.length_nil, Nat.zero_add, Nat.zero_lt_succ, decide_true, Bool.and_true, Bool.and_self]; done) | with_reducible exact pos_of (by assumption) | with_reducible exact pos_of' (by assumption) | omega | (simp only [ByteArray.size_append, sz1, decide_eq_true_eq, *]; omega) | decide | (simp only [Bool.and_true, Bool.and_eq_true, decide_eq_true_eq, ByteArray.size_extract, ByteArray.size_append, sz1, Int.toNat_natCast, List.getD_eq_getElem?_getD, beq_iff_eq, decide_eq_false_iff_not] at *; omega) | ((repeat' constructor) <;> first | rfl | first | with_reducible assumption | (simp only [List.length_cons, List.length_nil, Nat.zero_add, Nat.zero_lt_succ, decide_true, Bool.and_true, Bool.and_self]; done) | with_reducible exact pos_of (by assumption) | with_reducible exact pos_of' (by assumption) | omega | (simp only [ByteArray.size_append, sz1, decide_eq_true_eq, *]; omega) | decide | (simp only [Bool.and_true, Bool.and_eq_true, decide_eq_true_eq, ByteArray.size_extract, ByteArray.size_append, sz1, Int.toNat_natCast, List.getD_eq_getElem?_getD, beq_iff_eq, decide_eq_false_iff_not] at *; omega))) ?_ | with_reducible refine bcase_not ?_ | with_reducible refine bcase_t rfl ?_ | with_reducible refine bcase_f rfl ?_ | with_reducible refine bcase_t (by assumption) ?_ | with_reducible refine bcase_f (by assumption) ?_ | (with_reducible refine bcase_of (fun hx => ?_) (fun hx => ?_) <;> try simp only [hx, bcase_tt, bcase_ff, Int.toNat_natCast, Bool.not_true, Bool.not_false, cond_true, cond_false, Bool.and_true, Bool.and_false, Bool.true_and, Bool.false_and, Bool.or_true, Bool.or_false, Bool.true_or, Bool.false_or] at hK)
    all_goals exact hK []
  · cases h
theorem wordEnd_le (s : ByteArray) : wordEnd s ≤ s.size := by unfold wordEnd; have := (wordN_le s s.size 0).2; omega
theorem wordR_size (s : ByteArray) : (wordR s).size ≤ s.size := by unfold wordR; rw [ByteArray.size_extract]; omega
theorem mk_size (l : List UInt8) : (ByteArray.mk l.toArray).size = l.length := by simp [ByteArray.size]
theorem trimPrefix_size {s : ByteArray} {p : List UInt8} (hp : 0 < p.length) (h : Lib.hasPrefix s.data.toList p = true) : (ByteArray.mk (Lib.trimPrefix s.data.toList p).toArray).size < s.size := by
  have h1 := (List.isPrefixOf_iff_prefix.1 h).length_le
  rw [mk_size]
  unfold Lib.trimPrefix
  rw [if_pos h, List.length_drop]
  have : s.data.toList.length = s.size := li_size s
  omega
theorem partedS_size (s : ByteArray) (h : (partedS s).2 = true) : (partedS s).1.size < s.size := by
  unfold partedS at h ⊢
  cases h1 : decide (((ByteArray.mk (Lib.trimLeftB s.data.toList 45).toArray).size : Int) < s.size) with
  | true =>
    simp only [h1, cond_true]
    have := of_decide_eq_true h1
    omega
  | false =>
    simp only [h1, cond_false] at h ⊢
    cases h2 : Lib.hasPrefix s.data.toList [46] with
    | true => simp only [h2, cond_true]; exact trimPrefix_size (by simp) h2
    | false =>
      simp only [h2, cond_false] at h ⊢
      cases h3 : Lib.hasPrefix s.data.toList [95, 95] with
      | true => simp only [h3, cond_true]; exact trimPrefix_size (by simp) h3
      | false =>
        simp only [h3, cond_false] at h ⊢
        cases h4 : Lib.hasPrefix s.data.toList [95] with
        | true => simp only [h4, cond_true]; exact trimPrefix_size (by simp) h4
        | false => rw [h4] at h; cases h
theorem partedS_le (s : ByteArray) : (partedS s).1.size ≤ s.size := by
  cases h : (partedS s).2 with
  | true => exact Nat.le_of_lt (partedS_size s h)
  | false =>
    unfold partedS at h ⊢
    cases h1 : decide (((ByteArray.mk (Lib.trimLeftB s.data.toList 45).toArray).size : Int) < s.size) <;> simp only [h1, cond_true, cond_false] at h ⊢
    · cases h2 : Lib.hasPrefix s.data.toList [46] <;> simp only [h2, cond_true, cond_false] at h ⊢
      · cases h3 : Lib.hasPrefix s.data.toList [95, 95] <;> simp only [h3, cond_true, cond_false] at h ⊢
        · cases h4 : Lib.hasPrefix s.data.toList [95] <;> simp only [h4, cond_true, cond_false] at h ⊢
          · exact Nat.le_refl _
          · cases h
        · cases h
      · cases h
    · cases h
/-- Whether a text's words, and what parts them, are a path's part. -/
def partP : Nat → ByteArray → Bool → Bool
  | 0, _, ok => ok
  | d + 1, s, ok => bif ok && !isS s [] then (bif (partedS s).2 then partP d (wordR (partedS s).1) (decide ((wordEnd (partedS s).1 : Int) > 0)) else false) else ok
def partPS (s : ByteArray) : Bool := partP s.size (wordR s) (decide ((wordEnd s : Int) > 0))
def partPLp : LSpec
  | [(0, .string s), (3, .bool ok)], [], K => (s.size < 2 ^ 61) ∧ ∀ d, s.size ≤ d → K (.exit 0) [(3, .bool (partP d s ok))] []
  | _, _, _ => False
theorem partP_rounds (K : Kont) : ∀ (d : Nat) (s : ByteArray) (ok : Bool), (ok = true → s.size ≤ d) → s.size < 2 ^ 61 → K (.exit 0) [(3, .bool (partP d s ok))] [] →
    rnds Tryd.prog (callOf [(64, pureS wordG), (65, pureS partedG)]) (hints 50) noTab (d + 1) (lp Tryd.f50 2) [(0, .string s), (3, .bool ok)] [] K
  | 0, s, ok, hd, hs, hK => by
    refine to (R := bcase ok (bcase (!(s.toList == (ByteArray.mk #[]).toList)) ((s.size < 4611686018427387904) ∧ (bcase (partedS s).snd (((partedS s).fst.size < 4611686018427387904) ∧ (rnds Tryd.prog (callOf [(64, (pureS wordG)), (65, (pureS partedG))]) (hints 50) noTab (nat_lit 0) (lp Tryd.f50 2) [(0, (.string (wordR (partedS s).fst))), (3, (.bool (decide ((↑(wordEnd (partedS s).fst) : Int) > (0 : Int)))))] [] K)) (rnds Tryd.prog (callOf [(64, (pureS wordG)), (65, (pureS partedG))]) (hints 50) noTab (nat_lit 0) (lp Tryd.f50 2) [(0, (.string (partedS s).fst)), (3, (.bool (partedS s).snd))] [] K))) (K (.exit 0) [(3, (.bool ok))] [])) (K (.exit 0) [(3, (.bool ok))] [])) (by kernel_rfl) ?_
    refine bcase_of (fun a => ?_) (fun a => hK)
    have := hd a
    have h0 : (s.toList == (ByteArray.mk #[]).toList) = true := by rw [toList_empty]; exact beq_iff_eq.2 (by omega)
    exact bcase_not (bcase_t h0 hK)
  | d + 1, s, ok, hd, hs, hK => by
    have ih := fun (s2 : ByteArray) (ok2 : Bool) (h : ok2 = true → s2.size ≤ d) (h2 : s2.size < 2 ^ 61) => partP_rounds K d s2 ok2 h h2
    have hps := partedS_size s
    have hwr := wordR_size (partedS s).1
    unfold partP at hK
    simp only [isS] at hK
    obtain ⟨n, hn⟩ : ∃ n, n = d + 1 := ⟨_, rfl⟩; rw [← hn] at ih ⊢
    refine to (R := bcase ok (bcase (!(s.toList == (ByteArray.mk #[]).toList)) ((s.size < 4611686018427387904) ∧ (bcase (partedS s).snd (((partedS s).fst.size < 4611686018427387904) ∧ (rnds Tryd.prog (callOf [(64, (pureS wordG)), (65, (pureS partedG))]) (hints 50) noTab n (lp Tryd.f50 2) [(0, (.string (wordR (partedS s).fst))), (3, (.bool (decide ((↑(wordEnd (partedS s).fst) : Int) > (0 : Int)))))] [] K)) (rnds Tryd.prog (callOf [(64, (pureS wordG)), (65, (pureS partedG))]) (hints 50) noTab n (lp Tryd.f50 2) [(0, (.string (partedS s).fst)), (3, (.bool (partedS s).snd))] [] K))) (K (.exit 0) [(3, (.bool ok))] [])) (K (.exit 0) [(3, (.bool ok))] [])) (by kernel_rfl) ?_
    refine bcase_of (fun a => bcase_not (bcase_of (fun b => ?_) (fun b => ⟨?_, bcase_of (fun e => ⟨?_, ?_⟩) (fun e => ?_)⟩))) (fun a => ?_)
    · try simp only [a, b, bcase_tt, bcase_ff, Int.toNat_natCast, Bool.not_true, Bool.not_false, cond_true, cond_false, Bool.and_true, Bool.and_false, Bool.true_and, Bool.false_and, Bool.or_true, Bool.or_false, Bool.true_or, Bool.false_or] at hK
      rw [a]; exact hK
    · omega
    · have := hps e; omega
    · try simp only [a, b, e, bcase_tt, bcase_ff, Int.toNat_natCast, Bool.not_true, Bool.not_false, cond_true, cond_false, Bool.and_true, Bool.and_false, Bool.true_and, Bool.false_and, Bool.or_true, Bool.or_false, Bool.true_or, Bool.false_or] at hK
      have := hps e
      have := hd a
      exact ih _ _ (fun _ => by omega) (by omega) hK
    · try simp only [a, b, e, bcase_tt, bcase_ff, Int.toNat_natCast, Bool.not_true, Bool.not_false, cond_true, cond_false, Bool.and_true, Bool.and_false, Bool.true_and, Bool.false_and, Bool.or_true, Bool.or_false, Bool.true_or, Bool.false_or] at hK
      rw [e]
      have hf : partP d (partedS s).1 false = false := by cases d <;> rfl
      exact ih _ _ (fun h => by cases h) (by have := partedS_le s; omega) (by rw [hf]; exact hK)
    · try simp only [a, bcase_tt, bcase_ff, Int.toNat_natCast, Bool.not_true, Bool.not_false, cond_true, cond_false, Bool.and_true, Bool.and_false, Bool.true_and, Bool.false_and, Bool.or_true, Bool.or_false, Bool.true_or, Bool.false_or] at hK
      rw [a]; exact hK
theorem partPLp_ok : CodeOk Tryd.prog Tryd.f50.ntmps (.loop (lp Tryd.f50 2)) partPLp := by
  refine loop_ok (call := callOf [(64, pureS wordG), (65, pureS partedG)]) (hint := hints 50) (tb := noTab) hm (callOf_cons word_ok.spec (callOf_cons parted_ok.spec callOf_nil)) (by kernel_rfl) (by repeat' first | exact trivial | constructor |  (intro _ h; cases h)) fun fr H K h => ?_
  unfold partPLp at h
  split at h
  · rename_i s ok
    obtain ⟨h1, hK⟩ := h
    exact ⟨_, partP_rounds _ s.size s ok (fun _ => Nat.le_refl _) h1 (hK _ (Nat.le_refl _))⟩
  · exact h.elim
def tab50 : Tab := ⟨fun | 2 => some partPLp | _ => none, fun _ => none⟩
theorem partP_any : ∀ (d e : Nat) (s : ByteArray) (ok : Bool), (ok = true → s.size ≤ d) → (ok = true → s.size ≤ e) → partP d s ok = partP e s ok
  | d, e, s, false, _, _ => by
    have : ∀ d, partP d s false = false := fun d => by cases d <;> rfl
    rw [this, this]
  | 0, e, s, true, hd, _ => by
    have h0 : (s.toList == (ByteArray.mk #[]).toList) = true := by rw [toList_empty]; have := hd rfl; exact beq_iff_eq.2 (by omega)
    cases e with
    | zero => rfl
    | succ e => unfold partP; rw [show isS s [] = true from h0]; rfl
  | d + 1, 0, s, true, _, he => by
    have h0 : (s.toList == (ByteArray.mk #[]).toList) = true := by rw [toList_empty]; have := he rfl; exact beq_iff_eq.2 (by omega)
    unfold partP; rw [show isS s [] = true from h0]; rfl
  | d + 1, e + 1, s, true, hd, he => by
    unfold partP
    cases hp : (partedS s).2 with
    | false => rfl
    | true =>
      have h1 := partedS_size s hp
      have h2 := wordR_size (partedS s).1
      have := hd rfl
      have := he rfl
      rw [partP_any d e _ _ (fun _ => by omega) (fun _ => by omega)]
attribute [irreducible] partedS wordR partP
def partPG : Pure
  | [.string s] => some (s.size < 2 ^ 60, .bool (partPS s))
  | _ => none
theorem partP_ok : PureOk Tryd.prog 50 partPG := by
  refine .of_run (call := callOf [(64, pureS wordG), (65, pureS partedG)]) (hint := hints 50) (tb := tab50) hm (callOf_cons word_ok.spec (callOf_cons parted_ok.spec callOf_nil)) Tryd.func50 (by kernel_rfl) rfl (by kernel_rfl) (by repeat' first | exact trivial | constructor | (intro _ h; cases h; exact partPLp_ok) | (intro _ h; cases h)) fun args c r h => ?_
  unfold partPG at h
  split at h
  · rename_i s
    cases h
    refine ⟨rfl, fun hs => ⟨rfl, 1, fun K hK => ?_⟩⟩
    have h1 := wordR_size s
    refine to (R := (s.size < 4611686018427387904) ∧ (((wordR s).size < 2305843009213693952) ∧ (∀ (d : Nat), (((wordR s).size ≤ d) → (K (.bool (partP d (wordR s) (decide ((↑(wordEnd s) : Int) > (0 : Int))))) []))))) (by kernel_rfl) ?_
    refine ⟨by omega, by omega, fun d hd => ?_⟩
    have := hK []
    unfold partPS at this
    rw [partP_any d s.size _ _ (fun _ => hd) (fun _ => h1)]
    exact this
  · cases h
end Go.Proofs.YtofcjkbgieenlaaDoor.PM
