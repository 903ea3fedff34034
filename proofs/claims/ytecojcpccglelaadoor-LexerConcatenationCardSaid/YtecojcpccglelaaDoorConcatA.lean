/- The tokens of a source, white space and another source: those of the first, then those of the second, moved. -/
import Derived.Test.YtecojcpccglelaaDoorChain
namespace Go.Proofs.YtecojcpccglelaaDoor.Spec
open Go.Proofs.YtecojcpccglelaaDoor.LexA

theorem takeWhile_stop (q : UInt8 → Bool) (w : UInt8) (hq : q w = false) (b : List UInt8) : ∀ (l : List UInt8), (l ++ w :: b).takeWhile q = l.takeWhile q := by
  intro l
  induction l with
  | nil => rw [List.nil_append, List.takeWhile_cons_of_neg (by rw [hq]; exact Bool.false_ne_true)]; rfl
  | cons c r ih =>
    rw [List.cons_append]
    by_cases h : q c = true
    · rw [List.takeWhile_cons_of_pos h, List.takeWhile_cons_of_pos h, ih]
    · rw [List.takeWhile_cons_of_neg h, List.takeWhile_cons_of_neg h]

/-- A quoted text that ends before the white space; or none that is valid. -/
theorem quo_stop (w : UInt8) (h1 : notQuote w = true) (b : List UInt8) : ∀ (r : List UInt8),
    ((r.takeWhile notQuote).length = r.length → w ∈ (r ++ w :: b).takeWhile notQuote) ∧ (¬ (r.takeWhile notQuote).length = r.length → (r ++ w :: b).takeWhile notQuote = r.takeWhile notQuote) := by
  intro r
  induction r with
  | nil =>
    refine ⟨fun _ => ?_, fun h => absurd rfl h⟩
    rw [List.nil_append, List.takeWhile_cons_of_pos h1]; exact List.mem_cons_self ..
  | cons c r ih =>
    rw [List.cons_append]
    by_cases h : notQuote c = true
    · rw [List.takeWhile_cons_of_pos h, List.takeWhile_cons_of_pos h, List.length_cons, List.length_cons]
      refine ⟨fun hl => List.mem_cons_of_mem _ (ih.1 (by omega)), fun hl => ?_⟩
      rw [ih.2 (by omega)]
    · rw [List.takeWhile_cons_of_neg h, List.takeWhile_cons_of_neg h]
      exact ⟨fun hl => by simp at hl, fun _ => rfl⟩

theorem white_facts (w : UInt8) (hw : isWhite w = true) : isWordC w = false ∧ isDigit w = false ∧ notQuote w = true ∧ isVal w = false ∧ w ≠ 61 := by
  have h := all_u8 (fun c => !isWhite c || (isWordC c == false && (isDigit c == false && (notQuote c == true && (isVal c == false && !(c == 61)))))) (by decide +kernel) w
  rw [hw] at h
  simpa using h

theorem tokS_stop (w : UInt8) (hw : isWhite w = true) (b : List UInt8) (c : UInt8) (r : List UInt8) : tokS ((c :: r) ++ w :: b) = tokS (c :: r) := by
  obtain ⟨w1, w2, w3, w4, w5⟩ := white_facts w hw
  have hW := takeWhile_stop isWordC w w1 b (c :: r)
  have hD := takeWhile_stop isDigit w w2 b (c :: r)
  rw [List.cons_append] at hW hD ⊢
  rw [tokS, tokS, hW, hD]
  have hq : quoTok (r ++ w :: b) = quoTok r := by
    obtain ⟨q1, q2⟩ := quo_stop w w3 b r
    unfold quoTok
    by_cases hl : (r.takeWhile notQuote).length = r.length
    · have hm := q1 hl
      have ha : ((r ++ w :: b).takeWhile notQuote).all isVal = false := by
        cases hb : ((r ++ w :: b).takeWhile notQuote).all isVal with
        | false => rfl
        | true =>
          have := List.all_eq_true.1 hb w hm
          rw [w4] at this; cases this
      rw [if_pos hl, if_pos ha]
      split <;> rfl
    · have ht := q2 hl
      have hle := takeWhile_length_le notQuote r
      have hl2 : ¬ ((r ++ w :: b).takeWhile notQuote).length = (r ++ w :: b).length := by
        rw [ht, List.length_append, List.length_cons]; omega
      rw [if_neg hl2, if_neg hl, ht]
  have hs : symTok c (r ++ w :: b) = symTok c r := by
    unfold symTok
    cases r with
    | nil =>
      have h1 : ¬ ([] ++ w :: b).head? = some 61 := by simpa using w5
      have h2 : ¬ ([] : List UInt8).head? = some 61 := by simp
      rw [if_neg h1, if_neg h2]
    | cons a r => rfl
  rw [hq, hs]

theorem lex_w (w : UInt8) (hw : isWhite w = true) (b : List UInt8) (n p : Nat) : lex (n + 1) (w :: b) p = lex n b (p + 1) := by
  rw [lex, if_pos hw]

/-- The tokens of a source, white space, another source. -/
theorem lex_stop (w : UInt8) (hw : isWhite w = true) (b : List UInt8) : ∀ (f : Nat) (l : List UInt8) (p : Nat), l.length ≤ f →
    lex (f + 1 + b.length) (l ++ w :: b) p = match lex f l p with
      | (ts, some x) => (ts, some x)
      | (ts, none) => (ts ++ (lex b.length b (p + l.length + 1)).1, (lex b.length b (p + l.length + 1)).2) := by
  intro f
  induction f with
  | zero =>
    intro l p h
    cases l with
    | nil =>
      show lex (0 + 1 + b.length) (w :: b) p = _
      rw [show 0 + 1 + b.length = b.length + 1 from by omega, lex_w w hw]
      rfl
    | cons c r => simp at h
  | succ f ih =>
    intro l p h
    cases l with
    | nil =>
      show lex (f + 1 + 1 + b.length) (w :: b) p = _
      rw [show f + 1 + 1 + b.length = (f + 1 + b.length) + 1 from by omega, lex_w w hw, lex_fuel (f + 1 + b.length) b (p + 1) b.length (by omega) (Nat.le_refl _)]
      rfl
    | cons c r =>
      rw [List.length_cons] at h
      have ht := tokS_stop w hw b c r
      rw [List.cons_append] at ht ⊢
      rw [show f + 1 + 1 + b.length = (f + 1 + b.length) + 1 from by omega, lex, lex]
      by_cases hc : isWhite c = true
      · rw [if_pos hc, if_pos hc, ih r (p + 1) (by omega)]
        rw [List.length_cons, show p + 1 + r.length + 1 = p + (r.length + 1) + 1 from by omega]
      · rw [if_neg hc, if_neg hc, ht]
        cases hk : tokS (c :: r) with
        | err e => rfl
        | tok k t n size =>
          have hs := tokS_size hk
          rw [List.length_cons] at hs
          have hd : (c :: (r ++ w :: b)).drop size = (c :: r).drop size ++ w :: b := by
            rw [← List.cons_append, List.drop_append_of_le_length (by rw [List.length_cons]; omega)]
          have hl : ((c :: r).drop size).length = r.length + 1 - size := by rw [List.length_drop, List.length_cons]
          dsimp only
          rw [hd, ih _ (p + size) (by omega), hl, List.length_cons, show p + size + (r.length + 1 - size) + 1 = p + (r.length + 1) + 1 from by omega]
          cases lex f ((c :: r).drop size) (p + size) with
          | mk ts o =>
            cases o with
            | none => rfl
            | some x => rfl

def moved (d : Nat) (t : T) : T := ⟨t.kind, t.text, t.n, t.off + d⟩

theorem lex_moved (d : Nat) : ∀ (f : Nat) (l : List UInt8) (p : Nat), lex f l (p + d) = ((lex f l p).1.map (moved d), (lex f l p).2.map fun x => (x.1 + d, x.2)) := by
  intro f
  induction f with
  | zero => intro l p; simp [lex]
  | succ f ih =>
    intro l p
    cases l with
    | nil => simp [lex]
    | cons c r =>
      rw [lex, lex]
      by_cases hc : isWhite c = true
      · rw [if_pos hc, if_pos hc, show p + d + 1 = p + 1 + d from by omega]
        exact ih r (p + 1)
      · rw [if_neg hc, if_neg hc]
        cases hk : tokS (c :: r) with
        | err e => rfl
        | tok k t n size =>
          dsimp only
          rw [show p + d + size = p + size + d from by omega, ih]
          rfl

theorem lex_off : ∀ (f : Nat) (l : List UInt8) (p : Nat), ∀ t ∈ (lex f l p).1, t.off ≤ p + l.length := by
  intro f
  induction f with
  | zero => intro l p t h; simp [lex] at h
  | succ f ih =>
    intro l p t h
    cases l with
    | nil => simp [lex] at h
    | cons c r =>
      rw [lex] at h
      rw [List.length_cons]
      split at h
      · have := ih _ _ _ h; omega
      · cases hk : tokS (c :: r) with
        | err e => rw [hk] at h; simp at h
        | tok k t' n size =>
          rw [hk] at h
          have hs := tokS_size hk
          rw [List.length_cons] at hs
          rcases List.mem_cons.1 h with rfl | h
          · show p ≤ _; omega
          · have := ih _ _ _ h
            rw [List.length_drop, List.length_cons] at this
            omega

/-- What the answer says of a source, white space and another. -/
theorem answer_stop (w : UInt8) (hw : isWhite w = true) (a b : List UInt8) (ha : a.length ≤ 300) (hb : b.length ≤ 300) :
    ((answer a).2.2 ≠ 0 → answer (a ++ w :: b) = ([], (answer a).2)) ∧
    ((answer a).2.2 = 0 → (answer b).2.2 ≠ 0 → answer (a ++ w :: b) = ([], (answer b).2.1 + ((a.length + 1 : Nat) : Int), (answer b).2.2)) ∧
    ((answer a).2.2 = 0 → (answer b).2.2 = 0 → answer (a ++ w :: b) = ((answer a).1 ++ (answer b).1.map (moved (a.length + 1)), 0, 0)) := by
  have h := lex_stop w hw b a.length a 0 (Nat.le_refl _)
  have hm := lex_moved (a.length + 1) b.length b 0
  rw [Nat.zero_add] at hm
  rw [Nat.zero_add, hm] at h
  have ea := lex_err a.length a 0
  have eb := lex_err b.length b 0
  have hz : (a ++ w :: b).length = a.length + 1 + b.length := by rw [List.length_append, List.length_cons]; omega
  unfold answer
  rw [hz, if_neg (by omega), if_neg (by omega), if_neg (by omega), h]
  cases hra : lex a.length a 0 with
  | mk ts o =>
    rw [hra] at ea
    cases o with
    | some ae =>
      obtain ⟨x, e⟩ := ae
      have := ea x e rfl
      exact ⟨fun _ => rfl, fun h => absurd h this, fun h => absurd h this⟩
    | none =>
      cases hrb : lex b.length b 0 with
      | mk us o =>
        rw [hrb] at eb
        cases o with
        | some be =>
          obtain ⟨y, e⟩ := be
          have := eb y e rfl
          refine ⟨fun h => absurd rfl h, fun _ _ => ?_, fun _ h => absurd h this⟩
          show (([] : List T), (((y + (a.length + 1) : Nat)) : Int), e) = ([], ((y : Nat) : Int) + ((a.length + 1 : Nat) : Int), e)
          rw [Int.natCast_add]
        | none => exact ⟨fun h => absurd rfl h, fun _ h => absurd rfl h, fun _ _ => rfl⟩

theorem answer_off (l : List UInt8) : ∀ t ∈ (answer l).1, t.off ≤ l.length := by
  unfold answer
  split
  · intro t h; cases h
  · have h := lex_off l.length l 0
    cases hr : lex l.length l 0 with
    | mk ts o =>
      rw [hr] at h
      cases o with
      | none => intro t ht; have := h t ht; omega
      | some ae => intro t ht; cases ht

end Go.Proofs.YtecojcpccglelaaDoor.Spec
