/- What the tokens of a source say of its bytes: each is written at its offset, white space lies between them. -/
import Derived.Test.YtecojcpccglelaaDoorLexA
namespace Go.Proofs.YtecojcpccglelaaDoor.Spec
open Go.Proofs.YtecojcpccglelaaDoor.LexA

/-- The bytes of a token. -/
def tokBytes (k : Int) (t : List UInt8) : List UInt8 := if k = 2 then 34 :: (t ++ [34]) else t

theorem take_length_takeWhile {α : Type} (q : α → Bool) (l : List α) : l.take (l.takeWhile q).length = l.takeWhile q := by
  induction l with
  | nil => rfl
  | cons a l ih =>
    by_cases h : q a = true
    · rw [List.takeWhile_cons_of_pos h, List.length_cons, List.take_succ_cons, ih]
    · rw [List.takeWhile_cons_of_neg h]; rfl

theorem quo_next : ∀ (r : List UInt8), ¬ (r.takeWhile notQuote).length = r.length → r.take ((r.takeWhile notQuote).length + 1) = r.takeWhile notQuote ++ [34] := by
  intro r
  induction r with
  | nil => intro h; exact absurd rfl h
  | cons a r ih =>
    intro h
    by_cases ha : notQuote a = true
    · rw [List.takeWhile_cons_of_pos ha, List.length_cons, List.length_cons] at h
      rw [List.takeWhile_cons_of_pos ha, List.length_cons, List.take_succ_cons, ih (by omega), List.cons_append]
    · rw [List.takeWhile_cons_of_neg ha]
      have : a = 34 := by unfold notQuote at ha; simpa using ha
      subst this
      rfl

/-- A token is what stands at the beginning of what is left. -/
theorem tokS_written {l : List UInt8} {k : Int} {t : List UInt8} {n : Int} {size : Nat} (h : tokS l = .tok k t n size) : l.take size = tokBytes k t := by
  cases l with
  | nil => simp [tokS] at h
  | cons c r =>
    rw [tokS] at h
    split at h
    · split at h
      · cases h
      · injection h with h1 h2 _ h4
        subst h1 h2 h4
        rw [take_length_takeWhile]; rfl
    · split at h
      · split at h
        · cases h
        · injection h with h1 h2 _ h4
          subst h1 h2 h4
          rw [take_length_takeWhile]; rfl
      · split at h
        · rename_i hq
          have hc : c = 34 := by simpa using hq
          subst hc
          unfold quoTok at h
          split at h
          · cases h
          · rename_i hn
            split at h
            · cases h
            · split at h
              · cases h
              · injection h with h1 h2 _ h4
                subst h1 h2 h4
                rw [List.take_succ_cons, quo_next r hn]; rfl
        · unfold symTok at h
          split at h
          · split at h
            · rename_i hr
              injection h with h1 h2 _ h4
              subst h1 h2 h4
              cases r with
              | nil => simp at hr
              | cons a r =>
                simp only [List.head?_cons, Option.some.injEq] at hr
                subst hr; rfl
            · cases h
          · split at h
            · injection h with h1 h2 _ h4
              subst h1 h2 h4
              rfl
            · cases h

/-- The tokens lie in the bytes one after the other, white space between them. -/
def Chain (L : List UInt8) : Nat → List T → Prop
  | p, [] => ∀ c ∈ L.drop p, isWhite c = true
  | p, t :: ts => p ≤ t.off ∧ (∀ c ∈ (L.drop p).take (t.off - p), isWhite c = true) ∧ 0 < (tokBytes t.kind t.text).length ∧ t.off + (tokBytes t.kind t.text).length ≤ L.length
      ∧ (L.drop t.off).take (tokBytes t.kind t.text).length = tokBytes t.kind t.text ∧ Chain L (t.off + (tokBytes t.kind t.text).length) ts

theorem chain_white {L : List UInt8} {p : Nat} {c : UInt8} {r : List UInt8} (h : L.drop p = c :: r) (hc : isWhite c = true) : ∀ (ts : List T), Chain L (p + 1) ts → Chain L p ts := by
  have hr : L.drop (p + 1) = r := by rw [← List.tail_drop, h]; rfl
  intro ts
  cases ts with
  | nil =>
    intro h1 d hd
    rw [h] at hd
    rcases List.mem_cons.1 hd with rfl | hd
    · exact hc
    · exact h1 d (by rw [hr]; exact hd)
  | cons t ts =>
    intro ⟨h1, h2, h3⟩
    refine ⟨by omega, fun d hd => ?_, h3⟩
    rw [h, show t.off - p = (t.off - (p + 1)) + 1 from by omega, List.take_succ_cons] at hd
    rcases List.mem_cons.1 hd with rfl | hd
    · exact hc
    · exact h2 d (by rw [hr]; exact hd)

theorem lex_chain (L : List UInt8) : ∀ (f : Nat) (p : Nat) (ts : List T), L.length - p ≤ f → p ≤ L.length → lex f (L.drop p) p = (ts, none) → Chain L p ts := by
  intro f
  induction f with
  | zero =>
    intro p ts hf hp h
    have h0 : L.drop p = [] := List.drop_eq_nil_iff.2 (by omega)
    rw [lex] at h
    injection h with h1 _
    subst h1
    intro c hc
    rw [h0] at hc; cases hc
  | succ f ih =>
    intro p ts hf hp h
    cases hl : L.drop p with
    | nil =>
      rw [hl, lex] at h
      injection h with h1 _
      subst h1
      intro c hc
      rw [hl] at hc; cases hc
    | cons c r =>
      have hlt : p < L.length := by
        have := congrArg List.length hl
        rw [List.length_drop, List.length_cons] at this; omega
      have hr : L.drop (p + 1) = r := by rw [← List.tail_drop, hl]; rfl
      rw [hl, lex] at h
      by_cases hw : isWhite c = true
      · rw [if_pos hw] at h
        exact chain_white hl hw ts (ih (p + 1) ts (by omega) hlt (by rw [hr]; exact h))
      · rw [if_neg hw] at h
        cases ht : tokS (c :: r) with
        | err e => rw [ht] at h; injection h with _ h; cases h
        | tok k t n size =>
          rw [ht] at h
          have hs := tokS_size ht
          have hwr := tokS_written ht
          have hwl : (tokBytes k t).length = size := by rw [← hwr, List.length_take]; omega
          have hll : p + (c :: r).length = L.length := by rw [← hl, List.length_drop]; omega
          injection h with h1 h2
          subst h1
          have hd : (c :: r).drop size = L.drop (p + size) := by rw [← hl, List.drop_drop]
          refine ⟨Nat.le_refl _, fun d hd => ?_, ?_, ?_, ?_, ?_⟩
          · simp at hd
          · show 0 < (tokBytes k t).length; omega
          · show p + (tokBytes k t).length ≤ L.length; omega
          · show (L.drop p).take (tokBytes k t).length = tokBytes k t
            rw [hwl, hl, hwr]
          · show Chain L (p + (tokBytes k t).length) _
            rw [hwl]
            refine ih (p + size) _ (by omega) (by omega) ?_
            rw [← hd]
            exact Prod.ext rfl h2

theorem lex_err_at : ∀ (f : Nat) (l : List UInt8) (p : Nat) (a : Nat) (e : Int), (lex f l p).2 = some (a, e) → a ≤ p + l.length := by
  intro f
  induction f with
  | zero => intro l p a e h; simp [lex] at h
  | succ f ih =>
    intro l p a e h
    cases l with
    | nil => simp [lex] at h
    | cons c r =>
      rw [lex] at h
      split at h
      · have := ih _ _ _ _ h
        rw [List.length_cons]; omega
      · cases ht : tokS (c :: r) with
        | err e' =>
          rw [ht] at h
          simp only [Option.some.injEq, Prod.mk.injEq] at h
          omega
        | tok k t n size =>
          rw [ht] at h
          have h1 := ih _ _ _ _ h
          have h2 := (tokS_size ht).2
          rw [List.length_drop] at h1
          omega

/-- What the answer says of the source. -/
theorem answer_cases (L : List UInt8) : ((answer L).2.2 ≠ 0 ∧ (answer L).1 = [] ∧ ∃ a : Nat, (answer L).2.1 = (a : Int) ∧ a ≤ L.length) ∨ ((answer L).2 = (0, 0) ∧ L.length ≤ 2000 ∧ Chain L 0 (answer L).1 ∧ lex L.length L 0 = ((answer L).1, none)) := by
  unfold answer
  by_cases h : L.length > 2000
  · rw [if_pos h]
    exact .inl ⟨by decide, rfl, 2000, rfl, by omega⟩
  · rw [if_neg h]
    cases hr : lex L.length L 0 with
    | mk ts o =>
      cases o with
      | none => exact .inr ⟨rfl, by omega, lex_chain L L.length 0 ts (by omega) (Nat.zero_le _) hr, rfl⟩
      | some ae =>
        obtain ⟨a, e⟩ := ae
        have h1 := lex_err L.length L 0 a e (by rw [hr])
        refine .inl ⟨h1, rfl, a, rfl, ?_⟩
        have := lex_err_at L.length L 0 a e (by rw [hr])
        omega

end Go.Proofs.YtecojcpccglelaaDoor.Spec
