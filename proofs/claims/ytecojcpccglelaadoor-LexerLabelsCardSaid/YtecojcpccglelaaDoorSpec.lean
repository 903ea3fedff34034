/- What the tokens of a source are, in plain Lean: lists of bytes, no program. -/
import Derived.Lib.Bytealg
namespace Go.Proofs.YtecojcpccglelaaDoor.Spec

def isWhite (c : UInt8) : Bool := c == 9 || c == 10 || c == 13 || c == 32
def isLetter (c : UInt8) : Bool := 97 ≤ c.toNat && c.toNat ≤ 122
def isDigit (c : UInt8) : Bool := 48 ≤ c.toNat && c.toNat ≤ 57
def isWordC (c : UInt8) : Bool := isLetter c || isDigit c || c == 95
def isVal (c : UInt8) : Bool := 33 ≤ c.toNat && c.toNat ≤ 126 && !(c == 34) && !(c == 92) && !(c == 44) && !(c == 123) && !(c == 125)
def syms : List UInt8 := [43, 45, 42, 47, 40, 41, 123, 125, 44, 46, 64, 61]
def notQuote (c : UInt8) : Bool := !(c == 34)

/-- The value of digits; none: beyond 2^30. -/
def num : List UInt8 → Int → Option Int
  | [], n => some n
  | c :: l, n => if 10 * n + ((c.toNat : Int) - 48) > 1073741824 then none else num l (10 * n + ((c.toNat : Int) - 48))

/-- A token: kind, text, number, size; or an error. -/
inductive TokR where
  | err (e : Int)
  | tok (kind : Int) (text : List UInt8) (n : Int) (size : Nat)

def symTok (c : UInt8) (r : List UInt8) : TokR :=
  if c == 33 || c == 94 then (if r.head? = some 61 then .tok 3 [c, 61] 0 2 else .err 2)
  else if c ∈ syms then .tok 3 [c] 0 1 else .err 2

def quoTok (r : List UInt8) : TokR :=
  if (r.takeWhile notQuote).length = r.length then .err 2
  else if (r.takeWhile notQuote).all isVal = false then .err 2
  else if (r.takeWhile notQuote).length > 16 then .err 4
  else .tok 2 (r.takeWhile notQuote) 0 ((r.takeWhile notQuote).length + 2)

def tokS : List UInt8 → TokR
  | [] => .err 2
  | c :: r =>
    if isLetter c then
      if ((c :: r).takeWhile isWordC).length > 16 then .err 4 else .tok 0 ((c :: r).takeWhile isWordC) 0 ((c :: r).takeWhile isWordC).length
    else if isDigit c then
      match num ((c :: r).takeWhile isDigit) 0 with
      | none => .err 5
      | some n => .tok 1 ((c :: r).takeWhile isDigit) n ((c :: r).takeWhile isDigit).length
    else if c == 34 then quoTok r
    else symTok c r

structure T where
  kind : Int
  text : List UInt8
  n : Int
  off : Nat

/-- The tokens of what is left (l), which begins at offset p; and the first error's offset and error. -/
def lex : Nat → List UInt8 → Nat → List T × Option (Nat × Int)
  | 0, _, _ => ([], none)
  | f + 1, l, p =>
    match l with
    | [] => ([], none)
    | c :: r =>
      if isWhite c then lex f r (p + 1)
      else match tokS (c :: r) with
        | .err e => ([], some (p, e))
        | .tok k t n size => (⟨k, t, n, p⟩ :: (lex f ((c :: r).drop size) (p + size)).1, (lex f ((c :: r).drop size) (p + size)).2)

theorem takeWhile_length_le {α : Type} (p : α → Bool) (l : List α) : (l.takeWhile p).length ≤ l.length := (List.takeWhile_sublist p).length_le

/-- A token lies in what is left. -/
theorem tokS_size {l : List UInt8} {k : Int} {t : List UInt8} {n : Int} {size : Nat} (h : tokS l = .tok k t n size) : 1 ≤ size ∧ size ≤ l.length := by
  cases l with
  | nil => simp [tokS] at h
  | cons c r =>
    rw [tokS] at h
    split at h
    · rename_i hl
      have h1 : 1 ≤ ((c :: r).takeWhile isWordC).length := by rw [List.takeWhile_cons_of_pos (by unfold isWordC; rw [hl]; rfl)]; simp
      have h2 := takeWhile_length_le isWordC (c :: r)
      split at h
      · cases h
      · injection h with _ _ _ h; omega
    · split at h
      · rename_i hd
        have h1 : 1 ≤ ((c :: r).takeWhile isDigit).length := by rw [List.takeWhile_cons_of_pos hd]; simp
        have h2 := takeWhile_length_le isDigit (c :: r)
        split at h
        · cases h
        · injection h with _ _ _ h; omega
      · split at h
        · unfold quoTok at h
          have h2 := takeWhile_length_le notQuote r
          split at h
          · cases h
          · split at h
            · cases h
            · split at h
              · cases h
              · injection h with _ _ _ h
                simp only [List.length_cons]; omega
        · unfold symTok at h
          split at h
          · split at h
            · rename_i hr
              injection h with _ _ _ h
              cases r with
              | nil => simp at hr
              | cons a r => simp only [List.length_cons]; omega
            · cases h
          · split at h
            · injection h with _ _ _ h
              simp only [List.length_cons]; omega
            · cases h

/-- Enough fuel is enough. -/
theorem lex_fuel : ∀ (f : Nat) (l : List UInt8) (p : Nat) (f' : Nat), l.length ≤ f → l.length ≤ f' → lex f l p = lex f' l p := by
  intro f
  induction f with
  | zero =>
    intro l p f' h h'
    cases l with
    | nil => cases f' <;> rfl
    | cons c r => simp at h
  | succ f ih =>
    intro l p f' h h'
    cases l with
    | nil => cases f' <;> rfl
    | cons c r =>
      cases f' with
      | zero => simp at h'
      | succ f' =>
        simp only [List.length_cons] at h h'
        unfold lex
        dsimp only
        split
        · exact ih _ _ _ (by omega) (by omega)
        · cases ht : tokS (c :: r) with
          | err e => rfl
          | tok k t n size =>
            have hs := tokS_size ht
            simp only [List.length_cons] at hs
            have hd : ((c :: r).drop size).length ≤ f ∧ ((c :: r).drop size).length ≤ f' := by
              rw [List.length_drop, List.length_cons]; omega
            dsimp only
            rw [ih _ (p + size) f' hd.1 hd.2]

end Go.Proofs.YtecojcpccglelaaDoor.Spec
