/- The reference's lexer says what the plain tokens are, for every string. -/
import Derived.Test.YtecojcpccglelaaDoorLexA
import Derived.Test.YtecojcpccglelaaDoorPAllx6
namespace Go.Proofs.YtecojcpccglelaaDoor.LexB
open Go.RowKit Go.Proofs.YtecojcpccglelaaDoor.PAll Go.Proofs.YtecojcpccglelaaDoorW.PrintWords Go.Proofs.YtecojcpccglelaaDoorW.PrintLast
open Go.Proofs.YtecojcpccglelaaDoor.Spec Go.Proofs.YtecojcpccglelaaDoor.LexA

theorem white_f (c : UInt8) : intervalmonref06_white.f (c.toNat : Int) = some (isWhite c) := by
  have h := all_u8 (fun c => intervalmonref06_white.f (c.toNat : Int) == some (isWhite c)) (by decide +kernel) c
  simpa using h
theorem letter_f (c : UInt8) : intervalmonref06_letter.f (c.toNat : Int) = some (isLetter c) := by
  have h := all_u8 (fun c => intervalmonref06_letter.f (c.toNat : Int) == some (isLetter c)) (by decide +kernel) c
  simpa using h
theorem digit_f (c : UInt8) : intervalmonref06_digit.f (c.toNat : Int) = some (isDigit c) := by
  have h := all_u8 (fun c => intervalmonref06_digit.f (c.toNat : Int) == some (isDigit c)) (by decide +kernel) c
  simpa using h

theorem word_ev (s : ByteArray) (hs : s.size ≤ 140737488351232) : ∀ (l : List UInt8) (p : Nat), s.data.toList.drop p = l → p ≤ s.size → Ev (fun k => intervalmonref06_word.l0 k s (p : Int)) ((p + (l.takeWhile isWordC).length : Nat) : Int) := by
  intro l
  induction l with
  | nil =>
    intro p h hp
    have he := drop_nil h hp
    refine Ev.step (f := fun _ => some (p : Int)) (fun k => ?_) (Ev.now _)
    simp only [intervalmonref06_word.l0]
    rw [if_neg (by omega)]
  | cons c r ih =>
    intro p h hp
    have hlt := drop_lt h
    have hb := bt_drop h
    by_cases hc : isWordC c = true
    · have hi := ih (p + 1) (drop_next h) hlt
      rw [List.takeWhile_cons_of_pos hc, List.length_cons, show p + ((r.takeWhile isWordC).length + 1) = p + 1 + (r.takeWhile isWordC).length from by omega]
      refine Ev.step (fun k => ?_) hi
      simp only [intervalmonref06_word.l0]
      rw [if_pos (by omega), if_pos (by omega), hb, letter_f, Option.bind_some, wrap_next hlt hs]
      by_cases hl : isLetter c = true
      · rw [if_pos hl]
      · rw [if_neg hl, digit_f, Option.bind_some]
        by_cases hd : isDigit c = true
        · rw [if_pos hd]
        · rw [if_neg hd]
          have h95 : c = 95 := by
            unfold isWordC at hc
            simp only [Bool.or_eq_true] at hc
            rcases hc with (h1 | h1) | h1
            · exact (hl h1).elim
            · exact (hd h1).elim
            · simpa using h1
          subst h95
          rw [if_pos (by decide)]
    · rw [List.takeWhile_cons_of_neg hc]
      refine Ev.step (f := fun _ => some (p : Int)) (fun k => ?_) (Ev.now _)
      simp only [intervalmonref06_word.l0]
      unfold isWordC at hc
      simp only [Bool.or_eq_true, not_or] at hc
      rw [if_pos (by omega), if_pos (by omega), hb, letter_f, Option.bind_some, if_neg hc.1.1, digit_f, Option.bind_some, if_neg hc.1.2, if_neg]
      intro h'
      apply hc.2
      have : c = 95 := UInt8.toNat_inj.1 (show c.toNat = 95 by omega)
      rw [this]; rfl

/-! numbers -/
def numR : List UInt8 → Int → Int
  | [], n => n
  | c :: r, n => numR r (if n ≤ 1073741824 then 10 * n + ((c.toNat : Int) - 48) else n)

theorem numR_big : ∀ (l : List UInt8) (n : Int), n > 1073741824 → numR l n = n := by
  intro l
  induction l with
  | nil => intro n _; rfl
  | cons c r ih => intro n hn; unfold numR; rw [if_neg (by omega)]; exact ih n hn

theorem num_numR : ∀ (l : List UInt8) (n : Int), n ≤ 1073741824 → (∀ m, num l n = some m → numR l n = m ∧ m ≤ 1073741824) ∧ (num l n = none → numR l n > 1073741824) := by
  intro l
  induction l with
  | nil => intro n hn; exact ⟨fun m h => (by injection h with h; subst h; exact ⟨rfl, hn⟩), fun h => (by cases h)⟩
  | cons c r ih =>
    intro n hn
    unfold num numR
    rw [if_pos hn]
    by_cases hb : 10 * n + ((c.toNat : Int) - 48) > 1073741824
    · rw [if_pos hb]
      exact ⟨fun m h => (by cases h), fun _ => (by rw [numR_big _ _ hb]; exact hb)⟩
    · rw [if_neg hb]; exact ih _ (by omega)

theorem number_ev (s : ByteArray) (hs : s.size ≤ 140737488351232) : ∀ (l : List UInt8) (p : Nat) (n : Int), s.data.toList.drop p = l → p ≤ s.size → 0 ≤ n → n ≤ 10737418240 + 9 →
    Ev (fun k => intervalmonref06_number.l0 k s (p : Int) n) (((p + (l.takeWhile isDigit).length : Nat) : Int), numR (l.takeWhile isDigit) n) := by
  intro l
  induction l with
  | nil =>
    intro p n h hp _ _
    have he := drop_nil h hp
    refine Ev.step (f := fun k => intervalmonref06_number.j1 k s (p : Int) n false) (fun k => ?_) (Ev.step (f := fun _ => some ((p : Int), n)) (fun k => ?_) (Ev.now _))
    · simp only [intervalmonref06_number.l0]
      rw [if_neg (by omega)]
    · simp only [intervalmonref06_number.j1]
      rw [if_neg (by decide)]
  | cons c r ih =>
    intro p n h hp hn0 hn1
    have hlt := drop_lt h
    have hb := bt_drop h
    refine Ev.step (f := fun k => intervalmonref06_number.j1 k s (p : Int) n (isDigit c)) (fun k => ?_) ?_
    · simp only [intervalmonref06_number.l0]
      rw [if_pos (by omega), if_pos (by omega), hb, digit_f, Option.bind_some]
    · by_cases hc : isDigit c = true
      · have hcr : 48 ≤ c.toNat ∧ c.toNat ≤ 57 := by unfold isDigit at hc; simpa using hc
        rw [List.takeWhile_cons_of_pos hc, List.length_cons, show p + ((r.takeWhile isDigit).length + 1) = p + 1 + (r.takeWhile isDigit).length from by omega]
        unfold numR
        rw [hc]
        by_cases hm : n ≤ 1073741824
        · rw [if_pos hm]
          have hi := ih (p + 1) (10 * n + ((c.toNat : Int) - 48)) (drop_next h) hlt (by omega) (by omega)
          refine Ev.step (fun k => ?_) hi
          simp only [intervalmonref06_number.j1, if_true]
          rw [if_pos hm, if_pos (by omega), if_pos (by omega), hb, wrap_next hlt hs]
          have : wrap64 (wrap64 (10 * n) + ((c.toNat : Int) - 48) % 256) = 10 * n + ((c.toNat : Int) - 48) := by unfold wrap64; omega
          rw [this]
        · rw [if_neg hm]
          have hi := ih (p + 1) n (drop_next h) hlt hn0 hn1
          refine Ev.step (fun k => ?_) hi
          simp only [intervalmonref06_number.j1, if_true]
          rw [if_neg hm, wrap_next hlt hs]
      · have hc' : isDigit c = false := by simpa using hc
        rw [List.takeWhile_cons_of_neg hc, hc']
        refine Ev.step (f := fun _ => some ((p : Int), n)) (fun k => ?_) (Ev.now _)
        simp only [intervalmonref06_number.j1]
        rw [if_neg (by decide)]

/-! strings -/
theorem value_ev (c : UInt8) : Ev (fun k => intervalmonref05_Value.f k ⟨#[c]⟩) (isVal c) := by
  have hb : bt ⟨#[c]⟩ 0 = (c.toNat : Int) := bt_drop (s := ⟨#[c]⟩) (p := 0) rfl
  have hz : ((⟨#[c]⟩ : ByteArray).size : Int) = 1 := rfl
  have hx := all_u8 (fun c => (if (c.toNat : Int) < 33 then some false else if (c.toNat : Int) > 126 then some false else if (c.toNat : Int) = 34 then some false else if (c.toNat : Int) = 92 then some false else if (c.toNat : Int) = 44 then some false else if (c.toNat : Int) = 123 then some false else if (c.toNat : Int) = 125 then some false else some true) == some (isVal c)) (by decide +kernel) c
  have hx' := beq_iff_eq.1 hx
  refine Ev.congr (f := fun k => intervalmonref05_Value.l0 k ⟨#[c]⟩ 0) (fun k => ?_) (Ev.step (f := fun k => if (c.toNat : Int) < 33 then some false else if (c.toNat : Int) > 126 then some false else if (c.toNat : Int) = 34 then some false else if (c.toNat : Int) = 92 then some false else if (c.toNat : Int) = 44 then some false else if (c.toNat : Int) = 123 then some false else if (c.toNat : Int) = 125 then some false else intervalmonref05_Value.l0 k ⟨#[c]⟩ 1) (fun k => ?_) ?_)
  · unfold intervalmonref05_Value.f
    rw [hz, if_neg (by decide)]
  · simp only [intervalmonref05_Value.l0]
    rw [hz, if_pos (show (0 : Int) < 1 by decide), if_pos (show (0 : Int) ≤ 0 by decide), hb, show wrap64 (0 + 1) = 1 from by unfold wrap64; omega]
  · refine ⟨1, fun k hk => ?_⟩
    obtain ⟨m, rfl⟩ : ∃ m, k = m + 1 := ⟨k - 1, by omega⟩
    have h1 : intervalmonref05_Value.l0 (m + 1) ⟨#[c]⟩ 1 = some true := by
      simp only [intervalmonref05_Value.l0]
      rw [hz, if_neg (by decide)]
    dsimp only
    rw [h1]; exact hx'

theorem quo_l1 (s : ByteArray) (hs : s.size ≤ 140737488351232) : ∀ (l : List UInt8) (p : Nat), s.data.toList.drop p = l → p ≤ s.size →
    Ev (fun k => intervalmonref06_quoted.l1 k s (p : Int)) (if l.all isVal = false then (⟨#[]⟩, 2) else if s.size > 16 then (⟨#[]⟩, 4) else (s, 0)) := by
  intro l
  induction l with
  | nil =>
    intro p h hp
    have he := drop_nil h hp
    rw [List.all_nil, if_neg (show ¬ (true = false) by decide)]
    refine Ev.step (f := fun _ => some (if s.size > 16 then (⟨#[]⟩, 4) else (s, 0))) (fun k => ?_) (Ev.now _)
    simp only [intervalmonref06_quoted.l1]
    rw [if_neg (by omega)]
    by_cases h16 : s.size > 16
    · rw [if_pos (by omega), if_pos h16]
    · rw [if_neg (by omega), if_neg h16]
  | cons c r ih =>
    intro p h hp
    have hlt := drop_lt h
    have hx : s.extract (p : Int).toNat (((p + 1 : Nat) : Int)).toNat = ⟨#[c]⟩ := by
      rw [extract_mk, Int.toNat_natCast, Int.toNat_natCast, h, show p + 1 - p = 1 from by omega]; rfl
    refine Ev.step (f := fun k => (intervalmonref05_Value.f k ⟨#[c]⟩).bind fun t => if t = true then intervalmonref06_quoted.l1 k s ((p + 1 : Nat) : Int) else some (⟨#[]⟩, 2)) (fun k => ?_) (Ev.bind (value_ev c) ?_)
    · simp only [intervalmonref06_quoted.l1]
      rw [if_pos (by omega), if_pos (by omega), wrap_next hlt hs, if_pos (by omega), if_pos (by omega), hx]
    · by_cases hv : isVal c = true
      · rw [List.all_cons, hv, Bool.true_and]
        exact Ev.congr (fun k => if_pos rfl) (ih (p + 1) (drop_next h) hlt)
      · have hv' : isVal c = false := by simpa using hv
        rw [List.all_cons, hv', Bool.false_and, if_pos rfl]
        exact Ev.congr (fun k => if_neg (by decide)) (Ev.now _)

/-- What the reference's function gives of a string in quotes. -/
def encQ : TokR → ByteArray × Int
  | .err e => (⟨#[]⟩, e)
  | .tok _ t _ _ => (⟨t.toArray⟩, 0)

theorem quo_l0 {r : ByteArray × Int} (s : ByteArray) (hs : s.size ≤ 140737488351232) (p0 : Nat) : ∀ (l : List UInt8) (p : Nat), s.data.toList.drop p = l → p ≤ s.size →
    Ev (fun k => intervalmonref06_quoted.j1 k s (p0 : Int) ((p + (l.takeWhile notQuote).length : Nat) : Int)) r → Ev (fun k => intervalmonref06_quoted.l0 k s (p0 : Int) (p : Int)) r := by
  intro l
  induction l with
  | nil =>
    intro p h hp hj
    have he := drop_nil h hp
    refine Ev.step (fun k => ?_) hj
    simp only [intervalmonref06_quoted.l0]
    rw [if_neg (by omega)]; rfl
  | cons c r' ih =>
    intro p h hp hj
    have hlt := drop_lt h
    have hb := bt_drop h
    by_cases hc : c = 34
    · subst hc
      rw [List.takeWhile_cons_of_neg (by decide)] at hj
      refine Ev.step (fun k => ?_) hj
      simp only [intervalmonref06_quoted.l0]
      rw [if_pos (by omega), if_pos (by omega), hb, if_pos (by decide)]; rfl
    · have hq : notQuote c = true := by unfold notQuote; simpa using hc
      rw [List.takeWhile_cons_of_pos hq, List.length_cons, show p + ((r'.takeWhile notQuote).length + 1) = p + 1 + (r'.takeWhile notQuote).length from by omega] at hj
      refine Ev.step (fun k => ?_) (ih (p + 1) (drop_next h) hlt hj)
      simp only [intervalmonref06_quoted.l0]
      rw [if_pos (by omega), if_pos (by omega), hb, if_neg (fun h' => hc (UInt8.toNat_inj.1 (show c.toNat = 34 by omega))), wrap_next hlt hs]

theorem quo_ev (s : ByteArray) (hs : s.size ≤ 140737488351232) (p : Nat) (r : List UInt8) (h : s.data.toList.drop p = 34 :: r) : Ev (fun k => intervalmonref06_quoted.f k s (p : Int)) (encQ (quoTok r)) := by
  have hlt := drop_lt h
  have hr := drop_next h
  have hlr := drop_len hr hlt
  refine Ev.congr (f := fun k => intervalmonref06_quoted.l0 k s (p : Int) ((p + 1 : Nat) : Int)) (fun k => ?_) (quo_l0 s hs p r (p + 1) hr hlt ?_)
  · unfold intervalmonref06_quoted.f; rw [wrap_next hlt hs]
  · have hle := takeWhile_length_le notQuote r
    unfold quoTok
    by_cases he : (r.takeWhile notQuote).length = r.length
    · rw [if_pos he]
      refine Ev.step (f := fun _ => some (⟨#[]⟩, 2)) (fun k => ?_) (Ev.now _)
      simp only [intervalmonref06_quoted.j1]
      rw [if_pos (by omega)]
    · rw [if_neg he]
      have hx : s.extract (((p + 1 : Nat) : Int)).toNat (((p + 1 + (r.takeWhile notQuote).length : Nat) : Int)).toNat = ⟨(r.takeWhile notQuote).toArray⟩ := by
        rw [extract_mk, Int.toNat_natCast, Int.toNat_natCast, hr, show p + 1 + (r.takeWhile notQuote).length - (p + 1) = (r.takeWhile notQuote).length from by omega, take_takeWhile]
      have e1 : (⟨(r.takeWhile notQuote).toArray⟩ : ByteArray).data.toList = r.takeWhile notQuote := by simp
      have e2 : (⟨(r.takeWhile notQuote).toArray⟩ : ByteArray).size = (r.takeWhile notQuote).length := by simp [ByteArray.size]
      have h1 := quo_l1 ⟨(r.takeWhile notQuote).toArray⟩ (by rw [e2]; omega) _ 0 rfl (Nat.zero_le _)
      rw [List.drop_zero, e1, e2] at h1
      have e3 : (if (r.takeWhile notQuote).all isVal = false then ((⟨#[]⟩ : ByteArray), (2 : Int)) else if (r.takeWhile notQuote).length > 16 then (⟨#[]⟩, 4) else (⟨(r.takeWhile notQuote).toArray⟩, 0)) = encQ (if (r.takeWhile notQuote).all isVal = false then .err 2 else if (r.takeWhile notQuote).length > 16 then .err 4 else .tok 2 (r.takeWhile notQuote) 0 ((r.takeWhile notQuote).length + 2)) := by
        split
        · rfl
        · split
          · rfl
          · rfl
      rw [← e3]
      refine Ev.step (fun k => ?_) h1
      simp only [intervalmonref06_quoted.j1]
      rw [if_neg (by omega), wrap_next hlt hs, if_pos (by omega), if_pos (by omega), if_pos (by omega), hx]; rfl

/-! symbols -/
def symL : List ByteArray := [(⟨#[43]⟩ : ByteArray), (⟨#[45]⟩ : ByteArray), (⟨#[42]⟩ : ByteArray), (⟨#[47]⟩ : ByteArray), (⟨#[40]⟩ : ByteArray), (⟨#[41]⟩ : ByteArray), (⟨#[123]⟩ : ByteArray), (⟨#[125]⟩ : ByteArray), (⟨#[44]⟩ : ByteArray), (⟨#[46]⟩ : ByteArray), (⟨#[64]⟩ : ByteArray), (⟨#[61]⟩ : ByteArray)]

theorem one_list (c : UInt8) : (⟨#[c]⟩ : ByteArray).toList = [c] := by rw [Lib.toList_data]
theorem ba_ext {a b : ByteArray} (h : a.data.toList = b.data.toList) : a = b := by
  obtain ⟨⟨l⟩⟩ := a
  obtain ⟨⟨m⟩⟩ := b
  have : l = m := h
  rw [this]
theorem symL_at (i : Nat) (hi : i < 12) : rdOf ByteArray.empty symL (i : Int) = ⟨#[syms.getD i 0]⟩ := by
  have h : ((List.range 12).all fun i : Nat => decide ((rdOf ByteArray.empty symL (i : Int)).data.toList = [syms.getD i 0])) = true := by decide +kernel
  exact ba_ext (of_decide_eq_true (List.all_eq_true.1 h i (List.mem_range.2 hi)))

theorem sym_l0 (c : UInt8) : ∀ (d i : Nat), 12 - i = d → i ≤ 12 → Ev (fun k => intervalmonref06_symbol.l0 k ⟨#[c]⟩ symL (i : Int)) (if c ∈ syms.drop i then ⟨#[c]⟩ else ⟨#[]⟩) := by
  intro d
  induction d with
  | zero =>
    intro i hd hi
    obtain rfl : i = 12 := by omega
    refine Ev.step (f := fun _ => some ⟨#[]⟩) (fun k => ?_) (Ev.now _)
    simp only [intervalmonref06_symbol.l0]
    rw [if_neg (by decide)]
  | succ d ih =>
    intro i hd hi
    have hlt : i < 12 := by omega
    have hl : (symL.length : Int) = 12 := rfl
    have hdr : syms.drop i = syms.getD i 0 :: syms.drop (i + 1) := by
      have h : ((List.range 12).all fun i : Nat => decide (syms.drop i = syms.getD i 0 :: syms.drop (i + 1))) = true := by decide +kernel
      exact of_decide_eq_true (List.all_eq_true.1 h i (List.mem_range.2 hlt))
    rw [hdr]
    by_cases hc : syms.getD i 0 = c
    · rw [hc, if_pos List.mem_cons_self]
      refine Ev.step (f := fun _ => some ⟨#[c]⟩) (fun k => ?_) (Ev.now _)
      simp only [intervalmonref06_symbol.l0]
      rw [if_pos (by omega), if_pos (by omega), symL_at i hlt, hc, if_pos rfl]
    · have hi2 := ih (i + 1) (by omega) (by omega)
      have hm : (c ∈ syms.getD i 0 :: syms.drop (i + 1)) ↔ c ∈ syms.drop (i + 1) := by
        rw [List.mem_cons]
        constructor
        · rintro (h | h)
          · exact (hc h.symm).elim
          · exact h
        · exact .inr
      simp only [hm]
      refine Ev.step (fun k => ?_) hi2
      simp only [intervalmonref06_symbol.l0]
      rw [if_pos (by omega), if_pos (by omega), symL_at i hlt, one_list, one_list, if_neg (by simpa using hc), wrap_next (n := 12) hlt (by decide)]

/-- What the reference's function gives of a symbol. -/
def encY : TokR → ByteArray
  | .err _ => ⟨#[]⟩
  | .tok _ t _ _ => ⟨t.toArray⟩

theorem symbol_ev (s : ByteArray) (hs : s.size ≤ 140737488351232) (p : Nat) (c : UInt8) (r : List UInt8) (h : s.data.toList.drop p = c :: r) : Ev (fun k => intervalmonref06_symbol.f k s (p : Int)) (encY (symTok c r)) := by
  have hlt := drop_lt h
  have hr := drop_next h
  have hlr := drop_len hr hlt
  have hx : s.extract (p : Int).toNat (((p + 1 : Nat) : Int)).toNat = ⟨#[c]⟩ := by
    rw [extract_mk, Int.toNat_natCast, Int.toNat_natCast, h, show p + 1 - p = 1 from by omega]; rfl
  have hno : Ev (fun k => intervalmonref06_symbol.j0 k s (p : Int) ⟨#[c]⟩ false) (if c ∈ syms then ⟨#[c]⟩ else ⟨#[]⟩) := by
    have h0 := sym_l0 c 12 0 rfl (by decide)
    refine Ev.step (fun k => ?_) h0
    simp only [intervalmonref06_symbol.j0]
    rw [if_neg (by decide)]; rfl
  have key : Ev (fun k => if ((c :: []) : List UInt8) = [33] ∨ ((c :: []) : List UInt8) = [94] then (if ((p + 1 : Nat) : Int) < (s.size : Int) then intervalmonref06_symbol.j0 k s (p : Int) ⟨#[c]⟩ ((bt s ((p + 1 : Nat) : Int)) == 61) else intervalmonref06_symbol.j0 k s (p : Int) ⟨#[c]⟩ false) else intervalmonref06_symbol.j0 k s (p : Int) ⟨#[c]⟩ false) (encY (symTok c r)) := by
    unfold symTok
    by_cases hc : (c == 33 || c == 94) = true
    · have hc' : ((c :: []) : List UInt8) = [33] ∨ ((c :: []) : List UInt8) = [94] := by simpa using hc
      have hns : c ∉ syms := by
        have h2 := all_u8 (fun c => !(c == 33 || c == 94) || !decide (c ∈ syms)) (by decide +kernel) c
        rw [hc] at h2
        simpa using h2
      rw [if_neg hns] at hno
      rw [if_pos hc]
      refine Ev.congr (fun k => if_pos hc') ?_
      cases r with
      | nil =>
        have : ¬ ((p + 1 : Nat) : Int) < (s.size : Int) := by simp at hlr; omega
        exact Ev.congr (fun k => if_neg this) hno
      | cons a r =>
        have hlt2 : ((p + 1 : Nat) : Int) < (s.size : Int) := by simp at hlr; omega
        have hb := bt_drop hr
        refine Ev.congr (fun k => if_pos hlt2) ?_
        rw [hb]
        by_cases ha : a = 61
        · subst ha
          have hx2 : s.extract (p : Int).toNat (wrap64 ((p : Int) + 2)).toNat = ⟨#[c, 61]⟩ := by
            have : wrap64 ((p : Int) + 2) = ((p + 2 : Nat) : Int) := by unfold wrap64; omega
            rw [extract_mk, this, Int.toNat_natCast, Int.toNat_natCast, h, show p + 2 - p = 2 from by omega]; rfl
          have hw : wrap64 ((p : Int) + 2) = (p : Int) + 2 := by unfold wrap64; omega
          have e61 : ((((61 : UInt8).toNat : Nat) : Int) == 61) = true := by decide
          rw [e61]
          refine Ev.step (f := fun _ => some ⟨#[c, 61]⟩) (fun k => ?_) (Ev.now _)
          simp only [intervalmonref06_symbol.j0, if_true]
          rw [if_pos (by omega), if_pos (by rw [hw]; omega), if_pos (by rw [hw]; omega), hx2]
        · have e61 : (((a.toNat : Nat) : Int) == 61) = false := by
            rw [beq_eq_false_iff_ne]
            intro h'
            exact ha (UInt8.toNat_inj.1 (show a.toNat = 61 by omega))
          rw [e61, if_neg (by simpa using ha)]
          exact hno
    · have hc' : ¬ (((c :: []) : List UInt8) = [33] ∨ ((c :: []) : List UInt8) = [94]) := by simpa using hc
      rw [if_neg hc]
      refine Ev.congr (fun k => if_neg hc') ?_
      have e : encY (if c ∈ syms then .tok 3 [c] 0 1 else .err 2) = (if c ∈ syms then ⟨#[c]⟩ else ⟨#[]⟩) := by split <;> rfl
      rw [e]; exact hno
  refine Ev.congr (fun k => ?_) key
  unfold intervalmonref06_symbol.f
  rw [if_pos (by omega), wrap_next hlt hs, if_pos (by omega), if_pos (by omega), hx, one_list]
  by_cases h33 : ((c :: []) : List UInt8) = [33]
  · rw [if_pos h33, if_pos (Or.inl h33)]
    by_cases hl : ((p + 1 : Nat) : Int) < (s.size : Int)
    · rw [if_pos hl, if_pos hl, if_pos (by omega)]
    · rw [if_neg hl, if_neg hl]
  · rw [if_neg h33]
    by_cases h94 : ((c :: []) : List UInt8) = [94]
    · rw [if_pos h94, if_pos (Or.inr h94)]
      by_cases hl : ((p + 1 : Nat) : Int) < (s.size : Int)
      · rw [if_pos hl, if_pos hl, if_pos (by omega)]
      · rw [if_neg hl, if_neg hl]
    · rw [if_neg h94, if_neg (by rintro (h' | h'); exact h33 h'; exact h94 h')]

end Go.Proofs.YtecojcpccglelaaDoor.LexB
