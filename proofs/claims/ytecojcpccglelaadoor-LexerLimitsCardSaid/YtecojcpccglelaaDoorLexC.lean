/- The reference's Tokens says what the plain tokens are, for every string; so the program agrees with it. -/
import Derived.Test.YtecojcpccglelaaDoorLexB
namespace Go.Proofs.YtecojcpccglelaaDoor.LexB
open Go.RowKit Go.Proofs.YtecojcpccglelaaDoor.PAll Go.Proofs.YtecojcpccglelaaDoorW.PrintWords Go.Proofs.YtecojcpccglelaaDoorW.PrintLast
open Go.Proofs.YtecojcpccglelaaDoor.Spec Go.Proofs.YtecojcpccglelaaDoor.LexA

def toR (t : T) : S77 := ⟨t.kind, ⟨t.text.toArray⟩, t.n, t.off⟩

/-- What the loop gives: tokens so far, and what is to come. -/
def outB (out : List S77) (r : List T × Option (Nat × Int)) : List S77 × Int × Int :=
  match r.2 with | none => (out ++ r.1.map toR, 0, 0) | some (a, e) => ([], (a : Int), e)

theorem outB_cons (out : List S77) (t : T) (r : List T × Option (Nat × Int)) : outB out (t :: r.1, r.2) = outB (out ++ [toR t]) r := by
  unfold outB
  cases r.2 with
  | none => simp
  | some ae => rfl

section
variable {s : ByteArray} {p : Nat} {c : UInt8} {r : List UInt8} (hl : s.data.toList.drop p = c :: r) (hw : isWhite c = false) (out : List S77)
include hl hw

theorem at_letter (h : isLetter c = true) (k : Nat) : intervalmonref06_Tokens.l0 (k + 1) s out (p : Int) = ((intervalmonref06_word.f k s (p : Int)).bind fun t => if (p : Int) ≤ t then (if t ≤ (s.size : Int) then (if wrap64 (t - (p : Int)) > 16 then some (([] : List S77), (p : Int), 4) else if out.length < 3518437208883 then intervalmonref06_Tokens.l0 k s (out ++ [(⟨0, s.extract (p : Int).toNat (t : Int).toNat, 0, (p : Int)⟩ : S77)]) t else none) else none) else none) := by
  have hlt := drop_lt hl
  have hb := bt_drop hl
  rw [intervalmonref06_Tokens.l0, if_pos (by omega), if_pos (by omega), hb, white_f, Option.bind_some, if_neg (by rw [hw]; decide), letter_f, Option.bind_some, if_pos h]
  simp only [show ((4 : Nat) = 0) = False from by simp, if_false, if_true]

theorem at_digit (h : isLetter c = false) (h' : isDigit c = true) (k : Nat) : intervalmonref06_Tokens.l0 (k + 1) s out (p : Int) = ((intervalmonref06_number.f k s (p : Int)).bind fun t => if (p : Int) ≤ t.1 then (if t.1 ≤ (s.size : Int) then (if t.2 > 1073741824 then some (([] : List S77), (p : Int), 5) else if out.length < 3518437208883 then intervalmonref06_Tokens.l0 k s (out ++ [(⟨1, s.extract (p : Int).toNat (t.1 : Int).toNat, t.2, (p : Int)⟩ : S77)]) t.1 else none) else none) else none) := by
  have hlt := drop_lt hl
  have hb := bt_drop hl
  rw [intervalmonref06_Tokens.l0, if_pos (by omega), if_pos (by omega), hb, white_f, Option.bind_some, if_neg (by rw [hw]; decide), letter_f, Option.bind_some, if_neg (by rw [h]; decide), digit_f, Option.bind_some, if_pos h']
  simp only [show ((5 : Nat) = 0) = False from by simp, if_false, if_true]

theorem at_quote (h : isLetter c = false) (h' : isDigit c = false) (hc : c = 34) (k : Nat) : intervalmonref06_Tokens.l0 (k + 1) s out (p : Int) = ((intervalmonref06_quoted.f k s (p : Int)).bind fun t => if t.2 = 0 then (if out.length < 3518437208883 then intervalmonref06_Tokens.l0 k s (out ++ [(⟨2, t.1, 0, (p : Int)⟩ : S77)]) (wrap64 (wrap64 ((p : Int) + (t.1.size : Int)) + 2)) else none) else some (([] : List S77), (p : Int), t.2)) := by
  have hlt := drop_lt hl
  have hb := bt_drop hl
  rw [intervalmonref06_Tokens.l0, if_pos (by omega), if_pos (by omega), hb, white_f, Option.bind_some, if_neg (by rw [hw]; decide), letter_f, Option.bind_some, if_neg (by rw [h]; decide), digit_f, Option.bind_some, if_neg (by rw [h']; decide), if_pos (by rw [hc]; decide)]

theorem at_symbol (h : isLetter c = false) (h' : isDigit c = false) (hc : c ≠ 34) (k : Nat) : intervalmonref06_Tokens.l0 (k + 1) s out (p : Int) = ((intervalmonref06_symbol.f k s (p : Int)).bind fun t => if t.toList = ([] : List UInt8) then some (([] : List S77), (p : Int), 2) else (if out.length < 3518437208883 then intervalmonref06_Tokens.l0 k s (out ++ [(⟨3, t, 0, (p : Int)⟩ : S77)]) (wrap64 ((p : Int) + (t.size : Int))) else none)) := by
  have hlt := drop_lt hl
  have hb := bt_drop hl
  have hb34 : ¬ ((c.toNat : Int) = 34) := fun h' => hc (UInt8.toNat_inj.1 (show c.toNat = 34 by omega))
  rw [intervalmonref06_Tokens.l0, if_pos (by omega), if_pos (by omega), hb, white_f, Option.bind_some, if_neg (by rw [hw]; decide), letter_f, Option.bind_some, if_neg (by rw [h]; decide), digit_f, Option.bind_some, if_neg (by rw [h']; decide), if_neg hb34]
  simp only [show ((2 : Nat) = 0) = False from by simp, if_false, if_true]

theorem text_at (n : Nat) (q : UInt8 → Bool) (hn : n = ((c :: r).takeWhile q).length) : s.extract (p : Int).toNat ((p + n : Nat) : Int).toNat = ⟨((c :: r).takeWhile q).toArray⟩ := by
  have _ := hw
  rw [extract_mk, Int.toNat_natCast, Int.toNat_natCast, hl, show p + n - p = n from by omega, hn, take_takeWhile]

theorem step_ev (hs : s.size ≤ 2000) (hout : out.length ≤ p) :
    (∀ e, tokS (c :: r) = .err e → Ev (fun k => intervalmonref06_Tokens.l0 k s out (p : Int)) ([], (p : Int), e)) ∧
    (∀ k t n size R, tokS (c :: r) = .tok k t n size → Ev (fun m => intervalmonref06_Tokens.l0 m s (out ++ [⟨k, ⟨t.toArray⟩, n, (p : Int)⟩]) ((p + size : Nat) : Int)) R → Ev (fun k => intervalmonref06_Tokens.l0 k s out (p : Int)) R) := by
  have hs' : s.size ≤ 140737488351232 := by omega
  have hlt := drop_lt hl
  have hlr := drop_len (drop_next hl) hlt
  have hlen : out.length < 3518437208883 := by omega
  have hww := takeWhile_length_le isWordC (c :: r)
  have hwd := takeWhile_length_le isDigit (c :: r)
  simp only [List.length_cons] at hww hwd
  rw [tokS]
  by_cases h1 : isLetter c = true
  · rw [if_pos h1]
    have hx := text_at hl hw _ isWordC rfl
    have hwe := word_ev s hs' (c :: r) p hl (by omega)
    have hwr : wrap64 (((p + ((c :: r).takeWhile isWordC).length : Nat) : Int) - (p : Int)) = (((c :: r).takeWhile isWordC).length : Int) := by unfold wrap64; omega
    by_cases h16 : ((c :: r).takeWhile isWordC).length > 16
    · rw [if_pos h16]
      refine ⟨fun e he => ?_, fun k t n size R he _ => (by cases he)⟩
      injection he with he
      subst he
      refine Ev.step (at_letter hl hw out h1) (Ev.bind hwe (Ev.congr (f := fun _ => some ([], (p : Int), 4)) (fun k => ?_) (Ev.now _)))
      rw [if_pos (by omega), if_pos (by omega), hwr, if_pos (by omega)]
    · rw [if_neg h16]
      refine ⟨fun e he => (by cases he), fun k t n size R he hR => ?_⟩
      injection he with a1 a2 a3 a4
      subst a1; subst a2; subst a3; subst a4
      refine Ev.step (at_letter hl hw out h1) (Ev.bind hwe (Ev.congr (fun k => ?_) hR))
      rw [if_pos (by omega), if_pos (by omega), hwr, if_neg (by omega), if_pos hlen, hx]
  · have h1' : isLetter c = false := by simpa using h1
    rw [if_neg h1]
    by_cases h2 : isDigit c = true
    · rw [if_pos h2]
      have hx := text_at hl hw _ isDigit rfl
      have hne := number_ev s hs' (c :: r) p 0 hl (by omega) (by omega) (by omega)
      have hnn := num_numR ((c :: r).takeWhile isDigit) 0 (by omega)
      cases hnu : num ((c :: r).takeWhile isDigit) 0 with
      | none =>
        have hbig := hnn.2 hnu
        refine ⟨fun e he => ?_, fun k t n size R he _ => (by cases he)⟩
        injection he with he
        subst he
        refine Ev.step (at_digit hl hw out h1' h2) (Ev.bind hne (Ev.congr (f := fun _ => some ([], (p : Int), 5)) (fun k => ?_) (Ev.now _)))
        rw [if_pos (by omega), if_pos (by omega), if_pos hbig]
      | some m =>
        obtain ⟨hm1, hm2⟩ := hnn.1 m hnu
        refine ⟨fun e he => (by cases he), fun k t n size R he hR => ?_⟩
        injection he with a1 a2 a3 a4
        subst a1; subst a2; subst a3; subst a4
        refine Ev.step (at_digit hl hw out h1' h2) (Ev.bind hne (Ev.congr (fun k => ?_) hR))
        rw [if_pos (by omega), if_pos (by omega), hm1, if_neg (by omega), if_pos hlen, hx]
    · have h2' : isDigit c = false := by simpa using h2
      rw [if_neg h2]
      by_cases hq : (c == 34) = true
      · rw [if_pos hq]
        have hc34 : c = 34 := by simpa using hq
        have hqe := quo_ev s hs' p r (by rw [hl, hc34])
        refine ⟨fun e he => ?_, fun k t n size R he hR => ?_⟩
        · rw [he] at hqe
          have h0 : e ≠ 0 := (err_pos (l := c :: r) (by rw [tokS, if_neg h1, if_neg h2, if_pos hq]; exact he)).1
          exact Ev.step (at_quote hl hw out h1' h2' hc34) (Ev.bind hqe (Ev.congr (f := fun _ => some ([], (p : Int), e)) (fun k => if_neg h0) (Ev.now _)))
        · have hsh : k = 2 ∧ n = 0 ∧ size = t.length + 2 ∧ t.length ≤ r.length := by
            have hle := takeWhile_length_le notQuote r
            unfold quoTok at he
            split at he
            · cases he
            · split at he
              · cases he
              · split at he
                · cases he
                · injection he with a1 a2 a3 a4
                  subst a1; subst a2; subst a3; subst a4
                  exact ⟨rfl, rfl, rfl, hle⟩
          rw [he] at hqe
          obtain ⟨rfl, rfl, rfl, hle⟩ := hsh
          have e2 : ((⟨t.toArray⟩ : ByteArray).size : Int) = (t.length : Int) := by simp [ByteArray.size]
          have hwr : wrap64 (wrap64 ((p : Int) + (t.length : Int)) + 2) = ((p + (t.length + 2) : Nat) : Int) := by unfold wrap64; omega
          refine Ev.step (at_quote hl hw out h1' h2' hc34) (Ev.bind hqe (Ev.congr (fun k => ?_) hR))
          refine (if_pos rfl).trans ((if_pos hlen).trans ?_)
          show intervalmonref06_Tokens.l0 k s (out ++ [(⟨2, ⟨t.toArray⟩, 0, (p : Int)⟩ : S77)]) (wrap64 (wrap64 ((p : Int) + ((⟨t.toArray⟩ : ByteArray).size : Int)) + 2)) = _
          rw [e2, hwr]
      · rw [if_neg hq]
        have hc34 : c ≠ 34 := by simpa using hq
        have hse := symbol_ev s hs' p c r hl
        refine ⟨fun e he => ?_, fun k t n size R he hR => ?_⟩
        · have h2e : e = 2 := by
            unfold symTok at he
            split at he
            · split at he
              · cases he
              · injection he with h'; exact h'.symm
            · split at he
              · cases he
              · injection he with h'; exact h'.symm
          rw [he] at hse
          subst h2e
          have e0 : (encY (.err 2)).toList = ([] : List UInt8) := by rw [Lib.toList_data]; rfl
          exact Ev.step (at_symbol hl hw out h1' h2' hc34) (Ev.bind hse (Ev.congr (f := fun _ => some ([], (p : Int), 2)) (fun k => if_pos e0) (Ev.now _)))
        · have hsh : k = 3 ∧ n = 0 ∧ size = t.length ∧ t ≠ [] ∧ t.length ≤ r.length + 1 := by
            unfold symTok at he
            split at he
            · split at he
              · rename_i hh
                injection he with a1 a2 a3 a4
                subst a1; subst a2; subst a3; subst a4
                refine ⟨rfl, rfl, rfl, by simp, ?_⟩
                cases r with
                | nil => simp at hh
                | cons a r => simp
              · cases he
            · split at he
              · injection he with a1 a2 a3 a4
                subst a1; subst a2; subst a3; subst a4
                exact ⟨rfl, rfl, rfl, by simp, by simp⟩
              · cases he
          rw [he] at hse
          obtain ⟨rfl, rfl, rfl, hne, hle⟩ := hsh
          have e2 : ((⟨t.toArray⟩ : ByteArray).size : Int) = (t.length : Int) := by simp [ByteArray.size]
          have e3 : ¬ (encY (.tok 3 t 0 t.length)).toList = ([] : List UInt8) := by
            rw [Lib.toList_data]; simpa [encY] using hne
          have hwr : wrap64 ((p : Int) + (t.length : Int)) = ((p + t.length : Nat) : Int) := by unfold wrap64; omega
          refine Ev.step (at_symbol hl hw out h1' h2' hc34) (Ev.bind hse (Ev.congr (fun k => ?_) hR))
          refine (if_neg e3).trans ((if_pos hlen).trans ?_)
          show intervalmonref06_Tokens.l0 k s (out ++ [(⟨3, ⟨t.toArray⟩, 0, (p : Int)⟩ : S77)]) (wrap64 ((p : Int) + ((⟨t.toArray⟩ : ByteArray).size : Int))) = _
          rw [e2, hwr]
end

theorem loop_ev (s : ByteArray) (hs : s.size ≤ 2000) : ∀ (d : Nat) (p : Nat) (out : List S77), s.size - p = d → p ≤ s.size → out.length ≤ p →
    Ev (fun k => intervalmonref06_Tokens.l0 k s out (p : Int)) (outB out (lex (s.data.toList.drop p).length (s.data.toList.drop p) p)) := by
  intro d
  induction d using Nat.strongRecOn with
  | _ d ih =>
    intro p out hd hp hout
    have hs' : s.size ≤ 140737488351232 := by omega
    cases hl : s.data.toList.drop p with
    | nil =>
      have he := drop_nil hl hp
      refine Ev.step (f := fun _ => some (out, 0, 0)) (fun k => ?_) ?_
      · simp only [intervalmonref06_Tokens.l0]
        rw [if_neg (by omega)]
      · have : outB out (lex ([] : List UInt8).length [] p) = (out, 0, 0) := by show (out ++ [], (0 : Int), (0 : Int)) = _; rw [List.append_nil]
        rw [this]; exact Ev.now _
    | cons c r =>
      have hlt := drop_lt hl
      have hb := bt_drop hl
      have hr := drop_next hl
      have hlr := drop_len hr hlt
      rw [List.length_cons, lex]
      by_cases hw : isWhite c = true
      · rw [if_pos hw]
        have hi := ih (s.size - (p + 1)) (by omega) (p + 1) out rfl hlt (by omega)
        rw [hr] at hi
        refine Ev.step (fun k => ?_) hi
        simp only [intervalmonref06_Tokens.l0]
        rw [if_pos (by omega), if_pos (by omega), hb, white_f, Option.bind_some, if_pos hw, wrap_next hlt hs']
      · rw [if_neg hw]
        obtain ⟨herr, htok⟩ := step_ev hl (by simpa using hw) out hs hout
        cases ht : tokS (c :: r) with
        | err e => exact herr e ht
        | tok k t n size =>
          have hsz := tokS_size ht
          simp only [List.length_cons] at hsz
          refine htok k t n size _ ht ?_
          have hi := ih (s.size - (p + size)) (by omega) (p + size) (out ++ [⟨k, ⟨t.toArray⟩, n, (p : Int)⟩]) rfl (by omega) (by simp; omega)
          have hdr : s.data.toList.drop (p + size) = (c :: r).drop size := by rw [← hl, List.drop_drop]
          rw [hdr] at hi
          have hfl : lex r.length ((c :: r).drop size) (p + size) = lex ((c :: r).drop size).length ((c :: r).drop size) (p + size) := by
            refine lex_fuel _ _ _ _ ?_ (Nat.le_refl _)
            rw [List.length_drop, List.length_cons]; omega
          show Ev _ (outB out (⟨k, t, n, p⟩ :: (lex r.length ((c :: r).drop size) (p + size)).1, (lex r.length ((c :: r).drop size) (p + size)).2))
          rw [outB_cons, hfl]
          exact hi

theorem ref_ev (s : ByteArray) : Ev (fun k => intervalmonref06_Tokens.f k s) ((answer s.data.toList).1.map toR, (answer s.data.toList).2) := by
  unfold answer
  rw [len_toList]
  by_cases h : s.size > 2000
  · rw [if_pos h]
    refine Ev.congr (f := fun _ => some ([], 2000, 4)) (fun k => ?_) (Ev.now _)
    unfold intervalmonref06_Tokens.f
    rw [if_pos (by omega)]
  · rw [if_neg h]
    have ha := loop_ev s (by omega) s.size 0 [] (by omega) (Nat.zero_le _) (Nat.le_refl _)
    rw [List.drop_zero, len_toList] at ha
    refine Ev.congr (f := fun k => intervalmonref06_Tokens.l0 k s [] ((0 : Nat) : Int)) (fun k => ?_) ?_
    · unfold intervalmonref06_Tokens.f
      rw [if_neg (by omega)]; rfl
    · cases hr : lex s.size s.data.toList 0 with
      | mk ts o =>
        rw [hr] at ha
        cases o with
        | none => exact ha
        | some ae => exact ha

end Go.Proofs.YtecojcpccglelaaDoor.LexB
