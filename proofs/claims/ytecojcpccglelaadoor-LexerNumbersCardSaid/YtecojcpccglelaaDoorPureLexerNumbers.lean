/- The plain law of LexerNumbers: the decimal text of a number, with zeros ahead of it, is one token with this value. -/
import Derived.Test.YtecojcpccglelaaDoorGenM
import Derived.Test.YtecojcpccglelaaDoorChain
import Derived.Test.YtecojcpccglelaaDoorPAllx14
namespace Go.Proofs.YtecojcpccglelaaDoor.Pure
open Go.RowKit Go.Proofs.YtecojcpccglelaaDoor.PAll Go.Proofs.YtecojcpccglelaaDoorW.PrintWords Go.Proofs.YtecojcpccglelaaDoorW.PrintLast
open Go.Proofs.YtecojcpccglelaaDoor.LexB Go.Proofs.YtecojcpccglelaaDoor.LexA Go.Proofs.YtecojcpccglelaaDoor.Gen Go.Proofs.YtecojcpccglelaaDoor.Spec

theorem digit_nat {u : Nat} (h : u < 10) : (UInt8.ofNat (48 + u)).toNat = 48 + u ∧ isDigit (UInt8.ofNat (48 + u)) = true := by
  have h1 : ((List.range 10).all fun u => decide ((UInt8.ofNat (48 + u)).toNat = 48 + u ∧ isDigit (UInt8.ofNat (48 + u)) = true)) = true := by decide +kernel
  exact of_decide_eq_true (List.all_eq_true.1 h1 u (List.mem_range.2 h))

theorem num_append : ∀ (a b : List UInt8) (n : Int), num (a ++ b) n = (num a n).bind (num b) := by
  intro a
  induction a with
  | nil => intro b n; rfl
  | cons c a ih =>
    intro b n
    rw [List.cons_append, num, num]
    split
    · rfl
    · exact ih b _

theorem num_one {u : Nat} (h : u < 10) (n : Int) : num [UInt8.ofNat (48 + u)] n = if 10 * n + (u : Int) > 1073741824 then none else some (10 * n + (u : Int)) := by
  have e : (((UInt8.ofNat (48 + u)).toNat : Nat) : Int) - 48 = (u : Int) := by rw [(digit_nat h).1]; omega
  rw [num, e]
  split
  · rfl
  · rfl

theorem div_facts {u : Nat} (h : ¬ u < 10) (hb : u ≤ 1073741824) : u / 10 < u ∧ u / 10 ≤ 1073741824 ∧ u % 10 < 10 ∧ ¬ 10 * ((u / 10 : Nat) : Int) + ((u % 10 : Nat) : Int) > 1073741824 ∧ 10 * ((u / 10 : Nat) : Int) + ((u % 10 : Nat) : Int) = (u : Int) := by omega

theorem num_dec : ∀ (u : Nat), u ≤ 1073741824 → num (Lib.decDigits u) 0 = some (u : Int) := by
  intro u
  induction u using Nat.strongRecOn with
  | _ u ih =>
    intro hb
    rw [Lib.decDigits]
    by_cases h : u < 10
    · rw [dif_pos h, num_one h, if_neg (by omega)]
      congr 1; omega
    · obtain ⟨d1, d2, d3, d4, d5⟩ := div_facts h hb
      rw [dif_neg h, num_append, ih _ d1 d2, Option.bind_some, num_one d3, if_neg d4, d5]

theorem digits_dec : ∀ (u : Nat), ∀ c ∈ Lib.decDigits u, isDigit c = true := by
  intro u
  induction u using Nat.strongRecOn with
  | _ u ih =>
    intro c hc
    rw [Lib.decDigits] at hc
    by_cases h : u < 10
    · rw [dif_pos h] at hc
      rw [List.mem_singleton.1 hc]; exact (digit_nat h).2
    · rw [dif_neg h] at hc
      rcases List.mem_append.1 hc with hc | hc
      · exact ih _ (by omega) c hc
      · rw [List.mem_singleton.1 hc]; exact (digit_nat (by omega)).2

theorem dec_len : ∀ (k u : Nat), u < 10 ^ (k + 1) → (Lib.decDigits u).length ≤ k + 1 ∧ Lib.decDigits u ≠ [] := by
  intro k
  induction k with
  | zero =>
    intro u hu
    rw [Lib.decDigits, dif_pos (by omega)]
    exact ⟨Nat.le_refl _, List.cons_ne_nil _ _⟩
  | succ k ih =>
    intro u hu
    rw [Lib.decDigits]
    by_cases h : u < 10
    · rw [dif_pos h]
      exact ⟨by simp, List.cons_ne_nil _ _⟩
    · rw [dif_neg h]
      have h1 := (ih (u / 10) (by rw [Nat.div_lt_iff_lt_mul (by decide)]; rw [Nat.pow_succ] at hu; exact hu)).1
      refine ⟨?_, by simp⟩
      rw [List.length_append]
      simp only [List.length_cons, List.length_nil]; omega

theorem takeWhile_full (q : UInt8 → Bool) : ∀ (l : List UInt8), (∀ c ∈ l, q c = true) → l.takeWhile q = l := by
  intro l
  induction l with
  | nil => intro _; rfl
  | cons c r ih =>
    intro h
    rw [List.takeWhile_cons_of_pos (h c (List.mem_cons_self ..)), ih (fun d hd => h d (List.mem_cons_of_mem _ hd))]

theorem digit_facts (c : UInt8) (h : isDigit c = true) : isWhite c = false ∧ isLetter c = false := by
  have h1 := all_u8 (fun c => !isDigit c || (isWhite c == false && isLetter c == false)) (by decide +kernel) c
  rw [h] at h1
  simpa using h1

/-- A text of digits is one token. -/
theorem answer_digits (L : List UInt8) (n : Int) (hd : ∀ c ∈ L, isDigit c = true) (hn : num L 0 = some n) (hne : L ≠ []) (hl : L.length ≤ 2000) : answer L = ([⟨1, L, n, 0⟩], 0, 0) := by
  cases L with
  | nil => exact absurd rfl hne
  | cons c r =>
    obtain ⟨hw, hlt⟩ := digit_facts c (hd c (List.mem_cons_self ..))
    have htw := takeWhile_full isDigit (c :: r) hd
    have ht : tokS (c :: r) = .tok 1 (c :: r) n (c :: r).length := by
      rw [tokS, htw, hn, hlt, hd c (List.mem_cons_self ..)]; rfl
    have hlex : lex (c :: r).length (c :: r) 0 = ([⟨1, c :: r, n, 0⟩], none) := by
      rw [List.length_cons, lex, hw, if_neg Bool.false_ne_true, ht]
      dsimp only
      rw [List.drop_length]
      cases r <;> rfl
    unfold answer
    rw [if_neg (by omega), hlex]

theorem pre_size (s : ByteArray) : ((⟨#[48]⟩ : ByteArray) ++ s).size = 1 + s.size := size_append _ _
theorem small9 {n m : Nat} (h : n ≤ m) (hm : m ≤ 2000) : 1 + n ≤ 9223372036854775807 := by omega

theorem numbers_loop (n : Int) : ∀ (d : Nat) (s : ByteArray), (∀ c ∈ s.data.toList, isDigit c = true) → num s.data.toList 0 = some n → s.data.toList ≠ [] → s.size + d ≤ 2000 →
    Ev (fun k => intervalmonlaw06_LexerNumbers.l0 k n 0 s (d : Int)) true := by
  intro d
  induction d with
  | zero =>
    intro s hd hn hne hl
    have ha := answer_digits s.data.toList n hd hn hne hl
    have ht := tokens_ev s
    rw [ha] at ht
    have hr := rd37 [⟨1, s.data.toList, n, 0⟩] 0 _ rfl
    refine Ev.step (f := fun k => (lexer_Tokens.f k s).bind fun (b : List S37 × Int × Int) => if (0 : Int) = 0 then (if b.2.2 = 0 then (if (b.1.length : Int) = 1 then (if 0 < (b.1.length : Int) then (if ((rd_T37 b.1 0).f0) = 1 then (if ((rd_T37 b.1 0).f2) = n then (if ((rd_T37 b.1 0).f1).toList = s.toList then ((intervalmonlaw06_lives.f k).bind fun t436 => (some t436)) else (some false)) else (some false)) else (some false)) else (none)) else (some false)) else (some false)) else (some false)) (fun k => ?_) (Ev.bind ht ?_)
    · rw [intervalmonlaw06_LexerNumbers.l0, if_neg (by omega)]
    · have h1 : ((rd_T37 ([⟨1, s.data.toList, n, 0⟩].map toS) ((0 : Nat) : Int)).f0) = 1 := by rw [hr]; rfl
      have h2 : ((rd_T37 ([⟨1, s.data.toList, n, 0⟩].map toS) ((0 : Nat) : Int)).f2) = n := by rw [hr]; rfl
      have h3 : ((rd_T37 ([⟨1, s.data.toList, n, 0⟩].map toS) ((0 : Nat) : Int)).f1).toList = s.toList := by rw [hr, Lib.toList_data, Lib.toList_data]; rfl
      refine Ev.congr (fun k => (if_pos rfl).trans ((if_pos rfl).trans ((if_pos rfl).trans ((if_pos (show (0 : Int) < 1 by decide)).trans ((if_pos h1).trans ((if_pos h2).trans (if_pos h3))))))) ?_
      exact Ev.bind lives_ev (Ev.now _)
  | succ d ih =>
    intro s hd hn hne hl
    have e : ((⟨#[48]⟩ : ByteArray) ++ s).data.toList = 48 :: s.data.toList := by rw [ByteArray.data_append, Array.toList_append]; rfl
    have hi := ih ((⟨#[48]⟩ : ByteArray) ++ s) (by
        rw [e]; intro c hc
        rcases List.mem_cons.1 hc with rfl | hc
        · decide
        · exact hd c hc) (by rw [e]; exact hn) (by rw [e]; exact List.cons_ne_nil _ _) (by rw [pre_size]; omega)
    have hw : wrap64 (((d + 1 : Nat) : Int) - 1) = (d : Int) := by unfold wrap64; omega
    have h1 := small9 (n := s.size) (m := s.size + (d + 1)) (by omega) hl
    refine Ev.step (fun k => ?_) hi
    rw [intervalmonlaw06_LexerNumbers.l0, if_pos (by omega), if_pos h1, hw]

theorem u64_small {n : Int} (h0 : 0 ≤ n) (h1 : n < 1073741825) : IntKind.u64.wrap n = n := by
  unfold IntKind.wrap; simp only [IntKind.bits, IntKind.signed, Bool.false_and, Bool.false_eq_true, if_false]
  omega

theorem gcd_ev (n : Int) : Ev (fun k => frac_gcd_uint64.f k n 1) 1 := by
  refine Ev.step (f := fun k => frac_gcd_uint64.l0 k 1 0) (fun k => ?_) (Ev.step (f := fun _ => some 1) (fun k => ?_) (Ev.now _))
  · show frac_gcd_uint64.l0 (k + 1) n 1 = _
    rw [frac_gcd_uint64.l0, if_neg (by decide), Int.tmod_one]
  · rw [frac_gcd_uint64.l0, if_pos rfl]

theorem size_f {n : Int} (h0 : 0 ≤ n) (h1 : n < 1073741825) : frac_size.f n = some n := by
  unfold frac_size.f
  rw [if_neg (by omega), u64_small h0 h1]

theorem new_ev {n : Int} (h0 : 0 ≤ n) (h1 : n < 1073741825) : Ev (fun k => frac_New.f k n 1) (n, 1, 0) := by
  have n1 : ¬ n = (-9223372036854775808) := by omega
  have s1 := size_f h0 h1
  have s2 : frac_size.f 1 = some 1 := by decide
  have d1 : Int.tdiv n 1 = n := Int.tdiv_one n
  have hneg : ((decide (n < 0)) != (decide ((1 : Int) < 0))) = false := by rw [decide_eq_false (by omega)]; rfl
  have u1 := u64_small h0 h1
  have u2 : IntKind.u64.wrap (Int.tdiv 1 1) = 1 := by decide
  have w1 : wrap64 n = n := by unfold wrap64; omega
  have hm : Ev (fun k => frac_made.f k false n 1) (n, 1, 0) := by
    refine Ev.congr (f := fun k => frac_made.j0 k false n 1 false) (fun k => ?_) (Ev.step (f := fun _ => some (n, 1, 0)) (fun k => ?_) (Ev.now _))
    · unfold frac_made.f
      rw [if_neg (by omega)]; rfl
    · rw [frac_made.j0, if_neg Bool.false_ne_true, if_neg Bool.false_ne_true]
      rw [w1, show wrap64 1 = 1 from by decide +kernel]
  refine Ev.congr (f := fun k => frac_New.j0 k n 1 false) (fun k => ?_) ?_
  · unfold frac_New.f
    rw [if_neg (by decide), if_neg n1]; rfl
  · refine Ev.step (f := fun k => (frac_gcd_uint64.f k n 1).bind fun t406 => (if t406 = 0 then (none) else ((frac_made.f k false (IntKind.u64.wrap (Int.tdiv n t406)) (IntKind.u64.wrap (Int.tdiv 1 t406))).bind fun bt409 => (some (bt409.1, bt409.2.1, bt409.2.2))))) (fun k => ?_) ?_
    · rw [frac_New.j0, if_neg Bool.false_ne_true, s1, s2, hneg]; rfl
    · refine Ev.bind (gcd_ev n) ?_
      refine Ev.congr (fun k => if_neg (by decide)) ?_
      rw [d1, u1, u2]
      exact Ev.bind hm (Ev.now _)

theorem valid_ev {n : Int} (h0 : 0 ≤ n) (h1 : n < 1073741825) : Ev (fun k => frac_Valid.f k n 1) true := by
  have s1 := size_f h0 h1
  have u2 : IntKind.u64.wrap 1 = 1 := by decide
  have hd : decide (n > 4611686018427387904) = false := decide_eq_false (by omega)
  refine Ev.congr (f := fun k => frac_Valid.j0 k false n 1) (fun k => ?_) ?_
  · unfold frac_Valid.f
    rw [if_neg (by decide), if_neg (by decide), s1, Option.bind_some, hd]
  · refine Ev.step (f := fun k => (frac_gcd_uint64.f k n 1).bind fun t415 => (some (t415 == 1))) (fun k => ?_) (Ev.bind (gcd_ev n) (Ev.now _))
    rw [frac_Valid.j0, if_neg Bool.false_ne_true, s1, Option.bind_some, u2]

theorem text_ev {n : Int} (h0 : 0 ≤ n) (h1 : n < 1073741825) : Ev (fun k => frac_Text.f k n 1) ⟨(Lib.decDigits n.toNat).toArray⟩ := by
  have hi : strconv_Itoa.f n = some ⟨(Lib.decDigits n.toNat).toArray⟩ := by
    unfold strconv_Itoa.f Lib.itoa
    rw [if_pos (by omega), if_neg (by omega)]
  refine Ev.bind (valid_ev h0 h1) ?_
  refine Ev.congr (fun k => (if_pos rfl).trans (if_pos rfl)) ?_
  exact Ev.bind (g := fun _ => strconv_Itoa.f n) ⟨0, fun _ _ => hi⟩ (Ev.now _)

theorem LexerNumbers : intervalmonlaw06_LexerNumbers.Pure := by
  intro a b ha hb
  obtain ⟨n, hn, hn0, hn1⟩ := around (wf_i64 ha) (show (0 : Int) < 1073741825 by omega)
  obtain ⟨z, hz, hz0, hz1⟩ := around (wf_i64 hb) (show (0 : Int) < 6 by omega)
  have hu : n.toNat ≤ 1073741824 := by omega
  have hnum : num (Lib.decDigits n.toNat) 0 = some n := by
    rw [num_dec _ hu]; congr 1; omega
  obtain ⟨hl, hne⟩ := dec_len 9 n.toNat (Nat.lt_of_le_of_lt hu (by decide))
  have hsz : (⟨(Lib.decDigits n.toNat).toArray⟩ : ByteArray).size ≤ 10 := hl
  obtain ⟨d, hd, hd6⟩ : ∃ d : Nat, z = (d : Int) ∧ d < 6 := ⟨z.toNat, by omega, by omega⟩
  subst hd
  have key : Ev (fun k => intervalmonlaw06_LexerNumbers.f k a b) true := by
    refine Ev.bind (g := fun _ => intervalmonref01_Around.f a 1073741825) ⟨0, fun _ _ => hn⟩ ?_
    refine Ev.bind (new_ev hn0 hn1) ?_
    refine Ev.bind (text_ev hn0 hn1) ?_
    refine Ev.bind (g := fun _ => intervalmonref01_Around.f b 6) ⟨0, fun _ _ => hz⟩ ?_
    exact numbers_loop n d _ (digits_dec n.toNat) hnum hne (Nat.le_trans (Nat.add_le_add hsz (Nat.le_of_lt hd6)) (by decide))
  exact key.rounds

end Go.Proofs.YtecojcpccglelaaDoor.Pure
