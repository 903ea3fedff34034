/- The plain law of LexerLabels: the tokens of a label set's text. -/
import Derived.Test.YtecojcpccglelaaDoorGenM
import Derived.Test.YtecojcpccglelaaDoorPAllx12
namespace Go.Proofs.YtecojcpccglelaaDoor.Pure
open Go.RowKit Go.Proofs.YtecojcpccglelaaDoor.PAll Go.Proofs.YtecojcpccglelaaDoorW.PrintWords Go.Proofs.YtecojcpccglelaaDoorW.PrintLast
open Go.Proofs.YtecojcpccglelaaDoor.LexB Go.Proofs.YtecojcpccglelaaDoor.LexA Go.Proofs.YtecojcpccglelaaDoor.Gen Go.Proofs.YtecojcpccglelaaDoor.Spec

theorem letter_white (c : UInt8) (h : isLetter c = true) : isWhite c = false ∧ isWordC c = true := by
  have h1 := all_u8 (fun c => !isLetter c || (isWhite c == false && isWordC c)) (by decide +kernel) c
  rw [h] at h1
  simpa using h1
theorem val_quote (c : UInt8) (h : isVal c = true) : notQuote c = true := by
  have h1 := all_u8 (fun c => !isVal c || notQuote c == true) (by decide +kernel) c
  rw [h] at h1
  simpa using h1
theorem takeWhile_stop (q : UInt8 → Bool) (c : UInt8) (hc : q c = false) (r : List UInt8) : ∀ (l : List UInt8), (∀ a ∈ l, q a = true) → (l ++ c :: r).takeWhile q = l := by
  intro l
  induction l with
  | nil => intro _; rw [List.nil_append, List.takeWhile_cons_of_neg (by simp [hc])]
  | cons a l ih => intro h; rw [List.cons_append, List.takeWhile_cons_of_pos (h a (List.mem_cons_self ..)), ih fun b hb => h b (List.mem_cons_of_mem _ hb)]

/-- A label whose name is a word and whose value is a text. -/
structure OkL (x : S43) : Prop where
  name : ∃ c r, x.f0.data.toList = c :: r ∧ isLetter c = true
  word : ∀ a ∈ x.f0.data.toList, isWordC a = true
  nlen : x.f0.data.toList.length ≤ 4
  val : ∀ a ∈ x.f1.data.toList, isVal a = true
  vlen : x.f1.data.toList.length ≤ 2

/-- The tokens of labels, from an offset on, and of the brace. -/
def tk : Bool → List S43 → Nat → List T
  | _, [], p => [⟨3, [125], 0, p⟩]
  | true, x :: l, p => ⟨0, x.f0.data.toList, 0, p⟩ :: ⟨3, [61], 0, p + x.f0.data.toList.length⟩ :: ⟨2, x.f1.data.toList, 0, p + x.f0.data.toList.length + 1⟩ :: tk false l (p + x.f0.data.toList.length + 1 + (x.f1.data.toList.length + 2))
  | false, x :: l, p => ⟨3, [44], 0, p⟩ :: ⟨0, x.f0.data.toList, 0, p + 1⟩ :: ⟨3, [61], 0, p + 1 + x.f0.data.toList.length⟩ :: ⟨2, x.f1.data.toList, 0, p + 1 + x.f0.data.toList.length + 1⟩ :: tk false l (p + 1 + x.f0.data.toList.length + 1 + (x.f1.data.toList.length + 2))

theorem labB_list (x : S43) : (labB x).data.toList = x.f0.data.toList ++ 61 :: 34 :: (x.f1.data.toList ++ [34]) := by
  unfold labB
  simp [ByteArray.data_append, Array.toList_append]

theorem sym_step (c : UInt8) (hw : isWhite c = false) (r : List UInt8) (ht : tokS (c :: r) = .tok 3 [c] 0 1) (f p : Nat) : lex (f + 1) (c :: r) p = (⟨3, [c], 0, p⟩ :: (lex f r (p + 1)).1, (lex f r (p + 1)).2) := by
  rw [lex]; simp only [hw, ht]; rfl
theorem tok44 (r : List UInt8) : tokS (44 :: r) = .tok 3 [44] 0 1 := rfl
theorem tok61 (r : List UInt8) : tokS (61 :: r) = .tok 3 [61] 0 1 := rfl
theorem tok123 (r : List UInt8) : tokS (123 :: r) = .tok 3 [123] 0 1 := rfl
theorem tok125 (r : List UInt8) : tokS (125 :: r) = .tok 3 [125] 0 1 := rfl

theorem name_tok {l : List UInt8} (h1 : ∃ c r, l = c :: r ∧ isLetter c = true) (h2 : ∀ a ∈ l, isWordC a = true) (h3 : l.length ≤ 4) (r : List UInt8) : tokS (l ++ 61 :: r) = .tok 0 l 0 l.length := by
  obtain ⟨c, s, rfl, hc⟩ := h1
  have ht := takeWhile_stop isWordC 61 rfl r (c :: s) h2
  rw [List.cons_append] at ht ⊢
  rw [tokS, if_pos hc, ht, if_neg (by omega)]
theorem val_tok {l : List UInt8} (h2 : ∀ a ∈ l, isVal a = true) (h3 : l.length ≤ 2) (r : List UInt8) : tokS (34 :: (l ++ 34 :: r)) = .tok 2 l 0 (l.length + 2) := by
  have ht := takeWhile_stop notQuote 34 rfl r l (fun a ha => val_quote a (h2 a ha))
  have hv : l.all isVal = true := List.all_eq_true.2 h2
  have e : tokS (34 :: (l ++ 34 :: r)) = quoTok (l ++ 34 :: r) := rfl
  rw [e, quoTok, ht, if_neg (by rw [List.length_append, List.length_cons]; omega), hv, if_neg (by simp), if_neg (by omega)]

theorem lab_step (x : S43) (hx : OkL x) (rest : List UInt8) (f p : Nat) (hf : (labB x).data.toList.length + rest.length ≤ f) :
    lex f ((labB x).data.toList ++ rest) p = (⟨0, x.f0.data.toList, 0, p⟩ :: ⟨3, [61], 0, p + x.f0.data.toList.length⟩ :: ⟨2, x.f1.data.toList, 0, p + x.f0.data.toList.length + 1⟩ :: (lex rest.length rest (p + x.f0.data.toList.length + 1 + (x.f1.data.toList.length + 2))).1,
      (lex rest.length rest (p + x.f0.data.toList.length + 1 + (x.f1.data.toList.length + 2))).2) := by
  have hn := name_tok hx.name hx.word hx.nlen (34 :: (x.f1.data.toList ++ 34 :: rest))
  have hv := val_tok hx.val hx.vlen rest
  have el := labB_list x
  have eall : (labB x).data.toList ++ rest = x.f0.data.toList ++ 61 :: 34 :: (x.f1.data.toList ++ 34 :: rest) := by rw [el]; simp
  have hlen : (labB x).data.toList.length = x.f0.data.toList.length + (x.f1.data.toList.length + 3) := by rw [el]; simp
  obtain ⟨c, s, hcs, hc⟩ := hx.name
  have hw := (letter_white c hc).1
  rw [eall]
  obtain ⟨f1, rfl⟩ : ∃ f1, f = f1 + 1 := ⟨f - 1, by omega⟩
  have hd : (x.f0.data.toList ++ 61 :: 34 :: (x.f1.data.toList ++ 34 :: rest)).drop x.f0.data.toList.length = 61 :: 34 :: (x.f1.data.toList ++ 34 :: rest) := by simp
  have hstep : lex (f1 + 1) (x.f0.data.toList ++ 61 :: 34 :: (x.f1.data.toList ++ 34 :: rest)) p = (⟨0, x.f0.data.toList, 0, p⟩ :: (lex f1 (61 :: 34 :: (x.f1.data.toList ++ 34 :: rest)) (p + x.f0.data.toList.length)).1, (lex f1 (61 :: 34 :: (x.f1.data.toList ++ 34 :: rest)) (p + x.f0.data.toList.length)).2) := by
    rw [← hd]
    conv => lhs; rw [hd]
    rw [hcs] at hn hd ⊢
    rw [List.cons_append] at hn hd ⊢
    rw [lex, hw, if_neg Bool.false_ne_true, hn]
  have hsz : x.f0.data.toList.length + (x.f1.data.toList.length + 3) + rest.length ≤ f1 + 1 := by omega
  have hpos : 1 ≤ x.f0.data.toList.length := by rw [hcs]; simp
  rw [hstep]
  obtain ⟨f2, rfl⟩ : ∃ f2, f1 = f2 + 1 := ⟨f1 - 1, by omega⟩
  rw [sym_step 61 rfl _ (tok61 _)]
  obtain ⟨f3, rfl⟩ : ∃ f3, f2 = f3 + 1 := ⟨f2 - 1, by omega⟩
  have hq : isWhite (34 : UInt8) = false := rfl
  have hdv : (34 :: (x.f1.data.toList ++ 34 :: rest)).drop (x.f1.data.toList.length + 2) = rest := by
    rw [List.drop_succ_cons, show x.f1.data.toList ++ 34 :: rest = (x.f1.data.toList ++ [34]) ++ rest by simp, show x.f1.data.toList.length + 1 = (x.f1.data.toList ++ [34]).length by rw [List.length_append]; rfl]
    exact List.drop_left
  have h3 : lex (f3 + 1) (34 :: (x.f1.data.toList ++ 34 :: rest)) (p + x.f0.data.toList.length + 1) = (⟨2, x.f1.data.toList, 0, p + x.f0.data.toList.length + 1⟩ :: (lex f3 rest (p + x.f0.data.toList.length + 1 + (x.f1.data.toList.length + 2))).1, (lex f3 rest (p + x.f0.data.toList.length + 1 + (x.f1.data.toList.length + 2))).2) := by
    rw [lex, hq, if_neg Bool.false_ne_true, hv]
    dsimp only
    rw [hdv]
  rw [h3, lex_fuel f3 rest _ rest.length (by omega) (Nat.le_refl _)]

theorem lex_labs : ∀ (l : List S43), (∀ x ∈ l, OkL x) → ∀ (b : Bool) (p f : Nat), (labsL b l ++ [125]).length ≤ f → lex f (labsL b l ++ [125]) p = (tk b l p, none) := by
  intro l
  induction l with
  | nil =>
    intro _ b p f hf
    obtain ⟨f, rfl⟩ : ∃ g, f = g + 1 := ⟨f - 1, by simp [labsL] at hf; omega⟩
    rw [labsL, List.nil_append, sym_step 125 rfl _ (tok125 _)]
    cases b <;> cases f <;> rfl
  | cons x l ih =>
    intro hok b p f hf
    have hx := hok x (List.mem_cons_self ..)
    have hl := fun y hy => hok y (List.mem_cons_of_mem _ hy)
    cases b with
    | true =>
      rw [labsL] at hf ⊢
      simp only [if_true, List.nil_append, List.append_assoc] at hf ⊢
      rw [lab_step x hx _ f p (by rw [← List.length_append]; exact hf), ih hl false _ _ (Nat.le_refl _)]
      rfl
    | false =>
      rw [labsL] at hf ⊢
      simp only [Bool.false_eq_true, if_false, List.append_assoc, List.cons_append, List.nil_append] at hf ⊢
      obtain ⟨f, rfl⟩ : ∃ g, f = g + 1 := ⟨f - 1, by simp at hf; omega⟩
      rw [sym_step 44 rfl _ (tok44 _), lab_step x hx _ f (p + 1) (by rw [← List.length_append]; simp at hf ⊢; omega), ih hl false _ _ (Nat.le_refl _)]
      rfl

/-- Where the tokens of a label lie. -/
structure At (ts : List T) (k : Nat) (x : S43) : Prop where
  a : ∃ o, ts[k]? = some ⟨0, x.f0.data.toList, 0, o⟩
  b : ∃ o, ts[k + 1]? = some ⟨3, [61], 0, o⟩
  c : ∃ o, ts[k + 2]? = some ⟨2, x.f1.data.toList, 0, o⟩
theorem tk_false : ∀ (l : List S43) (p i : Nat) (_ : i < l.length), At (tk false l p) (4 * i + 1) (l.getD i z43) ∧ ∃ o, (tk false l p)[4 * i]? = some ⟨3, [44], 0, o⟩ := by
  intro l
  induction l with
  | nil => intro p i h; simp at h
  | cons x l ih =>
    intro p i h
    cases i with
    | zero => exact ⟨⟨⟨_, rfl⟩, ⟨_, rfl⟩, ⟨_, rfl⟩⟩, ⟨_, rfl⟩⟩
    | succ i =>
      obtain ⟨⟨h1, h2, h3⟩, h4⟩ := ih (p + 1 + x.f0.data.toList.length + 1 + (x.f1.data.toList.length + 2)) i (by simpa using h)
      have e : 4 * (i + 1) = 4 * i + 4 := by omega
      rw [e]
      exact ⟨⟨h1, h2, h3⟩, h4⟩
theorem tk_true (l : List S43) (p i : Nat) (h : i < l.length) : At (tk true l p) (4 * i) (l.getD i z43) ∧ (i + 1 < l.length → ∃ o, (tk true l p)[4 * i + 3]? = some ⟨3, [44], 0, o⟩) := by
  cases l with
  | nil => simp at h
  | cons x l =>
    cases i with
    | zero =>
      refine ⟨⟨⟨_, rfl⟩, ⟨_, rfl⟩, ⟨_, rfl⟩⟩, fun h1 => ?_⟩
      obtain ⟨o, ho⟩ := (tk_false l (p + x.f0.data.toList.length + 1 + (x.f1.data.toList.length + 2)) 0 (by simpa using h1)).2
      exact ⟨o, ho⟩
    | succ i =>
      obtain ⟨⟨h1, h2, h3⟩, h4⟩ := tk_false l (p + x.f0.data.toList.length + 1 + (x.f1.data.toList.length + 2)) i (by simpa using h)
      have e : 4 * (i + 1) = 4 * i + 1 + 3 := by omega
      refine ⟨by rw [e]; exact ⟨h1, h2, h3⟩, fun h5 => ?_⟩
      obtain ⟨o, ho⟩ := (tk_false l (p + x.f0.data.toList.length + 1 + (x.f1.data.toList.length + 2)) (i + 1) (by simpa using h5)).2
      exact ⟨o, ho⟩
theorem tk_false_len : ∀ (l : List S43) (p : Nat), (tk false l p).length = 4 * l.length + 1 ∧ ∃ o, (tk false l p)[4 * l.length]? = some ⟨3, [125], 0, o⟩ := by
  intro l
  induction l with
  | nil => intro p; exact ⟨rfl, _, rfl⟩
  | cons x l ih =>
    intro p
    obtain ⟨h1, o, h2⟩ := ih (p + 1 + x.f0.data.toList.length + 1 + (x.f1.data.toList.length + 2))
    have e : 4 * (x :: l).length = 4 * l.length + 4 := by simp; omega
    exact ⟨by rw [tk]; simp only [List.length_cons, h1]; omega, o, by rw [e]; exact h2⟩
theorem tk_true_len (l : List S43) (p : Nat) : (tk true l p).length = 4 * l.length + 1 - min l.length 1 ∧ ∃ o, (tk true l p)[(tk true l p).length - 1]? = some ⟨3, [125], 0, o⟩ := by
  cases l with
  | nil => exact ⟨rfl, _, rfl⟩
  | cons x l =>
    obtain ⟨h1, o, h2⟩ := tk_false_len l (p + x.f0.data.toList.length + 1 + (x.f1.data.toList.length + 2))
    refine ⟨by rw [tk]; simp only [List.length_cons, h1]; omega, o, ?_⟩
    have e : (tk true (x :: l) p).length - 1 = 4 * l.length + 3 := by rw [tk]; simp only [List.length_cons, h1]; omega
    rw [e]; exact h2

theorem labsL_le : ∀ (l : List S43), (∀ x ∈ l, OkL x) → ∀ b, (labsL b l).length ≤ 10 * l.length := by
  intro l
  induction l with
  | nil => intro _ b; simp [labsL]
  | cons x l ih =>
    intro hok b
    have h1 := ih (fun y hy => hok y (List.mem_cons_of_mem _ hy)) false
    have hx := hok x (List.mem_cons_self ..)
    have h2 := hx.nlen
    have h3 := hx.vlen
    have h4 : (labB x).data.toList.length = x.f0.data.toList.length + (x.f1.data.toList.length + 3) := by rw [labB_list]; simp
    have h5 : (if b = true then ([] : List UInt8) else [44]).length ≤ 1 := by cases b <;> simp
    rw [labsL]
    simp only [List.length_append, List.length_cons] at h4 ⊢
    omega

/-! ### the label set -/
def nm6 : List ByteArray := [(⟨#[97]⟩ : ByteArray), (⟨#[97, 98]⟩ : ByteArray), (⟨#[98]⟩ : ByteArray), (⟨#[106, 111, 98]⟩ : ByteArray), (⟨#[120, 95, 49]⟩ : ByteArray), (⟨#[122, 111, 110, 101]⟩ : ByteArray)]
def vl6 : List ByteArray := [(⟨#[97]⟩ : ByteArray), (⟨#[97, 98]⟩ : ByteArray), (⟨#[98]⟩ : ByteArray), (⟨#[120, 49]⟩ : ByteArray), (⟨#[126, 33]⟩ : ByteArray), (⟨#[48]⟩ : ByteArray)]
def nameOk (s : ByteArray) : Bool := (match s.data.toList with | c :: _ => isLetter c | [] => false) && s.data.toList.all isWordC && decide (s.data.toList.length ≤ 4)
def valOk (s : ByteArray) : Bool := s.data.toList.all isVal && decide (s.data.toList.length ≤ 2)
theorem nm6_ok : nm6.all nameOk = true := by decide +kernel
theorem vl6_ok : vl6.all valOk = true := by decide +kernel
theorem getD_all {q : ByteArray → Bool} {l : List ByteArray} (h : l.all q = true) {i : Nat} (hi : i < l.length) (d : ByteArray) : q (l.getD i d) = true := by
  rw [List.getD_eq_getElem?_getD, List.getElem?_eq_getElem hi, Option.getD_some]
  exact List.all_eq_true.1 h _ (List.getElem_mem _)
theorem okL_of {n v : ByteArray} (h1 : nameOk n = true) (h2 : valOk v = true) : OkL ⟨n, v⟩ := by
  unfold nameOk at h1
  unfold valOk at h2
  simp only [Bool.and_eq_true, List.all_eq_true, decide_eq_true_eq] at h1 h2
  obtain ⟨⟨h3, h4⟩, h5⟩ := h1
  refine ⟨?_, h4, h5, h2.1, h2.2⟩
  cases hl : n.data.toList with
  | nil => rw [hl] at h3; cases h3
  | cons c r => rw [hl] at h3; exact ⟨c, r, rfl, h3⟩

theorem pick (l : List Int) (hw : ∀ x ∈ l, (Lit.int .i64 x).wf = true) (i m : Int) (hm : 0 < m) : ∃ n, intervalmonref01_Pick.f l i m = some n ∧ 0 ≤ n ∧ n < m := by
  unfold intervalmonref01_Pick.f
  split
  · exact ⟨0, rfl, Int.le_refl _, hm⟩
  · split
    · exact ⟨0, rfl, Int.le_refl _, hm⟩
    · obtain ⟨n, h1, h2⟩ := around (rd_wf hw i) hm
      exact ⟨n, by rw [if_pos (by omega), if_pos (by omega), h1]; rfl, h2⟩

theorem set_loop (l : List Int) (hw : ∀ x ∈ l, (Lit.int .i64 x).wf = true) : ∀ (d : Nat) (i : Nat), 6 - i = d → i ≤ 6 → ∀ (which : Int) (acc : List S43), (∀ x ∈ acc, OkL x) → acc.length ≤ i →
    ∃ r, Ev (fun k => intervalmonref05_Set.l0 k l nm6 vl6 which acc (i : Int)) r ∧ (∀ x ∈ r, OkL x) ∧ r.length ≤ 6 := by
  intro d
  induction d with
  | zero =>
    intro i hd hi which acc hacc hlen
    refine ⟨acc, Ev.step (f := fun _ => some acc) (fun k => ?_) (Ev.now _), hacc, by omega⟩
    rw [intervalmonref05_Set.l0, if_neg (by show ¬ (i : Int) < 6; omega)]
  | succ d ih =>
    intro i hd hi which acc hacc hlen
    have hw1 : wrap64 ((i : Int) + 1) = ((i + 1 : Nat) : Int) := by unfold wrap64; omega
    by_cases h : Int.tmod which 2 = 1
    · obtain ⟨v, hv, hv0, hv1⟩ := pick l hw (wrap64 ((i : Int) + 1)) 6 (by decide)
      have hx : OkL ⟨rdOf ByteArray.empty nm6 (i : Int), rdOf ByteArray.empty vl6 v⟩ := okL_of
        (by unfold rdOf; exact getD_all nm6_ok (by show (i : Int).toNat < 6; omega) _)
        (by unfold rdOf; exact getD_all vl6_ok (by show v.toNat < 6; omega) _)
      obtain ⟨r, h1, h2, h3⟩ := ih (i + 1) (by omega) (by omega) (wrap64 (Int.tdiv which 2)) (acc ++ [⟨rdOf ByteArray.empty nm6 (i : Int), rdOf ByteArray.empty vl6 v⟩])
        (fun y hy => (List.mem_append.1 hy).elim (hacc y) fun hy => by rw [List.mem_singleton.1 hy]; exact hx) (by simp; omega)
      refine ⟨r, Ev.step (fun k => ?_) h1, h2, h3⟩
      rw [intervalmonref05_Set.l0, if_pos (by show (i : Int) < 6; omega), if_pos h, if_pos (by omega), hv, Option.bind_some, if_pos hv0, if_pos (by show v < 6; omega), if_pos (by omega), hw1]
    · obtain ⟨r, h1, h2, h3⟩ := ih (i + 1) (by omega) (by omega) (wrap64 (Int.tdiv which 2)) acc hacc (by omega)
      refine ⟨r, Ev.step (fun k => ?_) h1, h2, h3⟩
      rw [intervalmonref05_Set.l0, if_pos (by show (i : Int) < 6; omega), if_neg h, hw1]

theorem set_ev (l : List Int) (hw : ∀ x ∈ l, (Lit.int .i64 x).wf = true) : ∃ r, Ev (fun k => intervalmonref05_Set.f k l) r ∧ (∀ x ∈ r, OkL x) ∧ r.length ≤ 6 := by
  obtain ⟨n, hn, -, -⟩ := pick l hw 0 64 (by decide)
  obtain ⟨r, h1, h2, h3⟩ := set_loop l hw 6 0 rfl (by omega) n [] (fun x hx => by simp at hx) (by simp)
  refine ⟨r, Ev.congr (fun k => ?_) h1, h2, h3⟩
  show ((some nm6).bind fun t369 => (some vl6).bind fun t372 => (intervalmonref01_Pick.f l 0 64).bind fun t375 => intervalmonref05_Set.l0 k l t369 t372 t375 [] 0) = _
  rw [Option.bind_some, Option.bind_some, hn, Option.bind_some]; rfl

/-! ### the loop -/
theorem at_rd {ts : List T} {i : Nat} {t : T} (h : ts[i]? = some t) (n : Int) (hn : n = (i : Int)) : rd_T37 (ts.map toS) n = toS t ∧ 0 ≤ n ∧ n < ((ts.map toS).length : Int) := by
  subst hn
  have h1 := (List.getElem?_eq_some_iff.1 h).1
  exact ⟨rd37 ts i t h, by omega, by rw [List.length_map]; omega⟩

theorem loop_ev (s : List S43) (ts : List T) (hl : s.length ≤ 6) (ht : ∀ i, i < s.length → At ts (1 + 4 * i) (s.getD i z43) ∧ (i + 1 < s.length → ∃ o, ts[1 + 4 * i + 3]? = some ⟨3, [44], 0, o⟩)) :
    ∀ (d i : Nat), s.length - i = d → i ≤ s.length → Ev (fun k => intervalmonlaw06_LexerLabels.l0 k s (ts.map toS) (i : Int)) true := by
  intro d
  induction d with
  | zero =>
    intro i hd hi
    refine Ev.step (f := fun k => (intervalmonlaw06_lives.f k).bind fun t393 => some t393) (fun k => ?_) (Ev.bind lives_ev (Ev.now _))
    rw [intervalmonlaw06_LexerLabels.l0, if_neg (by omega)]
  | succ d ih =>
    intro i hd hi
    have hi6 : i < 6 := by omega
    obtain ⟨⟨⟨o1, h1⟩, ⟨o2, h2⟩, ⟨o3, h3⟩⟩, h4⟩ := ht i (by omega)
    have w1 : wrap64 (1 + wrap64 (4 * (i : Int))) = ((1 + 4 * i : Nat) : Int) := by unfold wrap64; omega
    have w2 : wrap64 (((1 + 4 * i : Nat) : Int) + 1) = ((1 + 4 * i + 1 : Nat) : Int) := by unfold wrap64; omega
    have w3 : wrap64 (((1 + 4 * i : Nat) : Int) + 2) = ((1 + 4 * i + 2 : Nat) : Int) := by unfold wrap64; omega
    have w4 : wrap64 (((1 + 4 * i : Nat) : Int) + 3) = ((1 + 4 * i + 3 : Nat) : Int) := by unfold wrap64; omega
    have w5 : wrap64 ((i : Int) + 1) = ((i + 1 : Nat) : Int) := by unfold wrap64; omega
    obtain ⟨r1, p1, q1⟩ := at_rd h1 _ rfl
    obtain ⟨r2, p2, q2⟩ := at_rd h2 _ rfl
    obtain ⟨r3, p3, q3⟩ := at_rd h3 _ rfl
    have hx : rd_T43 s (i : Int) = s.getD i z43 := by unfold rd_T43; rw [Int.toNat_natCast]
    have hih := ih (i + 1) (by omega) (by omega)
    have h5 : Ev (fun k => intervalmonlaw06_LexerLabels.j3 k s (ts.map toS) (i : Int) ((1 + 4 * i : Nat) : Int) false) true := by
      by_cases hlast : i + 1 < s.length
      · obtain ⟨o4, h4⟩ := h4 hlast
        obtain ⟨r4, p4, q4⟩ := at_rd h4 _ rfl
        refine Ev.step (fun k => ?_) hih
        rw [intervalmonlaw06_LexerLabels.j3, if_neg Bool.false_ne_true, w5, if_pos (by omega), w4, if_pos p4, if_pos q4, r4, if_pos (by rw [Lib.toList_data]; rfl)]
      · refine Ev.step (fun k => ?_) hih
        rw [intervalmonlaw06_LexerLabels.j3, if_neg Bool.false_ne_true, w5, if_neg (by omega)]
    refine Ev.step (fun k => ?_) h5
    rw [intervalmonlaw06_LexerLabels.l0, if_pos (by omega), w1, if_pos p1, if_pos q1, r1, if_pos (by rfl), if_pos (by omega), hx, if_pos (by rw [Lib.toList_data, Lib.toList_data]; rfl), w2, if_pos p2, if_pos q2, r2,
      if_pos (by rw [Lib.toList_data]; rfl), w3, if_pos p3, if_pos q3, r3, if_pos (by rfl)]
    have hb : ((toS ⟨2, (s.getD i z43).f1.data.toList, 0, o3⟩).f1.toList != (s.getD i z43).f1.toList) = false := by
      rw [Lib.toList_data, Lib.toList_data]; exact bne_self_eq_false _
    rw [hb]

theorem w_pred {n : Nat} (h : 1 ≤ n) (h2 : n ≤ 100) : wrap64 ((n : Int) - 1) = ((n - 1 : Nat) : Int) := by unfold wrap64; omega
theorem mn_one (n : Nat) : mn (n : Int) 1 = ((min n 1 : Nat) : Int) := by unfold mn; omega
theorem w_count {n : Nat} (h : n ≤ 6) : wrap64 ((wrap64 (2 + (wrap64 (4 * (n : Int))))) - (mn (n : Int) 1)) = ((2 + 4 * n - min n 1 : Nat) : Int) := by
  rw [mn_one]; unfold wrap64; omega
theorem len_small {a b : Nat} (h : a ≤ 10 * b) (hb : b ≤ 6) : a ≤ 1000 ∧ a + 1 + 1 ≤ 2000 := by omega
theorem len_ts {a b c : Nat} (h : a = 4 * b + 1 - min b 1) (hc : c = a + 1) (hb : b ≤ 6) : c = 2 + 4 * b - min b 1 ∧ 1 ≤ c ∧ c ≤ 100 ∧ c - 1 = a - 1 + 1 := by omega
theorem text_is (s : List S43) (h : (labsL true s).length ≤ 1000) : ∃ T0 : ByteArray, labels_Text.f s = some T0 ∧ T0.data.toList = 123 :: (labsL true s ++ [125]) :=
  ⟨_, by unfold labels_Text.f; rw [if_pos h], by simp [ByteArray.data_append]⟩
theorem neg_len {l : List UInt8} {a : Nat} (h : l.length = a + 1 + 1) (ha : a + 1 + 1 ≤ 2000) : ¬ l.length > 2000 := by omega
theorem LexerLabels : intervalmonlaw06_LexerLabels.Pure := by
  intro l0 hlen hsz hwf
  obtain ⟨s, h1, hok, hs⟩ := set_ev l0 hwf
  have hle := labsL_le s hok true
  obtain ⟨hm1, hm2⟩ := len_small hle hs
  obtain ⟨T0, hT, hTl⟩ := text_is s hm1
  clear hlen hsz
  have hlex : lex T0.data.toList.length T0.data.toList 0 = (⟨3, [123], 0, 0⟩ :: tk true s 1, none) := by
    rw [hTl, List.length_cons, sym_step 123 rfl _ (tok123 _), lex_labs s hok true 1 _ (Nat.le_refl _)]
  have hans : answer T0.data.toList = (⟨3, [123], 0, 0⟩ :: tk true s 1, 0, 0) := by
    unfold answer
    rw [if_neg (neg_len (a := (labsL true s).length) (by rw [hTl, List.length_cons, List.length_append]; rfl) hm2), hlex]
  have ht := tokens_ev T0
  rw [hans] at ht
  generalize hts : (⟨3, [123], 0, 0⟩ :: tk true s 1 : List T) = ts at ht
  obtain ⟨hl1, o, hl2⟩ := tk_true_len s 1
  obtain ⟨hlts, hts1, hts2, hts3⟩ := len_ts (c := ts.length) hl1 (by rw [← hts]; rfl) hs
  have hlast : ts[ts.length - 1]? = some ⟨3, [125], 0, o⟩ := by
    rw [hts3, ← hts]; exact hl2
  have hat : ∀ i, i < s.length → At ts (1 + 4 * i) (s.getD i z43) ∧ (i + 1 < s.length → ∃ o, ts[1 + 4 * i + 3]? = some ⟨3, [44], 0, o⟩) := by
    intro i hi
    obtain ⟨⟨a, b, c⟩, d⟩ := tk_true s 1 i hi
    rw [← hts, Nat.add_comm 1 (4 * i)]
    exact ⟨⟨a, b, c⟩, d⟩
  have hloop := loop_ev s ts hs hat s.length 0 rfl (Nat.zero_le _)
  have hfirst : ts[0]? = some ⟨3, [123], 0, 0⟩ := by rw [← hts]; rfl
  obtain ⟨r1, p1, q1⟩ := at_rd hfirst 0 rfl
  have wl : wrap64 (((ts.map toS).length : Int) - 1) = ((ts.length - 1 : Nat) : Int) := by rw [List.length_map]; exact w_pred hts1 hts2
  obtain ⟨r2, p2, q2⟩ := at_rd hlast _ rfl
  have hcount : ((((ts.map toS).length : Int)) != (wrap64 ((wrap64 (2 + (wrap64 (4 * (s.length : Int))))) - (mn (s.length : Int) 1)))) = false := by
    have e := w_count hs
    rw [e, List.length_map, hlts]; exact bne_self_eq_false _
  have hj1 : Ev (fun k => intervalmonlaw06_LexerLabels.j1 k s (ts.map toS) false) true :=
    Ev.step (fun k => by rw [intervalmonlaw06_LexerLabels.j1, if_neg Bool.false_ne_true]; rfl) hloop
  have hj0 : Ev (fun k => intervalmonlaw06_LexerLabels.j0 k s (ts.map toS) false) true := by
    refine Ev.step (fun k => ?_) hj1
    have hb : ((toS ⟨3, [125], 0, o⟩).f1.toList != ([125] : List UInt8)) = false := by
      rw [Lib.toList_data]; exact bne_self_eq_false _
    rw [intervalmonlaw06_LexerLabels.j0, if_neg Bool.false_ne_true, if_pos q1, r1, if_pos (by rw [Lib.toList_data]; rfl), wl, if_pos p2, if_pos q2, r2, hb]
  have hf : Ev (fun k => intervalmonlaw06_LexerLabels.f k l0) true := by
    unfold intervalmonlaw06_LexerLabels.f
    refine Ev.bind h1 ?_
    rw [hT]
    simp only [Option.bind_some]
    refine Ev.bind ht ?_
    refine Ev.congr (fun k => ?_) hj0
    rw [if_pos rfl, hcount]
  exact hf.rounds
end Go.Proofs.YtecojcpccglelaaDoor.Pure
