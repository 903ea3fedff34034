/- The plain law of LexerNames: a string is a name just where it is one word, a value just where, in quotes, it is one text. -/
import Derived.Test.YtecojcpccglelaaDoorGenM
import Derived.Test.YtecojcpccglelaaDoorShortM
import Derived.Test.YtecojcpccglelaaDoorChain
import Derived.Test.YtecojcpccglelaaDoorPAllxN
namespace Go.Proofs.YtecojcpccglelaaDoor.Pure
open Go.RowKit Go.Proofs.YtecojcpccglelaaDoor.PAll Go.Proofs.YtecojcpccglelaaDoorW.PrintWords Go.Proofs.YtecojcpccglelaaDoorW.PrintLast
open Go.Proofs.YtecojcpccglelaaDoor.LexB Go.Proofs.YtecojcpccglelaaDoor.LexA Go.Proofs.YtecojcpccglelaaDoor.Gen Go.Proofs.YtecojcpccglelaaDoor.Spec

theorem lower_is (c : UInt8) : lowerB c = isLetter c := by
  have h := all_u8 (fun c => lowerB c == isLetter c) (by decide +kernel) c
  simpa using h
theorem word_is (c : UInt8) : (lowerB c || otherB c) = isWordC c := by
  have h := all_u8 (fun c => (lowerB c || otherB c) == isWordC c) (by decide +kernel) c
  simpa using h
theorem val_is (c : UInt8) : valB c = isVal c := by
  have h := all_u8 (fun c => valB c == isVal c) (by decide +kernel) c
  simpa using h
theorem letter_white (c : UInt8) (h : isLetter c = true) : isWhite c = false := by
  have h1 := all_u8 (fun c => !isLetter c || isWhite c == false) (by decide +kernel) c
  rw [h] at h1
  simpa using h1
theorem val_quote (c : UInt8) (h : isVal c = true) : notQuote c = true := by
  have h1 := all_u8 (fun c => !isVal c || notQuote c == true) (by decide +kernel) c
  rw [h] at h1
  simpa using h1

theorem nameL_false : ∀ (l : List UInt8), nameL false l = l.all isWordC := by
  intro l
  induction l with
  | nil => rfl
  | cons c l ih => rw [nameL, ih, List.all_cons, ← word_is]; simp

theorem takeWhile_all_of (q : UInt8 → Bool) : ∀ (l : List UInt8), l.all q = true → l.takeWhile q = l := by
  intro l
  induction l with
  | nil => intro _; rfl
  | cons c l ih =>
    intro h
    rw [List.all_cons, Bool.and_eq_true] at h
    rw [List.takeWhile_cons_of_pos h.1, ih h.2]
theorem all_of_takeWhile (q : UInt8 → Bool) : ∀ (l : List UInt8), l.takeWhile q = l → l.all q = true := by
  intro l
  induction l with
  | nil => intro _; rfl
  | cons c l ih =>
    intro h
    by_cases hc : q c = true
    · rw [List.takeWhile_cons_of_pos hc] at h
      injection h with _ h
      rw [List.all_cons, hc, ih h]; rfl
    · rw [List.takeWhile_cons_of_neg hc] at h; cases h

/-- A name is one word. -/
def isName (l : List UInt8) : Bool := if l = [] then false else if (l.length : Int) > 16 then false else nameL true l

/-- What `word` says of an answer. -/
def oneTok (a : List T × Int × Int) (kind : Int) (l : List UInt8) : Bool :=
  match a with
  | ([t], _, e) => decide (e = 0) && (decide (t.kind = kind) && decide (t.text = l))
  | _ => false

theorem name_answer (l : List UInt8) (h : isName l = true) (hl : l.length ≤ 20) : oneTok (answer l) 0 l = true := by
  unfold isName at h
  cases l with
  | nil => simp at h
  | cons c r =>
    rw [if_neg (List.cons_ne_nil _ _)] at h
    split at h
    · cases h
    · rename_i h16
      rw [nameL, nameL_false, Bool.and_eq_true] at h
      obtain ⟨h1, h2⟩ := h
      have hc : isLetter c = true := by rw [← lower_is]; simpa using h1
      have hw := letter_white c hc
      have hwc : isWordC c = true := by unfold isWordC; rw [hc]; rfl
      have htw : (c :: r).takeWhile isWordC = c :: r := takeWhile_all_of _ _ (by rw [List.all_cons, hwc, h2]; rfl)
      have ht : tokS (c :: r) = .tok 0 (c :: r) 0 (c :: r).length := by
        rw [tokS, htw, if_pos hc, if_neg (by omega)]
      have hlex : lex (c :: r).length (c :: r) 0 = ([⟨0, c :: r, 0, 0⟩], none) := by
        rw [List.length_cons, lex, hw, if_neg Bool.false_ne_true, ht]
        dsimp only
        rw [List.drop_length]
        cases r <;> rfl
      unfold answer
      rw [if_neg (by omega), hlex]
      simp [oneTok]

theorem tok_kind0 {l : List UInt8} {t : List UInt8} {n : Int} {size : Nat} (h : tokS l = .tok 0 t n size) : ∃ c r, l = c :: r ∧ isLetter c = true ∧ t = l.takeWhile isWordC ∧ t.length ≤ 16 := by
  cases l with
  | nil => simp [tokS] at h
  | cons c r =>
    rw [tokS] at h
    split at h
    · rename_i hl
      split at h
      · cases h
      · injection h with _ h2 _ _
        exact ⟨c, r, rfl, hl, h2.symm, by rw [← h2]; omega⟩
    · split at h
      · split at h
        · cases h
        · injection h with h1; cases h1
      · split at h
        · unfold quoTok at h
          split at h
          · cases h
          · split at h
            · cases h
            · split at h
              · cases h
              · injection h with h1; cases h1
        · unfold symTok at h
          split at h
          · split at h
            · injection h with h1; cases h1
            · cases h
          · split at h
            · injection h with h1; cases h1
            · cases h

theorem tok_kind2 {l : List UInt8} {t : List UInt8} {n : Int} {size : Nat} (h : tokS l = .tok 2 t n size) : t.all isVal = true ∧ t.length ≤ 16 := by
  cases l with
  | nil => simp [tokS] at h
  | cons c r =>
    rw [tokS] at h
    split at h
    · split at h
      · cases h
      · injection h with h1; cases h1
    · split at h
      · split at h
        · cases h
        · injection h with h1; cases h1
      · split at h
        · unfold quoTok at h
          split at h
          · cases h
          · split at h
            · cases h
            · rename_i hv
              split at h
              · cases h
              · injection h with _ h2 _ _
                rw [← h2]
                exact ⟨by simpa using hv, by omega⟩
        · unfold symTok at h
          split at h
          · split at h
            · injection h with h1; cases h1
            · cases h
          · split at h
            · injection h with h1; cases h1
            · cases h

theorem lex_tok : ∀ (f : Nat) (l : List UInt8) (p : Nat), ∀ t ∈ (lex f l p).1, ∃ l' size, tokS l' = .tok t.kind t.text t.n size := by
  intro f
  induction f with
  | zero => intro l p t h; simp [lex] at h
  | succ f ih =>
    intro l p t h
    cases l with
    | nil => simp [lex] at h
    | cons c r =>
      rw [lex] at h
      split at h
      · exact ih _ _ _ h
      · cases hk : tokS (c :: r) with
        | err e => rw [hk] at h; simp at h
        | tok k t' n size =>
          rw [hk] at h
          rcases List.mem_cons.1 h with rfl | h
          · exact ⟨_, _, hk⟩
          · exact ih _ _ _ h

theorem answer_tok (l : List UInt8) : ∀ t ∈ (answer l).1, ∃ l' size, tokS l' = .tok t.kind t.text t.n size := by
  unfold answer
  split
  · intro t h; cases h
  · have h := lex_tok l.length l 0
    cases hr : lex l.length l 0 with
    | mk ts o =>
      rw [hr] at h
      cases o with
      | none => exact h
      | some ae => intro t ht; cases ht

theorem one_of {A : List T × Int × Int} {kind : Int} {l : List UInt8} (h : oneTok A kind l = true) : ∃ t, t ∈ A.1 ∧ t.kind = kind ∧ t.text = l := by
  obtain ⟨ts, a, e⟩ := A
  match ts, h with
  | [], h => cases h
  | [t], h =>
    simp only [oneTok, Bool.and_eq_true, decide_eq_true_eq] at h
    exact ⟨t, List.mem_singleton.2 rfl, h.2.1, h.2.2⟩
  | _ :: _ :: _, h => cases h

theorem name_is (l : List UInt8) (hl : l.length ≤ 20) : oneTok (answer l) 0 l = isName l := by
  cases hn : isName l with
  | true => exact name_answer l hn hl
  | false =>
    cases ho : oneTok (answer l) 0 l with
    | false => rfl
    | true =>
      obtain ⟨t, ht, hk, hx⟩ := one_of ho
      obtain ⟨l', size, hs⟩ := answer_tok l t ht
      rw [hk, hx] at hs
      obtain ⟨c, r, rfl, hc, hw, h16⟩ := tok_kind0 hs
      have hwc : isWordC c = true := by unfold isWordC; rw [hc]; rfl
      rw [List.takeWhile_cons_of_pos hwc] at hw
      have hall : (r.takeWhile isWordC).all isWordC = true := List.all_eq_true.2 (takeWhile_all isWordC r)
      unfold isName at hn
      rw [hw] at hn h16
      rw [if_neg (List.cons_ne_nil _ _), if_neg (by omega), nameL, nameL_false, hall, lower_is, hc] at hn
      cases hn

def isValue (l : List UInt8) : Bool := if (l.length : Int) > 16 then false else l.all valB

theorem takeWhile_to (q : UInt8 → Bool) (c : UInt8) (hc : q c = false) : ∀ (l : List UInt8), (∀ d ∈ l, q d = true) → (l ++ [c]).takeWhile q = l := by
  intro l
  induction l with
  | nil => intro _; rw [List.nil_append, List.takeWhile_cons_of_neg (by rw [hc]; exact Bool.false_ne_true)]
  | cons d l ih =>
    intro h
    rw [List.cons_append, List.takeWhile_cons_of_pos (h d (List.mem_cons_self ..)), ih (fun e he => h e (List.mem_cons_of_mem _ he))]

theorem value_answer (l : List UInt8) (h : isValue l = true) : oneTok (answer (34 :: (l ++ [34]))) 2 l = true := by
  unfold isValue at h
  split at h
  · cases h
  · rename_i h16
    have hv : l.all isVal = true := by
      rw [← h]; congr 1; funext c; exact (val_is c).symm
    have hq : ∀ d ∈ l, notQuote d = true := fun d hd => val_quote d (List.all_eq_true.1 hv d hd)
    have htw := takeWhile_to notQuote 34 (by decide) l hq
    have ht : tokS (34 :: (l ++ [34])) = .tok 2 l 0 (l.length + 2) := by
      rw [tokS, if_neg (by decide), if_neg (by decide), if_pos (by decide)]
      unfold quoTok
      rw [htw, if_neg (by rw [List.length_append, List.length_cons, List.length_nil]; omega), if_neg (by rw [hv]; decide), if_neg (by omega)]
    have hlen : (34 :: (l ++ [34])).length = l.length + 2 := by rw [List.length_cons, List.length_append]; rfl
    have hlex : lex (34 :: (l ++ [34])).length (34 :: (l ++ [34])) 0 = ([⟨2, l, 0, 0⟩], none) := by
      rw [hlen, show l.length + 2 = (l.length + 1) + 1 from rfl, lex, if_neg (by decide), ht]
      dsimp only
      rw [← hlen, List.drop_length]
      rfl
    unfold answer
    rw [hlen, if_neg (by omega), ← hlen, hlex]
    simp [oneTok]

theorem value_is (l : List UInt8) : oneTok (answer (34 :: (l ++ [34]))) 2 l = isValue l := by
  cases hn : isValue l with
  | true => exact value_answer l hn
  | false =>
    cases ho : oneTok (answer (34 :: (l ++ [34]))) 2 l with
    | false => rfl
    | true =>
      obtain ⟨t, ht, hk, hx⟩ := one_of ho
      obtain ⟨l', size, hs⟩ := answer_tok _ t ht
      rw [hk, hx] at hs
      obtain ⟨hv, h16⟩ := tok_kind2 hs
      have hv' : l.all valB = true := by rw [← hv]; congr 1; funext c; exact val_is c
      unfold isValue at hn
      rw [if_neg (by omega), hv'] at hn
      cases hn

theorem pick_ev {F : Bool → Nat → Option Bool} {r : Bool} (A : List T × Int × Int) (kind : Int) (s : ByteArray) (h : Ev (F (oneTok A kind s.data.toList)) r) :
    Ev (fun k => if A.2.2 = 0 then (if ((A.1.map toS).length : Int) = 1 then (if 0 < ((A.1.map toS).length : Int) then (if (rd_T37 (A.1.map toS) 0).f0 = kind then F ((rd_T37 (A.1.map toS) 0).f1.toList == s.toList) k else F false k) else none) else F false k) else F false k) r := by
  obtain ⟨ts, a, e⟩ := A
  by_cases he : e = 0
  · match ts, h with
    | [], h => exact Ev.congr (fun k => (if_pos he).trans (if_neg (show ¬ ((0 : Nat) : Int) = 1 by decide))) h
    | [t], h =>
      have hrd := rd37 [t] 0 t rfl
      by_cases hk : t.kind = kind
      · have e1 : ((toS t).f1.toList == s.toList) = oneTok ([t], a, e) kind s.data.toList := by
          have e2 : (toS t).f1.toList = t.text := by rw [Lib.toList_data]; rfl
          rw [e2, Lib.toList_data, oneTok, decide_eq_true he, decide_eq_true hk, Bool.true_and, Bool.true_and]
          by_cases hh : t.text = s.data.toList
          · rw [hh]; simp
          · simp [hh]
        have hk' : (rd_T37 ([t].map toS) ((0 : Nat) : Int)).f0 = kind := by rw [hrd]; exact hk
        have e3 : ((rd_T37 ([t].map toS) ((0 : Nat) : Int)).f1.toList == s.toList) = oneTok ([t], a, e) kind s.data.toList := by rw [hrd]; exact e1
        refine Ev.congr (fun k => (if_pos he).trans ((if_pos rfl).trans ((if_pos (show (0 : Int) < ((1 : Nat) : Int) by decide)).trans ((if_pos hk').trans ?_)))) h
        exact congrArg (fun b => F b k) e3
      · have hk' : ¬ (rd_T37 ([t].map toS) ((0 : Nat) : Int)).f0 = kind := by rw [hrd]; exact hk
        have e3 : oneTok ([t], a, e) kind s.data.toList = false := by rw [oneTok, decide_eq_false hk]; simp
        rw [e3] at h
        exact Ev.congr (fun k => (if_pos he).trans ((if_pos rfl).trans ((if_pos (show (0 : Int) < ((1 : Nat) : Int) by decide)).trans (if_neg hk')))) h
    | t :: u :: v, h =>
      refine Ev.congr (fun k => (if_pos he).trans (if_neg ?_)) h
      simp only [List.map_cons, List.length_cons]; omega
  · have e3 : oneTok (ts, a, e) kind s.data.toList = false := by
      match ts with
      | [] => rfl
      | [t] => rw [oneTok, decide_eq_false he]; rfl
      | _ :: _ :: _ => rfl
    rw [e3] at h
    exact Ev.congr (fun k => if_neg he) h

theorem q_list (s : ByteArray) : (((⟨#[34]⟩ : ByteArray) ++ s) ++ (⟨#[34]⟩ : ByteArray)).data.toList = 34 :: (s.data.toList ++ [34]) := by
  rw [ByteArray.data_append, ByteArray.data_append, Array.toList_append, Array.toList_append]; rfl

theorem name_f (s : ByteArray) : labels_Name.f s = some (isName s.data.toList) := by
  unfold labels_Name.f isName
  rw [Lib.toList_data]; rfl
theorem value_f (s : ByteArray) : labels_Value.f s = some (isValue s.data.toList) := by
  unfold labels_Value.f isValue
  rfl

/-- What stands behind both tests. -/
def leaf (s : ByteArray) (X Y : Bool) (k : Nat) : Option Bool := (labels_Name.f s).bind fun t => (if (X == t) = true then ((labels_Value.f s).bind fun u => (if (Y == u) = true then ((intervalmonlaw06_lives.f k).bind fun v => (some v)) else (some false))) else (some false))

theorem leaf_ev (s : ByteArray) : Ev (leaf s (isName s.data.toList) (isValue s.data.toList)) true := by
  refine Ev.congr (f := fun k => (intervalmonlaw06_lives.f k).bind fun v => some v) (fun k => ?_) (Ev.bind lives_ev (Ev.now _))
  unfold leaf
  rw [name_f, Option.bind_some, if_pos (by simp), value_f, Option.bind_some, if_pos (by simp)]

theorem LexerNames : intervalmonlaw06_LexerNames.Pure := by
  intro a _
  obtain ⟨s, hs, hsz, _⟩ := short_f a 20
  have f1 : 1 + s.size ≤ 9223372036854775807 := by omega
  have e1 : ((⟨#[34]⟩ : ByteArray) ++ s).size = 1 + s.size := size_append _ _
  have f2 : ((⟨#[34]⟩ : ByteArray) ++ s).size + 1 ≤ 9223372036854775807 := by rw [e1]; omega
  have tb := tokens_ev (((⟨#[34]⟩ : ByteArray) ++ s) ++ (⟨#[34]⟩ : ByteArray))
  rw [q_list] at tb
  have hl := leaf_ev s
  rw [← value_is] at hl
  have h2 := pick_ev (F := fun Y k => leaf s (isName s.data.toList) Y k) (answer (34 :: (s.data.toList ++ [34]))) 2 s hl
  rw [← name_is s.data.toList hsz] at h2
  have h3 := pick_ev (F := fun X k => if (answer (34 :: (s.data.toList ++ [34]))).2.2 = 0 then (if (((answer (34 :: (s.data.toList ++ [34]))).1.map toS).length : Int) = 1 then (if 0 < (((answer (34 :: (s.data.toList ++ [34]))).1.map toS).length : Int) then (if (rd_T37 ((answer (34 :: (s.data.toList ++ [34]))).1.map toS) 0).f0 = 2 then leaf s X ((rd_T37 ((answer (34 :: (s.data.toList ++ [34]))).1.map toS) 0).f1.toList == s.toList) k else leaf s X false k) else none) else leaf s X false k) else leaf s X false k) (answer s.data.toList) 0 s h2
  have key : Ev (fun k => intervalmonlaw06_LexerNames.f k a) true := by
    refine Ev.bind (g := fun _ => intervalmonref01_Short.f a 20) ⟨0, fun _ _ => hs⟩ ?_
    refine Ev.bind (tokens_ev s) ?_
    refine Ev.congr (fun k => (if_pos f1).trans (if_pos f2)) ?_
    refine Ev.bind tb ?_
    exact h3
  exact key.rounds

end Go.Proofs.YtecojcpccglelaaDoor.Pure
