/- The program's lexer says what the plain tokens are: for every string of at most 2000 bytes. -/
import Derived.Test.YtecojcpccglelaaDoorSpec
import Derived.Test.YtecojcpccglelaaDoorHandTokensB
namespace Go.Proofs.YtecojcpccglelaaDoor.LexA
open Go.RowKit Go.Proofs.YtecojcpccglelaaDoor.PAll Go.Proofs.YtecojcpccglelaaDoorW.PrintWords Go.Proofs.YtecojcpccglelaaDoorW.PrintLast
open Go.Proofs.YtecojcpccglelaaDoor.Spec

/-! bytes of a string -/
theorem u8_of (c : UInt8) : ((c.toNat : Int).toNat.toUInt8) = c := by simp
theorem all_u8 (P : UInt8 → Bool) (h : ((List.range 256).all fun n => P n.toUInt8) = true) (c : UInt8) : P c = true := by
  have h1 := List.all_eq_true.1 h c.toNat (List.mem_range.2 c.toNat_lt)
  simpa using h1
theorem len_toList (s : ByteArray) : s.data.toList.length = s.size := rfl
theorem drop_lt {s : ByteArray} {p : Nat} {c : UInt8} {r : List UInt8} (h : s.data.toList.drop p = c :: r) : p < s.size := by
  have h1 := congrArg List.length h
  rw [List.length_drop, len_toList, List.length_cons] at h1; omega
theorem drop_len {s : ByteArray} {p : Nat} {l : List UInt8} (h : s.data.toList.drop p = l) (hp : p ≤ s.size) : p + l.length = s.size := by
  have h1 := congrArg List.length h
  rw [List.length_drop, len_toList] at h1; omega
theorem bt_drop {s : ByteArray} {p : Nat} {c : UInt8} {r : List UInt8} (h : s.data.toList.drop p = c :: r) : bt s (p : Int) = (c.toNat : Int) := by
  have hp := drop_lt h
  have h1 := bt_at s (p : Int) (by simpa using hp)
  rw [← h1]
  have h2 : s.data.toList[p]? = some c := by
    have := congrArg (fun l => l[0]?) h
    simpa [List.getElem?_drop] using this
  have h3 := getElem_toList s p hp
  rw [h2] at h3
  injection h3 with h3
  rw [h3]; rfl
theorem drop_next {s : ByteArray} {p : Nat} {c : UInt8} {r : List UInt8} (h : s.data.toList.drop p = c :: r) : s.data.toList.drop (p + 1) = r := by
  rw [← List.drop_drop, h]; rfl
theorem drop_nil {s : ByteArray} {p : Nat} (h : s.data.toList.drop p = []) (hp : p ≤ s.size) : p = s.size := by
  have := drop_len h hp; simpa using this
theorem extract_mk (s : ByteArray) (a b : Nat) : s.extract a b = ⟨((s.data.toList.drop a).take (b - a)).toArray⟩ := Lib.extract_eq s a b
theorem wrap_next {p n : Nat} (h : p < n) (hn : n ≤ 140737488351232) : wrap64 ((p : Int) + 1) = ((p + 1 : Nat) : Int) := by
  unfold wrap64; omega
theorem bytes_eta (s : ByteArray) : (⟨s.data.toList.toArray⟩ : ByteArray) = s := by simp

theorem take_takeWhile (q : UInt8 → Bool) (l : List UInt8) : l.take (l.takeWhile q).length = l.takeWhile q := by
  induction l with
  | nil => rfl
  | cons a l ih =>
    by_cases h : q a = true
    · rw [List.takeWhile_cons_of_pos h]; simp [ih]
    · rw [List.takeWhile_cons_of_neg h]; rfl

/-! membership in the sets -/
theorem ix_mem (l : List UInt8) (c : UInt8) : (0 ≤ Lib.indexByte l c) ↔ c ∈ l := by
  induction l with
  | nil => simp [Lib.indexByte]
  | cons b l ih =>
    unfold Lib.indexByte
    by_cases hb : b = c
    · subst hb; simp
    · rw [if_neg (by simpa using hb)]
      have hge : -1 ≤ Lib.indexByte l c := by
        rcases ix_cases l c with h | ⟨i, h, _⟩ <;> omega
      by_cases hm : Lib.indexByte l c = -1
      · have hn : c ∉ l := fun h => by have := ih.2 h; omega
        rw [if_pos (by simpa using hm)]
        constructor
        · intro h; omega
        · intro h
          rcases List.mem_cons.1 h with h | h
          · exact (hb h.symm).elim
          · exact (hn h).elim
      · rw [if_neg (by simpa using hm)]
        have hm2 : 0 ≤ Lib.indexByte l c := by omega
        constructor
        · intro _; exact List.mem_cons_of_mem _ (ih.1 hm2)
        · intro _; omega

/-! strings.IndexByte at a byte of a string -/
theorem index_at (set : ByteArray) (c : UInt8) : strings_IndexByte.f set (c.toNat : Int) = some (Lib.indexByte set.data.toList c) := by
  unfold strings_IndexByte.f; rw [u8_of]

/-! prefix -/
theorem prefix_ev (s set : ByteArray) (q : UInt8 → Bool) (hq : ∀ c, c ∈ set.data.toList ↔ q c = true) (hs : s.size ≤ 140737488351232) :
    ∀ (l : List UInt8) (p : Nat), s.data.toList.drop p = l → p ≤ s.size → Ev (fun k => lexer_prefix.l0 k s set (p : Int)) (s.extract 0 (p + (l.takeWhile q).length)) := by
  intro l
  induction l with
  | nil =>
    intro p h hp
    have he := drop_nil h hp
    refine Ev.step (f := fun _ => some (s.extract 0 p)) (fun k => ?_) (Ev.now _)
    simp only [lexer_prefix.l0]
    rw [if_neg (by omega), if_pos (by omega), if_pos (by omega), Int.toNat_natCast]
  | cons c r ih =>
    intro p h hp
    have hlt := drop_lt h
    have hb := bt_drop h
    by_cases hc : q c = true
    · have hi := ih (p + 1) (drop_next h) hlt
      rw [List.takeWhile_cons_of_pos hc, List.length_cons, show p + ((r.takeWhile q).length + 1) = p + 1 + (r.takeWhile q).length from by omega]
      refine Ev.step (fun k => ?_) hi
      simp only [lexer_prefix.l0]
      rw [if_pos (by omega), if_pos (by omega), hb, index_at, Option.bind_some, if_pos ((ix_mem _ _).2 ((hq c).2 hc)), wrap_next hlt hs]
    · rw [List.takeWhile_cons_of_neg hc]
      refine Ev.step (f := fun _ => some (s.extract 0 p)) (fun k => ?_) (Ev.now _)
      simp only [lexer_prefix.l0]
      rw [if_pos (by omega), if_pos (by omega), hb, index_at, Option.bind_some, if_neg (fun h' => hc ((hq c).1 ((ix_mem _ _).1 h'))), if_pos (by omega), Int.toNat_natCast]

theorem prefix_all (s set : ByteArray) (q : UInt8 → Bool) (hq : ∀ c, c ∈ set.data.toList ↔ q c = true) (hs : s.size ≤ 140737488351232) :
    Ev (fun k => lexer_prefix.f k s set) ⟨(s.data.toList.takeWhile q).toArray⟩ := by
  have h := prefix_ev s set q hq hs s.data.toList 0 rfl (Nat.zero_le _)
  rw [extract_mk, Nat.zero_add, Nat.sub_zero, List.drop_zero, take_takeWhile] at h
  exact h

/-! numbers -/
theorem numL_eq : ∀ (l : List UInt8) (n : Int), numL l n = num l n := by
  intro l
  induction l with
  | nil => intro n; rfl
  | cons c l ih =>
    intro n
    unfold numL num
    split
    · rfl
    · exact ih _

/-- What the program's function gives of a token. -/
def enc : TokR → Int × ByteArray × Int × Int × Int × Int
  | .err e => (0, ⟨#[]⟩, 0, 0, 0, e)
  | .tok k t n size => (k, ⟨t.toArray⟩, n, 0, size, 0)

def numTok (l : List UInt8) : TokR := match num l 0 with | none => .err 5 | some n => .tok 1 l n l.length

theorem number_enc (l : List UInt8) (hd : ∀ c ∈ l, isDigit c = true) (hs : l.length ≤ 140737488351232) : lexer_number.f ⟨l.toArray⟩ = some (enc (numTok l)) := by
  unfold lexer_number.f
  have e1 : (⟨l.toArray⟩ : ByteArray).data.toList = l := by simp
  have e2 : (⟨l.toArray⟩ : ByteArray).size = l.length := by simp [ByteArray.size]
  have hall : (l.all fun c => decide (48 ≤ c.toNat) && decide (c.toNat ≤ 57)) = true := by
    rw [List.all_eq_true]
    intro c hc
    exact hd c hc
  rw [e1, e2, if_pos ⟨hall, hs⟩, numL_eq]
  unfold numTok
  cases num l 0 <;> rfl

theorem takeWhile_all (q : UInt8 → Bool) (l : List UInt8) : ∀ c ∈ l.takeWhile q, q c = true := by
  intro c hc
  induction l with
  | nil => simp at hc
  | cons a l ih =>
    by_cases h : q a = true
    · rw [List.takeWhile_cons_of_pos h] at hc
      rcases List.mem_cons.1 hc with rfl | hc
      · exact h
      · exact ih hc
    · rw [List.takeWhile_cons_of_neg h] at hc; simp at hc

/-! strings in quotes -/
theorem ix_quote (l : List UInt8) : Lib.indexByte l 34 = if (l.takeWhile notQuote).length = l.length then -1 else ((l.takeWhile notQuote).length : Int) := by
  induction l with
  | nil => rfl
  | cons b l ih =>
    unfold Lib.indexByte
    by_cases hb : b = 34
    · subst hb
      rw [List.takeWhile_cons_of_neg (by decide)]; simp
    · have hq : notQuote b = true := by unfold notQuote; simpa using hb
      rw [if_neg (by simpa using hb), List.takeWhile_cons_of_pos hq, ih]
      simp only [List.length_cons]
      by_cases he : (l.takeWhile notQuote).length = l.length
      · have h1 : (-1 : Int) == -1 := rfl
        rw [if_pos he, if_pos h1, if_pos (by omega)]
      · have h1 : ¬ (((l.takeWhile notQuote).length : Int) == -1) = true := by simp
        have h2 : ¬ ((l.takeWhile notQuote).length + 1 = l.length + 1) := by omega
        rw [if_neg he, if_neg h1, if_neg h2]
        omega

theorem cut_quote (s : ByteArray) (hs : s.size ≤ 140737488351232) :
    strings_Cut.f s ⟨#[34]⟩ = some (if (s.data.toList.takeWhile notQuote).length = s.size then (s, ⟨#[]⟩, false)
      else (⟨(s.data.toList.takeWhile notQuote).toArray⟩, s.extract ((s.data.toList.takeWhile notQuote).length + 1) s.size, true)) := by
  unfold strings_Cut.f
  rw [if_pos ⟨rfl, hs⟩]
  congr 1
  show cut1 s 34 = _
  unfold cut1
  rw [ix_quote, len_toList]
  by_cases he : (s.data.toList.takeWhile notQuote).length = s.size
  · rw [if_pos he, if_pos rfl, if_pos he]
  · rw [if_neg he, if_neg (by omega), if_neg he, Int.toNat_natCast]
    have : s.extract 0 (s.data.toList.takeWhile notQuote).length = ⟨(s.data.toList.takeWhile notQuote).toArray⟩ := by
      rw [extract_mk, Nat.sub_zero, List.drop_zero, take_takeWhile]
    rw [this]

theorem excl (c : UInt8) : (decide ((c.toNat : Int) ≤ 32) || decide ((c.toNat : Int) > 126) || decide (c ∈ (⟨#[34, 92, 44, 123, 125]⟩ : ByteArray).data.toList)) = !isVal c := by
  have h := all_u8 (fun c => (decide ((c.toNat : Int) ≤ 32) || decide ((c.toNat : Int) > 126) || decide (c ∈ (⟨#[34, 92, 44, 123, 125]⟩ : ByteArray).data.toList)) == !isVal c) (by decide +kernel) c
  simpa using h

theorem quoted_loop (s : ByteArray) (hs : s.size ≤ 140737488351232) :
    ∀ (l : List UInt8) (p : Nat), s.data.toList.drop p = l → p ≤ s.size → Ev (fun k => lexer_quoted.l0 k s (s.size : Int) (p : Int))
      (if l.all isVal = false then enc (.err 2) else if s.size > 16 then enc (.err 4) else (2, s, 0, 0, (s.size : Int) + 2, 0)) := by
  intro l
  induction l with
  | nil =>
    intro p h hp
    have he := drop_nil h hp
    refine Ev.step (f := fun _ => some (if s.size > 16 then enc (.err 4) else (2, s, 0, 0, (s.size : Int) + 2, 0))) (fun k => ?_) ?_
    · simp only [lexer_quoted.l0]
      rw [if_neg (by omega)]
      by_cases h16 : s.size > 16
      · rw [if_pos (by omega), if_pos h16]; rfl
      · rw [if_neg (by omega), if_neg h16]
        have : wrap64 ((s.size : Int) + 2) = (s.size : Int) + 2 := by unfold wrap64; omega
        rw [this]
    · rw [List.all_nil, if_neg (show ¬ (true = false) by decide)]; exact Ev.now _
  | cons c r ih =>
    intro p h hp
    have hlt := drop_lt h
    have hb := bt_drop h
    have hx := excl c
    by_cases hv : isVal c = true
    · rw [hv] at hx
      simp only [Bool.not_true, Bool.or_eq_false_iff, decide_eq_false_iff_not] at hx
      have hi := ih (p + 1) (drop_next h) hlt
      rw [List.all_cons, hv, Bool.true_and]
      refine Ev.step (fun k => ?_) hi
      simp only [lexer_quoted.l0]
      rw [if_pos (by omega), if_pos (by omega), if_pos (by omega), hb, if_neg hx.1.1, if_neg hx.1.2, index_at, Option.bind_some, if_neg (fun h' => hx.2 ((ix_mem _ _).1 h')), wrap_next hlt hs]
    · have hv' : isVal c = false := by simpa using hv
      rw [hv'] at hx
      rw [List.all_cons, hv', Bool.false_and, if_pos rfl]
      refine Ev.step (f := fun _ => some (enc (.err 2))) (fun k => ?_) (Ev.now _)
      simp only [lexer_quoted.l0]
      rw [if_pos (by omega), if_pos (by omega), if_pos (by omega), hb]
      by_cases h1 : (c.toNat : Int) ≤ 32
      · rw [if_pos h1]; rfl
      · rw [if_neg h1]
        by_cases h2 : (c.toNat : Int) > 126
        · rw [if_pos h2]; rfl
        · rw [if_neg h2, index_at, Option.bind_some]
          have h3 : c ∈ (⟨#[34, 92, 44, 123, 125]⟩ : ByteArray).data.toList := by
            simpa [h1, h2] using hx
          rw [if_pos ((ix_mem _ _).2 h3)]; rfl

theorem quoted_ev (s : ByteArray) (hs : s.size ≤ 140737488351232) : Ev (fun k => lexer_quoted.f k s) (enc (quoTok s.data.toList)) := by
  unfold quoTok
  rw [len_toList]
  by_cases he : (s.data.toList.takeWhile notQuote).length = s.size
  · rw [if_pos he]
    refine Ev.congr (f := fun _ => some (enc (.err 2))) (fun k => ?_) (Ev.now _)
    unfold lexer_quoted.f
    rw [cut_quote s hs, if_pos he]; rfl
  · rw [if_neg he]
    have e1 : (⟨(s.data.toList.takeWhile notQuote).toArray⟩ : ByteArray).data.toList = s.data.toList.takeWhile notQuote := by simp
    have e2 : (⟨(s.data.toList.takeWhile notQuote).toArray⟩ : ByteArray).size = (s.data.toList.takeWhile notQuote).length := by simp [ByteArray.size]
    have hl := takeWhile_length_le notQuote s.data.toList
    rw [len_toList] at hl
    have hq := quoted_loop ⟨(s.data.toList.takeWhile notQuote).toArray⟩ (by rw [e2]; omega) _ 0 rfl (Nat.zero_le _)
    rw [List.drop_zero, e1, e2] at hq
    refine Ev.congr (f := fun k => lexer_quoted.l0 k ⟨(s.data.toList.takeWhile notQuote).toArray⟩ ((s.data.toList.takeWhile notQuote).length : Int) ((0 : Nat) : Int)) (fun k => ?_) ?_
    · unfold lexer_quoted.f
      rw [cut_quote s hs, if_neg he]
      simp only [Option.bind_some, if_true]
      rw [e2]; rfl
    · have e3 : (if (s.data.toList.takeWhile notQuote).all isVal = false then enc (.err 2) else if (s.data.toList.takeWhile notQuote).length > 16 then enc (.err 4) else ((2 : Int), (⟨(s.data.toList.takeWhile notQuote).toArray⟩ : ByteArray), (0 : Int), (0 : Int), ((s.data.toList.takeWhile notQuote).length : Int) + 2, (0 : Int))) = enc (if (s.data.toList.takeWhile notQuote).all isVal = false then .err 2 else if (s.data.toList.takeWhile notQuote).length > 16 then .err 4 else .tok 2 (s.data.toList.takeWhile notQuote) 0 ((s.data.toList.takeWhile notQuote).length + 2)) := by
        split
        · rfl
        · split
          · rfl
          · rfl
      rw [← e3]; exact hq

/-! the token -/
def lettersB : ByteArray := ⟨#[97, 98, 99, 100, 101, 102, 103, 104, 105, 106, 107, 108, 109, 110, 111, 112, 113, 114, 115, 116, 117, 118, 119, 120, 121, 122]⟩
def wordB : ByteArray := ⟨#[97, 98, 99, 100, 101, 102, 103, 104, 105, 106, 107, 108, 109, 110, 111, 112, 113, 114, 115, 116, 117, 118, 119, 120, 121, 122, 48, 49, 50, 51, 52, 53, 54, 55, 56, 57, 95]⟩
def digitsB : ByteArray := ⟨#[48, 49, 50, 51, 52, 53, 54, 55, 56, 57]⟩
def symB : ByteArray := ⟨#[43, 45, 42, 47, 40, 41, 123, 125, 44, 46, 64, 61, 33, 94]⟩
theorem mem_of {B : ByteArray} {q : UInt8 → Bool} (h : ((List.range 256).all fun n => decide (n.toUInt8 ∈ B.data.toList) == q n.toUInt8) = true) (c : UInt8) : c ∈ B.data.toList ↔ q c = true := by
  have h1 := all_u8 (fun c => decide (c ∈ B.data.toList) == q c) h c
  have h2 : decide (c ∈ B.data.toList) = q c := by simpa using h1
  rw [← h2]; simp
theorem letters_mem (c : UInt8) : c ∈ lettersB.data.toList ↔ isLetter c = true := mem_of (by decide +kernel) c
theorem word_mem (c : UInt8) : c ∈ wordB.data.toList ↔ isWordC c = true := mem_of (by decide +kernel) c
theorem digits_mem (c : UInt8) : c ∈ digitsB.data.toList ↔ isDigit c = true := mem_of (by decide +kernel) c
theorem sym_mem (c : UInt8) : c ∈ symB.data.toList ↔ (decide (c ∈ syms) || c == 33 || c == 94) = true := mem_of (B := symB) (q := fun c => decide (c ∈ syms) || c == 33 || c == 94) (by decide +kernel) c

theorem index_in {B : ByteArray} {q : UInt8 → Bool} (hq : ∀ c, c ∈ B.data.toList ↔ q c = true) (c : UInt8) : ∃ i : Int, strings_IndexByte.f B (c.toNat : Int) = some i ∧ (i ≥ 0 ↔ q c = true) :=
  ⟨_, index_at B c, (ix_mem _ _).trans (hq c)⟩

theorem sym_ev (s : ByteArray) (c : UInt8) (r : List UInt8) (h : s.data.toList = c :: r) :
    Ev (fun k => lexer_token.j0 k s 1 (decide (c = 33) || decide (c = 94))) (enc (symTok c r)) := by
  have hz : s.size = r.length + 1 := by rw [← len_toList, h]; rfl
  have hb : bt s 0 = (c.toNat : Int) := bt_drop (p := 0) (by simpa using h)
  obtain ⟨i, hi, hm⟩ := index_in sym_mem c
  have hsym : ∀ i, strings_IndexByte.f (⟨#[43, 45, 42, 47, 40, 41, 123, 125, 44, 46, 64, 61, 33, 94]⟩ : ByteArray) i = strings_IndexByte.f symB i := fun _ => rfl
  have e01 : s.extract 0 1 = ⟨#[c]⟩ := by rw [extract_mk, h]; rfl
  by_cases hc : (c == 33 || c == 94) = true
  · have hc' : (decide (c = 33) || decide (c = 94)) = true := by simpa using hc
    have hin : i ≥ 0 := hm.2 (by rw [Bool.or_assoc, hc]; simp)
    rw [hc']
    unfold symTok
    rw [if_pos hc]
    cases r with
    | nil =>
      refine Ev.step (f := fun _ => some (enc (.err 2))) (fun k => ?_) (Ev.now _)
      simp only [lexer_token.j0, if_true]
      rw [if_pos (by rw [hz]; simp)]; rfl
    | cons a r =>
      have hb1 : bt s 1 = (a.toNat : Int) := bt_drop (p := 1) (by rw [h]; rfl)
      have e02 : s.extract 0 2 = ⟨#[c, a]⟩ := by rw [extract_mk, h]; rfl
      refine Ev.step (f := fun _ => some (enc (if (a :: r).head? = some 61 then .tok 3 [c, 61] 0 2 else .err 2))) (fun k => ?_) (Ev.now _)
      simp only [lexer_token.j0, if_true]
      have n1 : ¬ (2 : Int) > (s.size : Int) := by rw [hz]; simp only [List.length_cons]; omega
      have p1 : (0 : Int) < (s.size : Int) := by omega
      have p2 : (1 : Int) < (s.size : Int) := by rw [hz]; simp only [List.length_cons]; omega
      have p3 : (2 : Int) ≤ (s.size : Int) := by rw [hz]; simp only [List.length_cons]; omega
      rw [if_neg n1, if_pos p1, hb, hsym, hi, Option.bind_some, if_neg (by omega), if_pos p2, hb1]
      by_cases ha : a = 61
      · subst ha
        rw [if_pos (by decide), if_pos (by decide), if_pos p3, e02, if_pos (by rfl)]; rfl
      · have ha' : ¬ (a.toNat : Int) = 61 := by
          intro h'
          apply ha
          have : a.toNat = 61 := by omega
          exact UInt8.toNat_inj.1 this
        rw [if_neg ha', if_neg (by simpa using ha)]; rfl
  · have hc0 : (c == 33 || c == 94) = false := by simpa using hc
    have hc' : (decide (c = 33) || decide (c = 94)) = false := by simpa using hc0
    rw [hc']
    unfold symTok
    rw [if_neg hc]
    refine Ev.step (f := fun _ => some (enc (if c ∈ syms then .tok 3 [c] 0 1 else .err 2))) (fun k => ?_) (Ev.now _)
    simp only [lexer_token.j0]
    have n1 : ¬ (1 : Int) > (s.size : Int) := by omega
    have p1 : (0 : Int) < (s.size : Int) := by omega
    rw [if_neg (show ¬ (false = true) by decide), if_neg n1, if_pos p1, hb, hsym, hi, Option.bind_some]
    by_cases hs : c ∈ syms
    · have hin : i ≥ 0 := hm.2 (by simp [hs])
      rw [if_neg (by omega), if_neg (by decide), if_pos (by decide), if_pos (by omega), if_pos hs]
      show some ((3 : Int), s.extract 0 1, _) = _
      rw [e01]; rfl
    · have hin : ¬ i ≥ 0 := fun h' => by
        have := hm.1 h'
        rw [Bool.or_assoc, hc0] at this
        simp [hs] at this
      rw [if_pos (by omega), if_neg hs]; rfl

theorem token_ev (s : ByteArray) (c : UInt8) (r : List UInt8) (h : s.data.toList = c :: r) (hs : s.size ≤ 2000) : Ev (fun k => lexer_token.f k s) (enc (tokS (c :: r))) := by
  have hz : s.size = r.length + 1 := by rw [← len_toList, h]; rfl
  have hb : bt s 0 = (c.toNat : Int) := bt_drop (p := 0) (by simpa using h)
  have p1 : (0 : Int) < (s.size : Int) := by omega
  obtain ⟨i, hi, hmi⟩ := index_in letters_mem c
  obtain ⟨j, hj, hmj⟩ := index_in digits_mem c
  have h1 : ∀ i, strings_IndexByte.f (⟨#[97, 98, 99, 100, 101, 102, 103, 104, 105, 106, 107, 108, 109, 110, 111, 112, 113, 114, 115, 116, 117, 118, 119, 120, 121, 122]⟩ : ByteArray) i = strings_IndexByte.f lettersB i := fun _ => rfl
  have h2 : ∀ i, strings_IndexByte.f (⟨#[48, 49, 50, 51, 52, 53, 54, 55, 56, 57]⟩ : ByteArray) i = strings_IndexByte.f digitsB i := fun _ => rfl
  have hlenw := takeWhile_length_le isWordC (c :: r)
  have hlend := takeWhile_length_le isDigit (c :: r)
  simp only [List.length_cons] at hlenw hlend
  rw [tokS]
  by_cases hl : isLetter c = true
  · rw [if_pos hl]
    have hw := prefix_all s wordB isWordC word_mem (by omega)
    rw [h] at hw
    have e2 : (⟨((c :: r).takeWhile isWordC).toArray⟩ : ByteArray).size = ((c :: r).takeWhile isWordC).length := by simp [ByteArray.size]
    refine Ev.congr (f := fun k => (lexer_prefix.f k s wordB).bind fun t => if (t.size : Int) > 16 then some (0, ⟨#[]⟩, 0, 0, 0, 4) else some (0, t, 0, 0, (t.size : Int), 0)) (fun k => ?_) ?_
    · unfold lexer_token.f
      rw [if_pos p1, hb, h1, hi, Option.bind_some, if_pos (hmi.2 hl)]; rfl
    · refine Ev.bind hw ?_
      rw [e2]
      by_cases h16 : ((c :: r).takeWhile isWordC).length > 16
      · rw [if_pos h16, if_pos (by omega)]; exact Ev.now _
      · rw [if_neg h16, if_neg (by omega)]; exact Ev.now _
  · rw [if_neg hl]
    by_cases hd : isDigit c = true
    · rw [if_pos hd]
      have hw := prefix_all s digitsB isDigit digits_mem (by omega)
      rw [h] at hw
      have hn := number_enc ((c :: r).takeWhile isDigit) (takeWhile_all _ _) (by omega)
      refine Ev.congr (f := fun k => (lexer_prefix.f k s digitsB).bind fun t => (lexer_number.f t).bind fun u => some (u.1, u.2.1, u.2.2.1, u.2.2.2.1, u.2.2.2.2.1, u.2.2.2.2.2)) (fun k => ?_) ?_
      · unfold lexer_token.f
        rw [if_pos p1, hb, h1, hi, Option.bind_some, if_neg (fun h' => hl (hmi.1 h')), h2, hj, Option.bind_some, if_pos (hmj.2 hd)]; rfl
      · refine Ev.bind hw ?_
        rw [hn]
        exact Ev.now _
    · rw [if_neg hd]
      have hq34 : (bt s 0 = 34) ↔ (c == 34) = true := by
        rw [hb]
        constructor
        · intro h'
          have : c.toNat = 34 := by omega
          have : c = 34 := UInt8.toNat_inj.1 this
          simp [this]
        · intro h'
          have : c = 34 := by simpa using h'
          subst this; rfl
      by_cases hq : (c == 34) = true
      · rw [if_pos hq]
        have hr : (s.extract 1 s.size).data.toList = r := by
          rw [extract_mk, h]
          simp only [List.drop_succ_cons, List.drop_zero]
          rw [List.take_of_length_le (by omega)]
        have hrs : (s.extract 1 s.size).size ≤ 140737488351232 := by rw [← len_toList, hr]; omega
        have hqe := quoted_ev (s.extract 1 s.size) hrs
        rw [hr] at hqe
        refine Ev.congr (f := fun k => (lexer_quoted.f k (s.extract 1 s.size)).bind fun u => some (u.1, u.2.1, u.2.2.1, u.2.2.2.1, u.2.2.2.2.1, u.2.2.2.2.2)) (fun k => ?_) ?_
        · unfold lexer_token.f
          rw [if_pos p1, hb, h1, hi, Option.bind_some, if_neg (fun h' => hl (hmi.1 h')), h2, hj, Option.bind_some, if_neg (fun h' => hd (hmj.1 h')), if_pos (by rw [← hb]; exact hq34.2 hq), if_pos (by omega)]
        · exact Ev.bind hqe (Ev.now _)
      · rw [if_neg hq]
        have hse := sym_ev s c r h
        refine Ev.congr (fun k => ?_) hse
        unfold lexer_token.f
        rw [if_pos p1, hb, h1, hi, Option.bind_some, if_neg (fun h' => hl (hmi.1 h')), h2, hj, Option.bind_some, if_neg (fun h' => hd (hmj.1 h')), if_neg (by rw [← hb]; exact fun h' => hq (hq34.1 h'))]
        by_cases h33 : c = 33
        · subst h33
          rw [if_pos (by decide)]; rfl
        · have h33' : ¬ (c.toNat : Int) = 33 := fun h' => h33 (UInt8.toNat_inj.1 (show c.toNat = 33 by omega))
          rw [if_neg h33']
          have : ((c.toNat : Int) == 94) = (decide (c = 33) || decide (c = 94)) := by
            by_cases h94 : c = 94
            · subst h94; decide
            · have h94' : ¬ (c.toNat : Int) = 94 := fun h' => h94 (UInt8.toNat_inj.1 (show c.toNat = 94 by omega))
              simp [h33, h94, h94']
          rw [this]

/-! the source -/
theorem err_pos {l : List UInt8} {e : Int} (h : tokS l = .err e) : e ≠ 0 ∧ (e = 2 ∨ e = 4 ∨ e = 5) := by
  suffices hh : e = 2 ∨ e = 4 ∨ e = 5 by omega
  cases l with
  | nil => rw [tokS] at h; injection h with h; omega
  | cons c r =>
    rw [tokS] at h
    split at h
    · split at h
      · injection h with h; omega
      · cases h
    · split at h
      · split at h
        · injection h with h; omega
        · cases h
      · split at h
        · unfold quoTok at h
          split at h
          · injection h with h; omega
          · split at h
            · injection h with h; omega
            · split at h
              · injection h with h; omega
              · cases h
        · unfold symTok at h
          split at h
          · split at h
            · cases h
            · injection h with h; omega
          · split at h
            · cases h
            · injection h with h; omega

def toS (t : T) : S37 := ⟨t.kind, ⟨t.text.toArray⟩, t.n, t.off⟩

/-- What lexer_all gives. -/
def outA (size : Nat) (r : List T × Option (Nat × Int)) : List S37 × Int × Int :=
  (r.1.map toS, match r.2 with | none => ((size : Int), 0) | some (a, e) => ((a : Int), e))

theorem white_mem (c : UInt8) : ([9, 10, 13, 32] : List UInt8).contains c = isWhite c := by
  have h := all_u8 (fun c => ([9, 10, 13, 32] : List UInt8).contains c == isWhite c) (by decide +kernel) c
  simpa using h

theorem lex_white : ∀ (l : List UInt8) (p : Nat), lex l.length l p = lex (l.dropWhile isWhite).length (l.dropWhile isWhite) (p + (l.length - (l.dropWhile isWhite).length)) := by
  intro l
  induction l with
  | nil => intro p; rfl
  | cons c r ih =>
    intro p
    by_cases h : isWhite c = true
    · rw [List.dropWhile_cons_of_pos h, List.length_cons, lex]
      rw [if_pos h, ih (p + 1)]
      have hl : (r.dropWhile isWhite).length ≤ r.length := (List.dropWhile_sublist _).length_le
      congr 1
      omega
    · rw [List.dropWhile_cons_of_neg h, Nat.sub_self, Nat.add_zero]

theorem dropWhile_head {l : List UInt8} {c : UInt8} {r : List UInt8} (h : l.dropWhile isWhite = c :: r) : isWhite c = false := by
  induction l with
  | nil => cases h
  | cons a l ih =>
    by_cases ha : isWhite a = true
    · rw [List.dropWhile_cons_of_pos ha] at h; exact ih h
    · rw [List.dropWhile_cons_of_neg ha] at h
      injection h with h1 h2
      subst h1; simpa using ha

theorem dropWhile_eq_drop (l : List UInt8) : l.dropWhile isWhite = l.drop (l.length - (l.dropWhile isWhite).length) := by
  induction l with
  | nil => rfl
  | cons a l ih =>
    have hl : (l.dropWhile isWhite).length ≤ l.length := (List.dropWhile_sublist _).length_le
    by_cases ha : isWhite a = true
    · rw [List.dropWhile_cons_of_pos ha, List.length_cons, show l.length + 1 - (l.dropWhile isWhite).length = (l.length - (l.dropWhile isWhite).length) + 1 from by omega, List.drop_succ_cons]
      exact ih
    · rw [List.dropWhile_cons_of_neg ha, Nat.sub_self, List.drop_zero]

theorem rest_list (s : ByteArray) (p : Nat) : (lexer_rest s (p : Int)).data.toList = (s.data.toList.drop p).dropWhile isWhite := by
  unfold lexer_rest Lib.trimLeftS
  rw [Int.toNat_natCast]
  have : (fun c => ([9, 10, 13, 32] : List UInt8).contains c) = isWhite := funext white_mem
  simp only [this]

theorem all_ev (s : ByteArray) (hs : s.size ≤ 2000) : ∀ (d : Nat) (p : Nat), s.size - p = d → p ≤ s.size →
    Ev (fun k => lexer_all k s (p : Int)) (outA s.size (lex (s.data.toList.drop p).length (s.data.toList.drop p) p)) := by
  intro d
  induction d using Nat.strongRecOn with
  | _ d ih =>
    intro p hd hp
    have hR := rest_list s p
    have hlen : ((s.data.toList.drop p).dropWhile isWhite).length = (lexer_rest s (p : Int)).size := by rw [← hR]; rfl
    have hle : ((s.data.toList.drop p).dropWhile isWhite).length ≤ (s.data.toList.drop p).length := (List.dropWhile_sublist _).length_le
    have hdl : (s.data.toList.drop p).length = s.size - p := by rw [List.length_drop, len_toList]
    rw [lex_white, hlen]
    have hdd := dropWhile_eq_drop (s.data.toList.drop p)
    rw [List.drop_drop, hlen, hdl] at hdd
    rw [hlen, hdl] at hle
    rw [hdl]
    cases hl : (s.data.toList.drop p).dropWhile isWhite with
    | nil =>
      have hz : (lexer_rest s (p : Int)).size = 0 := by rw [← hlen, hl]; rfl
      refine Ev.step (f := fun _ => some ([], (s.size : Int), 0)) (fun k => ?_) ?_
      · simp only [lexer_all]
        rw [if_pos ⟨by omega, by omega⟩, if_pos hz]
      · rw [hz]; exact Ev.now _
    | cons c r =>
      have hz : (lexer_rest s (p : Int)).size = r.length + 1 := by rw [← hlen, hl]; rfl
      have hw := dropWhile_head hl
      have ht := token_ev (lexer_rest s (p : Int)) c r (by rw [hR, hl]) (by omega)
      have hpos : (s.size : Int) - ((lexer_rest s (p : Int)).size : Int) = ((p + (s.size - p - (lexer_rest s (p : Int)).size) : Nat) : Int) := by omega
      obtain ⟨q, hq⟩ : ∃ q, q = p + (s.size - p - (lexer_rest s (p : Int)).size) := ⟨_, rfl⟩
      rw [← hq] at hpos hdd ⊢
      rw [hl] at hdd
      refine Ev.step (f := fun k => (lexer_token.f k (lexer_rest s (p : Int))).bind fun t =>
        if t.2.2.2.2.2 = 0 then
          if 1 ≤ t.2.2.2.2.1 ∧ t.2.2.2.2.1 ≤ (lexer_rest s (p : Int)).size then
            (lexer_all k s (((q : Nat) : Int) + t.2.2.2.2.1)).bind fun u =>
              some (⟨t.1, t.2.1, t.2.2.1, ((q : Nat) : Int)⟩ :: u.1, u.2.1, u.2.2)
          else none
        else some ([], ((q : Nat) : Int), t.2.2.2.2.2)) (fun k => ?_) (Ev.bind ht ?_)
      · simp only [lexer_all]
        rw [if_pos ⟨by omega, by omega⟩, if_neg (by omega), hpos]
      · rw [hz, lex]
        rw [if_neg (by rw [hw]; decide)]
        cases hts : tokS (c :: r) with
        | err e =>
          have he := (err_pos hts).1
          refine Ev.congr (f := fun _ => some ([], ((q : Nat) : Int), e)) (fun k => ?_) (Ev.now _)
          exact if_neg he
        | tok k t n size =>
          have hsz := tokS_size hts
          simp only [List.length_cons] at hsz
          have g1 : (1 : Int) ≤ ((size : Nat) : Int) ∧ ((size : Nat) : Int) ≤ ((r.length + 1 : Nat) : Int) := ⟨by omega, by omega⟩
          refine Ev.congr (f := fun m => (lexer_all m s (((q : Nat) : Int) + ((size : Nat) : Int))).bind fun u => some (⟨k, ⟨t.toArray⟩, n, ((q : Nat) : Int)⟩ :: u.1, u.2.1, u.2.2)) (fun m => (if_pos rfl).trans (if_pos (show (1 : Int) ≤ (enc (.tok k t n size)).2.2.2.2.1 ∧ (enc (.tok k t n size)).2.2.2.2.1 ≤ ((r.length + 1 : Nat) : Int) from g1))) ?_
          show Ev _ (outA s.size (⟨k, t, n, q⟩ :: (lex r.length ((c :: r).drop size) (q + size)).1, (lex r.length ((c :: r).drop size) (q + size)).2))
          have hi := ih (s.size - (q + size)) (by omega) (q + size) rfl (by omega)
          have hdr : (c :: r).drop size = s.data.toList.drop (q + size) := by rw [hdd, List.drop_drop]
          have hfl : lex r.length ((c :: r).drop size) (q + size) = lex (s.data.toList.drop (q + size)).length (s.data.toList.drop (q + size)) (q + size) := by
            rw [hdr]
            refine lex_fuel _ _ _ _ ?_ (Nat.le_refl _)
            rw [List.length_drop, len_toList]; omega
          rw [hfl]
          have hcast : ((q : Nat) : Int) + ((size : Nat) : Int) = ((q + size : Nat) : Int) := by omega
          rw [hcast]
          refine Ev.bind hi ?_
          exact Ev.now _

/-- The plain answer of Tokens. -/
def answer (l : List UInt8) : List T × Int × Int :=
  if l.length > 2000 then ([], 2000, 4)
  else match lex l.length l 0 with
    | (ts, none) => (ts, 0, 0)
    | (_, some (a, e)) => ([], (a : Int), e)

theorem lex_err : ∀ (f : Nat) (l : List UInt8) (p : Nat) (a : Nat) (e : Int), (lex f l p).2 = some (a, e) → e ≠ 0 := by
  intro f
  induction f with
  | zero => intro l p a e h; simp [lex] at h
  | succ f ih =>
    intro l p a e h
    cases l with
    | nil => simp [lex] at h
    | cons c r =>
      rw [lex] at h
      split at h
      · exact ih _ _ _ _ h
      · cases ht : tokS (c :: r) with
        | err e' =>
          rw [ht] at h
          simp only [Option.some.injEq, Prod.mk.injEq] at h
          rw [← h.2]; exact (err_pos ht).1
        | tok k t n size =>
          rw [ht] at h
          exact ih _ _ _ _ h

theorem tokens_ev (s : ByteArray) : Ev (fun k => lexer_Tokens.f k s) ((answer s.data.toList).1.map toS, (answer s.data.toList).2) := by
  unfold answer
  rw [len_toList]
  by_cases h : s.size > 2000
  · rw [if_pos h]
    refine Ev.congr (f := fun _ => some ([], 2000, 4)) (fun k => ?_) (Ev.now _)
    unfold lexer_Tokens.f
    rw [if_pos (by omega)]
  · rw [if_neg h]
    have ha := all_ev s (by omega) s.size 0 (by omega) (Nat.zero_le _)
    rw [List.drop_zero, len_toList] at ha
    refine Ev.congr (f := fun k => (lexer_all k s ((0 : Nat) : Int)).bind fun u => if u.2.2 = 0 then some (u.1, 0, 0) else some ([], u.2.1, u.2.2)) (fun k => ?_) (Ev.bind ha ?_)
    · unfold lexer_Tokens.f
      rw [if_neg (by omega)]; rfl
    · have he := lex_err s.size s.data.toList 0
      cases hr : lex s.size s.data.toList 0 with
      | mk ts o =>
        rw [hr] at he
        cases o with
        | none => exact Ev.now _
        | some ae =>
          obtain ⟨a, e⟩ := ae
          have := he a e rfl
          show Ev (fun _ => if e = 0 then some (ts.map toS, 0, 0) else some ([], (a : Int), e)) _
          rw [if_neg this]
          exact Ev.now _

end Go.Proofs.YtecojcpccglelaaDoor.LexA
