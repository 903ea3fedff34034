/- The plain law of LexerLimits: for words, strings and numbers of up to 25 bytes, numbers next to 2^30 and sources of nearly 2000 bytes the program's tokens are the reference's. -/
import Derived.Test.YtecojcpccglelaaDoorGen
import Derived.Test.YtecojcpccglelaaDoorPAllx8
namespace Go.Proofs.YtecojcpccglelaaDoor.Pure
open Go.RowKit Go.Proofs.YtecojcpccglelaaDoor.PAll Go.Proofs.YtecojcpccglelaaDoorW.PrintWords Go.Proofs.YtecojcpccglelaaDoorW.PrintLast
open Go.Proofs.YtecojcpccglelaaDoor.LexB Go.Proofs.YtecojcpccglelaaDoor.LexA Go.Proofs.YtecojcpccglelaaDoor.Gen

def digits10 : ByteArray := ⟨#[48, 49, 50, 51, 52, 53, 54, 55, 56, 57]⟩
theorem ex1 (a : Nat) (ha : a < 10) : (digits10.extract a (a + 1)).size = 1 := by
  have h : ((List.range 10).all fun a => decide ((digits10.extract a (a + 1)).size = 1)) = true := by decide +kernel
  exact of_decide_eq_true (List.all_eq_true.1 h a (List.mem_range.2 ha))
theorem big3 {a b n m : Nat} (h : a ≤ n) (hb : b ≤ m) (hn : n ≤ 4000) (hm : m ≤ 4000) : a + b ≤ 9223372036854775807 := by omega

def pow10 : Nat → Int
  | 0 => 1
  | d + 1 => 10 * pow10 d
theorem tdiv10 {x : Int} (h : 0 ≤ x) (hb : x ≤ 4611686018427387904) : wrap64 (Int.tdiv x 10) = x / 10 := by
  rw [Int.tdiv_eq_ediv_of_nonneg h]; unfold wrap64; omega
theorem div10 {x P : Int} (h : 0 ≤ x) (hb : x ≤ 4611686018427387904) (hp : x < 10 * P) : 0 ≤ x / 10 ∧ x / 10 ≤ 4611686018427387904 ∧ x / 10 < P := by omega
theorem nat_of {z : Int} (h : 0 ≤ z) (h1 : z < 10) : ∃ a : Nat, z = (a : Int) ∧ a < 10 := ⟨z.toNat, by omega, by omega⟩

theorem wrap_succ {a : Nat} (h : a < 4000) : wrap64 (((a : Nat) : Int) + 1) = ((a + 1 : Nat) : Int) := by
  unfold wrap64; omega

theorem dig_facts {a : Nat} (h : a < 10) : ¬ ((a : Nat) : Int) < 0 ∧ (0 : Int) ≤ ((a : Nat) : Int) ∧ ((a : Nat) : Int) ≤ ((a + 1 : Nat) : Int) ∧ ((a + 1 : Nat) : Int) ≤ ((10 : Nat) : Int) ∧ wrap64 (((a : Nat) : Int) + 1) = ((a + 1 : Nat) : Int) :=
  ⟨by omega, by omega, by omega, by omega, wrap_succ (by omega)⟩
theorem sz_step {d n : Nat} (hd : d + 1 ≤ 20) (hs : n ≤ 20 - (d + 1)) : 1 + n ≤ 20 - d ∧ n ≤ 20 ∧ d ≤ 20 := by omega

theorem decimal_loop (x0 : Int) (h0 : 0 ≤ x0) : ∀ (d : Nat) (x : Int) (s : ByteArray), 0 ≤ x → x ≤ 4611686018427387904 → x < pow10 d → d ≤ 20 → s.size ≤ 20 - d →
    ∃ r, Ev (fun k => intervalmonref01_Decimal.l0 k x0 digits10 s x) r ∧ r.size ≤ 20 := by
  have n0 : ¬ x0 < 0 := by omega
  intro d
  induction d with
  | zero =>
    intro x s hx _ hx1 hd hs
    have hz : x = 0 := by simp only [pow10] at hx1; omega
    refine ⟨s, Ev.step (f := fun _ => some s) (fun k => ?_) (Ev.now _), by omega⟩
    rw [intervalmonref01_Decimal.l0, if_pos hz, if_neg n0]
  | succ d ih =>
    intro x s hx hxb hx1 hd hs
    by_cases hz : x = 0
    · refine ⟨s, Ev.step (f := fun _ => some s) (fun k => ?_) (Ev.now _), by omega⟩
      rw [intervalmonref01_Decimal.l0, if_pos hz, if_neg n0]
    · obtain ⟨q1, q2, hd1⟩ := sz_step hd hs
      obtain ⟨g0, g1, g2⟩ := div10 hx hxb hx1
      obtain ⟨m0, m1⟩ := tmod_range (m := 10) hx (by decide)
      obtain ⟨a, ha, ha10⟩ := nat_of m0 m1
      obtain ⟨p1, p2, p3, p4, hw⟩ := dig_facts ha10
      have hx1s := ex1 a ha10
      have hsz : ((digits10.extract a (a + 1)) ++ s).size = 1 + s.size := by rw [size_append, hx1s]
      have hsz2 : ((digits10.extract a (a + 1)) ++ s).size ≤ 20 - d := by rw [hsz]; exact q1
      obtain ⟨r, hr, hrs⟩ := ih (x / 10) ((digits10.extract a (a + 1)) ++ s) g0 g1 g2 hd1 hsz2
      have p4' : ((a + 1 : Nat) : Int) ≤ (digits10.size : Int) := p4
      have p5 : (digits10.extract a (a + 1)).size + s.size ≤ 9223372036854775807 := by rw [hx1s]; exact big3 (n := 1) (m := 20) (Nat.le_refl _) q2 (by decide) (by decide)
      refine ⟨r, Ev.step (fun k => ?_) hr, hrs⟩
      rw [intervalmonref01_Decimal.l0, if_neg hz, ha, if_neg p1, if_pos p2, hw, if_pos p3, if_pos p4', Int.toNat_natCast, Int.toNat_natCast, if_pos p5, tdiv10 hx hxb]

theorem decimal_ev (x : Int) (h0 : 0 < x) (hb : x < 10000000000) : ∃ r, Ev (fun k => intervalmonref01_Decimal.f k x) r ∧ r.size ≤ 20 := by
  obtain ⟨r, hr, hs⟩ := decimal_loop x (by omega) 10 x ⟨#[]⟩ (by omega) (by omega) (by simp only [pow10]; omega) (by omega) (by decide)
  refine ⟨r, Ev.congr (fun k => ?_) hr, hs⟩
  unfold intervalmonref01_Decimal.f
  rw [if_neg (by omega)]; rfl

/-- The last part: all five sources. -/
theorem limits_end (w z num : ByteArray) (hw : w.size ≤ 30) (hz : z.size ≤ 30) (hn : num.size ≤ 20) : ∀ (d : Nat) (x : Int) (long : ByteArray), x = d → d ≤ 2100 → long.size + d ≤ 2100 →
    Ev (fun k => intervalmonlaw06_LexerLimits.l1 k w z num long x) true := by
  intro d
  induction d with
  | zero =>
    intro x long hx _ _
    have n0 : ¬ x > 0 := by omega
    have f1 : 1 + w.size ≤ 9223372036854775807 := by omega
    have f2 : 3 + w.size ≤ 9223372036854775807 := by omega
    have f3 : ((⟨#[43, 32, 34]⟩ : ByteArray) ++ w).size + 1 ≤ 9223372036854775807 := by
      rw [size_append]; show 3 + w.size + 1 ≤ _; omega
    have f4 : 1 + z.size ≤ 9223372036854775807 := by omega
    have f5 : ((⟨#[43]⟩ : ByteArray) ++ z).size + num.size ≤ 9223372036854775807 := by
      rw [size_append]; show 1 + z.size + num.size ≤ _; omega
    have f6 : num.size + z.size ≤ 9223372036854775807 := by omega
    refine Ev.step (f := _) (fun k => by rw [intervalmonlaw06_LexerLimits.l1, if_neg n0]) ?_
    refine Ev.congr (fun k => if_pos f1) ?_
    refine Ev.bind (agrees_ev _) ?_
    refine Ev.congr (fun k => if_pos rfl) ?_
    refine Ev.congr (fun k => if_pos f2) ?_
    refine Ev.congr (fun k => if_pos f3) ?_
    refine Ev.bind (agrees_ev _) ?_
    refine Ev.congr (fun k => if_pos rfl) ?_
    refine Ev.congr (fun k => if_pos f4) ?_
    refine Ev.congr (fun k => if_pos f5) ?_
    refine Ev.bind (agrees_ev _) ?_
    refine Ev.congr (fun k => if_pos rfl) ?_
    refine Ev.congr (fun k => if_pos f6) ?_
    refine Ev.bind (agrees_ev _) ?_
    refine Ev.congr (fun k => if_pos rfl) ?_
    refine Ev.bind (agrees_ev _) ?_
    refine Ev.congr (fun k => if_pos rfl) ?_
    exact Ev.bind lives_ev (Ev.now _)
  | succ d ih =>
    intro x long hx hd hl
    have p0 : x > 0 := by omega
    have p1 : long.size + 1 ≤ 9223372036854775807 := by omega
    have hwr : wrap64 (x - 1) = x - 1 := by unfold wrap64; omega
    have hsz : (long ++ (⟨#[43]⟩ : ByteArray)).size = long.size + 1 := size_append _ _
    refine Ev.step (fun k => by rw [intervalmonlaw06_LexerLimits.l1, if_pos p0, if_pos p1, hwr]) (ih (x - 1) (long ++ ⟨#[43]⟩) (by omega) (by omega) (by rw [hsz]; omega))

theorem limits_loop (a1 a2 n : Int) (h1 : -9223372036854775808 ≤ a1 ∧ a1 ≤ 9223372036854775807) (h2 : -9223372036854775808 ≤ a2 ∧ a2 ≤ 9223372036854775807) (hn : n < 26) :
    ∀ (d : Nat) (i : Nat) (w z : ByteArray), n - i ≤ d → i ≤ 26 → w.size ≤ i → z.size ≤ i → Ev (fun k => intervalmonlaw06_LexerLimits.l0 k a1 a2 n w z (i : Int)) true := by
  have tail : ∀ (i : Nat) (w z : ByteArray), ¬ (i : Int) < n → w.size ≤ 26 → z.size ≤ 26 → Ev (fun k => intervalmonlaw06_LexerLimits.l0 k a1 a2 n w z (i : Int)) true := by
    intro i w z hi hw hz
    obtain ⟨b, hb, hb0, hb1⟩ := around h1 (show (0 : Int) < 7 by omega)
    obtain ⟨c, hc, hc0, hc1⟩ := around h2 (show (0 : Int) < 20 by omega)
    have e7 : wrap64 (wrap64 (2 * 3) + 1) = 7 := by unfold wrap64; omega
    have eb : wrap64 (b - 3) = b - 3 := by unfold wrap64; omega
    have ed : wrap64 (1073741824 + (b - 3)) = 1073741824 + (b - 3) := by unfold wrap64; omega
    have el : wrap64 (1990 + c) = 1990 + c := by unfold wrap64; omega
    obtain ⟨num, hnum, hns⟩ := decimal_ev (1073741824 + (b - 3)) (by omega) (by omega)
    have hB : intervalmonref01_Bound.f a1 3 = some (b - 3) := by
      unfold intervalmonref01_Bound.f
      rw [e7, hb, Option.bind_some, eb]
    have hend := limits_end w z num (by omega) (by omega) hns (1990 + c).toNat (1990 + c) ⟨#[]⟩ (by omega) (by omega) (by show 0 + _ ≤ _; omega)
    refine Ev.step (fun k => by rw [intervalmonlaw06_LexerLimits.l0, if_neg hi, hB, Option.bind_some, ed]) ?_
    refine Ev.bind hnum ?_
    refine Ev.bind (g := fun _ => intervalmonref01_Around.f a2 20) ⟨0, fun _ _ => hc⟩ ?_
    rw [el]
    exact hend
  intro d
  induction d with
  | zero =>
    intro i w z hd hi hw hz
    exact tail i w z (by omega) (by omega) (by omega)
  | succ d ih =>
    intro i w z hd hi hw hz
    by_cases h : (i : Int) < n
    · have hwr : wrap64 ((i : Int) + 1) = ((i + 1 : Nat) : Int) := wrap_succ (by omega)
      have f1 : w.size + 1 ≤ 9223372036854775807 := by omega
      have f2 : z.size + 1 ≤ 9223372036854775807 := by omega
      have s1 : (w ++ (⟨#[97]⟩ : ByteArray)).size = w.size + 1 := size_append _ _
      have s2 : (z ++ (⟨#[48]⟩ : ByteArray)).size = z.size + 1 := size_append _ _
      exact Ev.step (fun k => by rw [intervalmonlaw06_LexerLimits.l0, if_pos h, if_pos f1, if_pos f2, hwr]) (ih (i + 1) _ _ (by omega) (by omega) (by rw [s1]; omega) (by rw [s2]; omega))
    · exact tail i w z h (by omega) (by omega)

theorem LexerLimits : intervalmonlaw06_LexerLimits.Pure := by
  intro a0 a1 a2 w0 w1 w2
  obtain ⟨n, hn, hn0, hn1⟩ := around (wf_i64 w0) (show (0 : Int) < 26 by omega)
  have key : Ev (fun k => intervalmonlaw06_LexerLimits.f k a0 a1 a2) true := by
    refine Ev.bind (g := fun _ => intervalmonref01_Around.f a0 26) ⟨0, fun _ _ => hn⟩ ?_
    exact limits_loop a1 a2 n (wf_i64 w1) (wf_i64 w2) hn1 26 0 ⟨#[]⟩ ⟨#[]⟩ (by omega) (by omega) (Nat.le_refl _) (Nat.le_refl _)
  exact key.rounds

end Go.Proofs.YtecojcpccglelaaDoor.Pure
