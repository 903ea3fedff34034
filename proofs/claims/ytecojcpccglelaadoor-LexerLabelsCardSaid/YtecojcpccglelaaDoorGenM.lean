/- The generators of sources give a string for every list of numbers. -/
import Derived.Test.YtecojcpccglelaaDoorAgreeM
namespace Go.Proofs.YtecojcpccglelaaDoor.Gen
open Go.RowKit Go.Proofs.YtecojcpccglelaaDoor.PAll Go.Proofs.YtecojcpccglelaaDoorW.PrintWords Go.Proofs.YtecojcpccglelaaDoorW.PrintLast
open Go.Proofs.YtecojcpccglelaaDoor.Spec Go.Proofs.YtecojcpccglelaaDoor.LexA

theorem wf_i64 {a : Int} (h : (Lit.int .i64 a).wf = true) : -9223372036854775808 ≤ a ∧ a ≤ 9223372036854775807 := by
  simpa [Lit.wf, IntKind.min, IntKind.max, IntKind.signed, IntKind.bits] using h

theorem around {a m : Int} (h : -9223372036854775808 ≤ a ∧ a ≤ 9223372036854775807) (hm : 0 < m) : ∃ n, intervalmonref01_Around.f a m = some n ∧ 0 ≤ n ∧ n < m := by
  unfold intervalmonref01_Around.f
  by_cases ha : a < 0
  · rw [if_pos ha, if_neg (by omega)]
    have : wrap64 (-(wrap64 (a + 1))) = -(a + 1) := by unfold wrap64; omega
    rw [this]
    refine ⟨_, rfl, ?_⟩
    rw [Int.tmod_eq_emod_of_nonneg (by omega)]
    exact ⟨Int.emod_nonneg _ (by omega), Int.emod_lt_of_pos _ hm⟩
  · rw [if_neg ha, if_neg (by omega)]
    refine ⟨_, rfl, ?_⟩
    rw [Int.tmod_eq_emod_of_nonneg (by omega)]
    exact ⟨Int.emod_nonneg _ (by omega), Int.emod_lt_of_pos _ hm⟩

theorem rd_wf {l : List Int} (h : ∀ x ∈ l, (Lit.int .i64 x).wf = true) (i : Int) : -9223372036854775808 ≤ rd l i ∧ rd l i ≤ 9223372036854775807 := by
  unfold rd
  rw [List.getD_eq_getElem?_getD]
  cases hg : l[i.toNat]? with
  | none => simp
  | some x => exact wf_i64 (h x (List.mem_of_getElem? hg))

theorem rdOf_size {l : List ByteArray} {b : Nat} (h : ∀ x ∈ l, x.size ≤ b) (i : Int) : (rdOf ByteArray.empty l i).size ≤ b := by
  unfold rdOf
  rw [List.getD_eq_getElem?_getD]
  cases hg : l[i.toNat]? with
  | none => simp
  | some x => exact h x (List.mem_of_getElem? hg)

theorem size_append (a b : ByteArray) : (a ++ b).size = a.size + b.size := by
  rw [ByteArray.size_append]

theorem tmod_range {a m : Int} (h : 0 ≤ a) (hm : 0 < m) : 0 ≤ Int.tmod a m ∧ Int.tmod a m < m := by
  rw [Int.tmod_eq_emod_of_nonneg h]
  exact ⟨Int.emod_nonneg _ (by omega), Int.emod_lt_of_pos _ hm⟩
theorem tdiv_range {n : Int} (h0 : 0 ≤ n) (h1 : n < 1800) : 0 ≤ wrap64 (Int.tdiv n 6) := by
  rw [Int.tdiv_eq_ediv_of_nonneg h0]; unfold wrap64; omega
theorem wrap_small {i : Nat} (h : i ≤ 140737488351232) : wrap64 ((i : Int) + 1) = ((i + 1 : Nat) : Int) := by unfold wrap64; omega

theorem sz2 {a b c i : Nat} (h : a ≤ 60 * i) (hb : b ≤ 30) (hc : c ≤ 30) : a + b + c ≤ 60 * (i + 1) := by omega
theorem sz1 {a b i : Nat} (h : a ≤ 60 * i) (hb : b ≤ 30) : a + b ≤ 60 * (i + 1) := by omega
theorem big1 {a b i : Nat} (h : a ≤ 60 * i) (hb : b ≤ 30) (hi : i ≤ 30) : a + b ≤ 9223372036854775807 := by omega
theorem big2 {a b c i : Nat} (h : a ≤ 60 * i) (hb : b ≤ 30) (hc : c ≤ 30) (hi : i ≤ 30) : a + b + c ≤ 9223372036854775807 := by omega

theorem source_loop (l : List Int) (hw : ∀ x ∈ l, (Lit.int .i64 x).wf = true) (parts spaces : List ByteArray) (hp : parts.length = 37) (hs : spaces.length = 6) (hpb : ∀ x ∈ parts, x.size ≤ 30) (hsb : ∀ x ∈ spaces, x.size ≤ 30) :
    ∀ (d i : Nat) (s : ByteArray), 30 - i = d → s.size ≤ 60 * i → i ≤ 30 → ∃ r, Ev (fun k => intervalmonref06_Source.l0 k l parts spaces s (i : Int)) r ∧ r.size ≤ 1800 := by
  intro d
  induction d with
  | zero =>
    intro i s hd hsz hi
    refine ⟨s, Ev.step (f := fun k => intervalmonref06_Source.j1 k l parts spaces s (i : Int) false) (fun k => ?_) (Ev.step (f := fun _ => some s) (fun k => ?_) (Ev.now _)), by omega⟩
    · simp only [intervalmonref06_Source.l0]
      have hf : (decide ((i : Int) < 30)) = false := by simp; omega
      rw [hf]
      by_cases h : (i : Int) < (l.length : Int)
      · rw [if_pos h]
      · rw [if_neg h]
    · simp only [intervalmonref06_Source.j1]
      rw [if_neg (by decide)]
  | succ d ih =>
    intro i s hd hsz hi
    by_cases h : (i : Int) < (l.length : Int)
    · have ht : (decide ((i : Int) < 30)) = true := by simp; omega
      have i0 : (0 : Int) ≤ (i : Int) := by omega
      have i1 : 30 - (i + 1) = d := by omega
      have i2 : i + 1 ≤ 30 := by omega
      have hwr := wrap_small (i := i) (by omega)
      obtain ⟨n, hn, hn0, hn1⟩ := around (rd_wf hw (i : Int)) (show (0 : Int) < 1800 by omega)
      obtain ⟨x0, x1⟩ := tmod_range (m := 6) hn0 (by omega)
      have y0 := tdiv_range hn0 hn1
      obtain ⟨z0, z1⟩ := tmod_range (m := 26) y0 (by omega)
      have z2 : Int.tmod (wrap64 (Int.tdiv n 6)) 26 < 37 := Int.lt_trans z1 (by decide)
      have hb1 := rdOf_size hsb (Int.tmod n 6)
      have hb2 := rdOf_size hpb (Int.tmod (wrap64 (Int.tdiv n 6)) 26)
      have hb3 := rdOf_size hpb (wrap64 (Int.tdiv n 6))
      have step : ∀ k, intervalmonref06_Source.l0 (k + 1) l parts spaces s (i : Int) = intervalmonref06_Source.j1 k l parts spaces s (i : Int) true := by
        intro k
        simp only [intervalmonref06_Source.l0]
        rw [if_pos h, ht]
      have q1 : (s ++ rdOf ByteArray.empty spaces (Int.tmod n 6)).size = s.size + (rdOf ByteArray.empty spaces (Int.tmod n 6)).size := size_append _ _
      by_cases h37 : wrap64 (Int.tdiv n 6) ≥ 37
      · have q2 : ((s ++ rdOf ByteArray.empty spaces (Int.tmod n 6)) ++ rdOf ByteArray.empty parts (Int.tmod (wrap64 (Int.tdiv n 6)) 26)).size = (s ++ rdOf ByteArray.empty spaces (Int.tmod n 6)).size + (rdOf ByteArray.empty parts (Int.tmod (wrap64 (Int.tdiv n 6)) 26)).size := size_append _ _
        have q3 : ((s ++ rdOf ByteArray.empty spaces (Int.tmod n 6)) ++ rdOf ByteArray.empty parts (Int.tmod (wrap64 (Int.tdiv n 6)) 26)).size ≤ 60 * (i + 1) := by rw [q2, q1]; exact sz2 hsz hb1 hb2
        obtain ⟨r, hr, hrs⟩ := ih (i + 1) _ i1 q3 i2
        refine ⟨r, Ev.step step (Ev.step (fun k => ?_) hr), hrs⟩
        simp only [intervalmonref06_Source.j1, if_true]
        rw [if_pos i0, if_pos h, hn, Option.bind_some, if_pos (by rw [hp]; exact h37), if_pos x0, if_pos (by rw [hs]; exact x1), if_pos (big1 hsz hb1 hi), if_pos z0, if_pos (by rw [hp]; exact z2), if_pos (by rw [q1]; exact big2 hsz hb1 hb2 hi), hwr]
      · have y1 : wrap64 (Int.tdiv n 6) < 37 := Int.lt_of_not_ge h37
        have q2 : ((s ++ rdOf ByteArray.empty spaces (Int.tmod n 6)) ++ rdOf ByteArray.empty parts (wrap64 (Int.tdiv n 6))).size = (s ++ rdOf ByteArray.empty spaces (Int.tmod n 6)).size + (rdOf ByteArray.empty parts (wrap64 (Int.tdiv n 6))).size := size_append _ _
        have q3 : ((s ++ rdOf ByteArray.empty spaces (Int.tmod n 6)) ++ rdOf ByteArray.empty parts (wrap64 (Int.tdiv n 6))).size ≤ 60 * (i + 1) := by rw [q2, q1]; exact sz2 hsz hb1 hb3
        obtain ⟨r, hr, hrs⟩ := ih (i + 1) _ i1 q3 i2
        refine ⟨r, Ev.step step (Ev.step (fun k => ?_) hr), hrs⟩
        simp only [intervalmonref06_Source.j1, if_true]
        rw [if_pos i0, if_pos h, hn, Option.bind_some, if_neg (by rw [hp]; exact h37), if_pos x0, if_pos (by rw [hs]; exact x1), if_pos (big1 hsz hb1 hi), if_pos y0, if_pos (by rw [hp]; exact y1), if_pos (by rw [q1]; exact big2 hsz hb1 hb3 hi), hwr]
    · refine ⟨s, Ev.step (f := fun k => intervalmonref06_Source.j1 k l parts spaces s (i : Int) false) (fun k => ?_) (Ev.step (f := fun _ => some s) (fun k => ?_) (Ev.now _)), by omega⟩
      · simp only [intervalmonref06_Source.l0]
        rw [if_neg h]
      · simp only [intervalmonref06_Source.j1]
        rw [if_neg (by decide)]

theorem source_ev (l : List Int) (hw : ∀ x ∈ l, (Lit.int .i64 x).wf = true) : ∃ r, Ev (fun k => intervalmonref06_Source.f k l) r ∧ r.size ≤ 1800 := by
  unfold intervalmonref06_Source.f
  exact source_loop l hw _ _ rfl rfl (by decide +kernel) (by decide +kernel) 30 0 ⟨#[]⟩ rfl (Nat.zero_le _) (by omega)

theorem clean_loop (l : List Int) (hw : ∀ x ∈ l, (Lit.int .i64 x).wf = true) (parts : List ByteArray) (hp : parts.length = 26) (hpb : ∀ x ∈ parts, x.size ≤ 30) :
    ∀ (d i : Nat) (s : ByteArray), 30 - i = d → s.size ≤ 60 * i → i ≤ 30 → ∃ r, Ev (fun k => intervalmonref06_Clean.l0 k l parts s (i : Int)) r ∧ r.size ≤ 1800 := by
  intro d
  induction d with
  | zero =>
    intro i s hd hsz hi
    refine ⟨s, Ev.step (f := fun k => intervalmonref06_Clean.j1 k l parts s (i : Int) false) (fun k => ?_) (Ev.step (f := fun _ => some s) (fun k => ?_) (Ev.now _)), by omega⟩
    · simp only [intervalmonref06_Clean.l0]
      have hf : (decide ((i : Int) < 30)) = false := by simp; omega
      rw [hf]
      by_cases h : (i : Int) < (l.length : Int)
      · rw [if_pos h]
      · rw [if_neg h]
    · simp only [intervalmonref06_Clean.j1]
      rw [if_neg (by decide)]
  | succ d ih =>
    intro i s hd hsz hi
    by_cases h : (i : Int) < (l.length : Int)
    · have ht : (decide ((i : Int) < 30)) = true := by simp; omega
      have i0 : (0 : Int) ≤ (i : Int) := by omega
      have i1 : 30 - (i + 1) = d := by omega
      have i2 : i + 1 ≤ 30 := by omega
      have hwr := wrap_small (i := i) (by omega)
      obtain ⟨n, hn, hn0, hn1⟩ := around (rd_wf hw (i : Int)) (show (0 : Int) < 1000 by omega)
      obtain ⟨z0, z1⟩ := tmod_range (m := 26) hn0 (by omega)
      have hb2 := rdOf_size hpb (Int.tmod n 26)
      have step : ∀ k, intervalmonref06_Clean.l0 (k + 1) l parts s (i : Int) = intervalmonref06_Clean.j1 k l parts s (i : Int) true := by
        intro k
        simp only [intervalmonref06_Clean.l0]
        rw [if_pos h, ht]
      by_cases h8 : n < 800
      · have q1 : (s ++ (⟨#[32]⟩ : ByteArray)).size = s.size + 1 := size_append _ _
        have q2 : ((s ++ (⟨#[32]⟩ : ByteArray)) ++ rdOf ByteArray.empty parts (Int.tmod n 26)).size = (s ++ (⟨#[32]⟩ : ByteArray)).size + (rdOf ByteArray.empty parts (Int.tmod n 26)).size := size_append _ _
        have q3 : ((s ++ (⟨#[32]⟩ : ByteArray)) ++ rdOf ByteArray.empty parts (Int.tmod n 26)).size ≤ 60 * (i + 1) := by rw [q2, q1]; exact sz2 hsz (by decide) hb2
        obtain ⟨r, hr, hrs⟩ := ih (i + 1) _ i1 q3 i2
        refine ⟨r, Ev.step step (Ev.step (fun k => ?_) hr), hrs⟩
        simp only [intervalmonref06_Clean.j1, if_true]
        rw [if_pos i0, if_pos h, hn, Option.bind_some, if_pos h8, if_pos (big1 hsz (by decide) hi), if_pos z0, if_pos (by rw [hp]; exact z1), if_pos (by rw [q1]; exact big2 hsz (by decide) hb2 hi), hwr]
      · have q2 : (s ++ rdOf ByteArray.empty parts (Int.tmod n 26)).size = s.size + (rdOf ByteArray.empty parts (Int.tmod n 26)).size := size_append _ _
        have q3 : (s ++ rdOf ByteArray.empty parts (Int.tmod n 26)).size ≤ 60 * (i + 1) := by rw [q2]; exact sz1 hsz hb2
        obtain ⟨r, hr, hrs⟩ := ih (i + 1) _ i1 q3 i2
        refine ⟨r, Ev.step step (Ev.step (fun k => ?_) hr), hrs⟩
        simp only [intervalmonref06_Clean.j1, if_true]
        rw [if_pos i0, if_pos h, hn, Option.bind_some, if_neg h8, if_pos z0, if_pos (by rw [hp]; exact z1), if_pos (big1 hsz hb2 hi), hwr]
    · refine ⟨s, Ev.step (f := fun k => intervalmonref06_Clean.j1 k l parts s (i : Int) false) (fun k => ?_) (Ev.step (f := fun _ => some s) (fun k => ?_) (Ev.now _)), by omega⟩
      · simp only [intervalmonref06_Clean.l0]
        rw [if_neg h]
      · simp only [intervalmonref06_Clean.j1]
        rw [if_neg (by decide)]

theorem clean_ev (l : List Int) (hw : ∀ x ∈ l, (Lit.int .i64 x).wf = true) : ∃ r, Ev (fun k => intervalmonref06_Clean.f k l) r ∧ r.size ≤ 1800 := by
  unfold intervalmonref06_Clean.f
  exact clean_loop l hw _ rfl (by decide +kernel) 30 0 ⟨#[]⟩ rfl (Nat.zero_le _) (by omega)

end Go.Proofs.YtecojcpccglelaaDoor.Gen
