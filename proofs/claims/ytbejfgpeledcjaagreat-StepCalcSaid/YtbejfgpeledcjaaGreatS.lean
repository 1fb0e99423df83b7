/- For all numbers op, b, c that fit 64 bits, StepCalc's body comes to true over the abstract machine. -/
import Derived.Test.YtbejfgpeledcjaaGreatH
import Derived.Test.YtbejfgpeledcjaaGreatR
import Derived.KernelRfl
set_option linter.unusedVariables false
set_option linter.unusedSimpArgs false
namespace Go.Proofs.YtbejfgpeledcjaaGreat.A
noncomputable section
open Go
set_option maxRecDepth 100000
set_option linter.unusedSimpArgs false
def tHead : List Ent := [⟨[], [], .bool true⟩]
def T2 : Tr (List Ent) := T1.put 13 tHead

abbrev okN (n : Int) : Prop := -1099511627776 ≤ n ∧ n ≤ 1099511627776
abbrev i64N (n : Int) : Prop := -9223372036854775808 ≤ n ∧ n ≤ 9223372036854775807

/-- b // c. -/
def flo (b c : Int) : Int := if b.tmod c ≠ 0 ∧ decide (b < 0) ≠ decide (c < 0) then b.tdiv c - 1 else b.tdiv c

def numS (n : Int) : Int × Int := if okN n then (n, 0) else (0, 7)

/-- What Calc says. -/
def calcS (op b c : Int) : Int × Int :=
  if op < 6 ∨ 10 < op then (0, 0) else
  if ¬ okN b ∨ ¬ okN c then (0, 7) else
  if op = 6 then numS (b + c) else
  if op = 7 then numS (b - c) else
  if op = 8 then numS (b * c) else
  if c = 0 then (0, 8) else
  if op = 9 then numS (flo b c) else numS (b - c * flo b c)

theorem tdiv_abs (b c : Int) : (b.tdiv c).natAbs ≤ b.natAbs := by
  rw [Int.natAbs_tdiv]; exact Nat.div_le_self _ _

theorem flo_ok {b c : Int} (hb : okN b) : -1099511627777 ≤ flo b c ∧ flo b c ≤ 1099511627776 := by
  have := tdiv_abs b c
  unfold flo
  split <;> omega

theorem within_eq (n : Int) (h : AHeap) : callR sys T2 (.fn 50) [i n] .no h = some (.ret (.bool (decide (okN n))), .no, h) := by
  rw [callR_fn (fn := f50) (by kernel_rfl) (by kernel_rfl) (by kernel_rfl)]
  by_cases h1 : -1099511627776 ≤ n
  · simp [f50, h1]
  · simp [f50, h1]
theorem in_eq (n a b : Int) (h : AHeap) : callR sys T2 (.fn 53) [i n, i a, i b] .no h = some (.ret (.bool (decide (a ≤ n ∧ n ≤ b))), .no, h) := by
  rw [callR_fn (fn := f53) (by kernel_rfl) (by kernel_rfl) (by kernel_rfl)]
  by_cases h1 : a ≤ n
  · simp [f53, h1]
  · simp [f53, h1]
theorem abs_eq (n : Int) (h : AHeap) (h1 : okN n) : callR sys T2 (.fn 54) [i n] .no h = some (.ret (i n.natAbs), .no, h) := by
  rw [callR_fn (fn := f54) (by kernel_rfl) (by kernel_rfl) (by kernel_rfl)]
  simp [f54]
  rw [wrap_i64 (by omega) (by omega)]
  split <;> (congr 1; omega)

theorem wrap_ok {x : Int} (h : i64N x) : IntKind.i64.wrap x = x := wrap_i64 h.1 h.2

theorem floored_eq (b c : Int) (h : AHeap) (hb : okN b) (hc : c ≠ 0) : callR sys T2 (.fn 52) [i b, i c] .no h = some (.ret (i (flo b c)), .no, h) := by
  rw [callR_fn (fn := f52) (by kernel_rfl) (by kernel_rfl) (by kernel_rfl)]
  have h1 := tdiv_abs b c
  have h2 : IntKind.i64.wrap (b.tdiv c) = b.tdiv c := wrap_i64 (by omega) (by omega)
  have h3 : IntKind.i64.wrap (b.tdiv c - 1) = b.tdiv c - 1 := wrap_i64 (by omega) (by omega)
  unfold flo
  by_cases h4 : b.tmod c = 0
  · simp [f52, hc, h2, h3, h4]
  · by_cases h5 : b < 0 <;> by_cases h6 : c < 0 <;> simp [f52, hc, h2, h3, h4, h5, h6]

/-- Whether product says that the product is a number. -/
def prodOk (b c : Int) : Bool := decide (b = 0 ∨ c = 0 ∨ ¬ (1099511627776 / b.natAbs < c ∨ c < -(1099511627776 / b.natAbs)))

theorem mul_nat (b c : Int) (h0 : b ≠ 0) : c.natAbs ≤ 1099511627776 / b.natAbs ↔ okN (b * c) := by
  have h1 : (b * c).natAbs = b.natAbs * c.natAbs := Int.natAbs_mul b c
  rw [Nat.le_div_iff_mul_le (by omega)]
  rw [Nat.mul_comm] at h1
  rw [← h1]
  constructor
  · intro h; constructor <;> omega
  · rintro ⟨h2, h3⟩; omega

theorem natDiv_cast (b : Int) : (1099511627776 : Int) / (b.natAbs : Int) = ((1099511627776 / b.natAbs : Nat) : Int) := by simp

theorem prodOk_iff (b c : Int) : prodOk b c = true ↔ okN (b * c) := by
  unfold prodOk
  rw [decide_eq_true_iff]
  by_cases h0 : b = 0
  · simp [h0, okN]
  by_cases h1 : c = 0
  · simp [h1, okN]
  rw [← mul_nat b c h0, natDiv_cast]
  generalize 1099511627776 / b.natAbs = q
  omega

theorem product_eq (b c : Int) (h : AHeap) (hb : okN b) : callR sys T2 (.fn 51) [i b, i c] .no h = some (.ret (.tuple ⟨[i (if prodOk b c then b * c else 0), .bool (prodOk b c)]⟩), .no, h) := by
  rw [callR_fn (fn := f51) (by kernel_rfl) (by kernel_rfl) (by kernel_rfl)]
  by_cases h0 : b = 0
  · simp [f51, prodOk, h0]
  by_cases h1 : c = 0
  · simp [f51, prodOk, h0, h1]
  have hp := prodOk_iff b c
  have e1 : IntKind.i64.wrap (-b) = -b := wrap_i64 (by omega) (by omega)
  have e2 : (if b < -b then -b else b) = (b.natAbs : Int) := by split <;> omega
  have e3 : (1099511627776 : Int).tdiv (b.natAbs : Int) = 1099511627776 / (b.natAbs : Int) := Int.tdiv_eq_ediv_of_nonneg (by decide)
  have e4 : (0 : Int) ≤ 1099511627776 / (b.natAbs : Int) := Int.ediv_nonneg (by decide) (by omega)
  have e5 : (1099511627776 : Int) / (b.natAbs : Int) ≤ 1099511627776 := Int.ediv_le_self _ (by decide)
  have e6 : IntKind.i64.wrap (1099511627776 / (b.natAbs : Int)) = 1099511627776 / (b.natAbs : Int) := wrap_i64 (by omega) (by omega)
  have e7 : IntKind.i64.wrap (-(1099511627776 / (b.natAbs : Int))) = -(1099511627776 / (b.natAbs : Int)) := wrap_i64 (by omega) (by omega)
  have e8 : (b.natAbs : Int) ≠ 0 := by omega
  by_cases h2 : 1099511627776 / (b.natAbs : Int) < c
  · simp [f51, prodOk, h0, h1, e1, e2, e3, e6, e7, e8, h2]
  · by_cases h3 : c < -(1099511627776 / (b.natAbs : Int))
    · simp [f51, prodOk, h0, h1, e1, e2, e3, e6, e7, e8, h2, h3]
    · have h4 : okN (b * c) := by
        rw [← hp]; simp [prodOk, h0, h1, h2, h3]
      have e9 : IntKind.i64.wrap (b * c) = b * c := wrap_i64 (by have := h4.1; omega) (by have := h4.2; omega)
      simp [f51, prodOk, h0, h1, e1, e2, e3, e6, e7, e8, e9, h2, h3]

theorem numS_ok {n : Int} (h : okN n) : numS n = (n, 0) := if_pos h
theorem numS_no {n : Int} (h : ¬ okN n) : numS n = (0, 7) := if_neg h

theorem flo_law {b c : Int} (hc : c ≠ 0) : 0 < c ∧ 0 ≤ b - c * flo b c ∧ b - c * flo b c < c ∨ c < 0 ∧ b - c * flo b c ≤ 0 ∧ c < b - c * flo b c := by
  have h1 : c * b.tdiv c + b.tmod c = b := Int.mul_tdiv_add_tmod b c
  have h2 : (b.tmod c).natAbs < c.natAbs := by rw [Int.natAbs_tmod]; exact Nat.mod_lt _ (by omega)
  have h3 : 0 ≤ b → 0 ≤ b.tmod c := fun h => Int.tmod_nonneg c h
  have h4 : b < 0 → b.tmod c ≤ 0 := fun h => by
    have := Int.tmod_nonneg c (show 0 ≤ -b by omega)
    rw [Int.neg_tmod] at this; omega
  unfold flo
  split
  · rename_i hx
    obtain ⟨hx1, hx2⟩ := hx
    rw [Int.mul_sub, Int.mul_one]
    by_cases h5 : b < 0 <;> by_cases h6 : c < 0 <;> simp [h5, h6] at hx2 <;> omega
  · rename_i hx
    by_cases h7 : b.tmod c = 0
    · omega
    · by_cases h5 : b < 0 <;> by_cases h6 : c < 0 <;> simp [h5, h6, h7] at hx <;> omega

theorem calc_eq (op b c : Int) (h : AHeap) (hb : i64N b) (hc : i64N c) : callR sys T2 (.fn 14) [i op, i b, i c] .no h = some (.ret (.tuple ⟨[i (calcS op b c).1, i (calcS op b c).2]⟩), .no, h) := by
  rw [callR_fn (fn := f14) (by kernel_rfl) (by kernel_rfl) (by kernel_rfl)]
  unfold calcS
  by_cases h6 : op = 6
  · subst h6
    by_cases hb' : okN b
    · by_cases hc' : okN c
      · have e1 : IntKind.i64.wrap (b + c) = b + c := wrap_i64 (by omega) (by omega)
        by_cases hn : okN (b + c)
        · simp [f14, within_eq, hb', hc', e1, hn, numS_ok hn]
        · simp [f14, within_eq, hb', hc', e1, hn, numS_no hn]
      · simp [f14, within_eq, hb', hc']
    · simp [f14, within_eq, hb']
  by_cases h7 : op = 7
  · subst h7
    by_cases hb' : okN b
    · by_cases hc' : okN c
      · have e1 : IntKind.i64.wrap (b + -c) = b - c := wrap_i64 (by omega) (by omega)
        have e2 : IntKind.i64.wrap (-c) = -c := wrap_i64 (by omega) (by omega)
        by_cases hn : okN (b - c)
        · simp [f14, within_eq, hb', hc', e1, e2, hn, numS_ok hn]
        · simp [f14, within_eq, hb', hc', e1, e2, hn, numS_no hn]
      · simp [f14, within_eq, hb', hc']
    · simp [f14, within_eq, hb']
  by_cases h8 : op = 8
  · subst h8
    by_cases hb' : okN b
    · by_cases hc' : okN c
      · by_cases hn : okN (b * c)
        · have hp := (prodOk_iff b c).2 hn
          simp [f14, within_eq, product_eq b c _ hb', hb', hc', hp, hn, numS_ok hn]
        · have hp : prodOk b c = false := by
            cases hx : prodOk b c with
            | false => rfl
            | true => exact absurd ((prodOk_iff b c).1 hx) hn
          simp [f14, within_eq, product_eq b c _ hb', hb', hc', hp, numS_no hn]
      · simp [f14, within_eq, hb', hc']
    · simp [f14, within_eq, hb']
  by_cases h9 : op = 9
  · subst h9
    by_cases hb' : okN b
    · by_cases hc' : okN c
      · by_cases h0 : c = 0
        · simp [f14, within_eq, hb', hc', h0]
        · by_cases hn : okN (flo b c)
          · simp [f14, within_eq, floored_eq b c _ hb' h0, hb', hc', h0, hn, numS_ok hn]
          · simp [f14, within_eq, floored_eq b c _ hb' h0, hb', hc', h0, hn, numS_no hn]
      · simp [f14, within_eq, hb', hc']
    · simp [f14, within_eq, hb']
  by_cases h10 : op = 10
  · subst h10
    by_cases hb' : okN b
    · by_cases hc' : okN c
      · by_cases h0 : c = 0
        · simp [f14, within_eq, hb', hc', h0]
        · have hf := flo_law (b := b) h0
          have e1 : IntKind.i64.wrap (c * flo b c) = c * flo b c := wrap_i64 (by omega) (by omega)
          have e2 : IntKind.i64.wrap (b - c * flo b c) = b - c * flo b c := wrap_i64 (by omega) (by omega)
          by_cases hn : okN (b - c * flo b c)
          · simp [f14, within_eq, floored_eq b c _ hb' h0, hb', hc', h0, e1, e2, hn, numS_ok hn]
          · simp [f14, within_eq, floored_eq b c _ hb' h0, hb', hc', h0, e1, e2, hn, numS_no hn]
      · simp [f14, within_eq, hb', hc']
    · simp [f14, within_eq, hb']
  have h11 : op < 6 ∨ 10 < op := by omega
  simp [f14, within_eq, h6, h7, h8, h9, h10, h11]

theorem refcalc_eq (op b c : Int) (h : AHeap) (hb : i64N b) (hc : i64N c) : callR sys T2 (.fn 15) [i op, i b, i c] .no h = some (.ret (.tuple ⟨[i (calcS op b c).1, i (calcS op b c).2]⟩), .no, h) := by
  rw [callR_fn (fn := f15) (by kernel_rfl) (by kernel_rfl) (by kernel_rfl)]
  unfold calcS
  by_cases hop : op < 6 ∨ 10 < op
  · have : ¬ (6 ≤ op ∧ op ≤ 10) := by omega
    simp [f15, in_eq, hop, this]
  have hop' : 6 ≤ op ∧ op ≤ 10 := by omega
  by_cases hbn : ¬ okN b
  · simp [f15, in_eq, hop, hop', hbn]
  have hb' : okN b := Decidable.of_not_not hbn
  by_cases hcn : ¬ okN c
  · simp [f15, in_eq, hop, hop', hb', hcn]
  have hc' : okN c := Decidable.of_not_not hcn
  by_cases h6 : op = 6
  · subst h6
    have e1 : IntKind.i64.wrap (b + c) = b + c := wrap_i64 (by omega) (by omega)
    by_cases hn : okN (b + c)
    · simp [f15, in_eq, hb', hc', e1, hn, numS_ok hn]
    · simp [f15, in_eq, hb', hc', e1, hn, numS_no hn]
  by_cases h7 : op = 7
  · subst h7
    have e1 : IntKind.i64.wrap (b - c) = b - c := wrap_i64 (by omega) (by omega)
    by_cases hn : okN (b - c)
    · simp [f15, in_eq, hb', hc', e1, hn, numS_ok hn]
    · simp [f15, in_eq, hb', hc', e1, hn, numS_no hn]
  by_cases h8 : op = 8
  · subst h8
    by_cases h0 : c = 0
    · simp [f15, in_eq, hb', hc', h0, numS_ok (n := 0) (by decide)]
    have e3 : (1099511627776 : Int).tdiv (c.natAbs : Int) = 1099511627776 / (c.natAbs : Int) := Int.tdiv_eq_ediv_of_nonneg (by decide)
    have e5 : (1099511627776 : Int) / (c.natAbs : Int) ≤ 1099511627776 := Int.ediv_le_self _ (by decide)
    have e4 : (0 : Int) ≤ 1099511627776 / (c.natAbs : Int) := Int.ediv_nonneg (by decide) (by omega)
    have e6 : IntKind.i64.wrap (1099511627776 / (c.natAbs : Int)) = 1099511627776 / (c.natAbs : Int) := wrap_i64 (by omega) (by omega)
    have e7 : IntKind.i64.wrap (-b) = -b := wrap_i64 (by omega) (by omega)
    have e8 : (c.natAbs : Int) ≠ 0 := by omega
    have hm := mul_nat c b h0
    rw [Int.mul_comm c b] at hm
    have hq := natDiv_cast c
    by_cases h2 : 1099511627776 / (c.natAbs : Int) < b
    · have hn : ¬ okN (b * c) := by rw [← hm]; generalize 1099511627776 / c.natAbs = q at *; omega
      simp [f15, in_eq, hb', hc', h0, abs_eq c _ hc', e3, e6, e7, e8, h2, numS_no hn]
    · by_cases h3 : 1099511627776 / (c.natAbs : Int) < -b
      · have hn : ¬ okN (b * c) := by rw [← hm]; generalize 1099511627776 / c.natAbs = q at *; omega
        simp [f15, in_eq, hb', hc', h0, abs_eq c _ hc', e3, e6, e7, e8, h2, h3, numS_no hn]
      · have hn : okN (b * c) := by rw [← hm]; generalize 1099511627776 / c.natAbs = q at *; omega
        have e9 : IntKind.i64.wrap (b * c) = b * c := wrap_i64 (by have := hn.1; omega) (by have := hn.2; omega)
        simp [f15, in_eq, hb', hc', h0, abs_eq c _ hc', e3, e6, e7, e8, e9, h2, h3, hn, numS_ok hn]
  have h1 := tdiv_abs b c
  have h2 : IntKind.i64.wrap (b.tdiv c) = b.tdiv c := wrap_i64 (by omega) (by omega)
  have h3 : IntKind.i64.wrap (b.tdiv c - 1) = b.tdiv c - 1 := wrap_i64 (by omega) (by omega)
  by_cases h0 : c = 0
  · simp [f15, in_eq, hb', hc', hop, hop', h6, h7, h8, h0]
  have hf := flo_law (b := b) h0
  have e1 : IntKind.i64.wrap (c * flo b c) = c * flo b c := wrap_i64 (by omega) (by omega)
  have e2 : IntKind.i64.wrap (b - c * flo b c) = b - c * flo b c := wrap_i64 (by omega) (by omega)
  have e4 : flo b c = if b.tmod c ≠ 0 ∧ decide (b < 0) ≠ decide (c < 0) then b.tdiv c - 1 else b.tdiv c := rfl
  have fin : ∀ q, flo b c = q → (b.tmod c = 0 ∧ q = b.tdiv c ∨ b.tmod c ≠ 0 ∧ decide (b < 0) = decide (c < 0) ∧ q = b.tdiv c ∨ b.tmod c ≠ 0 ∧ decide (b < 0) ≠ decide (c < 0) ∧ q = b.tdiv c - 1) := by
    intro q hq
    rw [e4] at hq
    by_cases h4 : b.tmod c = 0
    · left; simp [h4] at hq; exact ⟨h4, hq.symm⟩
    · by_cases h5 : decide (b < 0) = decide (c < 0)
      · right; left; simp [h5] at hq; exact ⟨h4, h5, hq.symm⟩
      · right; right; simp only [ne_eq, h4, not_false_eq_true, h5, and_self, if_true] at hq; exact ⟨h4, h5, hq.symm⟩
  by_cases h9 : op = 9
  · subst h9
    generalize hq : flo b c = q at *
    by_cases hn : okN q
    · rcases fin q rfl with ⟨h4, h5⟩ | ⟨h4, h6, h5⟩ | ⟨h4, h6, h5⟩
      · subst h5
        simp [f15, in_eq, hb', hc', h0, h2, h3, h4, hn, numS_ok hn]
      all_goals
        subst h5
        by_cases hb0 : b < 0 <;> by_cases hc0 : c < 0 <;> simp [hb0, hc0] at h6 <;> simp [f15, in_eq, hb', hc', h0, h2, h3, h4, hb0, hc0, hn, numS_ok hn]
    · rcases fin q rfl with ⟨h4, h5⟩ | ⟨h4, h6, h5⟩ | ⟨h4, h6, h5⟩
      · subst h5
        simp [f15, in_eq, hb', hc', h0, h2, h3, h4, hn, numS_no hn]
      all_goals
        subst h5
        by_cases hb0 : b < 0 <;> by_cases hc0 : c < 0 <;> simp [hb0, hc0] at h6 <;> simp [f15, in_eq, hb', hc', h0, h2, h3, h4, hb0, hc0, hn, numS_no hn]
  · have h10 : op = 10 := by omega
    subst h10
    generalize hq : flo b c = q at *
    by_cases hn : okN (b - c * q)
    · rcases fin q rfl with ⟨h4, h5⟩ | ⟨h4, h6, h5⟩ | ⟨h4, h6, h5⟩
      · subst h5
        simp [f15, in_eq, hb', hc', h0, h2, h3, h4, e1, e2, hn, numS_ok hn]
      all_goals
        subst h5
        by_cases hb0 : b < 0 <;> by_cases hc0 : c < 0 <;> simp [hb0, hc0] at h6 <;> simp [f15, in_eq, hb', hc', h0, h2, h3, h4, hb0, hc0, e1, e2, hn, numS_ok hn]
    · rcases fin q rfl with ⟨h4, h5⟩ | ⟨h4, h6, h5⟩ | ⟨h4, h6, h5⟩
      · subst h5
        simp [f15, in_eq, hb', hc', h0, h2, h3, h4, e1, e2, hn, numS_no hn]
      all_goals
        subst h5
        by_cases hb0 : b < 0 <;> by_cases hc0 : c < 0 <;> simp [hb0, hc0] at h6 <;> simp [f15, in_eq, hb', hc', h0, h2, h3, h4, hb0, hc0, e1, e2, hn, numS_no hn]

theorem head_eq (h : AHeap) : callR sys T2 (.fn 13) [] .no h = some (.ret (.bool true), .no, h) :=
  callR_tab (l := tHead) (by kernel_rfl) rfl

theorem calcS_div {b c : Int} (h : (calcS 9 b c).2 = 0) : okN b ∧ okN c ∧ c ≠ 0 ∧ calcS 9 b c = (flo b c, 0) ∧ calcS 10 b c = (b - c * flo b c, 0) := by
  unfold calcS at h
  by_cases hb : ¬ okN b
  · simp [hb] at h
  have hb' : okN b := Decidable.of_not_not hb
  by_cases hc : ¬ okN c
  · simp [hb', hc] at h
  have hc' : okN c := Decidable.of_not_not hc
  by_cases h0 : c = 0
  · simp [hb', hc', h0] at h
  have hn : okN (flo b c) := Decidable.of_not_not fun hn => by
    simp [hb', hc', h0, numS_no hn] at h
  have hf := flo_law (b := b) h0
  have hm : okN (b - c * flo b c) := by constructor <;> omega
  refine ⟨hb', hc', h0, ?_, ?_⟩
  · unfold calcS; simp [hb', hc', h0, numS_ok hn]
  · unfold calcS; simp [hb', hc', h0, numS_ok hm]

/-- **StepCalc says true.** -/
theorem stepCalc_eq (op b c : Int) (h : AHeap) (hb : i64N b) (hc : i64N c) : callR sys T2 (.fn 3) [i op, i b, i c] .no h = some (.ret (.bool true), .no, h) := by
  rw [callR_fn (fn := f3) (by kernel_rfl) (by kernel_rfl) (by kernel_rfl)]
  by_cases h1 : ¬ (calcS 9 b c).2 = 0
  · simp [f3, head_eq, calc_eq _ b c _ hb hc, refcalc_eq _ b c _ hb hc, h1]
  have h1' : (calcS 9 b c).2 = 0 := Decidable.of_not_not h1
  obtain ⟨hb', hc', h0, h9, h10⟩ := calcS_div h1'
  have hf := flo_law (b := b) h0
  have e1 : IntKind.i64.wrap (c * flo b c) = c * flo b c := wrap_i64 (by omega) (by omega)
  have e2 : c * flo b c + (b - c * flo b c) = b := by omega
  generalize b - c * flo b c = r at *
  have e3 : IntKind.i64.wrap b = b := wrap_i64 hb.1 hb.2
  rcases hf with ⟨g1, g2, g3⟩ | ⟨g1, g2, g3⟩
  · have g4 : ¬ (c < 0) := by omega
    simp [f3, head_eq, calc_eq _ b c _ hb hc, refcalc_eq _ b c _ hb hc, h9, h10, e1, e2, e3, g1, g2, g3, g4]
  · have g4 : ¬ (0 < c) := by omega
    simp [f3, head_eq, calc_eq _ b c _ hb hc, refcalc_eq _ b c _ hb hc, h9, h10, e1, e2, e3, g1, g2, g3, g4]
end
end Go.Proofs.YtbejfgpeledcjaaGreat.A
