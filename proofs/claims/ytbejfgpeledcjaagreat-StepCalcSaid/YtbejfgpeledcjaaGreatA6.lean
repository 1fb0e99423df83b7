/- Regions whose order is open (1). -/
import Derived.Test.YtbejfgpeledcjaaGreatA5
set_option linter.unusedVariables false
set_option linter.unusedSimpArgs false
namespace Go.Proofs.YtbejfgpeledcjaaGreat.A
noncomputable section
open Go

theorem testBit_two (n i : Nat) : (2 ^ n).testBit i = decide (n = i) := by simp [Nat.testBit_two_pow]

theorem ancFold_bit (acc : List Nat) : ∀ (es : List Edge) (s j : Nat), (es.foldl (fun s e => if Region.binds .any e then s ||| 2 ^ e.on ||| acc.getD e.on 0 else s) s).testBit j = true →
    s.testBit j = true ∨ ∃ e ∈ es, Region.binds .any e = true ∧ (j = e.on ∨ (acc.getD e.on 0).testBit j = true)
  | [], s, j, h => .inl h
  | e :: es, s, j, h => by
    simp only [List.foldl_cons] at h
    rcases ancFold_bit acc es _ j h with h1 | ⟨e', h1, h2⟩
    · split at h1
      · rename_i hb
        simp only [Nat.testBit_or, Bool.or_eq_true] at h1
        rcases h1 with (h1 | h1) | h1
        · exact .inl h1
        · rw [testBit_two] at h1; simp at h1; exact .inr ⟨e, by simp, hb, .inl h1.symm⟩
        · exact .inr ⟨e, by simp, hb, .inr h1⟩
      · exact .inl h1
    · exact .inr ⟨e', by simp [h1], h2⟩

theorem ancStep_bit {acc : List Nat} {o : Oper} {j : Nat} (h : (ancStep acc o).testBit j = true) : ∃ e ∈ o.after.toList, Region.binds .any e = true ∧ (j = e.on ∨ (acc.getD e.on 0).testBit j = true) := by
  rcases ancFold_bit acc o.after.toList 0 j h with h1 | h1
  · simp at h1
  · exact h1

theorem ancAll_keep : ∀ (ops : List Oper) (acc : List Nat) (i : Nat), i < acc.length → (ancAll acc ops).getD i 0 = acc.getD i 0
  | [], acc, i, h => rfl
  | o :: rest, acc, i, h => by
    simp only [ancAll]
    rw [ancAll_keep rest _ i (by simp; omega)]
    simp [List.getElem?_append_left h]

theorem ancAll_len : ∀ (ops : List Oper) (acc : List Nat), (ancAll acc ops).length = acc.length + ops.length
  | [], acc => by simp [ancAll]
  | o :: rest, acc => by simp only [ancAll]; rw [ancAll_len rest]; simp; omega

theorem ancAll_step : ∀ (ops : List Oper) (acc : List Nat) (k : Nat) (o : Oper), ops[k]? = some o →
    ∃ acc', acc'.length = acc.length + k ∧ (∀ i, i < acc.length + k → acc'.getD i 0 = (ancAll acc ops).getD i 0) ∧ (ancAll acc ops).getD (acc.length + k) 0 = ancStep acc' o
  | o :: rest, acc, 0, o', h => by
    simp at h; subst h
    refine ⟨acc, rfl, fun i hi => (ancAll_keep (o :: rest) acc i (by omega)).symm, ?_⟩
    simp only [ancAll, Nat.add_zero]
    rw [ancAll_keep rest _ acc.length (by simp)]
    simp
  | o :: rest, acc, k + 1, o', h => by
    simp at h
    obtain ⟨acc', h1, h2, h3⟩ := ancAll_step rest (acc ++ [ancStep acc o]) k o' h
    simp only [List.length_append, List.length_singleton] at h1 h2 h3
    refine ⟨acc', by omega, fun i hi => ?_, ?_⟩
    · exact h2 i (by omega)
    · rw [show acc.length + (k + 1) = acc.length + 1 + k by omega]; exact h3
  | [], _, k, o', h => by simp at h

theorem anc_inv {ops : List Oper} {i j : Nat} (h : anc (ancAll [] ops) i j = true) : ∃ o, ops[i]? = some o ∧ ∃ e ∈ o.after.toList, Region.binds .any e = true ∧ (j = e.on ∨ (e.on < i ∧ anc (ancAll [] ops) e.on j = true)) := by
  unfold anc at h
  cases ho : ops[i]? with
  | none =>
    rw [List.getD_eq_getElem?_getD, List.getElem?_eq_none (by rw [ancAll_len]; simpa using ho)] at h
    simp at h
  | some o =>
    obtain ⟨acc', h1, h2, h3⟩ := ancAll_step ops [] i o ho
    simp only [List.length_nil, Nat.zero_add] at h1 h2 h3
    rw [h3] at h
    obtain ⟨e, he, hb, hj⟩ := ancStep_bit h
    refine ⟨o, rfl, e, he, hb, ?_⟩
    rcases hj with hj | hj
    · exact .inl hj
    · right
      have hlt : e.on < i := by
        rcases Nat.lt_or_ge e.on i with h' | h'
        · exact h'
        · rw [List.getD_eq_getElem?_getD, List.getElem?_eq_none (by omega)] at hj; simp at hj
      exact ⟨hlt, by unfold anc; rw [← h2 _ hlt]; exact hj⟩

/-- What has been done is closed under what must stand ahead. -/
def Down (ops : List Oper) (S : Nat → Prop) : Prop := ∀ (j : Nat) (o : Oper), S j → ops[j]? = some o → ∀ e ∈ o.after.toList, Region.binds .any e = true → S e.on

theorem Down.anc {ops : List Oper} {S : Nat → Prop} (hS : Down ops S) : ∀ (n i j : Nat), i < n → S i → A.anc (ancAll [] ops) i j = true → S j
  | 0, _, _, h, _, _ => by omega
  | n + 1, i, j, hi, hs, ha => by
    obtain ⟨o, ho, e, he, hb, hj⟩ := anc_inv ha
    have hon := hS i o hs ho e he hb
    rcases hj with rfl | ⟨hlt, hj⟩
    · exact hon
    · exact Down.anc hS n e.on j (by omega) hon hj

theorem ready_anc {ops : List Oper} {S : Nat → Prop} (hS : Down ops S) {i : Nat} {o : Oper} (ho : ops[i]? = some o) (hr : ∀ e ∈ o.after.toList, Region.binds .any e = true → S e.on) {j : Nat} (ha : anc (ancAll [] ops) i j = true) : S j := by
  obtain ⟨o', ho', e, he, hb, hj⟩ := anc_inv ha
  rw [ho] at ho'; cases ho'
  have hon := hr e he hb
  rcases hj with rfl | ⟨hlt, hj⟩
  · exact hon
  · exact hS.anc (e.on + 1) e.on j (by omega) hon hj

/-- What the checks of a region come to. -/
structure Fit (b ws : List Nat) (l : List AOper) : Prop where
  slot : ∀ (i j : Nat) (x y : AOper) (d : Nat), l[i]? = some x → l[j]? = some y → x.dst = some d → i ≠ j → d ∈ y.names → (i < j → anc b j i = true) ∧ (j < i → anc b i j = true)
  chain : ∀ (T : Nat → Prop), (∀ i j, T i → anc b i j = true → T j) → ∀ w w', w ∈ ws → w' ∈ ws → w < w' → T w' → T w
  mem : ∀ i, i ∈ ws ↔ ∃ x, l[i]? = some x ∧ x.op.cls = .write
  cnt : ∀ c, ws.countP (· < c) = (l.take c).countP (fun x => x.op.cls = .write)

theorem mem_il {l : List AOper} {i : Nat} {x : AOper} : (i, x) ∈ (List.range l.length).zip l ↔ l[i]? = some x := by
  constructor
  · intro h
    obtain ⟨k, hk⟩ := List.getElem?_of_mem h
    rw [List.getElem?_zip_eq_some] at hk
    obtain ⟨h1, h2⟩ := hk
    rw [List.getElem?_range (by have := (List.getElem?_eq_some_iff.1 h2).1; omega)] at h1
    cases h1; exact h2
  · intro h
    have hlt := (List.getElem?_eq_some_iff.1 h).1
    exact List.mem_of_getElem? (i := i) (by rw [List.getElem?_zip_eq_some]; exact ⟨List.getElem?_range hlt, h⟩)

theorem chain_down {b : List Nat} {T : Nat → Prop} (hT : ∀ i j, T i → anc b i j = true → T j) : ∀ (ws : List Nat), chainOk b ws = true → ws.Pairwise (· < ·) → ∀ w w', w ∈ ws → w' ∈ ws → w < w' → T w' → T w
  | [], _, _, w, w', h, _, _, _ => by simp at h
  | [x], _, _, w, w', h, h', hlt, _ => by simp at h h'; omega
  | x :: y :: l, hc, hp, w, w', h, h', hlt, ht => by
    simp only [chainOk, Bool.and_eq_true] at hc
    have hp' := List.pairwise_cons.1 hp
    have key : ∀ z ∈ y :: l, T z → T y := fun z hz htz => by
      by_cases hzy : z = y
      · exact hzy ▸ htz
      · have hyz : y < z := by
          have := List.pairwise_cons.1 hp'.2
          rcases List.mem_cons.1 hz with h1 | h1
          · exact absurd h1 hzy
          · exact this.1 z h1
        exact chain_down hT (y :: l) hc.2 hp'.2 y z (by simp) hz hyz htz
    rcases List.mem_cons.1 h with rfl | hw
    · rcases List.mem_cons.1 h' with rfl | hw'
      · omega
      · exact hT y w (key w' hw' ht) hc.1
    · rcases List.mem_cons.1 h' with rfl | hw'
      · have := hp'.1 w hw; omega
      · exact chain_down hT (y :: l) hc.2 hp'.2 w w' hw hw' hlt ht

theorem writesAt_go (k : Nat) : ∀ (l : List AOper), ((List.range' k l.length).zip l).filterMap (fun (x : Nat × AOper) => if x.2.op.cls = .write then some x.1 else none) =
    ((List.range' k l.length).filter fun i => ((l[i - k]?).any fun x => decide (x.op.cls = .write)))
  | [] => by simp
  | x :: l => by
    have ih := writesAt_go (k + 1) l
    simp only [List.length_cons, List.range'_succ, List.zip_cons_cons, List.filterMap_cons, List.filter_cons]
    have e : (List.filter (fun i => ((x :: l)[i - k]?).any fun x => decide (x.op.cls = .write)) (List.range' (k + 1) l.length)) = List.filter (fun i => (l[i - (k + 1)]?).any fun x => decide (x.op.cls = .write)) (List.range' (k + 1) l.length) := by
      apply List.filter_congr
      intro i hi
      have := List.mem_range'_1.1 hi
      rw [show i - k = (i - (k + 1)) + 1 by omega]; simp
    by_cases hw : x.op.cls = .write
    · simp [hw, ih, e]
    · simp [hw, ih, e]

theorem writesAt_eq (l : List AOper) : writesAt ((List.range l.length).zip l) = (List.range l.length).filter fun i => ((l[i]?).any fun x => decide (x.op.cls = .write)) := by
  have := writesAt_go 0 l
  rw [← List.range_eq_range'] at this
  simpa [writesAt] using this

theorem cnt_go' (p : AOper → Bool) : ∀ (l : List AOper) (k c : Nat), ((List.range' k l.length).filter fun i => (l[i - k]?).any p).countP (· < k + c) = (l.take c).countP p
  | [], k, c => by simp
  | x :: l, k, c => by
    have e : (List.filter (fun i => ((x :: l)[i - k]?).any p) (List.range' (k + 1) l.length)) = List.filter (fun i => (l[i - (k + 1)]?).any p) (List.range' (k + 1) l.length) := by
      apply List.filter_congr
      intro i hi
      have := List.mem_range'_1.1 hi
      rw [show i - k = (i - (k + 1)) + 1 by omega]; simp
    cases c with
    | zero =>
      simp only [List.take_zero, List.countP_nil, Nat.add_zero]
      rw [List.countP_eq_zero]
      intro i hi
      have := List.mem_range'_1.1 (List.mem_filter.1 hi).1
      simp; omega
    | succ c =>
      have ih := cnt_go' p l (k + 1) c
      rw [show k + 1 + c = k + (c + 1) by omega] at ih
      simp only [List.length_cons, List.range'_succ, List.filter_cons, List.take_succ_cons, List.countP_cons]
      rw [e]
      by_cases hp : p x = true
      · simp [hp, ih]
      · simp [hp, ih]

theorem cnt_go (p : AOper → Bool) (l : List AOper) (c : Nat) : ((List.range l.length).filter fun i => (l[i]?).any p).countP (· < c) = (l.take c).countP p := by
  have := cnt_go' p l 0 c
  rw [← List.range_eq_range'] at this
  simpa using this

theorem fit_of {b : List Nat} {l : List AOper} (hs : slotsOk b ((List.range l.length).zip l) = true) (hc : chainOk b (writesAt ((List.range l.length).zip l)) = true) : Fit b (writesAt ((List.range l.length).zip l)) l := by
  refine ⟨fun i j x y d hx hy hd hij hn => ?_, fun T hT => chain_down hT _ hc ?_, fun i => ?_, fun c => ?_⟩
  · have h1 := List.all_eq_true.1 hs (i, x) (mem_il.2 hx)
    simp only [hd] at h1
    have h2 := List.all_eq_true.1 h1 (j, y) (mem_il.2 hy)
    have hne : (i == j) = false := by simpa using hij
    have hcont : y.names.contains d = true := by simpa using hn
    simp only [hne, hcont, Bool.not_true, Bool.false_or] at h2
    refine ⟨fun hlt => by rw [if_pos hlt] at h2; exact h2, fun hlt => by rw [if_neg (by omega)] at h2; exact h2⟩
  · rw [writesAt_eq]
    exact List.Pairwise.filter _ (List.pairwise_lt_range)
  · rw [writesAt_eq]
    simp only [List.mem_filter, List.mem_range]
    constructor
    · rintro ⟨h1, h2⟩
      rw [List.getElem?_eq_getElem h1] at h2
      exact ⟨l[i], List.getElem?_eq_getElem h1, by simpa using h2⟩
    · rintro ⟨x, h1, h2⟩
      exact ⟨(List.getElem?_eq_some_iff.1 h1).1, by rw [h1]; simpa using h2⟩
  · rw [writesAt_eq]
    exact cnt_go (fun x => decide (x.op.cls = .write)) l c

end
end Go.Proofs.YtbejfgpeledcjaaGreat.A
namespace Go.Proofs.YtbejfgpeledcjaaGreat.A
noncomputable section
open Go

variable {h h1 : AHeap} {t : Tr Value} {v : Value}

theorem mapVal_same {α : Type} {o : Option α} {f : α → Value} {h h1 : AHeap} {v : Value} (hv : o.map (fun x => R.val (f x) h) = some (.val v h1)) : h1 = h := by
  cases o with
  | none => cases hv
  | some x => cases hv; rfl

theorem aop_same {op : AOp} (hc : op.cls = .pure ∨ op.cls = .read) (hv : aop op t h = some (.val v h1)) : h1 = h := by
  cases op <;> simp only [AOp.cls, reduceCtorEq, or_self, or_false, false_or] at hc <;>
    simp only [aop, k_mv, k_pick, k_build, k_load1, k_loadN, k_nilCheck, k_bin, k_eqNil, k_eqBool, k_eqAgg, k_un, k_convInt, k_convStr, k_bytesToStr, k_mkIface, k_mkFunc, k_sliceSl, k_sliceStr, k_sliceArr, k_fieldAddr, k_part, k_idxSl, k_idxArr, k_indexAgg, k_lookup, k_typeIs, k_extract, k_lenStr, k_lenSl, k_lenMap, k_max2, k_min2] at hv
  all_goals (repeat' split at hv)
  all_goals first
    | (cases hv; done)
    | (simp only [Option.some.injEq, R.val.injEq] at hv; exact hv.2.symm)
    | exact mapVal_same hv
    | (obtain ⟨_, _, he⟩ := isSomeMap hv; simp only [R.val.injEq] at he; exact he.2.symm)

theorem aop_alloc {op : AOp} (hc : op.cls = .alloc) (hv : aop op t h = some (.val v h1)) : ∃ ob, h1 = h.push ob := by
  cases op <;> simp only [AOp.cls, reduceCtorEq] at hc <;> simp only [aop, k_alloc, k_box, k_buildSlice, k_mkMap, k_mkSlice] at hv
  all_goals (repeat' split at hv)
  all_goals first
    | (cases hv; done)
    | (simp only [Option.some.injEq, R.val.injEq] at hv; exact ⟨_, hv.2.symm⟩)

theorem ba_eq {a b : ByteArray} (h : a.data.toList = b.data.toList) : a = b := by
  cases a; cases b; simp only at h; congr 1; exact Array.ext' h

theorem veq1_eq {a b : Value} (he : veq1 a b = true) : a = b := by
  unfold veq1 at he
  split at he <;> simp only [Bool.and_eq_true, beq_iff_eq, decide_eq_true_eq, Bool.false_eq_true] at he
  all_goals first
    | (subst he; rfl)
    | (rw [ba_eq he])
    | (obtain ⟨rfl, rfl⟩ := he; rfl)
    | (obtain ⟨⟨rfl, rfl⟩, rfl⟩ := he; rfl)
    | rfl

theorem veqL_eq : ∀ {a b : List Value}, veqL a b = true → a = b
  | [], [], _ => rfl
  | x :: a, y :: b, h => by
    simp only [veqL, Bool.and_eq_true] at h
    rw [veq1_eq h.1, veqL_eq h.2]
  | [], _ :: _, h => by simp [veqL] at h
  | _ :: _, [], h => by simp [veqL] at h

theorem veq_eq {a b : Value} (he : veq a b = true) : a = b := by
  unfold veq at he
  split at he
  · rw [veqL_eq he]
  · simp only [Bool.and_eq_true, beq_iff_eq] at he
    rw [veq1_eq he.1, he.2]
  · exact veq1_eq he

theorem oeq_eq {a b : AObj} (he : oeq a b = true) : a = b := by
  unfold oeq at he
  split at he
  · simp only [Bool.and_eq_true, beq_iff_eq] at he
    rw [he.1, veqL_eq he.2]
  · rfl
  · cases he

theorem checkOne_get {r : DChk} : ∀ {hs : List AHeap} {k : Nat}, checkOne r k hs = true → ∀ (i : Nat) (h : AHeap), hs[i]? = some h → r.within (k + i) = true → checkAt h r = true
  | [], k, _, i, h, hg, _ => by simp at hg
  | x :: hs, k, hc, i, h, hg, hw => by
    simp only [checkOne, Bool.and_eq_true, Bool.or_eq_true, Bool.not_eq_true'] at hc
    cases i with
    | zero =>
      simp at hg; subst hg
      rcases hc.1 with h1 | h1
      · rw [Nat.add_zero] at hw; rw [hw] at h1; cases h1
      · exact h1
    | succ i =>
      simp at hg
      exact checkOne_get hc.2 i h hg (by rw [show k + 1 + i = k + (i + 1) by omega]; exact hw)

/-- One step of the run in the text's order. -/
structure SRec (K : CallFn) (HH : List AHeap) (o : AOper) (k : Nat) (s s' : St) : Prop where
  at' : o.op.cls = .write → HH[k]? = some s.h
  step : (wantedA s.t o = some false ∧ s' = { s with t := putT s.t o.dst blank }) ∨
   (wantedA s.t o = some true ∧
     ((o.op.cls = .write ∧ opStep K o s = some (.norm, s')) ∨
      (o.op.cls = .read ∧ ∃ v, s' = { s with t := putT s.t o.dst v } ∧ ∀ k' h', o.lo ≤ k' → k' ≤ o.hi → HH[k']? = some h' → aop o.op s.t h' = some (.val v h')) ∨
      (o.op.cls = .alloc ∧ ∃ v ob, aop o.op s.t s.h = some (.val v (s.h.push ob)) ∧ s' = { s with t := putT s.t o.dst v, h := s.h.push ob } ∧ (∀ k' h', k + 1 ≤ k' → k' ≤ o.hi → HH[k']? = some h' → h'.get s.h.next = some ob)) ∨
      (o.op.cls = .pure ∧ ∃ v, aop o.op s.t s.h = some (.val v s.h) ∧ s' = { s with t := putT s.t o.dst v })))

def isW (x : AOper) : Bool := decide (x.op.cls = .write)
def W (l : List AOper) (i : Nat) : Nat := (l.take i).countP isW

/-- How the run ends. -/
def TEnd (K : CallFn) (all l : List AOper) (p : Nat) (σ : Nat → St) (e : Ex) (s1 : St) : Prop :=
  (e = .norm ∧ p = l.length ∧ s1 = σ p) ∨
  (∃ v s' o, e = .pan v ∧ l[p]? = some o ∧ wantedA (σ p).t o = some true ∧ o.op.cls = .write ∧ o.alone = true ∧ opStep K o (σ p) = some (.pan v, s') ∧ s1 = { s' with t := forget all (σ p).t })

theorem drawn_trace {K : CallFn} (all : List AOper) : ∀ (l : List AOper) (k : Nat) (s : St) (hs : List AHeap) (rs : List DChk) (e : Ex) (s1 : St), drawnRun K all l k s hs rs = some (e, s1) → hs.length = k →
    ∃ (HH : List AHeap) (p : Nat) (σ : Nat → St), (∀ i, i < k → HH[i]? = hs.reverse[i]?) ∧ σ 0 = s ∧ p ≤ l.length ∧ (∀ i, i < p → ∃ o, l[i]? = some o ∧ SRec K HH o (k + W l i) (σ i) (σ (i + 1))) ∧
      HH[k + W l p]? = some (σ p).h ∧ checkAll HH rs = true ∧ TEnd K all l p σ e s1
  | [], k, s, hs, rs, e, s1, hr, hk => by
    simp only [drawnRun] at hr
    split at hr
    · rename_i hc
      cases hr
      refine ⟨(s.h :: hs).reverse, 0, fun _ => s, fun i hi => ?_, rfl, by simp, fun i hi => by omega, ?_, hc, .inl ⟨rfl, rfl, rfl⟩⟩
      · simp only [List.reverse_cons]; rw [List.getElem?_append_left (by simp; omega)]
      · simp only [W, List.take_nil, List.countP_nil, Nat.add_zero, List.reverse_cons]
        rw [List.getElem?_append_right (by simp; omega)]; simp [hk]
    · cases hr
  | o :: rest, k, s, hs, rs, e, s1, hr, hk => by
    -- one step more at the head
    have cons : ∀ (k1 : Nat) (s' : St) (hs1 : List AHeap) (rs1 : List DChk), drawnRun K all rest k1 s' hs1 rs1 = some (e, s1) → hs1.length = k1 → k1 = (if o.op.cls = .write then k + 1 else k) → (hs1 = if o.op.cls = .write then s.h :: hs else hs) →
        (∀ HH, checkAll HH rs1 = true → checkAll HH rs = true) → (∀ HH, checkAll HH rs1 = true → (o.op.cls = .write → HH[k]? = some s.h) → SRec K HH o k s s') →
        ∃ (HH : List AHeap) (p : Nat) (σ : Nat → St), (∀ i, i < k → HH[i]? = hs.reverse[i]?) ∧ σ 0 = s ∧ p ≤ (o :: rest).length ∧ (∀ i, i < p → ∃ x, (o :: rest)[i]? = some x ∧ SRec K HH x (k + W (o :: rest) i) (σ i) (σ (i + 1))) ∧
          HH[k + W (o :: rest) p]? = some (σ p).h ∧ checkAll HH rs = true ∧ TEnd K all (o :: rest) p σ e s1 := by
      intro k1 s' hs1 rs1 hrun hl hk1 hhs hrs hsrec
      obtain ⟨HH, p, σ, g1, g2, g3, g4, g5, g6, g7⟩ := drawn_trace all rest k1 s' hs1 rs1 e s1 hrun hl
      have hW : ∀ i, k + W (o :: rest) (i + 1) = k1 + W rest i := fun i => by
        simp only [W, List.take_succ_cons, List.countP_cons, isW]
        rw [hk1]; by_cases hw : o.op.cls = .write <;> simp [hw] <;> omega
      refine ⟨HH, p + 1, fun i => match i with | 0 => s | i + 1 => σ i, fun i hi => ?_, rfl, by simp; omega, fun i hi => ?_, ?_, hrs HH g6, ?_⟩
      · rw [hhs] at g1
        by_cases hw : o.op.cls = .write
        · rw [g1 i (by rw [hk1]; simp [hw]; omega)]
          simp only [hw, if_true, List.reverse_cons]
          rw [List.getElem?_append_left (by simp; omega)]
        · rw [g1 i (by rw [hk1]; simp [hw]; omega)]; simp [hw]
      · cases i with
        | zero =>
          refine ⟨o, rfl, ?_⟩
          simp only [W, List.take_zero, List.countP_nil, Nat.add_zero]
          rw [g2]
          refine hsrec HH g6 (fun hw => ?_)
          have := g1 k (by rw [hk1]; simp [hw])
          rw [this, hhs]
          simp only [hw, if_true, List.reverse_cons]
          rw [List.getElem?_append_right (by simp; omega)]; simp [hk]
        | succ i =>
          obtain ⟨x, h1, h2⟩ := g4 i (by omega)
          refine ⟨x, by simpa using h1, ?_⟩
          rw [hW]; exact h2
      · rw [hW]; exact g5
      · rcases g7 with ⟨h1, h2, h3⟩ | ⟨v, s2, x, h1, h2, h3⟩
        · exact .inl ⟨h1, by simp [h2], h3⟩
        · exact .inr ⟨v, s2, x, h1, by simpa using h2, h3⟩
    simp only [drawnRun] at hr
    split at hr
    · cases hr
    · rename_i hw
      refine cons _ _ _ _ hr ?_ rfl rfl (fun _ h => h) (fun HH _ hat => ⟨hat, .inl ⟨hw, rfl⟩⟩)
      by_cases hc : o.op.cls = .write <;> simp [hc, hk]
    · rename_i hw
      split at hr
      · rename_i hc
        split at hr
        · rename_i s' hop
          exact cons _ _ _ _ hr (by simp [hk]) (by simp [hc]) (by simp [hc]) (fun _ h => h) (fun HH _ hat => ⟨hat, .inr ⟨hw, .inl ⟨hc, hop⟩⟩⟩)
        · rename_i v s' hop
          split at hr
          · rename_i hal
            cases hr
            refine ⟨(s.h :: hs).reverse, 0, fun _ => s, fun i hi => ?_, rfl, by simp, fun i hi => by omega, ?_, hal.2, .inr ⟨v, s', o, rfl, rfl, hw, hc, hal.1, hop, rfl⟩⟩
            · simp only [List.reverse_cons]; rw [List.getElem?_append_left (by simp; omega)]
            · simp only [W, List.take_zero, List.countP_nil, Nat.add_zero, List.reverse_cons]
              rw [List.getElem?_append_right (by simp; omega)]; simp [hk]
          · cases hr
        · cases hr
      · rename_i hc
        split at hr
        · rename_i v h' hop
          have hsame := aop_same (.inr hc) hop
          subst hsame
          refine cons _ _ _ _ hr hk (by simp [hc]) (by simp [hc]) (fun HH h => ?_) (fun HH h hat => ⟨hat, .inr ⟨hw, .inr (.inl ⟨hc, v, rfl, fun k' h' h1 h2 h3 => ?_⟩)⟩⟩)
          · simp only [checkAll, Bool.and_eq_true] at h; exact h.2
          · simp only [checkAll, Bool.and_eq_true] at h
            have := checkOne_get h.1 k' h' h3 (by simp [DChk.within]; omega)
            simp only [checkAt] at this
            split at this
            · rename_i v' h'' hav
              have e1 := veq_eq this
              have e2 := aop_same (.inr hc) hav
              rw [hav, e1, e2]
            · cases this
        · cases hr
      · rename_i hc
        split at hr
        · rename_i v h' hop
          obtain ⟨ob, rfl⟩ := aop_alloc hc hop
          split at hr
          · rename_i ob' hob
            have : ob' = ob := by simp at hob; exact hob.symm
            subst this
            refine cons _ _ _ _ hr hk (by simp [hc]) (by simp [hc]) (fun HH h => ?_) (fun HH h hat => ⟨hat, .inr ⟨hw, .inr (.inr (.inl ⟨hc, v, ob', hop, rfl, fun k' h' h1 h2 h3 => ?_⟩))⟩⟩)
            · split at h
              · exact h
              · simp only [checkAll, Bool.and_eq_true] at h; exact h.2
            · rw [if_neg (by omega)] at h
              simp only [checkAll, Bool.and_eq_true] at h
              have := checkOne_get h.1 k' h' h3 (by simp [DChk.within]; omega)
              simp only [checkAt] at this
              split at this
              · rename_i o2 hg; rw [hg, oeq_eq this]
              · cases this
          · cases hr
        · cases hr
      · rename_i hc
        split at hr
        · rename_i v h' hop
          have hsame := aop_same (.inl hc) hop
          subst hsame
          exact cons _ _ _ _ hr hk (by simp [hc]) (by simp [hc]) (fun _ h => h) (fun HH _ hat => ⟨hat, .inr ⟨hw, .inr (.inr (.inr ⟨hc, v, hop, rfl⟩))⟩⟩)
        · cases hr

end
end Go.Proofs.YtbejfgpeledcjaaGreat.A
namespace Go.Proofs.YtbejfgpeledcjaaGreat.A
noncomputable section
open Go

variable {P : Program} {ρ : Ren} {h h1 : AHeap} {G : Bes} {w : World} {t : Tr Value} {a : Act} {v : Value}

/-- The heap comes to a block that has been made already, or is not made yet. -/
theorem SR.absorb {Gs Gs' : Bes} (s : SR P ρ h Gs w) {ob : AObj} (hf : ∀ x, x ≠ h.next → Gs' x = Gs x) (hb : Gs h.next = some ob ∨ ρ h.next = none) (hban : ∀ x, Gs'.ban x → x < h.next + 1 ∧ ρ x = none) (hraw : Gs'.raw = Gs.raw) :
    SR P ρ (h.push ob) Gs' w := by
  have hnone : h.get h.next = none := by
    cases hx : h.get h.next with
    | none => rfl
    | some o => have := s.wf _ _ hx; omega
  have key : ∀ x o e, (h.push ob).with Gs' x = some o → ρ x = some e → h.with Gs x = some o := by
    intro x o e hx he
    rw [AHeap.with_push] at hx
    by_cases hxn : x = h.next
    · subst hxn
      rcases hb with h1 | h1
      · simp at hx; subst hx; unfold AHeap.with; rw [hnone]; exact h1
      · rw [h1] at he; cases he
    · rw [if_neg hxn] at hx
      unfold AHeap.with at hx ⊢
      rw [hf x hxn] at hx; exact hx
  refine ⟨⟨fun x o e h1 h2 => s.hr.obj x o e (key x o e h1 h2) h2, fun x y o p e f hxy h1 h2 h3 h4 => s.hr.apart x y o p e f hxy (key x o e h1 h3) (key y p f h2 h4) h3 h4⟩, ?_, ?_, fun x o e h1 h2 => s.lt x o e (key x o e h1 h2) h2, hban, fun k rb hk => ?_, by rw [hraw]; exact s.env⟩
  · intro x o hx
    rw [AHeap.get_push] at hx
    split at hx
    · simp; omega
    · have := s.wf x o hx; simp; omega
  · intro x e hx
    by_cases hxn : x = h.next
    · left; simp; omega
    · rcases s.dom x e hx with h1 | h1
      · left; simp; omega
      · right; rw [hf x hxn]; exact h1
  · rw [hraw] at hk
    obtain ⟨r1, r2⟩ := s.raw k rb hk
    exact ⟨r1, fun x o e h1 h2 => r2 x o e (key x o e h1 h2) h2⟩

/-- A block is made that the heap has, or that is kept beside it. -/
theorem SR.make {Gs Gs' : Bes} (s : SR P ρ h Gs w) {b : Nat} {o : AObj} {e : Emb} (hb : ρ b = none) (he : e.cb = w.heap.size) {ob : Obj} (ho : ORel P (ρ.add b e) o e (w.alloc ob))
    (hcase : (b < h.next ∧ h.get b = some o ∧ (∀ x, Gs' x = Gs x)) ∨ (h.next ≤ b ∧ Gs' b = some o ∧ (∀ x, x ≠ b → Gs' x = Gs x))) (hban : ∀ x, Gs'.ban x → x ≠ b ∧ Gs.ban x) (hraw : Gs'.raw = Gs.raw) : SR P (ρ.add b e) h Gs' (w.alloc ob) := by
  have hgb : h.with Gs' b = some o := by
    unfold AHeap.with
    rcases hcase with ⟨_, h1, _⟩ | ⟨h0, h1, _⟩
    · rw [h1]
    · cases hx : h.get b with
      | none => exact h1
      | some o' => have := s.wf _ _ hx; omega
  have hg : ∀ c, c ≠ b → h.with Gs' c = h.with Gs c := by
    intro c hc
    unfold AHeap.with
    rcases hcase with ⟨_, _, h2⟩ | ⟨_, _, h2⟩
    · rw [h2]
    · rw [h2 c hc]
  refine ⟨s.hr.alloc s.lt hb hg hgb he ho, s.wf, ?_, ?_, ?_, fun k rb hk => ?_, by rw [hraw]; exact ⟨s.env.os, s.env.tape, s.env.output⟩⟩
  · intro x f hx
    by_cases hxb : x = b
    · subst hxb
      rcases hcase with ⟨h1, _, _⟩ | ⟨_, h1, _⟩
      · exact .inl h1
      · right; rw [h1]; rfl
    · rw [Ren.add_ne ρ e hxb] at hx
      rcases s.dom x f hx with h1 | h1
      · exact .inl h1
      · right
        rcases hcase with ⟨_, _, h2⟩ | ⟨_, _, h2⟩
        · rw [h2]; exact h1
        · rw [h2 x hxb]; exact h1
  · intro x p f hx hf hl
    by_cases hxb : x = b
    · subst hxb; rw [Ren.add_same] at hf; cases hf; simp; omega
    · rw [Ren.add_ne ρ e hxb] at hf; rw [hg x hxb] at hx
      have := s.lt x p f hx hf hl; simp; omega
  · intro x hx
    obtain ⟨h1, h2⟩ := hban x hx
    exact ⟨(s.ban x h2).1, by rw [Ren.add_ne ρ e h1]; exact (s.ban x h2).2⟩
  · rw [hraw] at hk
    obtain ⟨r1, r2⟩ := s.raw k rb hk
    have hlt := (Array.getElem?_eq_some_iff.1 r1).1
    refine ⟨by simp only [World.alloc, Array.getElem?_push, Nat.ne_of_lt hlt, if_false]; exact r1, fun x p f hx hf hl hro => ?_⟩
    by_cases hxb : x = b
    · subst hxb; rw [Ren.add_same] at hf; cases hf; omega
    · rw [Ren.add_ne ρ e hxb] at hf; rw [hg x hxb] at hx
      exact r2 x p f hx hf hl hro

/-- Something else is made in the world. -/
theorem SR.other (s : SR P ρ h G w) (ob : Obj) : SR P ρ h G (w.alloc ob) :=
  ⟨⟨fun x o e h1 h2 => (s.hr.obj x o e h1 h2).mono (.refl _) (Same.of_lt (fun hl => s.lt x o e h1 h2 hl) ob), s.hr.apart⟩, s.wf, s.dom, fun x o e h1 h2 h3 => by have := s.lt x o e h1 h2 h3; simp; omega, s.ban, fun k rb hk => by
    obtain ⟨r1, r2⟩ := s.raw k rb hk
    have hlt := (Array.getElem?_eq_some_iff.1 r1).1
    exact ⟨by simp only [World.alloc, Array.getElem?_push, Nat.ne_of_lt hlt, if_false]; exact r1, r2⟩, ⟨s.env.os, s.env.tape, s.env.output⟩⟩

/-- What is kept beside is named otherwise. -/
theorem SR.beside {Gs : Bes} (s : SR P ρ h Gs w) (hf : ∀ x, G x = Gs x) (hb : ∀ x, G.ban x → Gs.ban x) (hraw : Gs.raw = G.raw) : SR P ρ h G w := by
  have key : ∀ x, h.with G x = h.with Gs x := fun x => by unfold AHeap.with; rw [hf]
  refine ⟨⟨fun x o e h1 h2 => s.hr.obj x o e (key x ▸ h1) h2, fun x y o p e f hxy h1 h2 h3 h4 => s.hr.apart x y o p e f hxy (key x ▸ h1) (key y ▸ h2) h3 h4⟩, s.wf, fun x e hx => by rw [hf]; exact s.dom x e hx, fun x o e h1 h2 => s.lt x o e (key x ▸ h1) h2, fun x hx => s.ban x (hb x hx), fun k rb hk => by
    rw [← hraw] at hk
    obtain ⟨r1, r2⟩ := s.raw k rb hk
    exact ⟨r1, fun x o e h1 h2 => r2 x o e (key x ▸ h1) h2⟩, by rw [← hraw]; exact s.env⟩

theorem opStep_t {K : CallFn} {o : AOper} {s s' : St} (h : opStep K o s = some (.norm, s')) : ∃ v, s'.t = putT s.t o.dst v := by
  unfold opStep at h
  (repeat' split at h) <;> first | (cases h; exact ⟨_, rfl⟩) | cases h

/-- What does not change while a region runs. -/
structure Reg (P : Program) (K : CallFn) (nt : Nat) (ops : Array Oper) (l : List AOper) (ws : List Nat) (HH : List AHeap) (p : Nat) (σ : Nat → St) (G : Bes) : Prop where
  len : l.length = ops.size
  co : ∀ (i : Nat) (o : Oper) (ao : AOper), ops[i]? = some o → l[i]? = some ao → CO P nt ops.toList o ao
  fit : Fit (ancAll [] ops.toList) ws l
  lo : ∀ (i : Nat) (x : AOper), l[i]? = some x → x.lo = ws.countP (anc (ancAll [] ops.toList) i ·)
  hi : ∀ (i : Nat) (x : AOper), l[i]? = some x → x.hi = ws.countP (fun j => !anc (ancAll [] ops.toList) j i)
  alone : ∀ (i : Nat) (x : AOper), l[i]? = some x → x.alone = true → ∀ (j : Nat) (y : AOper), l[j]? = some y → j ≤ i ∨ anc (ancAll [] ops.toList) j i = true ∨ y.safe = true
  ple : p ≤ l.length
  step : ∀ i, i < p → ∃ o, l[i]? = some o ∧ SRec K HH o (W l i) (σ i) (σ (i + 1))
  fin : HH[W l p]? = some (σ p).h
  kn : KNext K
  bes : Beside G (σ p).h.next

/-- A block that the run in the text's order makes at an operation. -/
def Alc (l : List AOper) (p : Nat) (σ : Nat → St) (j : Nat) (ob : AObj) : Prop :=
  j < p ∧ ∃ o v, l[j]? = some o ∧ o.op.cls = .alloc ∧ wantedA (σ j).t o = some true ∧ aop o.op (σ j).t (σ j).h = some (.val v ((σ j).h.push ob))

section
variable {K : CallFn} {nt : Nat} {ops : Array Oper} {l : List AOper} {ws : List Nat} {HH : List AHeap} {p : Nat} {σ : Nat → St}

theorem W_eq (hf : Fit (ancAll [] ops.toList) ws l) (i : Nat) : W l i = ws.countP (· < i) := by
  rw [hf.cnt]; rfl

theorem Reg.next1 (R : Reg P K nt ops l ws HH p σ G) {i : Nat} (hi : i < p) : (σ i).h.next ≤ (σ (i + 1)).h.next := by
  obtain ⟨o, _, hs⟩ := R.step i hi
  rcases hs.step with ⟨_, h1⟩ | ⟨_, ⟨_, h1⟩ | ⟨_, v, h1, _⟩ | ⟨_, v, ob, _, h1, _⟩ | ⟨_, v, _, h1⟩⟩
  · rw [h1]; exact Nat.le_refl _
  · exact opStep_next R.kn h1
  · rw [h1]; exact Nat.le_refl _
  · rw [h1]; simp
  · rw [h1]; exact Nat.le_refl _

theorem Reg.next (R : Reg P K nt ops l ws HH p σ G) {i : Nat} : ∀ (m : Nat), i + m ≤ p → (σ i).h.next ≤ (σ (i + m)).h.next
  | 0, _ => Nat.le_refl _
  | m + 1, h => Nat.le_trans (R.next m (by omega)) (R.next1 (i := i + m) (by omega))

theorem Reg.next_le (R : Reg P K nt ops l ws HH p σ G) {i j : Nat} (h : i ≤ j) (hj : j ≤ p) : (σ i).h.next ≤ (σ j).h.next := by
  have := R.next (i := i) (j - i) (by omega)
  rwa [show i + (j - i) = j by omega] at this

theorem Alc.next {j : Nat} {ob : AObj} (hA : Alc l p σ j ob) (R : Reg P K nt ops l ws HH p σ G) : (σ (j + 1)).h = (σ j).h.push ob := by
  obtain ⟨hj, o, v, h1, h2, h3, h4⟩ := hA
  obtain ⟨o', h1', hs⟩ := R.step j hj
  rw [h1] at h1'; cases h1'
  rcases hs.step with ⟨h5, _⟩ | ⟨_, ⟨h5, _⟩ | ⟨h5, _⟩ | ⟨_, v', ob', h5, h6, _⟩ | ⟨h5, _⟩⟩
  · rw [h3] at h5; cases h5
  · rw [h2] at h5; cases h5
  · rw [h2] at h5; cases h5
  · rw [h4] at h5; injection h5 with h5; injection h5 with _ h5; rw [h6, h5]
  · rw [h2] at h5; cases h5

theorem Alc.lt {j j' : Nat} {ob ob' : AObj} (hA : Alc l p σ j ob) (R : Reg P K nt ops l ws HH p σ G) (hlt : j < j') (hj : j' ≤ p) : (σ j).h.next < (σ j').h.next := by
  have h1 := hA.next R
  have h2 := R.next_le (i := j + 1) (j := j') (by omega) hj
  rw [h1] at h2; simp at h2; omega

theorem Alc.inj {j j' : Nat} {ob ob' : AObj} (hA : Alc l p σ j ob) (hA' : Alc l p σ j' ob') (R : Reg P K nt ops l ws HH p σ G) (he : (σ j).h.next = (σ j').h.next) : j = j' := by
  rcases Nat.lt_trichotomy j j' with h | h | h
  · have := hA.lt (ob' := ob) R h (Nat.le_of_lt hA'.1); omega
  · exact h
  · have := hA'.lt (ob' := ob) R h (Nat.le_of_lt hA.1); omega

/-- A step that is no write: what becomes of the heap. -/
theorem Reg.calm (R : Reg P K nt ops l ws HH p σ G) {i : Nat} (hi : i < p) {x : AOper} (hx : l[i]? = some x) (hn : x.op.cls ≠ .write) :
    (σ (i + 1)).ds = (σ i).ds ∧ (σ (i + 1)).u = (σ i).u ∧ (σ (i + 1)).rd = (σ i).rd ∧ ((∃ ob, Alc l p σ i ob ∧ (σ (i + 1)).h = (σ i).h.push ob) ∨ ((∀ ob, ¬ Alc l p σ i ob) ∧ (σ (i + 1)).h = (σ i).h)) := by
  obtain ⟨o, ho, hs⟩ := R.step i hi
  rw [hx] at ho; cases ho
  rcases hs.step with ⟨h0, h1⟩ | ⟨h0, ⟨h1, _⟩ | ⟨hc, v, h1, _⟩ | ⟨hc, v, ob, h2, h1, _⟩ | ⟨hc, v, _, h1⟩⟩
  · rw [h1]
    refine ⟨rfl, rfl, rfl, .inr ⟨fun ob hA => ?_, rfl⟩⟩
    obtain ⟨_, o, _, g1, _, g3, _⟩ := hA
    rw [hx] at g1; cases g1; rw [h0] at g3; cases g3
  · exact absurd h1 hn
  · rw [h1]
    refine ⟨rfl, rfl, rfl, .inr ⟨fun ob hA => ?_, rfl⟩⟩
    obtain ⟨_, o, _, g1, g2, _⟩ := hA
    rw [hx] at g1; cases g1; rw [hc] at g2; cases g2
  · rw [h1]; exact ⟨rfl, rfl, rfl, .inl ⟨ob, ⟨hi, x, v, hx, hc, h0, h2⟩, rfl⟩⟩
  · rw [h1]
    refine ⟨rfl, rfl, rfl, .inr ⟨fun ob hA => ?_, rfl⟩⟩
    obtain ⟨_, o, _, g1, g2, _⟩ := hA
    rw [hx] at g1; cases g1; rw [hc] at g2; cases g2

/-- Slots that nothing is put into. -/
theorem Reg.slot1 (R : Reg P K nt ops l ws HH p σ G) {i d : Nat} (hi : i < p) (hd : ∀ x, l[i]? = some x → x.dst ≠ some d) : (σ (i + 1)).t.get d = (σ i).t.get d := by
  obtain ⟨o, ho, hs⟩ := R.step i hi
  have hd := hd o ho
  have key : ∀ v, (putT (σ i).t o.dst v).get d = (σ i).t.get d := fun v => by
    unfold putT
    split
    · rename_i d' hd'; rw [Tr.get_put_ne]; rintro rfl; exact hd hd'
    · rfl
  rcases hs.step with ⟨_, h1⟩ | ⟨_, ⟨_, h1⟩ | ⟨_, v, h1, _⟩ | ⟨_, v, ob, _, h1, _⟩ | ⟨_, v, _, h1⟩⟩
  · rw [h1]; exact key _
  · obtain ⟨v, hv⟩ := opStep_t h1; rw [hv]; exact key _
  · rw [h1]; exact key _
  · rw [h1]; exact key _
  · rw [h1]; exact key _

theorem Reg.slots (R : Reg P K nt ops l ws HH p σ G) {i d : Nat} : ∀ (m : Nat), i + m ≤ p → (∀ j x, i ≤ j → j < i + m → l[j]? = some x → x.dst ≠ some d) → (σ (i + m)).t.get d = (σ i).t.get d
  | 0, _, _ => rfl
  | m + 1, h, hd => by
    have h1 := R.slot1 (i := i + m) (d := d) (by omega) (fun x hx => hd (i + m) x (by omega) (by omega) hx)
    have h2 := R.slots m (by omega) (fun j x h1 h2 hx => hd j x h1 (by omega) hx)
    exact h1.trans h2

end

end
end Go.Proofs.YtbejfgpeledcjaaGreat.A
namespace Go.Proofs.YtbejfgpeledcjaaGreat.A
noncomputable section
open Go

variable {P : Program} {K : CallFn} {nt : Nat} {ops : Array Oper} {l : List AOper} {ws : List Nat} {HH : List AHeap} {p : Nat} {σ : Nat → St} {G : Bes}

/-- What holds when the operations of S have been carried out and all writes ahead of c, and no other write, are among them. -/
structure Inv (P : Program) (nt : Nat) (ops : Array Oper) (l : List AOper) (p : Nat) (σ : Nat → St) (G : Bes) (ro : Option Nat) (b : Frame) (ρ0 : Ren) (cs0 : List Frame)
    (S : Nat → Prop) (c : Nat) (ρ : Ren) (Gs : Bes) (a : Act) (cs : List Frame) (w : World) : Prop where
  ext : ρ0.le ρ
  down : Down ops.toList S
  lt : ∀ j, S j → j < p ∨ (p < j ∧ ∃ y, l[j]? = some y ∧ y.safe = true)
  cle : c ≤ p
  cs1 : ∀ (j : Nat) (x : AOper), j < p → l[j]? = some x → x.op.cls = .write → (S j ↔ j < c)
  sr : SR P ρ (σ c).h Gs w
  g1 : ∀ x, G.ban x → Gs.ban x
  g2 : Beside Gs (σ c).h.next
  g3 : ∀ x, (σ p).h.next ≤ x → Gs x = G x
  g4 : ∀ j ob, Alc l p σ j ob → S j → (σ c).h.next ≤ (σ j).h.next → Gs (σ j).h.next = some ob
  g5 : ∀ x, x < (σ p).h.next → (Gs x).isSome = true → ∃ j ob, Alc l p σ j ob ∧ S j ∧ (σ j).h.next = x
  g6 : ∀ j ob, Alc l p σ j ob → ¬ S j → (σ j).h.next < (σ c).h.next → Gs.ban (σ j).h.next
  slots : ∀ q d, q ≤ p → (∀ (j : Nat) (x : AOper), j < p → l[j]? = some x → x.dst = some d → (S j ↔ j < q)) → (∀ (j : Nat) (x : AOper), p ≤ j → l[j]? = some x → x.dst = some d → ¬ S j) →
    VRel ρ (((σ q).t.get d).getD blank) (a.tmps.getD d undef)
  size : a.tmps.size = nt
  ds : DsRel ρ (σ c).ds a.defers
  u : URel ρ (σ c).u b cs
  ro : RoRel ρ ro (σ c) b
  cst : CsTo (σ 0).u.isNo cs0 cs
  uno : (σ c).u.isNo = (σ 0).u.isNo
  raw : Gs.raw = G.raw

variable {ro : Option Nat} {b : Frame} {ρ0 : Ren} {cs0 : List Frame} {S : Nat → Prop} {c : Nat} {ρ : Ren} {Gs : Bes} {a : Act} {cs : List Frame} {w : World}

theorem Inv.advance (R : Reg P K nt ops l ws HH p σ G) (I : Inv P nt ops l p σ G ro b ρ0 cs0 S c ρ Gs a cs w) (hc : c < p) (hn : ∀ x, l[c]? = some x → x.op.cls ≠ .write) :
    ∃ Gs', Inv P nt ops l p σ G ro b ρ0 cs0 S (c + 1) ρ Gs' a cs w := by
  obtain ⟨x, hx, _⟩ := R.step c hc
  obtain ⟨e1, e2, e3, hcase⟩ := R.calm hc hx (hn x hx)
  have hcs1 : ∀ (j : Nat) (y : AOper), j < p → l[j]? = some y → y.op.cls = .write → (S j ↔ j < c + 1) := fun j y hj hy hw => by
    have hne : j ≠ c := by rintro rfl; exact hn y hy hw
    rw [I.cs1 j y hj hy hw]; omega
  have hro : RoRel ρ ro (σ (c + 1)) b := I.ro.mono (.refl _) e3
  rcases hcase with ⟨ob, hA, hh⟩ | ⟨hno, hh⟩
  · have hnext : (σ (c + 1)).h.next = (σ c).h.next + 1 := by rw [hh]; rfl
    by_cases hs : S c
    · refine ⟨⟨fun y => if y = (σ c).h.next then none else Gs y, Gs.ban, Gs.raw⟩, ⟨I.ext, I.down, I.lt, hc, hcs1, ?_, I.g1, ?_, ?_, ?_, ?_, ?_, I.slots, I.size, by rw [e1]; exact I.ds, by rw [e2]; exact I.u, hro, I.cst, by rw [e2]; exact I.uno, I.raw⟩⟩
      · rw [hh]
        exact I.sr.absorb (fun y hy => by simp [hy]) (.inl (I.g4 c ob hA hs (Nat.le_refl _))) (fun y hy => by have := I.sr.ban y hy; exact ⟨by omega, this.2⟩) rfl
      · intro y hy
        rw [hnext]
        simp only at hy
        split at hy
        · cases hy
        · rename_i hne; have := I.g2 y hy; omega
      · intro y hy
        have h1 := R.next_le (i := c + 1) (j := p) (by omega) (Nat.le_refl _)
        have hne : y ≠ (σ c).h.next := by omega
        simp only [hne, if_false]; exact I.g3 y hy
      · intro j ob' hA' hs' hle
        have hne : (σ j).h.next ≠ (σ c).h.next := by omega
        simp only [hne, if_false]; exact I.g4 j ob' hA' hs' (by omega)
      · intro y hy hsome
        simp only at hsome
        split at hsome
        · cases hsome
        · exact I.g5 y hy hsome
      · intro j ob' hA' hs' hlt
        refine I.g6 j ob' hA' hs' ?_
        have hne : (σ j).h.next ≠ (σ c).h.next := fun he => hs' ((hA'.inj hA R he) ▸ hs)
        omega
    · have hnone : Gs (σ c).h.next = none := by
        cases hx : Gs (σ c).h.next with
        | none => rfl
        | some o =>
          have h1 := R.next_le (i := c + 1) (j := p) (by omega) (Nat.le_refl _)
          obtain ⟨j, ob', hA', hs', he⟩ := I.g5 (σ c).h.next (by omega) (by rw [hx]; rfl)
          exact absurd ((hA'.inj hA R he) ▸ hs') hs
      have hrho : ρ (σ c).h.next = none := by
        cases hx : ρ (σ c).h.next with
        | none => rfl
        | some e =>
          rcases I.sr.dom _ _ hx with h1 | h1
          · omega
          · rw [hnone] at h1; cases h1
      refine ⟨⟨Gs.f, fun y => Gs.ban y ∨ y = (σ c).h.next, Gs.raw⟩, ⟨I.ext, I.down, I.lt, hc, hcs1, ?_, fun y hy => .inl (I.g1 y hy), ?_, I.g3, ?_, I.g5, ?_, I.slots, I.size, by rw [e1]; exact I.ds, by rw [e2]; exact I.u, hro, I.cst, by rw [e2]; exact I.uno, I.raw⟩⟩
      · rw [hh]
        refine I.sr.absorb (fun y hy => rfl) (.inr hrho) (fun y hy => ?_) rfl
        rcases hy with hy | rfl
        · have := I.sr.ban y hy; exact ⟨by omega, this.2⟩
        · exact ⟨by omega, hrho⟩
      · intro y hy
        rw [hnext]
        have h1 := I.g2 y hy
        have hne : y ≠ (σ c).h.next := by rintro rfl; rw [show (Bes.f _ _ = Gs (σ c).h.next) from rfl, hnone] at hy; cases hy
        omega
      · intro j ob' hA' hs' hle
        exact I.g4 j ob' hA' hs' (by omega)
      · intro j ob' hA' hs' hlt
        by_cases he : (σ j).h.next = (σ c).h.next
        · exact .inr he
        · exact .inl (I.g6 j ob' hA' hs' (by omega))
  · refine ⟨Gs, ⟨I.ext, I.down, I.lt, hc, hcs1, by rw [hh]; exact I.sr, I.g1, by rw [hh]; exact I.g2, I.g3, by rw [hh]; exact I.g4, I.g5, by rw [hh]; exact I.g6, I.slots, I.size, by rw [e1]; exact I.ds, by rw [e2]; exact I.u, hro, I.cst, by rw [e2]; exact I.uno, I.raw⟩⟩

theorem Inv.settle (R : Reg P K nt ops l ws HH p σ G) : ∀ (m c : Nat) (Gs : Bes), p - c = m → Inv P nt ops l p σ G ro b ρ0 cs0 S c ρ Gs a cs w →
    ∃ Gs' c', Inv P nt ops l p σ G ro b ρ0 cs0 S c' ρ Gs' a cs w ∧ (c' < p → ∃ x, l[c']? = some x ∧ x.op.cls = .write)
  | 0, c, Gs, hm, I => ⟨Gs, c, I, fun h => by have := I.cle; omega⟩
  | m + 1, c, Gs, hm, I => by
    have hc : c < p := by omega
    obtain ⟨x, hx, _⟩ := R.step c hc
    by_cases hw : x.op.cls = .write
    · exact ⟨Gs, c, I, fun _ => ⟨x, hx, hw⟩⟩
    · obtain ⟨Gs', I'⟩ := I.advance R hc (fun y hy => by rw [hx] at hy; cases hy; exact hw)
      exact Inv.settle R m (c + 1) Gs' (by omega) I'

/-- The slots that an operation names, when it may be carried out. -/
theorem Inv.slot (R : Reg P K nt ops l ws HH p σ G) (I : Inv P nt ops l p σ G ro b ρ0 cs0 S c ρ Gs a cs w) {i : Nat} (hi : i ≤ p) {x : AOper} (hx : l[i]? = some x) (hn : ¬ S i)
    (hr : ∀ j, anc (ancAll [] ops.toList) i j = true → S j) {d : Nat} (hd : d ∈ x.names) : VRel ρ (((σ i).t.get d).getD blank) (a.tmps.getD d undef) := by
  refine I.slots i d hi (fun j y hj hy hyd => ?_) (fun j y hj hy hyd hs => ?_)
  · by_cases hji : j = i
    · subst hji; simp [hn]
    · have := R.fit.slot j i y x d hy hx hyd hji hd
      constructor
      · intro hs
        rcases Nat.lt_or_ge j i with h | h
        · exact h
        · exact absurd (I.down.anc (j + 1) j i (by omega) hs (this.2 (by omega))) hn
      · intro hlt; exact hr j (this.1 hlt)
  · by_cases hji : j = i
    · subst hji; exact hn hs
    · have := R.fit.slot j i y x d hy hx hyd hji hd
      exact hn (I.down.anc (j + 1) j i (by omega) hs (this.2 (by omega)))

/-- The slots, once an operation has been carried out. -/
theorem Inv.slotsPut (R : Reg P K nt ops l ws HH p σ G) (I : Inv P nt ops l p σ G ro b ρ0 cs0 S c ρ Gs a cs w) {i : Nat} (hi : i < p) {x : AOper} (hx : l[i]? = some x) (hn : ¬ S i)
    {ρ1 : Ren} (hle : ρ.le ρ1) {a1 : Act} (ha1 : a1.tmps = a.tmps) {v v' : Value} (hv : VRel ρ1 v v') (ht : (σ (i + 1)).t = putT (σ i).t x.dst v) (hsz : ∀ d, x.dst = some d → d < a.tmps.size) :
    ∀ q d, q ≤ p → (∀ (j : Nat) (y : AOper), j < p → l[j]? = some y → y.dst = some d → ((S j ∨ j = i) ↔ j < q)) → (∀ (j : Nat) (y : AOper), p ≤ j → l[j]? = some y → y.dst = some d → ¬ (S j ∨ j = i)) →
      VRel ρ1 (((σ q).t.get d).getD blank) ((a1.put x.dst v').tmps.getD d undef) := by
  intro q d hq h1 h2
  by_cases hd : x.dst = some d
  · have hiq : i < q := (h1 i x hi hx hd).1 (.inr rfl)
    have hsame : (σ q).t.get d = (σ (i + 1)).t.get d := by
      have := R.slots (i := i + 1) (d := d) (q - (i + 1)) (by omega) (fun j y hj1 hj2 hy hyd => by
        have hjs := (h1 j y (by omega) hy hyd).2 (by omega)
        rcases hjs with hjs | rfl
        · have hmem : d ∈ x.names := by unfold AOper.names; rw [hd]; simp
          have := R.fit.slot j i y x d hy hx hyd (by omega) hmem
          exact hn (I.down.anc (j + 1) j i (by omega) hjs (this.2 (by omega)))
        · omega)
      rwa [show i + 1 + (q - (i + 1)) = q by omega] at this
    rw [hsame, ht, hd]
    simp only [putT, Act.put, Tr.get_put_same, Option.getD_some, ha1]
    have hlt := hsz d hd
    simp only [Array.getD_eq_getD_getElem?, Array.getElem?_setIfInBounds_self_of_lt hlt, Option.getD_some]
    exact hv
  · have hold := (I.slots q d hq (fun j y hj hy hyd => by
        have := h1 j y hj hy hyd
        have hji : j ≠ i := by rintro rfl; rw [hx] at hy; cases hy; exact hd hyd
        simpa [hji] using this) (fun j y hj hy hyd hs => h2 j y hj hy hyd (.inl hs))).mono hle
    have hget : (a1.put x.dst v').tmps.getD d undef = a.tmps.getD d undef := by
      cases hxd : x.dst with
      | none => simp [Act.put, ha1]
      | some d' =>
        have hne : d' ≠ d := by rintro rfl; exact hd hxd
        simp only [Act.put, ha1, Array.getD_eq_getD_getElem?, Array.getElem?_setIfInBounds_ne hne]
    rw [hget]; exact hold

end
end Go.Proofs.YtbejfgpeledcjaaGreat.A
namespace Go.Proofs.YtbejfgpeledcjaaGreat.A
noncomputable section
open Go

variable {P : Program} {K : CallFn} {nt : Nat} {ops : Array Oper} {l : List AOper} {ws : List Nat} {HH : List AHeap} {p : Nat} {σ : Nat → St} {G : Bes}
variable {ro : Option Nat} {b : Frame} {ρ0 : Ren} {cs0 : List Frame} {S : Nat → Prop} {c : Nat} {ρ : Ren} {Gs : Bes} {a : Act} {cs : List Frame} {w : World}

theorem nodefer {o : Op} {op : AOp} (h : cOp P o = some op) (hc : op.cls ≠ .write) : ∀ c, o ≠ .defer c := by
  have hi := cOp_inv h
  cases op <;> first | exact hi | exact absurd rfl hc

theorem W_succ {l : List AOper} {j : Nat} {x : AOper} (hx : l[j]? = some x) : W l (j + 1) = W l j + (if x.op.cls = .write then 1 else 0) := by
  unfold W
  rw [List.take_add_one, hx]
  simp only [Option.toList_some, List.countP_append, List.countP_singleton, isW]
  by_cases hw : x.op.cls = .write <;> simp [hw]

theorem W_mono (l : List AOper) {i j : Nat} (h : i ≤ j) : W l i ≤ W l j := by
  unfold W
  have : l.take i = (l.take j).take i := by rw [List.take_take]; congr 1; omega
  rw [this]
  exact List.Sublist.countP_le (List.take_sublist _ _)

/-- No write: what the heap has it keeps. -/
theorem Reg.keep (R : Reg P K nt ops l ws HH p σ G) {i y : Nat} : ∀ (m : Nat), i + m ≤ p → (∀ j x, i ≤ j → j < i + m → l[j]? = some x → x.op.cls ≠ .write) → y < (σ i).h.next → (σ (i + m)).h.get y = (σ i).h.get y
  | 0, _, _, _ => rfl
  | m + 1, h, hn, hy => by
    have ih := R.keep m (by omega) (fun j x h1 h2 => hn j x h1 (by omega)) hy
    obtain ⟨x, hx, _⟩ := R.step (i + m) (by omega)
    obtain ⟨_, _, _, hcase⟩ := R.calm (i := i + m) (by omega) hx (hn (i + m) x (by omega) (by omega) hx)
    have hle := R.next (i := i) m (by omega)
    rcases hcase with ⟨ob, _, hh⟩ | ⟨_, hh⟩
    · show (σ (i + m + 1)).h.get y = _
      rw [hh, AHeap.get_push, if_neg (by omega)]; exact ih
    · show (σ (i + m + 1)).h.get y = _
      rw [hh]; exact ih

theorem Down.add {ops : List Oper} (hS : Down ops S) {i : Nat} {o : Oper} (ho : ops[i]? = some o) (hr : ∀ e ∈ o.after.toList, Region.binds .any e = true → S e.on) : Down ops (fun j => S j ∨ j = i) := by
  intro j o' hj ho' e he hb
  rcases hj with hj | rfl
  · exact .inl (hS j o' hj ho' e he hb)
  · rw [ho] at ho'; cases ho'; exact .inl (hr e he hb)

/-- An operation that is no write has been carried out. -/
theorem Inv.put (R : Reg P K nt ops l ws HH p σ G) (I : Inv P nt ops l p σ G ro b ρ0 cs0 S c ρ Gs a cs w) {i : Nat} (hi : i < p) {x : AOper} (hx : l[i]? = some x) (hn : ¬ S i) (hnw : x.op.cls ≠ .write)
    (hd : Down ops.toList (fun j => S j ∨ j = i)) {ρ1 : Ren} {Gs1 : Bes} {w1 : World} (hle : ρ.le ρ1) (hsr : SR P ρ1 (σ c).h Gs1 w1)
    (g1 : ∀ x, G.ban x → Gs1.ban x) (g2 : Beside Gs1 (σ c).h.next) (g3 : ∀ x, (σ p).h.next ≤ x → Gs1 x = G x)
    (g4 : ∀ j ob, Alc l p σ j ob → (S j ∨ j = i) → (σ c).h.next ≤ (σ j).h.next → Gs1 (σ j).h.next = some ob)
    (g5 : ∀ x, x < (σ p).h.next → (Gs1 x).isSome = true → ∃ j ob, Alc l p σ j ob ∧ (S j ∨ j = i) ∧ (σ j).h.next = x)
    (g6 : ∀ j ob, Alc l p σ j ob → ¬ (S j ∨ j = i) → (σ j).h.next < (σ c).h.next → Gs1.ban (σ j).h.next) (hraw : Gs1.raw = Gs.raw)
    {v v' : Value} (hv : VRel ρ1 v v') (ht : (σ (i + 1)).t = putT (σ i).t x.dst v) (hsz : ∀ d, x.dst = some d → d < a.tmps.size) :
    Inv P nt ops l p σ G ro b ρ0 cs0 (fun j => S j ∨ j = i) c ρ1 Gs1 (a.put x.dst v') cs w1 := by
  refine ⟨I.ext.trans hle, hd, ?_, I.cle, ?_, hsr, g1, g2, g3, g4, g5, g6, I.slotsPut R hi hx hn hle rfl hv ht hsz, by rw [put_size]; exact I.size, by rw [put_defers]; exact I.ds.mono hle, I.u.mono hle, I.ro.mono hle rfl, I.cst, I.uno, hraw.trans I.raw⟩
  · rintro j (hj | rfl)
    · exact I.lt j hj
    · exact .inl hi
  · intro j y hj hy hyw
    have hne : j ≠ i := by rintro rfl; rw [hx] at hy; cases hy; exact hnw hyw
    rw [← I.cs1 j y hj hy hyw]
    simp [hne]

/-- No block is made: all as it was. -/
theorem Inv.putSame (R : Reg P K nt ops l ws HH p σ G) (I : Inv P nt ops l p σ G ro b ρ0 cs0 S c ρ Gs a cs w) {i : Nat} (hi : i < p) {x : AOper} (hx : l[i]? = some x) (hn : ¬ S i) (hnw : x.op.cls ≠ .write)
    (hd : Down ops.toList (fun j => S j ∨ j = i)) (hnA : ∀ ob, ¬ Alc l p σ i ob)
    {v v' : Value} (hv : VRel ρ v v') (ht : (σ (i + 1)).t = putT (σ i).t x.dst v) (hsz : ∀ d, x.dst = some d → d < a.tmps.size) :
    Inv P nt ops l p σ G ro b ρ0 cs0 (fun j => S j ∨ j = i) c ρ Gs (a.put x.dst v') cs w := by
  refine I.put R hi hx hn hnw hd (.refl _) I.sr I.g1 I.g2 I.g3 ?_ ?_ ?_ rfl hv ht hsz
  · rintro j ob hA (hs | rfl) hle
    · exact I.g4 j ob hA hs hle
    · exact absurd hA (hnA ob)
  · intro y hy hsome
    obtain ⟨j, ob, h1, h2, h3⟩ := I.g5 y hy hsome
    exact ⟨j, ob, h1, .inl h2, h3⟩
  · intro j ob hA hs hlt
    exact I.g6 j ob hA (fun h => hs (.inl h)) hlt

/-- How many writes may have been carried out. -/
theorem Inv.window (R : Reg P K nt ops l ws HH p σ G) (I : Inv P nt ops l p σ G ro b ρ0 cs0 S c ρ Gs a cs w) {i : Nat} (hi : i ≤ p) {x : AOper} (hx : l[i]? = some x) (hn : ¬ S i)
    (hr : ∀ j, anc (ancAll [] ops.toList) i j = true → S j) : x.lo ≤ W l c ∧ W l c ≤ x.hi := by
  rw [W_eq R.fit, R.lo i x hx, R.hi i x hx]
  constructor
  · refine List.countP_mono_left (fun j hj h => ?_)
    have hs := hr j h
    obtain ⟨y, hy, hyw⟩ := (R.fit.mem j).1 hj
    have hjp : j < p := by
      rcases I.lt j hs with h1 | ⟨h1, z, hz, hsafe⟩
      · exact h1
      · rw [hy] at hz; cases hz
        unfold AOper.safe at hsafe
        cases hop : y.op <;> rw [hop] at hsafe hyw <;> simp [AOp.cls] at hsafe hyw
    simpa using (I.cs1 j y hjp hy hyw).1 hs
  · refine List.countP_mono_left (fun j hj h => ?_)
    obtain ⟨y, hy, hyw⟩ := (R.fit.mem j).1 hj
    have hjc : j < c := by simpa using h
    have hs := (I.cs1 j y (by have := I.cle; omega) hy hyw).2 hjc
    cases hb : anc (ancAll [] ops.toList) j i with
    | false => rfl
    | true => exact absurd (I.down.anc (j + 1) j i (by omega) hs hb) hn

theorem Reg.front (R : Reg P K nt ops l ws HH p σ G) {c : Nat} (hc : c ≤ p) (hcw : c < p → ∃ x, l[c]? = some x ∧ x.op.cls = .write) : HH[W l c]? = some (σ c).h := by
  rcases Nat.lt_or_ge c p with h | h
  · obtain ⟨x, hx, hw⟩ := hcw h
    obtain ⟨o, ho, hs⟩ := R.step c h
    rw [hx] at ho; cases ho
    exact hs.at' hw
  · have : c = p := by omega
    subst this; exact R.fin

end
end Go.Proofs.YtbejfgpeledcjaaGreat.A
