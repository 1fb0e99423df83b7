/- The relation between heaps and worlds lives through what operations do (2). -/
import Derived.Test.YtbejfgpeledcjaaGreatA1
import Derived.Laws.BytesString
import Derived.Laws.Slices
set_option linter.unusedVariables false
set_option linter.unusedSimpArgs false
namespace Go.Proofs.YtbejfgpeledcjaaGreat.A
noncomputable section
open Go

variable {P : Program} {ρ : Ren} {h h1 : AHeap} {G : Bes} {w : World} {t : Tr Value} {a : Act} {v : Value}

/-- The two values of a flat type: cells side by side. -/
def EqAt (P : Program) (d : Nat) (ty : TypeId) (xs ys : List Value) (r : Bool) : Prop :=
  match isAggT P ty with
  | some true => ∀ w, (Op.equalIn (d + 1) ty (.agg ⟨xs⟩) (.agg ⟨ys⟩)).run P w = .ok r w
  | _ => ∃ x y, xs = [x] ∧ ys = [y] ∧ isAggT P ty = some false ∧ ∀ w, (Op.equalIn (d + 1) ty x y).run P w = .ok r w

theorem run_part_agg {ty : TypeId} {n : Nat} (ha : isAggT P ty = some true) (hs : sizeT P ty = some n) (cs : List Value) (off : Nat) (w : World) :
    (part ty ⟨cs⟩ off).run P w = .ok (.agg ⟨(cs.drop off).take n⟩) w := by
  simp only [part, Sem.run_bind, run_isAgg ha, Result.andThen_ok, if_true, run_size hs, Sem.run_pure]
  congr 2
  apply Array.ext'
  simp

theorem run_part_one {ty : TypeId} (ha : isAggT P ty = some false) {cs : List Value} {off : Nat} {v : Value} (hv : cs[off]? = some v) (w : World) :
    (part ty ⟨cs⟩ off).run P w = .ok v w := by
  simp [part, run_isAgg ha, hv]

theorem kJoin_none (n : String) (o : Nat) (a : List Sk) : kJoin n o (some a) none = none := rfl
theorem kJoin_some (n : String) (o : Nat) (a l : List Sk) : kJoin n o (some a) (some l) = if n != "_" && o == a.length then some (a ++ l) else none := rfl

theorem fold_none (n : Nat) (fs : List Go.Field) : (fs.foldl (fun acc f => kJoin f.name f.offset acc (flatK P n f.type)) none) = none := by
  induction fs with
  | nil => rfl
  | cons f fs ih => exact ih

theorem fold_pre (n : Nat) : ∀ (fs : List Go.Field) (acc X : List Sk), (fs.foldl (fun acc f => kJoin f.name f.offset acc (flatK P n f.type)) (some acc)) = some X → ∃ r, X = acc ++ r
  | [], acc, X, h => by simp at h; exact ⟨[], by simp [h]⟩
  | f :: fs, acc, X, h => by
    simp only [List.foldl_cons] at h
    cases hsz : flatK P n f.type with
    | none => rw [hsz, kJoin_none, fold_none] at h; cases h
    | some m =>
      rw [hsz, kJoin_some] at h
      split at h
      · obtain ⟨r, hr⟩ := fold_pre n fs _ _ h
        exact ⟨m ++ r, by rw [hr, List.append_assoc]⟩
      · rw [fold_none] at h; cases h

theorem flatK_size : ∀ {n : Nat} {ty : TypeId} {ks : List Sk}, flatK P n ty = some ks → sizeT P ty = some ks.length
  | 0, _, _, h => by simp [flatK] at h
  | n + 1, ty, ks, h => by
    unfold flatK at h
    split at h
    · split at h
      · cases h; simp_all
      · cases h
    · split at h
      · cases h; simp_all
      · cases h
    · split at h
      · cases h; simp_all
      · cases h
    · split at h
      · cases h
      · split at h
        · split at h
          · cases h; simp_all
          · cases h
        · cases h
    · cases h

theorem equalIn_flat : ∀ (n : Nat) (ty : TypeId) (ks : List Sk), flatK P n ty = some ks → ∀ (xs ys : List Value) (r : Bool), eqL ks xs ys = some r → ∀ d, n ≤ d + 1 → EqAt P d ty xs ys r
  | 0, ty, ks, hf, _, _, _, _, _, _ => by simp [flatK] at hf
  | n + 1, ty, ks, hf, xs, ys, r, he, d, hd => by
    unfold flatK at hf
    have scalar : ∀ {td : TypeDesc} {k : Sk}, P.underlying ty = some td → k.fits td = true → isAggT P ty = some false → ks = [k] → EqAt P d ty xs ys r := by
      intro td k hu hft ha hk
      subst hk
      unfold EqAt
      rw [ha]
      obtain ⟨l1, l2⟩ := eqL_len he
      match xs, ys, l1, l2 with
      | [x], [y], _, _ =>
        refine ⟨x, y, rfl, rfl, rfl, fun w => ?_⟩
        simp only [eqL] at he
        cases hq : eqK k x y with
        | none => simp [hq] at he
        | some q =>
          simp [hq] at he; subst he
          exact run_equal_flat1 d hq hu hft w
    split at hf
    · rename_i hu; split at hf
      · cases hf; exact scalar hu rfl (by simp [isAggT, hu]) rfl
      · cases hf
    · rename_i k hu; split at hf
      · cases hf; exact scalar hu rfl (by simp [isAggT, hu]) rfl
      · cases hf
    · rename_i hu; split at hf
      · cases hf; exact scalar hu rfl (by simp [isAggT, hu]) rfl
      · cases hf
    · rename_i fs hu
      split at hf
      · cases hf
      · rename_i hst
        split at hf
        · rename_i ks' hfold
          split at hf
          · cases hf
            have ha : isAggT P ty = some true := by simp [isAggT, hu]
            unfold EqAt
            rw [ha]
            intro w
            have hfo : P.fieldsOf ty = fs := by simp [Program.fieldsOf, hu]
            rw [run_equalIn_struct w d ty _ _ (by rw [hfo]; exact hu) (by simpa using hst), hfo]
            have key : ∀ (l : List Go.Field) (acc : List Sk) (rest : List Sk) (r : Bool), (l.foldl (fun acc f => kJoin f.name f.offset acc (flatK P n f.type)) (some acc)) = some (acc ++ rest) →
                eqL rest (xs.drop acc.length) (ys.drop acc.length) = some r → (Op.eqFields d ⟨xs⟩ ⟨ys⟩ l).run P w = .ok r w := by
              intro l
              induction l with
              | nil =>
                intro acc rest r hfold he
                simp at hfold; subst hfold
                have l1 := eqL_len he
                simp at l1
                rw [List.drop_of_length_le (by omega), List.drop_of_length_le (by omega)] at he
                simp [eqL] at he; subst he
                simp [Op.eqFields]
              | cons f l ih =>
                intro acc rest r hfold he
                simp only [List.foldl_cons] at hfold
                cases hsz : flatK P n f.type with
                | none => rw [hsz, kJoin_none, fold_none] at hfold; cases hfold
                | some m =>
                  rw [hsz, kJoin_some] at hfold
                  by_cases hoff : (f.name != "_" && f.offset == acc.length) = true
                  · rw [if_pos hoff] at hfold
                    simp only [Bool.and_eq_true, bne_iff_ne, ne_eq, beq_iff_eq] at hoff
                    obtain ⟨hn, hof⟩ := hoff
                    -- what is left begins with the field's kinds
                    have hpre : ∃ rest', rest = m ++ rest' ∧ (l.foldl (fun acc f => kJoin f.name f.offset acc (flatK P n f.type)) (some (acc ++ m))) = some (acc ++ m ++ rest') := by
                      obtain ⟨r', hr'⟩ := fold_pre n l _ _ hfold
                      rw [List.append_assoc] at hr'
                      exact ⟨r', List.append_cancel_left hr', by rw [hfold, hr', List.append_assoc]⟩
                    obtain ⟨rest', rfl, hf2⟩ := hpre
                    obtain ⟨p, q, e1, e2, rfl⟩ := eqL_split he
                    rw [List.drop_drop, List.drop_drop] at e2
                    have ih2 := ih (acc ++ m) rest' q hf2 (by simpa using e2)
                    have hd1 : ∃ d', d = d' + 1 := ⟨d - 1, by cases n with | zero => simp [flatK] at hsz | succ n => omega⟩
                    obtain ⟨d', rfl⟩ := hd1
                    have hq := equalIn_flat n f.type m hsz _ _ p e1 d' (by omega)
                    unfold EqAt at hq
                    simp only [Op.eqFields, hn, ne_eq, not_false_eq_true, if_true, Sem.run_bind, hof]
                    split at hq
                    · rename_i ha'
                      have hm := flatK_size hsz
                      rw [run_part_agg ha' hm, Result.andThen_ok, run_part_agg ha' hm, Result.andThen_ok, hq w, Result.andThen_ok]
                      cases p
                      · simp
                      · simpa using ih2
                    · obtain ⟨x, y, hx, hy, ha', hq⟩ := hq
                      have hx' : xs[acc.length]? = some x := by
                        have := congrArg (fun z => z[0]?) hx
                        simp [List.getElem?_take, List.getElem?_drop, List.length_pos_iff] at this
                        exact this.2
                      have hy' : ys[acc.length]? = some y := by
                        have := congrArg (fun z => z[0]?) hy
                        simp [List.getElem?_take, List.getElem?_drop, List.length_pos_iff] at this
                        exact this.2
                      rw [run_part_one ha' hx', Result.andThen_ok, run_part_one ha' hy', Result.andThen_ok, hq w, Result.andThen_ok]
                      cases p
                      · simp
                      · simpa using ih2
                  · rw [if_neg hoff, fold_none] at hfold; cases hfold
            exact key fs.toList [] _ r hfold he
          · cases hf
        · cases hf
    · cases hf

theorem run_eql_agg {ty : TypeId} {ks : List Sk} (hf : flatK P 20 ty = some ks) (ha : isAggT P ty = some true) {xs ys : List Value} {r : Bool} (he : eqL ks xs ys = some r) {op : BinOp} {neg : Bool} (hop : op = .eql ∧ neg = false ∨ op = .neq ∧ neg = true) (w : World) :
    (binOp op ty (.agg ⟨xs⟩) (.agg ⟨ys⟩)).run P w = .ok (.bool (neg != r)) w := by
  have := equalIn_flat 20 ty ks hf xs ys r he 9999 (by omega)
  unfold EqAt at this
  rw [ha] at this
  rcases hop with ⟨rfl, rfl⟩ | ⟨rfl, rfl⟩
  · rw [run_eql_struct, this w]; simp
  · rw [run_neq_struct, this w]; simp

theorem pure_agg {o : Oper} {op : BinOp} {ty yt : TypeId} {x y : Operand} {ks : List Sk} (hc : o.op = .binOp op ty x y yt) (hf : flatK P 20 ty = some ks) (ha : isAggT P ty = some true) (hg : P.eqGuardType P.depth ty = false)
    {neg : Bool} (hop : op = .eql ∧ neg = false ∨ op = .neq ∧ neg = true) (ho : ORd ρ t a [x, y]) : PureS P ρ t a o (.eqAgg ks neg x y) := by
  intro h h1 v hv
  simp only [aop, k_eqAgg] at hv
  split at hv
  · rename_i p q hp hq
    obtain ⟨r, hr, he⟩ := isSomeMap hv
    simp only [R.val.injEq] at he
    obtain ⟨rfl, rfl⟩ := he
    have hx := ho x (by simp)
    have hy := ho y (by simp)
    rw [hp] at hx; rw [hq] at hy
    obtain ⟨p', e1, l1⟩ := hx.agg_inv
    obtain ⟨q', e2, l2⟩ := hy.agg_inv
    obtain ⟨s1, s2⟩ := eqL_rel hr l1 l2
    refine ⟨rfl, fun h2 => by simp [aop, k_eqAgg, hp, hq, hr], _, fun w => ?_, .bool _⟩
    have := run_eql_agg hf ha (xs := p'.toList) (ys := q'.toList) (by rw [s1, s2]; exact hr) hop w
    simp only [Array.toArray_toList] at this
    simp only [execOp, hc, e1, e2, Sem.run_bind, run_eqGuard_agg w op ty x y p' q' hg, Result.andThen_ok, this, Sem.run_pure]
  · cases hv

theorem isNilC_inv {x : Operand} (h : isNilC x = true) : x = .const .nilIface := by
  unfold isNilC at h
  split at h
  · rfl
  · cases h

/-- Comparisons and arithmetic. -/
theorem pure_binop {o : Oper} {op : BinOp} {ty yt : TypeId} {x y : Operand} {ao : AOp} (hc : o.op = .binOp op ty x y yt) (hop : cOp P (.binOp op ty x y yt) = some ao) (ho : ORd ρ t a ao.opds) : PureS P ρ t a o ao := by
  have nils : ∀ {k : NilK} {d : TypeDesc}, P.underlying ty = some d → k.fits d = true → (k = .iface → x = .const .nilIface ∨ y = .const .nilIface) → cNil k op x y = some ao → PureS P ρ t a o ao := by
    intro k d hu hf hi hcn
    unfold cNil at hcn
    split at hcn
    · cases hcn; exact pure_nil hc hu hf hi (.inl ⟨rfl, rfl⟩) ho
    · cases hcn; exact pure_nil hc hu hf hi (.inr ⟨rfl, rfl⟩) ho
    · cases hcn
  simp only [cOp, cBin] at hop
  split at hop
  · cases hop; exact pure_bin hc ho
  · split at hop
    · cases hop; exact pure_bin hc ho
    · cases hop; exact pure_bin hc ho
    · cases hop
  · rename_i hu
    split at hop
    · cases hop; exact pure_bool hc hu (.inl ⟨rfl, rfl⟩) ho
    · cases hop; exact pure_bool hc hu (.inr ⟨rfl, rfl⟩) ho
    · cases hop
  · rename_i hu; exact nils hu rfl (by simp) hop
  · rename_i hu; exact nils hu rfl (by simp) hop
  · rename_i hu; exact nils hu rfl (by simp) hop
  · rename_i hu; exact nils hu rfl (by simp) hop
  · rename_i hu
    split at hop
    · rename_i hn
      refine nils hu rfl (fun _ => ?_) hop
      simp only [Bool.or_eq_true] at hn
      exact hn.imp isNilC_inv isNilC_inv
    · cases hop
  · rename_i fs hu
    split at hop
    · rename_i ks hf
      split at hop
      · cases hop
      · rename_i hg
        have ha : isAggT P ty = some true := by simp [isAggT, hu]
        split at hop
        · cases hop; exact pure_agg hc hf ha (by simpa using hg) (.inl ⟨rfl, rfl⟩) ho
        · cases hop; exact pure_agg hc hf ha (by simpa using hg) (.inr ⟨rfl, rfl⟩) ho
        · cases hop
    · cases hop
  · cases hop

end
end Go.Proofs.YtbejfgpeledcjaaGreat.A
namespace Go.Proofs.YtbejfgpeledcjaaGreat.A
noncomputable section
open Go

variable {P : Program} {ρ : Ren} {h h1 : AHeap} {G : Bes} {w : World} {t : Tr Value} {a : Act} {v : Value}

theorem unVal_inv {op : UnOp} {x v : Value} (h : unVal op x = some v) : ((∃ k n, x = .int k n) ∨ ∃ b, x = .bool b) ∧ ((∃ k n, v = .int k n) ∨ ∃ b, v = .bool b) ∧ ∀ P w, (Op.unary op x).run P w = .ok v w := by
  unfold unVal at h
  split at h
  · cases h; exact ⟨.inl ⟨_, _, rfl⟩, .inl ⟨_, _, rfl⟩, fun P w => by simp [Op.unary, Op.intArith]⟩
  · cases h; exact ⟨.inr ⟨_, rfl⟩, .inr ⟨_, rfl⟩, fun P w => by simp [Op.unary]⟩
  · cases h

theorem pure_un {o : Oper} {op : UnOp} {ty : TypeId} {x : Operand} (hc : o.op = .unOp op ty x) (ho : ORd ρ t a [x]) : PureS P ρ t a o (.un op x) := by
  intro h h1 v hv
  simp only [aop, k_un] at hv
  obtain ⟨u, hu, he⟩ := isSomeMap hv
  simp only [R.val.injEq] at he
  obtain ⟨rfl, rfl⟩ := he
  obtain ⟨i1, i2, i3⟩ := unVal_inv hu
  have hx := ho x (by simp)
  have e : a.eval x = ev t x := by
    rcases i1 with ⟨k, n, e⟩ | ⟨b, e⟩
    · rw [e] at hx ⊢; exact hx.int_inv
    · rw [e] at hx ⊢; exact hx.bool_inv
  refine ⟨rfl, fun h2 => by simp [aop, k_un, hu], u, fun w => ?_, ?_⟩
  · simp only [execOp, hc, e, Sem.run_bind, i3, Result.andThen_ok, Sem.run_pure]
  · rcases i2 with ⟨k, n, rfl⟩ | ⟨b, rfl⟩
    · exact .int k n
    · exact .bool b

theorem pure_convInt {o : Oper} {s d : TypeId} {x : Operand} {k j : IntKind} (hc : o.op = .convert s d x) (hs : P.underlying s = some (.int j)) (hd : P.underlying d = some (.int k)) (ho : ORd ρ t a [x]) : PureS P ρ t a o (.convInt k x) := by
  intro h h1 v hv
  have hx := ho x (by simp)
  simp only [aop, k_convInt] at hv
  split at hv
  · rename_i k' n he
    simp only [Option.some.injEq, R.val.injEq] at hv
    obtain ⟨rfl, rfl⟩ := hv
    rw [he] at hx
    refine ⟨rfl, fun h2 => by simp [aop, k_convInt, he], _, fun w => ?_, .int _ _⟩
    simp only [execOp, hc, hx.int_inv, convert, Sem.run_bind, run_und hs, run_und hd, Result.andThen_ok]
    simp [Conv.intToInt]
  · cases hv

theorem pure_convStr {o : Oper} {s d : TypeId} {x : Operand} (hc : o.op = .convert s d x) (hs : P.underlying s = some .string) (hd : P.underlying d = some .string) (ho : ORd ρ t a [x]) : PureS P ρ t a o (.convStr x) := by
  intro h h1 v hv
  have hx := ho x (by simp)
  simp only [aop, k_convStr] at hv
  split at hv
  · rename_i n he
    simp only [Option.some.injEq, R.val.injEq] at hv
    obtain ⟨rfl, rfl⟩ := hv
    rw [he] at hx
    refine ⟨rfl, fun h2 => by simp [aop, k_convStr, he], _, fun w => ?_, .string _⟩
    simp only [execOp, hc, hx.str_inv, convert, Sem.run_bind, run_und hs, run_und hd, Result.andThen_ok]
    simp
  · cases hv

theorem pure_mkIface {o : Oper} {ty : TypeId} {x : Operand} (hc : o.op = .makeInterface ty x) {d : TypeDesc} (hu : P.underlying ty = some d) (hd : ∀ ms, d ≠ .interface ms) (ho : ORd ρ t a [x]) : PureS P ρ t a o (.mkIface ty x) := by
  intro h h1 v hv
  have hx := ho x (by simp)
  have hrun : ∀ w, (execOp a.eval o).run P w = .ok (.value (.iface ty (a.eval x))) w := fun w => by
    simp only [execOp, hc, Instr.makeInterface, Sem.run_bind, run_und hu, Result.andThen_ok]
    cases d <;> first | (exact absurd rfl (hd _)) | simp
  simp only [aop, k_mkIface] at hv
  split at hv
  · rename_i hk
    simp only [Option.some.injEq, R.val.injEq] at hv
    obtain ⟨rfl, rfl⟩ := hv
    exact ⟨rfl, fun h2 => by simp [aop, k_mkIface, hk], _, hrun, .iface _ _ _ hx⟩
  · rename_i hk
    split at hv
    · rename_i cs he
      simp only [Option.some.injEq, R.val.injEq] at hv
      obtain ⟨rfl, rfl⟩ := hv
      refine ⟨rfl, fun h2 => ?_, _, hrun, .iface _ _ _ (he ▸ hx)⟩
      simp [aop, k_mkIface, he, cellOk]
    · cases hv

theorem pure_mkFunc {o : Oper} {f : FuncId} {x y : Array Operand} (hc : o.op = .makeFunc (.func f) x y) (ho : ORd ρ t a (x.toList ++ y.toList)) : PureS P ρ t a o (.mkFunc f x.toList y.toList) := by
  intro h h1 v hv
  simp only [aop, k_mkFunc, Option.some.injEq, R.val.injEq] at hv
  obtain ⟨rfl, rfl⟩ := hv
  have l1 := ORd.lrel (l := x.toList) (fun z hz => ho z (by simp at hz ⊢; exact .inl hz))
  have l2 := ORd.lrel (l := y.toList) (fun z hz => ho z (by simp at hz ⊢; exact .inr hz))
  refine ⟨rfl, fun h2 => rfl, .func (.func f) (x.map a.eval) (y.map a.eval), fun w => ?_, ?_⟩
  · simp [execOp, hc, Instr.makeFunc]
  · have e1 : x.map a.eval = ⟨x.toList.map a.eval⟩ := by apply Array.ext'; simp
    have e2 : y.map a.eval = ⟨y.toList.map a.eval⟩ := by apply Array.ext'; simp
    rw [e1, e2]
    exact .func f _ _ _ _ l1.1 l2.1 l1.2 l2.2

theorem pure_nilCheck {o : Oper} {x : Operand} (hc : o.op = .nilCheck x) (ho : ORd ρ t a [x]) : PureS P ρ t a o (.nilCheck x) := by
  intro h h1 v hv
  have hx := ho x (by simp)
  simp only [aop, k_nilCheck] at hv
  split at hv
  · rename_i ad he
    simp only [Option.some.injEq, R.val.injEq] at hv
    obtain ⟨rfl, rfl⟩ := hv
    rw [he] at hx
    refine ⟨rfl, fun h2 => by simp [aop, k_nilCheck, he], a.eval x, fun w => ?_, hx⟩
    cases hy : a.eval x <;> rw [hy] at hx <;> cases hx
    simp [execOp, hc, hy]
  · rename_i f b c he
    simp only [Option.some.injEq, R.val.injEq] at hv
    obtain ⟨rfl, rfl⟩ := hv
    rw [he] at hx
    refine ⟨rfl, fun h2 => by simp [aop, k_nilCheck, he], a.eval x, fun w => ?_, hx⟩
    cases hy : a.eval x <;> rw [hy] at hx <;> cases hx
    simp [execOp, hc, hy]
  · cases hv

theorem pure_fieldAddr {o : Oper} {s : TypeId} {x : Operand} {i n : Nat} {fs : Array Go.Field} {f : Go.Field} (hc : o.op = .fieldAddr s x i) (hu : P.underlying s = some (.struct fs)) (hf : fs[i]? = some f) (hn : sizeT P f.type = some n) (hz : n ≠ 0)
    (ho : ORd ρ t a [x]) : PureS P ρ t a o (.fieldAddr f.offset x) := by
  intro h h1 v hv
  have hx := ho x (by simp)
  simp only [aop, k_fieldAddr] at hv
  split at hv
  · rename_i b off he
    simp only [Option.some.injEq, R.val.injEq] at hv
    obtain ⟨rfl, rfl⟩ := hv
    rw [he] at hx
    obtain ⟨e, h1, h2⟩ := hx.ptr_inv
    refine ⟨rfl, fun h2 => by simp [aop, k_fieldAddr, he], .pointer (some (e.at (off + f.offset))), fun w => ?_, .ptr _ _ e h1⟩
    simp only [execOp, hc, h2, Instr.fieldAt, Sem.run_bind, run_und hu, Result.andThen_ok, hf, Instr.sureAddr, Sem.run_pure, fieldPlace, run_size hn, if_neg hz, addr_add]
  · cases hv

theorem pure_field {o : Oper} {s : TypeId} {x : Operand} {i n : Nat} {fs : Array Go.Field} {f : Go.Field} {b : Bool} (hc : o.op = .field s x i) (hu : P.underlying s = some (.struct fs)) (hf : fs[i]? = some f) (hn : sizeT P f.type = some n) (hb : isAggT P f.type = some b)
    (ho : ORd ρ t a [x]) : PureS P ρ t a o (.part f.offset (if b then some n else none) x) := by
  intro h h1 v hv
  have hx := ho x (by simp)
  simp only [aop, k_part] at hv
  split at hv
  · rename_i cs he
    rw [he] at hx
    obtain ⟨ds, h2, h3, hone⟩ := hx.agg_inv'
    cases b with
    | true =>
      simp only [if_true, Option.some.injEq, R.val.injEq] at hv
      obtain ⟨rfl, rfl⟩ := hv
      refine ⟨rfl, fun h2 => by simp [aop, k_part, he], _, fun w => ?_, VRel.agg' ((h3.drop _).take _) (fun x hx => hone x (List.mem_of_mem_drop (List.mem_of_mem_take hx)))⟩
      have := run_part_agg hb hn ds.toList f.offset w
      simp only [Array.toArray_toList] at this
      simp only [execOp, hc, h2, Instr.field, Sem.run_bind, run_und hu, Result.andThen_ok, hf, asAgg, Sem.run_pure, this]
    | false =>
      simp only [Bool.false_eq_true, if_false] at hv
      obtain ⟨u, hu', he'⟩ := isSomeMap hv
      simp only [R.val.injEq] at he'
      obtain ⟨rfl, rfl⟩ := he'
      obtain ⟨u', g1, g2⟩ := h3.get hu'
      refine ⟨rfl, fun h2 => by simpa [aop, k_part, he] using hu', u', fun w => ?_, g2⟩
      have := run_part_one hb g1 w
      simp only [Array.toArray_toList] at this
      simp only [execOp, hc, h2, Instr.field, Sem.run_bind, run_und hu, Result.andThen_ok, hf, asAgg, Sem.run_pure, this]
  · cases hv

theorem pure_extract {o : Oper} {x : Operand} {i : Nat} (hc : o.op = .extract x i) (ho : ORd ρ t a [x]) : PureS P ρ t a o (.extract x i) := by
  intro h h1 v hv
  have hx := ho x (by simp)
  simp only [aop, k_extract] at hv
  split at hv
  · rename_i cs he
    rw [he] at hx
    obtain ⟨ds, h2, h3⟩ := hx.tuple_inv
    obtain ⟨u, hu', he'⟩ := isSomeMap hv
    simp only [R.val.injEq] at he'
    obtain ⟨rfl, rfl⟩ := he'
    obtain ⟨u', g1, g2⟩ := h3.get hu'
    refine ⟨rfl, fun h2 => by simpa [aop, k_extract, he] using hu', u', fun w => ?_, g2⟩
    have g1' : ds[i]? = some u' := by simpa using g1
    simp only [execOp, hc, h2, Instr.extract, g1', Sem.run_bind, Sem.run_pure, Result.andThen_ok]
  · cases hv

/-- A slice that has elements: where it lies. -/
theorem VRel.slice_inv {b off len cap : Nat} {x : Value} (h : VRel ρ (.slice (some ⟨b, off, none⟩) len cap) x) (hl : 0 < len) :
    ∃ e cap', ρ b = some e ∧ x = .slice (some (e.at off)) len cap' ∧ len ≤ cap' ∧ (e.sz = 0 ∨ off + cap' * e.sz ≤ e.room) := by
  cases h with
  | slice b o len cap ad cap' h1 h2 h3 =>
    obtain ⟨e, h4, h5, h6⟩ := h3 (by omega)
    exact ⟨e, cap', h4, by rw [h5], h1, h6⟩

theorem pure_idxSl {o : Oper} {ty el : TypeId} {x i : Operand} {n : Nat} (hc : o.op = .indexAddr ty x i) (hu : P.underlying ty = some (.slice el)) (hn : sizeT P el = some n) (ho : ORd ρ t a [x, i]) : PureS P ρ t a o (.idxSl n x i) := by
  intro h h1 v hv
  have hx := ho x (by simp)
  have hi := ho i (by simp)
  simp only [aop, k_idxSl] at hv
  split at hv
  · rename_i ad len cap k m he1 he2
    split at hv
    · rename_i hcnd
      obtain ⟨c1, c2, c3⟩ := hcnd
      simp only [Option.some.injEq, R.val.injEq] at hv
      obtain ⟨rfl, rfl⟩ := hv
      obtain ⟨bl, off, sp⟩ := ad
      simp only at c3
      subst c3
      rw [he1] at hx; rw [he2] at hi
      obtain ⟨e, cap', g1, g2, g3, g4⟩ := hx.slice_inv (by omega)
      refine ⟨rfl, fun h2 => by simp [aop, k_idxSl, he1, he2, c1, c2, addrAdd], .pointer (some (e.at (off + m.toNat * n))), fun w => ?_, .ptr _ _ e g1⟩
      simp only [execOp, hc, g2, hi.int_inv, Instr.indexAt, asIntOf, Sem.run_bind, run_und hu, Result.andThen_ok, Sem.run_pure, if_pos (And.intro c1 c2), run_size hn, addr_add, Sem.run_ite]
    · cases hv
  · cases hv

theorem pure_idxArr {o : Oper} {ty el : TypeId} {x i : Operand} {n len : Nat} (hc : o.op = .indexAddr ty x i) (hu : P.underlying ty = some (.array len el)) (hn : sizeT P el = some n) (ho : ORd ρ t a [x, i]) : PureS P ρ t a o (.idxArr len n x i) := by
  intro h h1 v hv
  have hx := ho x (by simp)
  have hi := ho i (by simp)
  simp only [aop, k_idxArr] at hv
  split at hv
  · rename_i ad k m he1 he2
    split at hv
    · rename_i hcnd
      obtain ⟨c1, c2, c3⟩ := hcnd
      simp only [Option.some.injEq, R.val.injEq] at hv
      obtain ⟨rfl, rfl⟩ := hv
      obtain ⟨bl, off, sp⟩ := ad
      simp only at c3
      subst c3
      rw [he1] at hx; rw [he2] at hi
      obtain ⟨e, g1, g2⟩ := hx.ptr_inv
      refine ⟨rfl, fun h2 => by simp [aop, k_idxArr, he1, he2, c1, c2, addrAdd], .pointer (some (e.at (off + m.toNat * n))), fun w => ?_, .ptr _ _ e g1⟩
      simp only [execOp, hc, g2, hi.int_inv, Instr.indexAt, asIntOf, Sem.run_bind, run_und hu, Result.andThen_ok, Sem.run_pure, Instr.sureAddr, if_pos (And.intro c1 c2), run_size hn, addr_add, Sem.run_ite]
    · cases hv
  · cases hv

theorem pure_indexArr {o : Oper} {ty el : TypeId} {x i : Operand} {n len : Nat} {b : Bool} (hc : o.op = .index ty x i) (hu : P.underlying ty = some (.array len el)) (hn : sizeT P el = some n) (hb : isAggT P el = some b) (hlen : len ≠ 0) (ho : ORd ρ t a [x, i]) : PureS P ρ t a o (.indexAgg len n b x i) := by
  intro h h1 v hv
  have hx := ho x (by simp)
  have hi := ho i (by simp)
  simp only [aop, k_indexAgg] at hv
  split at hv
  · rename_i cs k m he1 he2
    split at hv
    · rename_i hcnd
      rw [he1] at hx; rw [he2] at hi
      obtain ⟨ds, g1, g2, hone⟩ := hx.agg_inv'
      cases b with
      | true =>
        simp only [if_true, Option.some.injEq, R.val.injEq] at hv
        obtain ⟨rfl, rfl⟩ := hv
        refine ⟨rfl, fun h2 => by simp [aop, k_indexAgg, he1, he2, hcnd], _, fun w => ?_, VRel.agg' ((g2.drop _).take _) (fun x hx => hone x (List.mem_of_mem_drop (List.mem_of_mem_take hx)))⟩
        have := run_part_agg hb hn ds.toList (m.toNat * n) w
        simp only [Array.toArray_toList] at this
        simp only [execOp, hc, g1, hi.int_inv, Instr.index, asIntOf, Sem.run_bind, run_und hu, Result.andThen_ok, Sem.run_pure, if_pos hcnd, run_size hn, this]
      | false =>
        simp only [Bool.false_eq_true, if_false] at hv
        obtain ⟨u, hu', he'⟩ := isSomeMap hv
        simp only [R.val.injEq] at he'
        obtain ⟨rfl, rfl⟩ := he'
        obtain ⟨u', q1, q2⟩ := g2.get hu'
        refine ⟨rfl, fun h2 => by simpa [aop, k_indexAgg, he1, he2, hcnd] using hu', u', fun w => ?_, q2⟩
        have := run_part_one hb q1 w
        simp only [Array.toArray_toList] at this
        simp only [execOp, hc, g1, hi.int_inv, Instr.index, asIntOf, Sem.run_bind, run_und hu, Result.andThen_ok, Sem.run_pure, if_pos hcnd, run_size hn, this]
    · cases hv
  · split at hv
    · rename_i hcnd; exact absurd hcnd.2.1 hlen
    · cases hv
  · cases hv

theorem pure_indexStr {o : Oper} {ty : TypeId} {x i : Operand} (hc : o.op = .index ty x i) (hu : P.underlying ty = some .string) (ho : ORd ρ t a [x, i]) : PureS P ρ t a o (.indexAgg 0 1 false x i) := by
  intro h h1 v hv
  have hx := ho x (by simp)
  have hi := ho i (by simp)
  simp only [aop, k_indexAgg] at hv
  split at hv
  · split at hv
    · rename_i hcnd; omega
    · cases hv
  · rename_i s k m he1 he2
    split at hv
    · rename_i hcnd
      rw [he1] at hx; rw [he2] at hi
      obtain ⟨u, hu', he'⟩ := isSomeMap hv
      simp only [R.val.injEq] at he'
      obtain ⟨rfl, rfl⟩ := he'
      refine ⟨rfl, fun h2 => by simp only [aop, k_indexAgg, he1, he2]; rw [if_pos hcnd, hu']; rfl, _, fun w => ?_, .int _ _⟩
      have hb : s[m.toNat]? = some u := by
        have hlt : m.toNat < s.size := hcnd.2.2
        simp only [getElem?_pos, hlt]
        have h3 := (List.getElem?_eq_some_iff.1 hu').2
        rw [← h3]; rfl
      simp only [execOp, hc, hx.str_inv, hi.int_inv, Instr.index, asIntOf, Sem.run_bind, run_und hu, Result.andThen_ok, Sem.run_pure, if_pos hcnd.1, hb]
    · cases hv
  · cases hv

theorem pure_lenStr {o : Oper} {ty : TypeId} {c : Call} {x : Operand} (hc : o.op = .call c) (hb : c.callee = .builtin .len) (hat : c.argTypes.toList = [ty]) (hag : c.args.toList = [x]) (hu : P.underlying ty = some .string) (ho : ORd ρ t a [x]) : PureS P ρ t a o (.lenStr x) := by
  intro h h1 v hv
  have hx := ho x (by simp)
  simp only [aop, k_lenStr] at hv
  split at hv
  · rename_i s he
    simp only [Option.some.injEq, R.val.injEq] at hv
    obtain ⟨rfl, rfl⟩ := hv
    rw [he] at hx
    refine ⟨rfl, fun h2 => by simp [aop, k_lenStr, he], _, fun w => ?_, .int _ _⟩
    have e1 : c.argTypes = #[ty] := by apply Array.ext'; simp [hat]
    have e2 : c.args = #[x] := by apply Array.ext'; simp [hag]
    simp only [execOp, hc, resolve, hb, e1, e2, Sem.run_bind, Sem.run_pure, Result.andThen_ok, invoke, builtin, Builtin.len_]
    simp [hx.str_inv, run_und hu, goInt]
  · cases hv

theorem pure_lenSl {o : Oper} {ty el : TypeId} {c : Call} {x : Operand} (hc : o.op = .call c) (hb : c.callee = .builtin .len) (hat : c.argTypes.toList = [ty]) (hag : c.args.toList = [x]) (hu : P.underlying ty = some (.slice el)) (ho : ORd ρ t a [x]) : PureS P ρ t a o (.lenSl x) := by
  intro h h1 v hv
  have hx := ho x (by simp)
  simp only [aop, k_lenSl] at hv
  split at hv
  · rename_i ad n cp he
    simp only [Option.some.injEq, R.val.injEq] at hv
    obtain ⟨rfl, rfl⟩ := hv
    rw [he] at hx
    have hsl : ∃ ad' cp', a.eval x = .slice ad' n cp' := by
      cases hy : a.eval x <;> rw [hy] at hx <;> cases hx <;> exact ⟨_, _, rfl⟩
    obtain ⟨ad', cp', hsl⟩ := hsl
    refine ⟨rfl, fun h2 => by simp [aop, k_lenSl, he], _, fun w => ?_, .int _ _⟩
    have e1 : c.argTypes = #[ty] := by apply Array.ext'; simp [hat]
    have e2 : c.args = #[x] := by apply Array.ext'; simp [hag]
    simp only [execOp, hc, resolve, hb, e1, e2, Sem.run_bind, Sem.run_pure, Result.andThen_ok, invoke, builtin, Builtin.len_]
    simp [hsl, run_und hu, goInt]
  · cases hv

theorem pure_lenArr {o : Oper} {ty el : TypeId} {n : Nat} {c : Call} {x : Operand} (hc : o.op = .call c) (hb : c.callee = .builtin .len) (hat : c.argTypes.toList = [ty]) (hag : c.args.toList = [x]) (hu : P.underlying ty = some (.array n el)) : PureS P ρ t a o (.mv (.const (.int .i64 n))) := by
  intro h h1 v hv
  simp only [aop, k_mv, ev, Option.some.injEq, R.val.injEq] at hv
  obtain ⟨rfl, rfl⟩ := hv
  refine ⟨rfl, fun h2 => rfl, _, fun w => ?_, .int _ _⟩
  have e1 : c.argTypes = #[ty] := by apply Array.ext'; simp [hat]
  have e2 : c.args = #[x] := by apply Array.ext'; simp [hag]
  simp only [execOp, hc, resolve, hb, e1, e2, Sem.run_bind, Sem.run_pure, Result.andThen_ok, invoke, builtin, Builtin.len_]
  simp [run_und hu, goInt]

theorem pure_max {o : Oper} {c : Call} {x y : Operand} (hc : o.op = .call c) (hb : c.callee = .builtin .max) (hag : c.args.toList = [x, y]) (ho : ORd ρ t a [x, y]) : PureS P ρ t a o (.max2 x y) := by
  intro h h1 v hv
  have hx := ho x (by simp)
  have hy := ho y (by simp)
  simp only [aop, k_max2] at hv
  split at hv
  · rename_i k n k' m he1 he2
    split at hv
    · rename_i hk
      simp only [Option.some.injEq, R.val.injEq] at hv
      obtain ⟨rfl, rfl⟩ := hv
      rw [he1] at hx; rw [he2] at hy
      refine ⟨rfl, fun h2 => by simp [aop, k_max2, he1, he2, hk], _, fun w => ?_, .int _ _⟩
      have e2 : c.args = #[x, y] := by apply Array.ext'; simp [hag]
      simp only [execOp, hc, resolve, hb, e2, Sem.run_bind, Sem.run_pure, Result.andThen_ok, invoke, builtin, Builtin.max_]
      simp [hx.int_inv, hy.int_inv, Builtin.max2]
    · cases hv
  · cases hv

theorem pure_min {o : Oper} {c : Call} {x y : Operand} (hc : o.op = .call c) (hb : c.callee = .builtin .min) (hag : c.args.toList = [x, y]) (ho : ORd ρ t a [x, y]) : PureS P ρ t a o (.min2 x y) := by
  intro h h1 v hv
  have hx := ho x (by simp)
  have hy := ho y (by simp)
  simp only [aop, k_min2] at hv
  split at hv
  · rename_i k n k' m he1 he2
    split at hv
    · rename_i hk
      simp only [Option.some.injEq, R.val.injEq] at hv
      obtain ⟨rfl, rfl⟩ := hv
      rw [he1] at hx; rw [he2] at hy
      refine ⟨rfl, fun h2 => by simp [aop, k_min2, he1, he2, hk], _, fun w => ?_, .int _ _⟩
      have e2 : c.args = #[x, y] := by apply Array.ext'; simp [hag]
      simp only [execOp, hc, resolve, hb, e2, Sem.run_bind, Sem.run_pure, Result.andThen_ok, invoke, builtin, Builtin.min_]
      simp [hx.int_inv, hy.int_inv, Builtin.min2]
    · cases hv
  · cases hv

theorem pure_typeIs {o : Oper} {x : Operand} {s ty : TypeId} {d : TypeDesc} {z : Value} (hc : o.op = .typeAssert x s ty true) (hu : P.underlying ty = some d) (hd : ∀ ms, d ≠ .interface ms) (hz : zeroT P ty = some z) (hzo : constOk z = true) (ho : ORd ρ t a [x]) : PureS P ρ t a o (.typeIs ty z x) := by
  intro h h1 v hv
  have hx := ho x (by simp)
  simp only [aop, k_typeIs] at hv
  have two : ∀ {p q : Value} {b : Bool}, VRel ρ p q → VRel ρ (.tuple #[p, .bool b]) (.tuple #[q, .bool b]) := fun hp => VRel.tuple' (.cons hp (.cons (.bool _) (LRel.nil ρ)))
  split at hv
  · rename_i ty' u he
    rw [he] at hx
    cases hy : a.eval x <;> rw [hy] at hx <;> cases hx
    rename_i u' hu'
    split at hv
    · rename_i heq
      simp only [Option.some.injEq, R.val.injEq] at hv
      obtain ⟨rfl, rfl⟩ := hv
      refine ⟨rfl, fun h2 => by simp [aop, k_typeIs, he, heq], .tuple #[u', .bool true], fun w => ?_, two hu'⟩
      simp only [execOp, hc, hy, Instr.typeAssert, Sem.run_bind, run_und hu, Result.andThen_ok]
      cases d <;> first | (exact absurd rfl (hd _)) | simp [heq]
    · rename_i heq
      simp only [Option.some.injEq, R.val.injEq] at hv
      obtain ⟨rfl, rfl⟩ := hv
      refine ⟨rfl, fun h2 => by simp [aop, k_typeIs, he, heq], .tuple #[z, .bool false], fun w => ?_, two (.const hzo)⟩
      simp only [execOp, hc, hy, Instr.typeAssert, Sem.run_bind, run_und hu, Result.andThen_ok]
      cases d <;> first | (exact absurd rfl (hd _)) | simp [heq, run_zero hz]
  · rename_i he
    simp only [Option.some.injEq, R.val.injEq] at hv
    obtain ⟨rfl, rfl⟩ := hv
    rw [he] at hx
    cases hy : a.eval x <;> rw [hy] at hx <;> cases hx
    refine ⟨rfl, fun h2 => by simp [aop, k_typeIs, he], .tuple #[z, .bool false], fun w => ?_, two (.const hzo)⟩
    simp only [execOp, hc, hy, Instr.typeAssert, Sem.run_bind, run_und hu, Result.andThen_ok]
    cases d <;> first | (exact absurd rfl (hd _)) | simp [run_zero hz]
  · cases hv

end
end Go.Proofs.YtbejfgpeledcjaaGreat.A
namespace Go.Proofs.YtbejfgpeledcjaaGreat.A
noncomputable section
open Go

variable {P : Program} {ρ : Ren} {h h1 : AHeap} {G : Bes} {w : World} {t : Tr Value} {a : Act} {v : Value}

/-- What is said of an operation that reads. -/
def ReadS (P : Program) (ρ : Ren) (t : Tr Value) (a : Act) (o : Oper) (op : AOp) : Prop :=
  ∀ h G w, SR P ρ h G w → ∀ h1 v, aop op t h = some (.val v h1) → h1 = h ∧ ∃ v', (execOp a.eval o).run P w = .ok (.value v') w ∧ VRel ρ v v'

theorem pick_list {Q : Nat → Value → Prop} : ∀ (l : List Value), (∀ (i : Nat) (v : Value), l[i]? = some v → ∃ v', Q i v' ∧ VRel ρ v v') → ∃ l', LRel ρ l l' ∧ ∀ (j : Nat) (v : Value), l'[j]? = some v → Q j v
  | [], _ => ⟨[], LRel.nil ρ, fun j v hj => by simp at hj⟩
  | x :: l, hl => by
    obtain ⟨x', q, r⟩ := hl 0 x (by simp)
    obtain ⟨l', h1, h2⟩ := pick_list (Q := fun i v => Q (i + 1) v) l (fun i v hi => hl (i + 1) v (by simpa using hi))
    refine ⟨x' :: l', .cons r h1, fun j v hj => ?_⟩
    cases j with
    | zero => simp at hj; subst hj; exact q
    | succ j => exact h2 j v (by simpa using hj)

theorem readN_rel (s : SR P ρ h G w) {b o n : Nat} {cs : List Value} (hr : readN h b o n = some cs) {e : Emb} (he : ρ b = some e) :
    ∃ cs', LRel ρ cs cs' ∧ (∀ (j : Nat) (v : Value), cs'[j]? = some v → w.cell? (e.at (o + j)) = some v ∧ v.oneCell' = true) ∧ cs'.length = n := by
  unfold readN at hr
  split at hr
  · rename_i ds sz ro hb
    split at hr
    · rename_i hle
      cases hr
      have hob := s.obj hb he
      obtain ⟨l', h1, h2⟩ := pick_list (ρ := ρ) (Q := fun j v => w.cell? (e.at (o + j)) = some v ∧ v.oneCell' = true) ((ds.drop o).take n) (fun i v hi => by
        rw [List.getElem?_take] at hi
        split at hi
        · rw [List.getElem?_drop] at hi
          obtain ⟨v', x, y, z⟩ := hob.2.2.1 _ _ hi
          exact ⟨v', ⟨x, z⟩, y⟩
        · cases hi)
      exact ⟨l', h1, h2, by rw [← h1.1]; simp; omega⟩
    · cases hr
  · cases hr

theorem read1_rel (s : SR P ρ h G w) {b o : Nat} {v : Value} (hr : read1 h b o = some v) {e : Emb} (he : ρ b = some e) :
    ∃ v', w.cell? (e.at o) = some v' ∧ VRel ρ v v' ∧ v'.oneCell' = true := by
  unfold read1 at hr
  split at hr
  · rename_i ds sz ro hb
    exact (s.obj hb he).2.2.1 _ _ hr
  · cases hr

theorem run_load_cell {x : Addr} {v : Value} (hv : w.cell? x = some v) : (load x).run P w = .ok v w := by simp [hv]

theorem run_cells (b o n : Nat) {cs' : List Value} (hc : ∀ (j : Nat) (v : Value), cs'[j]? = some v → w.cell? ⟨b, o + j, none⟩ = some v) (hl : cs'.length = n) : (loadCells ⟨b, o, none⟩ n).run P w = .ok ⟨cs'⟩ w := by
  subst hl
  rw [run_loadCells_list (P := P) w ⟨b, o, none⟩ cs' (fun j v hj => by
    have : (⟨b, o, none⟩ : Addr).add j = ⟨b, o + j, none⟩ := by unfold Addr.add; split <;> simp_all
    rw [this]; exact hc j v hj)]

theorem read_load1 {o : Oper} {ty : TypeId} {x : Operand} (hc : o.op = .load ty x) (hu : isAggT P ty = some false) (ho : ORd ρ t a [x]) : ReadS P ρ t a o (.load1 x) := by
  intro h G w s h1 v hv
  have hx := ho x (by simp)
  simp only [aop, k_load1] at hv
  split at hv
  · rename_i b off he
    rw [he] at hx
    obtain ⟨e, g1, g2⟩ := hx.ptr_inv
    obtain ⟨u, hu', he'⟩ := isSomeMap hv
    simp only [R.val.injEq] at he'
    obtain ⟨rfl, rfl⟩ := he'
    obtain ⟨v', q1, q2, _⟩ := read1_rel s hu' g1
    refine ⟨rfl, v', ?_, q2⟩
    simp only [execOp, hc, g2, Instr.loadAt, Instr.sureAddr, Sem.run_bind, Sem.run_pure, Result.andThen_ok, loadVar, run_isAgg hu, Bool.false_eq_true, if_false, run_load_cell q1]
  · cases hv

theorem read_loadN {o : Oper} {ty : TypeId} {x : Operand} {n : Nat} (hc : o.op = .load ty x) (hu : isAggT P ty = some true) (hn : sizeT P ty = some n) (ho : ORd ρ t a [x]) : ReadS P ρ t a o (.loadN n x) := by
  intro h G w s h1 v hv
  have hx := ho x (by simp)
  simp only [aop, k_loadN] at hv
  split at hv
  · rename_i b off he
    rw [he] at hx
    obtain ⟨e, g1, g2⟩ := hx.ptr_inv
    obtain ⟨u, hu', he'⟩ := isSomeMap hv
    simp only [R.val.injEq] at he'
    obtain ⟨rfl, rfl⟩ := he'
    obtain ⟨cs', q1, q2, q3⟩ := readN_rel s hu' g1
    refine ⟨rfl, _, ?_, VRel.agg' q1 (fun x hx => by obtain ⟨j, hj⟩ := List.getElem?_of_mem hx; exact (q2 j x hj).2)⟩
    have := run_cells (P := P) (w := w) e.cb (e.off + off) n (cs' := cs') (fun j v hj => by rw [Nat.add_assoc]; exact (q2 j v hj).1) q3
    simp only [execOp, hc, g2, Instr.loadAt, Instr.sureAddr, Sem.run_bind, Sem.run_pure, Result.andThen_ok, loadVar, run_isAgg hu, if_true, run_size hn, this]
  · cases hv

theorem sameNow_eq {td : TypeDesc} {sk : Sk} {k x : Value} {r : Bool} (h : eqK sk k x = some r) (hk : sk.fits td = true) : Instr.sameNow td k x = some r := by
  unfold eqK at h
  split at h
  · cases td <;> simp [Sk.fits] at hk; simpa [Instr.sameNow] using h
  · cases td <;> simp [Sk.fits] at hk; simpa [Instr.sameNow] using h
  · cases td <;> simp [Sk.fits] at hk; simpa [Instr.sameNow, beq_toListBytes, ByteArray.toList_eq] using h
  · cases h

/-- The entries stand for the entries. -/
def ERel (ρ : Ren) (es : List (Value × Value)) (es' : List MapEntry) : Prop :=
  es.length = es'.length ∧ ∀ (i : Nat) (k v : Value) (m : MapEntry), es[i]? = some (k, v) → es'[i]? = some m → m.key = k ∧ VRel ρ v m.val

theorem ERel.head {k v : Value} {m : MapEntry} {es : List (Value × Value)} {es' : List MapEntry} (h : ERel ρ ((k, v) :: es) (m :: es')) : m.key = k ∧ VRel ρ v m.val := h.2 0 k v m (by simp) (by simp)
theorem ERel.tail {k v : Value} {m : MapEntry} {es : List (Value × Value)} {es' : List MapEntry} (h : ERel ρ ((k, v) :: es) (m :: es')) : ERel ρ es es' :=
  ⟨by simpa using h.1, fun i k v m a b => h.2 (i + 1) k v m (by simpa using a) (by simpa using b)⟩

theorem findNow_rel {td : TypeDesc} {sk : Sk} {k : Value} (hk : sk.fits td = true) : ∀ {es : List (Value × Value)} {es' : List MapEntry} {r : Option Value} (n : Nat), ERel ρ es es' → findL sk k es = some r →
    (r = none → Instr.findNow td k es' n = some none) ∧ (∀ v, r = some v → ∃ i v', Instr.findNow td k es' n = some (some (n + i, v')) ∧ (es'[i]?).map (·.val) = some v' ∧ VRel ρ v v' ∧ (es'[i]?).map (·.key) = (es[i]?).map (·.1) ∧ ∃ x, (es[i]?).map (·.1) = some x ∧ eqK sk k x = some true)
  | [], [], r, n, _, hr => by simp [findL] at hr; subst hr; exact ⟨fun _ => rfl, fun v hv => by simp at hv⟩
  | (x, v) :: es, m :: es', r, n, he, hr => by
    obtain ⟨e1, e2⟩ := he.head
    unfold findL at hr
    split at hr
    · rename_i hq
      cases hr
      refine ⟨fun h => by simp at h, fun u hu => ?_⟩
      simp only [Option.some.injEq] at hu
      subst hu
      refine ⟨0, m.val, ?_, by simp, e2, by simp [e1], x, by simp, hq⟩
      simp [Instr.findNow, e1, sameNow_eq hq hk]
    · rename_i hq
      obtain ⟨i1, i2⟩ := findNow_rel hk (n + 1) he.tail hr
      have step : Instr.findNow td k (m :: es') n = Instr.findNow td k es' (n + 1) := by simp [Instr.findNow, e1, sameNow_eq hq hk]
      refine ⟨fun h => by rw [step]; exact i1 h, fun u hu => ?_⟩
      obtain ⟨i, v', j1, j2, j3, j4, y, j5, j6⟩ := i2 u hu
      exact ⟨i + 1, v', by rw [step, j1, show n + 1 + i = n + (i + 1) by omega], by simpa using j2, j3, by simpa using j4, y, by simpa using j5, j6⟩
    · cases hr
  | [], _ :: _, _, _, he, _ => by have := he.1; simp at this
  | _ :: _, [], _, _, he, _ => by have := he.1; simp at this

theorem keySk_inv {ty : TypeId} {sk : Sk} (h : keySk P ty = some sk) : ∃ k e td, P.underlying ty = some (.map k e) ∧ P.underlying k = some td ∧ sk.fits td = true := by
  unfold keySk at h
  split at h
  · rename_i k e hu
    split at h
    · rename_i j hk; cases h; exact ⟨k, e, _, hu, hk, rfl⟩
    · rename_i hk; cases h; exact ⟨k, e, _, hu, hk, rfl⟩
    · rename_i hk; cases h; exact ⟨k, e, _, hu, hk, rfl⟩
    · cases h
  · cases h

theorem run_checkKey {k : TypeId} {td : TypeDesc} {sk : Sk} (hk : P.underlying k = some td) (hf : sk.fits td = true) (b : Bool) (v : Value) (w : World) : (Instr.checkKey b 10000 k v).run P w = .ok () w := by
  have e : ∀ n, (Instr.checkKey b (n + 1) k v).run P w = .ok () w := fun n => by
    unfold Instr.checkKey
    simp only [Sem.run_bind, run_und hk, Result.andThen_ok]
    cases sk <;> cases td <;> simp [Sk.fits] at hf <;> simp
  exact e 9999

theorem keyOk_rel {sk : Sk} {x x' : Value} (hx : keyOk sk x = true) (h : VRel ρ x x') : x' = x := by
  cases sk <;> cases h <;> simp_all [keyOk]

theorem run_findKey {k : TypeId} {td : TypeDesc} {x : Value} {es : List MapEntry} {r : Option (Nat × Value)} (hk : P.underlying k = some td) (hr : Instr.findNow td x es 0 = some r) (w : World) : (Instr.findKey k x es).run P w = .ok r w := by
  simp [Instr.findKey, run_und hk, hr]

theorem run_getObj {r : Nat} {ob : Obj} (hr : w.heap[r]? = some ob) (hn : noCells ob = true) : (getObj r).run P w = .ok ob w := by
  cases ob <;> simp [noCells] at hn <;> simp [getObj, Sem.run, hr]

theorem VRel.map_inv {r : Nat} {x : Value} (h : VRel ρ (.map (some r)) x) : ∃ e, ρ r = some e ∧ x = .map (some e.cb) := by
  cases h with
  | map r e he => exact ⟨e, he, rfl⟩

theorem read_lookup {o : Oper} {ty k e : TypeId} {x i : Operand} {sk : Sk} {z : Value} {ok : Bool} (hc : o.op = .lookup ty x i ok) (hu : P.underlying ty = some (.map k e)) (hsk : keySk P ty = some sk) (hz : zeroT P e = some z) (hzo : constOk z = true)
    (ho : ORd ρ t a [x, i]) : ReadS P ρ t a o (.lookup sk z x i ok) := by
  intro h G w s h1 v hv
  have hx := ho x (by simp)
  have hi := ho i (by simp)
  obtain ⟨k', e', td, g1, g2, g3⟩ := keySk_inv hsk
  rw [hu] at g1; cases g1
  have two : ∀ {p q : Value} {b : Bool}, VRel ρ p q → VRel ρ (.tuple #[p, .bool b]) (.tuple #[q, .bool b]) := fun hp => VRel.tuple' (.cons hp (.cons (.bool _) (LRel.nil ρ)))
  have out : ∀ {p q : Value} {b : Bool}, VRel ρ p q → VRel ρ (if ok then .tuple #[p, .bool b] else p) (if ok then .tuple #[q, .bool b] else q) := fun hp => by
    cases ok
    · exact hp
    · exact two hp
  simp only [aop, k_lookup] at hv
  split at hv
  · rename_i hkey
    have hi' := keyOk_rel hkey hi
    split at hv
    · rename_i he
      simp only [Option.some.injEq, R.val.injEq] at hv
      obtain ⟨rfl, rfl⟩ := hv
      rw [he] at hx
      have hx' : a.eval x = .map none := by cases hy : a.eval x <;> rw [hy] at hx <;> cases hx; rfl
      refine ⟨rfl, if ok then .tuple #[z, .bool false] else z, ?_, out (.const hzo)⟩
      simp only [execOp, hc, hx', hi', Instr.lookup, Sem.run_bind, run_und hu, Result.andThen_ok, Sem.run_pure, run_checkKey g2 g3, run_findKey g2 (es := []) (r := none) rfl, run_zero hz]
    · rename_i r he
      rw [he] at hx
      obtain ⟨em, q1, q2⟩ := hx.map_inv
      split at hv
      · rename_i es hes
        obtain ⟨_, _, es', clk, q3, q4, q5⟩ := s.obj hes q1
        have her : ERel ρ es es'.toList := ⟨by simpa using q4, fun i k v m a b => q5 i k v m a (by simpa using b)⟩
        have hrun : ∀ r, Instr.findNow td (ev t i) es'.toList 0 = some r → (execOp a.eval o).run P w = .ok (.value (if ok then .tuple #[(match r with | some (_, u) => u | none => z), .bool r.isSome] else (match r with | some (_, u) => u | none => z))) w := fun r hr => by
          simp only [execOp, hc, q2, hi', Instr.lookup, Sem.run_bind, run_und hu, Result.andThen_ok, Sem.run_pure, run_getObj q3 rfl, run_checkKey g2 g3, run_findKey g2 hr]
          cases r with
          | none => simp [run_zero hz]
          | some p => simp
        split at hv
        · rename_i u hf
          simp only [Option.some.injEq, R.val.injEq] at hv
          obtain ⟨rfl, rfl⟩ := hv
          obtain ⟨n, u', j1, _, j3, _⟩ := (findNow_rel g3 0 her hf).2 u rfl
          exact ⟨rfl, _, hrun _ j1, out j3⟩
        · rename_i hf
          simp only [Option.some.injEq, R.val.injEq] at hv
          obtain ⟨rfl, rfl⟩ := hv
          exact ⟨rfl, _, hrun _ ((findNow_rel g3 0 her hf).1 rfl), out (.const hzo)⟩
        · cases hv
      · cases hv
    · cases hv
  · cases hv

theorem read_lenMap {o : Oper} {ty k e : TypeId} {c : Call} {x : Operand} (hc : o.op = .call c) (hb : c.callee = .builtin .len) (hat : c.argTypes.toList = [ty]) (hag : c.args.toList = [x]) (hu : P.underlying ty = some (.map k e)) (ho : ORd ρ t a [x]) : ReadS P ρ t a o (.lenMap x) := by
  intro h G w s h1 v hv
  have hx := ho x (by simp)
  have e1 : c.argTypes = #[ty] := by apply Array.ext'; simp [hat]
  have e2 : c.args = #[x] := by apply Array.ext'; simp [hag]
  simp only [aop, k_lenMap] at hv
  split at hv
  · rename_i he
    simp only [Option.some.injEq, R.val.injEq] at hv
    obtain ⟨rfl, rfl⟩ := hv
    rw [he] at hx
    have hx' : a.eval x = .map none := by cases hy : a.eval x <;> rw [hy] at hx <;> cases hx; rfl
    refine ⟨rfl, _, ?_, .int _ _⟩
    simp only [execOp, hc, resolve, hb, e1, e2, Sem.run_bind, Sem.run_pure, Result.andThen_ok, invoke, builtin, Builtin.len_]
    simp [hx', run_und hu, goInt]
  · rename_i r he
    rw [he] at hx
    obtain ⟨em, q1, q2⟩ := hx.map_inv
    split at hv
    · rename_i es hes
      simp only [Option.some.injEq, R.val.injEq] at hv
      obtain ⟨rfl, rfl⟩ := hv
      obtain ⟨_, _, es', clk, q3, q4, q5⟩ := s.obj hes q1
      refine ⟨rfl, _, ?_, .int _ _⟩
      simp only [execOp, hc, resolve, hb, e1, e2, Sem.run_bind, Sem.run_pure, Result.andThen_ok, invoke, builtin, Builtin.len_]
      simp [q2, run_und hu, goInt, run_getObj q3 rfl, q4]
    · cases hv
  · cases hv

end
end Go.Proofs.YtbejfgpeledcjaaGreat.A
namespace Go.Proofs.YtbejfgpeledcjaaGreat.A
noncomputable section
open Go

variable {P : Program} {ρ : Ren} {h h1 : AHeap} {G : Bes} {w : World} {t : Tr Value} {a : Act} {v : Value}

theorem bound_some {x : Operand} {least most dflt r : Nat} (hb : bound t (some x) least most dflt = some r) (hx : VRel ρ (ev t x) (a.eval x)) :
    ∃ k i, a.eval x = .int k i ∧ (least : Int) ≤ i ∧ i ≤ most ∧ r = i.toNat := by
  unfold bound at hb
  simp only at hb
  split at hb
  · rename_i i hi
    split at hb
    · rename_i hr
      cases hb
      unfold intOf? at hi
      split at hi
      · rename_i k n he
        cases hi
        rw [he] at hx
        exact ⟨k, _, hx.int_inv, hr.1, hr.2, rfl⟩
      · cases hi
    · cases hb
  · cases hb

theorem run_sliceBounds2 {isSl : Bool} {len cap : Nat} {lo hi : Option Operand} {l h' : Nat} (hlen : len ≤ cap) (hh : bound t hi 0 len len = some h') (hl : bound t lo 0 h' 0 = some l)
    (ho : ∀ x ∈ lo.toList ++ hi.toList, VRel ρ (ev t x) (a.eval x)) (w : World) : (Instr.sliceBounds isSl len cap (lo.map a.eval) (hi.map a.eval) none).run P w = .ok (l, h', cap) w ∧ l ≤ h' ∧ h' ≤ len := by
  have hlo : ∀ x, lo = some x → ∃ k i, a.eval x = .int k i ∧ 0 ≤ i ∧ i ≤ h' ∧ l = i.toNat := fun x hx => by
    subst hx
    obtain ⟨k, i, e1, e2, e3, e4⟩ := bound_some hl (ho x (by simp))
    exact ⟨k, i, e1, by omega, e3, e4⟩
  have hhi : ∀ x, hi = some x → ∃ k i, a.eval x = .int k i ∧ 0 ≤ i ∧ i ≤ len ∧ h' = i.toNat := fun x hx => by
    subst hx
    obtain ⟨k, i, e1, e2, e3, e4⟩ := bound_some hh (ho x (by simp))
    exact ⟨k, i, e1, by omega, e3, e4⟩
  have hle : l ≤ h' := by
    cases lo with
    | none => simp [bound] at hl; omega
    | some x => obtain ⟨k, i, _, _, e, rfl⟩ := hlo x rfl; omega
  have hhe : h' ≤ len := by
    cases hi with
    | none => simp [bound] at hh; omega
    | some x => obtain ⟨k, i, _, _, e, rfl⟩ := hhi x rfl; omega
  refine ⟨?_, hle, hhe⟩
  unfold Instr.sliceBounds
  cases hi with
  | none =>
    simp [bound] at hh; subst hh
    cases lo with
    | none => simp [bound] at hl; subst hl; simp
    | some x =>
      obtain ⟨k, i, e1, e2, e3, e4⟩ := hlo x rfl
      have r := run_sliceBound (P := P) w k i len .sliceB e2 e3
      simp [e1, r, e4]
  | some y =>
    obtain ⟨k, i, e1, e2, e3, e4⟩ := hhi y rfl
    have r := fun c => run_sliceBound (P := P) w k i cap c e2 (by omega)
    cases lo with
    | none => simp [bound] at hl; subst hl; simp [e1, r, e4]
    | some x =>
      obtain ⟨k', i', f1, f2, f3, f4⟩ := hlo x rfl
      have r' := run_sliceBound (P := P) w k' i' i.toNat .sliceB f2 (by omega)
      simp [e1, f1, r, r', e4, f4]

theorem run_sliceBounds3 {len cap : Nat} {lo hi : Option Operand} {m : Operand} {l h' m' : Nat} (hlen : len ≤ cap) (hh : bound t hi 0 len len = some h') (hl : bound t lo 0 h' 0 = some l) (hm : bound t (some m) h' len len = some m') (hhi : hi.isSome = true)
    (ho : ∀ x ∈ lo.toList ++ hi.toList ++ [m], VRel ρ (ev t x) (a.eval x)) (w : World) : (Instr.sliceBounds true len cap (lo.map a.eval) (hi.map a.eval) (some (a.eval m))).run P w = .ok (l, h', m') w ∧ l ≤ h' ∧ h' ≤ m' ∧ m' ≤ len := by
  obtain ⟨k, i, e1, e2, e3, e4⟩ := bound_some hm (ho m (by simp))
  cases hi with
  | none => simp at hhi
  | some y =>
    obtain ⟨k2, i2, f1, f2, f3, f4⟩ := bound_some hh (ho y (by simp))
    have r1 := run_sliceBound (P := P) w k i cap .slice3Acap (by omega) (by omega)
    have r2 := run_sliceBound (P := P) w k2 i2 i.toNat .slice3B (by omega) (by omega)
    unfold Instr.sliceBounds
    cases lo with
    | none =>
      simp [bound] at hl; subst hl
      refine ⟨?_, by omega, by omega, by omega⟩
      simp [e1, f1, r1, r2, e4, f4]
    | some x =>
      obtain ⟨k3, i3, g1, g2, g3, g4⟩ := bound_some hl (ho x (by simp))
      have r3 := run_sliceBound (P := P) w k3 i3 i2.toNat .slice3C (by omega) (by omega)
      refine ⟨?_, by omega, by omega, by omega⟩
      simp [e1, f1, g1, r1, r2, r3, e4, f4, g4]

theorem stride_inv (s : SR P ρ h G w) {b n : Nat} (hs : stride h b = some n) {e : Emb} (he : ρ b = some e) : e.sz = n := by
  unfold stride at hs
  split at hs
  · rename_i cs sz ro hb; cases hs; exact (s.obj hb he).1
  · cases hs

theorem bound_zero {lo : Option Operand} {l : Nat} (hl : bound t lo 0 0 0 = some l) : l = 0 := by
  unfold bound at hl
  split at hl
  · simpa using hl.symm
  · split at hl
    · split at hl
      · cases hl; omega
      · cases hl
    · cases hl

theorem read_sliceSl {o : Oper} {ty el : TypeId} {x : Operand} {lo hi mx : Option Operand} {n : Nat} (hc : o.op = .slice ty x lo hi mx) (hu : P.underlying ty = some (.slice el)) (hn : sizeT P el = some n) (hmx : mx.isSome = true → hi.isSome = true)
    (ho : ORd ρ t a (x :: (lo.toList ++ hi.toList ++ mx.toList))) : ReadS P ρ t a o (.sliceSl n x lo hi mx) := by
  intro h G w s h1 v hv
  have hx := ho x (by simp)
  simp only [aop, k_sliceSl] at hv
  split at hv
  · rename_i ad len cap he
    rw [he] at hx
    obtain ⟨ad', cap', hsl, hlc⟩ : ∃ ad' cap', a.eval x = .slice ad' len cap' ∧ len ≤ cap' := by
      cases hy : a.eval x <;> rw [hy] at hx <;> cases hx
      · exact ⟨_, _, rfl, Nat.le_refl _⟩
      · exact ⟨_, _, rfl, by assumption⟩
    rw [hsl] at hx
    -- what the concrete operation comes to
    have run2 : ∀ {l h' : Nat}, mx = none → bound t hi 0 len len = some h' → bound t lo 0 h' 0 = some l →
        (execOp a.eval o).run P w = .ok (.value (.slice (if cap' = l then ad' else ad'.map (·.add (l * n))) (h' - l) (cap' - l))) w ∧ l ≤ h' ∧ h' ≤ len := by
      intro l h' hm hh hl
      subst hm
      obtain ⟨r1, r2, r3⟩ := run_sliceBounds2 (P := P) (isSl := true) (cap := cap') hlc hh hl (fun z hz => ho z (by simp at hz ⊢; exact .inr hz)) w
      refine ⟨?_, r2, r3⟩
      simp only [execOp, hc, hsl, Instr.sliceAt, Sem.run_bind, run_und hu, Result.andThen_ok, Instr.slice, Option.map_none, r1, run_size hn, Sem.run_pure]
    have run3 : ∀ {l h' m' : Nat} {m : Operand}, mx = some m → bound t hi 0 len len = some h' → bound t lo 0 h' 0 = some l → bound t (some m) h' len len = some m' →
        (execOp a.eval o).run P w = .ok (.value (.slice (if m' = l then ad' else ad'.map (·.add (l * n))) (h' - l) (m' - l))) w ∧ l ≤ h' ∧ h' ≤ m' ∧ m' ≤ len := by
      intro l h' m' m hm hh hl hmm
      subst hm
      obtain ⟨r1, r2, r3, r4⟩ := run_sliceBounds3 (P := P) (cap := cap') hlc hh hl hmm (hmx rfl) (fun z hz => ho z (by simp at hz ⊢; rcases hz with hz | hz | hz <;> simp [hz])) w
      refine ⟨?_, r2, r3, r4⟩
      simp only [execOp, hc, hsl, Instr.sliceAt, Sem.run_bind, run_und hu, Result.andThen_ok, Instr.slice, Option.map_some, r1, run_size hn, Sem.run_pure]
    split at hv
    · rename_i h' hh
      split at hv
      · rename_i l hl
        split at hv
        · -- nil
          cases hx
          cases mx with
          | none =>
            simp only [Option.some.injEq, R.val.injEq] at hv
            obtain ⟨rfl, rfl⟩ := hv
            obtain ⟨r1, r2, r3⟩ := run2 rfl hh hl
            have h0 : h' = 0 := by omega
            have l0 : l = 0 := by omega
            subst h0 l0
            exact ⟨rfl, .slice none 0 0, by simpa using r1, .nilSlice⟩
          | some m =>
            simp only at hv
            split at hv
            · rename_i m' hmm
              simp only [Option.some.injEq, R.val.injEq] at hv
              obtain ⟨rfl, rfl⟩ := hv
              obtain ⟨r1, r2, r3, r4⟩ := run3 rfl hh hl hmm
              have h0 : h' = 0 := by omega
              have l0 : l = 0 := by omega
              have m0 : m' = 0 := by omega
              subst h0 l0 m0
              exact ⟨rfl, .slice none 0 0, by simpa using r1, .nilSlice⟩
            · cases hv
        · rename_i ad0
          split at hv
          · rename_i hcnd
            obtain ⟨bl, off, sp⟩ := ad0
            obtain ⟨c1, c2⟩ := hcnd
            simp only at c1
            subst c1
            cases hx with
            | slice _ _ _ _ ax _ v1 v2 v3 =>
            cases mx with
            | some m =>
              simp only at hv
              split at hv
              · rename_i m' hmm
                split at hv
                · rename_i hz
                  simp only [Option.some.injEq, R.val.injEq] at hv
                  obtain ⟨rfl, rfl⟩ := hv
                  obtain ⟨r1, r2, r3, r4⟩ := run3 rfl hh hl hmm
                  have h0 : h' = 0 := by omega
                  have l0 : l = 0 := by omega
                  subst hz h0 l0
                  exact ⟨rfl, .slice (some ax) 0 0, by simpa using r1, .slice _ _ _ _ _ _ (Nat.le_refl _) (fun _ => rfl) (fun h => by omega)⟩
                · cases hv
              · cases hv
            | none =>
              simp only at hv
              obtain ⟨r1, r2, r3⟩ := run2 rfl hh hl
              split at hv
              · rename_i hz
                have := v2 hz
                simp only [Option.some.injEq, R.val.injEq] at hv
                obtain ⟨rfl, rfl⟩ := hv
                have h0 : h' = 0 := by omega
                have l0 : l = 0 := by omega
                subst this h0 l0
                exact ⟨rfl, .slice (some ax) 0 0, by simpa using r1, .slice _ _ _ _ _ _ (Nat.le_refl _) (fun _ => rfl) (fun h => by omega)⟩
              · rename_i hz
                simp only [Option.some.injEq, R.val.injEq] at hv
                obtain ⟨rfl, rfl⟩ := hv
                refine ⟨rfl, _, r1, ?_⟩
                have hst : stride h bl = some n := c2.resolve_left hz
                by_cases hcl : cap' = l
                · rw [if_pos hcl]
                  exact .slice _ _ _ _ _ _ (by omega) (fun h => by omega) (fun h => by omega)
                · rw [if_neg hcl]
                  refine .slice _ _ _ _ _ _ (by omega) (fun h => by omega) (fun _ => ?_)
                  obtain ⟨e, w1, w2, w3⟩ := v3 (by omega)
                  have hsz := stride_inv s hst w1
                  refine ⟨e, w1, by rw [w2]; exact addr_add e off (l * n), ?_⟩
                  rcases w3 with w3 | w3
                  · exact .inl w3
                  · right
                    rw [hsz] at w3 ⊢
                    show off + l * n + (cap' - l) * n ≤ e.room
                    rw [Nat.sub_mul, Nat.add_assoc]
                    have : l * n ≤ cap' * n := Nat.mul_le_mul_right n (by omega)
                    omega
          · cases hv
      · cases hv
    · cases hv
  · cases hv

theorem pure_sliceStr {o : Oper} {ty : TypeId} {x : Operand} {lo hi : Option Operand} (hc : o.op = .slice ty x lo hi none) (hu : P.underlying ty = some .string) (ho : ORd ρ t a (x :: (lo.toList ++ hi.toList))) : PureS P ρ t a o (.sliceStr x lo hi) := by
  intro h h1 v hv
  have hx := ho x (by simp)
  simp only [aop, k_sliceStr] at hv
  split at hv
  · rename_i s he
    rw [he] at hx
    split at hv
    · rename_i h' hh
      split at hv
      · rename_i l hl
        simp only [Option.some.injEq, R.val.injEq] at hv
        obtain ⟨rfl, rfl⟩ := hv
        refine ⟨rfl, fun h2 => by simp [aop, k_sliceStr, he, hh, hl], _, fun w => ?_, .string _⟩
        obtain ⟨r1, r2, r3⟩ := run_sliceBounds2 (P := P) (isSl := false) (cap := s.size) (Nat.le_refl _) hh hl (fun z hz => ho z (by simp at hz ⊢; exact .inr hz)) w
        simp only [execOp, hc, hx.str_inv, Instr.sliceAt, Sem.run_bind, run_und hu, Result.andThen_ok, Instr.slice, Option.map_none, r1, Sem.run_pure]
        simp [r1]
      · cases hv
    · cases hv
  · cases hv

theorem read_sliceArr {o : Oper} {ty el : TypeId} {x : Operand} {lo hi : Option Operand} {n len : Nat} (hc : o.op = .slice ty x lo hi none) (hu : P.underlying ty = some (.array len el)) (hn : sizeT P el = some n) (ho : ORd ρ t a (x :: (lo.toList ++ hi.toList))) : ReadS P ρ t a o (.sliceArr len n x lo hi) := by
  intro h G w s h1 v hv
  have hx := ho x (by simp)
  simp only [aop, k_sliceArr] at hv
  split at hv
  · rename_i ad he
    rw [he] at hx
    split at hv
    · rename_i h' hh
      split at hv
      · rename_i l hl
        split at hv
        · rename_i hcnd
          obtain ⟨bl, off, sp⟩ := ad
          obtain ⟨c1, c2, c3⟩ := hcnd
          simp only at c2
          subst c2
          simp only [Option.some.injEq, R.val.injEq] at hv
          obtain ⟨rfl, rfl⟩ := hv
          obtain ⟨e, g1, g2⟩ := hx.ptr_inv
          obtain ⟨r1, r2, r3⟩ := run_sliceBounds2 (P := P) (isSl := false) (cap := len) (Nat.le_refl _) hh hl (fun z hz => ho z (by simp at hz ⊢; exact .inr hz)) w
          refine ⟨rfl, .slice (some (e.at (off + l * n))) (h' - l) (len - l), ?_, ?_⟩
          · simp only [execOp, hc, g2, Instr.sliceAt, Sem.run_bind, run_und hu, Result.andThen_ok, Instr.sureAddr, Option.map_none, r1, run_size hn, Sem.run_pure, addr_add]
            rw [if_neg (by omega)]
          · exact .slice _ _ _ _ _ _ (by omega) (fun h => by omega) (fun _ => ⟨e, g1, rfl, .inl (stride_inv s c3 g1)⟩)
        · cases hv
      · cases hv
    · cases hv
  · cases hv

theorem bytes_fold : ∀ {cs : List Value} {l : List UInt8}, bytesOf cs = some l → ∃ ns : List Int, cs = ns.map (Value.int .u8) ∧ ∀ s : ByteArray, (ns.foldl (fun r n => r.push (UInt8.ofNat n.toNat)) s).data.toList = s.data.toList ++ l
  | [], l, h => by simp [bytesOf] at h; subst h; exact ⟨[], rfl, fun s => by simp⟩
  | c :: cs, l, h => by
    unfold bytesOf at h
    split at h
    · rename_i he; cases he
    · rename_i n l' he
      cases he
      obtain ⟨m, hm, rfl⟩ := isSomeMap h
      obtain ⟨ns, rfl, h2⟩ := bytes_fold hm
      refine ⟨n :: ns, rfl, fun s => ?_⟩
      simp only [List.foldl_cons]
      rw [h2]
      simp [ByteArray.push]
    · cases h

theorem ints_rel : ∀ {ns : List Int} {k : IntKind} {l : List Value}, LRel ρ (ns.map (Value.int k)) l → l = ns.map (Value.int k)
  | [], _, l, h => by have := h.1; simp at this; simpa using this.symm
  | n :: ns, k, [], h => by have := h.1; simp at this
  | n :: ns, k, y :: l, h => by
    have h1 := VRel.int_inv (h.head)
    have h2 := ints_rel h.tail
    simp [h1, h2]

theorem read_bytesToStr {o : Oper} {s d el : TypeId} {x : Operand} (hc : o.op = .convert s d x) (hs : P.underlying s = some (.slice el)) (he' : P.underlying el = some (.int .u8)) (hd : P.underlying d = some .string) (ho : ORd ρ t a [x]) : ReadS P ρ t a o (.bytesToStr x) := by
  intro h G w sr h1 v hv
  have hx := ho x (by simp)
  have hrun : ∀ {ad len cap v' }, a.eval x = .slice ad len cap → (Conv.bytesToString (.slice ad len cap)).run P w = .ok v' w → (execOp a.eval o).run P w = .ok (.value v') w := by
    intro ad len cap v' hsl hr
    simp only [execOp, hc, hsl, Sem.run_bind, run_convert_bytes_string w s d el ad len cap hs he' hd, hr, Result.andThen_ok, Sem.run_pure]
  have empty : (ByteArray.mk #[]) = ByteArray.empty := rfl
  simp only [aop, k_bytesToStr] at hv
  split at hv
  · rename_i len cap he
    simp only [Option.some.injEq, R.val.injEq] at hv
    obtain ⟨rfl, rfl⟩ := hv
    rw [he] at hx
    cases hy : a.eval x <;> rw [hy] at hx <;> cases hx
    exact ⟨rfl, _, hrun hy (by simp [Conv.bytesToString, empty]), .string _⟩
  · rename_i b off len cap he
    rw [he] at hx
    obtain ⟨ad', cap', hy⟩ : ∃ ad' cap', a.eval x = .slice (some ad') len cap' := by
      cases hy : a.eval x <;> rw [hy] at hx <;> cases hx; exact ⟨_, _, rfl⟩
    have hzero : len = 0 → (Conv.bytesToString (.slice (some ad') len cap')).run P w = .ok (.string ⟨#[]⟩) w := fun hz => by
      subst hz
      have := run_bytesToString (P := P) w ad' 0 cap' [] (by simpa using run_loadCells_list (P := P) w ad' [] (by simp))
      simpa [empty] using this
    split at hv
    · rename_i cs hcs
      obtain ⟨l, hl, he2⟩ := isSomeMap hv
      simp only [R.val.injEq] at he2
      obtain ⟨rfl, rfl⟩ := he2
      by_cases hz : len = 0
      · have hr := hzero hz
        subst hz
        have hcs0 : cs = [] := by
          unfold readN at hcs
          split at hcs
          · split at hcs
            · cases hcs; simp
            · cases hcs
          · cases hcs
        subst hcs0
        simp [bytesOf] at hl
        subst hl
        exact ⟨rfl, _, hrun hy hr, .string _⟩
      · rw [hy] at hx
        obtain ⟨e, cap2, g1, g2, g3, _⟩ := hx.slice_inv (by omega)
        cases g2
        obtain ⟨cs', q1, q2, q3⟩ := readN_rel sr hcs g1
        obtain ⟨ns, rfl, hns⟩ := bytes_fold hl
        have hcs' := ints_rel q1
        subst hcs'
        have hload := run_cells (P := P) (w := w) e.cb (e.off + off) len (fun j v hj => by rw [Nat.add_assoc]; exact (q2 j v hj).1) q3
        refine ⟨rfl, _, hrun hy (run_bytesToString w _ len _ ns hload), ?_⟩
        have := hns ByteArray.empty
        simp at this
        have e3 : (ByteArray.mk ⟨l⟩) = (ns.foldl (fun r n => r.push (UInt8.ofNat n.toNat)) ByteArray.empty) := by
          have h5 : (ns.foldl (fun r n => r.push (UInt8.ofNat n.toNat)) ByteArray.empty).data = ⟨l⟩ := by
            apply Array.ext'; simpa using this
          cases hf : (ns.foldl (fun r n => r.push (UInt8.ofNat n.toNat)) ByteArray.empty) with
          | mk dd => rw [hf] at h5; simp at h5; rw [h5]
        rw [e3]; exact .string _
    · split at hv
      · rename_i hz
        simp only [Option.some.injEq, R.val.injEq] at hv
        obtain ⟨rfl, rfl⟩ := hv
        exact ⟨rfl, _, hrun hy (hzero hz), .string _⟩
      · cases hv
  · cases hv

end
end Go.Proofs.YtbejfgpeledcjaaGreat.A
