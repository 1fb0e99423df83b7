/- Each operation of the abstract machine is simulated by the model's. -/
import Derived.Test.YtbejfgpeledcjaaGreatA3
import Derived.Orders
import Derived.Recover
set_option linter.unusedVariables false
set_option linter.unusedSimpArgs false
namespace Go.Proofs.YtbejfgpeledcjaaGreat.A
noncomputable section
open Go

variable {P : Program} {ρ : Ren} {h h1 : AHeap} {G : Bes} {w : World} {t : Tr Value} {a : Act} {v : Value}

/-- What is said of an operation, by its class. -/
def OpS (P : Program) (ρ : Ren) (t : Tr Value) (a : Act) (o : Oper) (op : AOp) : Prop :=
  match op.cls with
  | .pure => PureS P ρ t a o op
  | .read => ReadS P ρ t a o op
  | .alloc => AllocS P ρ t a o op
  | .write => WriteS P ρ t a o op

theorem write_never {o : Oper} {op : AOp} (hn : ∀ h h1 v, aop op t h ≠ some (.val v h1)) : WriteS P ρ t a o op :=
  fun h G w s h1 v hv _ => absurd hv (hn h h1 v)

theorem op_builtin {o : Oper} {c : Call} {b : Builtin} {op : AOp} (hc : o.op = .call c) (hb : c.callee = .builtin b) (hop : cBuiltin P b c.argTypes.toList c.args.toList = some op) (hk : op.ok = true) (ho : ORd ρ t a op.opds) : OpS P ρ t a o op := by
  unfold cBuiltin at hop
  split at hop
  · -- len
    rename_i ty x hat hag
    split at hop
    · rename_i hu; cases hop; exact pure_lenStr hc hb hat hag hu ho
    · rename_i hu; cases hop; exact pure_lenSl hc hb hat hag hu ho
    · rename_i hu; cases hop; exact read_lenMap hc hb hat hag hu ho
    · rename_i hu; cases hop; exact pure_lenArr hc hb hat hag hu
    · cases hop
  · -- append
    rename_i tid t' x y hat hag
    split at hop
    · rename_i el el' hu hu'
      split at hop
      · rename_i z n k hz hby hsz
        split at hop
        · rename_i hl
          cases hop
          simp only [AOp.ok, AOp.zeros, Bool.and_eq_true] at hk
          exact write_append (str := false) hc hb hat hag hu (by rw [hu']; intro k hk; cases hk) hu' hz hsz hby hl (by simp) hk.1.2 ho
        · cases hop
      · cases hop
    · rename_i el hu hu'
      split at hop
      · rename_i z n k hz hby hsz
        split at hop
        · rename_i hl
          cases hop
          simp only [AOp.ok, AOp.zeros, Bool.and_eq_true] at hk
          exact write_append (str := true) hc hb hat hag hu (by rw [hu']; intro k hk; cases hk) hu' hz hsz hby hl.1 (fun _ => hl.2) hk.1.2 ho
        · cases hop
      · cases hop
    · cases hop
  · -- copy
    rename_i tid t' x y hat hag
    split at hop
    · rename_i el el' hu hu'
      obtain ⟨k, hsz, rfl⟩ := isSomeMap hop
      exact write_copy hc hb hat hag hu hsz ho
    · cases hop
  · rename_i x y hag; cases hop; exact pure_max hc hb hag ho
  · rename_i x y hag; cases hop; exact pure_min hc hb hag ho
  · cases hop; exact write_never (fun h h1 v hv => by simp [aop, k_recover] at hv)
  · cases hop

theorem op_sim {o : Oper} {op : AOp} (hop : cOp P o.op = some op) (hk : op.ok = true) (ho : ORd ρ t a op.opds) : OpS P ρ t a o op := by
  cases hc : o.op with
  | move x => rw [hc] at hop; cases hop; exact pure_mv (.inl hc) ho
  | assign x => rw [hc] at hop; cases hop; exact pure_mv (.inr hc) ho
  | pick c x y => rw [hc] at hop; cases hop; exact pure_pick hc ho
  | alloc ty =>
    rw [hc] at hop
    obtain ⟨z, hz, rfl⟩ := isSomeMap hop
    simp only [AOp.ok, AOp.zeros, Bool.and_eq_true] at hk
    exact alloc_alloc hc hz hk.1.2
  | box ty x => rw [hc] at hop; cases hop; exact alloc_box hc ho
  | build ty ps =>
    rw [hc] at hop
    have hp := pure_build hc hop hk ho
    have hcl : op.cls = .pure := by
      simp only [cOp] at hop
      split at hop
      · split at hop
        · obtain ⟨_, _, rfl⟩ := isSomeMap hop; rfl
        · cases hop
      · obtain ⟨_, _, rfl⟩ := isSomeMap hop; rfl
      · cases hop
    unfold OpS; rw [hcl]; exact hp
  | buildSlice ty len ps =>
    rw [hc] at hop
    simp only [cOp] at hop
    split at hop
    · rename_i el hu
      split at hop
      · rename_i z n hz hn
        split at hop
        · rename_i hcnd
          cases hop
          exact alloc_buildSlice hc hu hz hn hcnd.1 hcnd.2.1 hcnd.2.2 (by simpa [AOp.opds, Function.comp_def] using ho)
        · cases hop
      · cases hop
    · cases hop
  | insert ty m k v =>
    rw [hc] at hop
    simp only [cOp] at hop
    split at hop
    · rename_i sk hsk; cases hop; exact write_mapSet (.inl hc) hsk ho
    · cases hop
  | load ty x =>
    rw [hc] at hop
    simp only [cOp] at hop
    split at hop
    · rename_i n ha hn; cases hop; exact read_loadN hc ha hn ho
    · rename_i ha; cases hop; exact read_load1 hc ha ho
    · cases hop
  | store ty x y => rw [hc] at hop; obtain ⟨n, hn, rfl⟩ := isSomeMap hop; exact write_store hc hn ho
  | ready g => rw [hc] at hop; cases hop
  | waits g => rw [hc] at hop; cases hop
  | nilCheck x => rw [hc] at hop; cases hop; exact pure_nilCheck hc ho
  | binOp op' ty x y yt =>
    rw [hc] at hop
    have hp := pure_binop hc hop ho
    have hcl : op.cls = .pure := by
      have hnil : ∀ {k : NilK}, cNil k op' x y = some op → op.cls = .pure := by
        intro k hn; unfold cNil at hn; split at hn <;> cases hn <;> rfl
      simp only [cOp, cBin] at hop
      split at hop
      · cases hop; rfl
      · split at hop <;> cases hop <;> rfl
      · split at hop <;> cases hop <;> rfl
      · exact hnil hop
      · exact hnil hop
      · exact hnil hop
      · exact hnil hop
      · split at hop
        · exact hnil hop
        · cases hop
      · split at hop
        · split at hop
          · cases hop
          · split at hop <;> cases hop <;> rfl
        · cases hop
      · cases hop
    unfold OpS; rw [hcl]; exact hp
  | unOp op' ty x => rw [hc] at hop; cases hop; exact pure_un hc ho
  | convert s d x =>
    rw [hc] at hop
    simp only [cOp, cConv] at hop
    split at hop
    · rename_i hs hd; cases hop; exact pure_convInt hc hs hd ho
    · rename_i hs hd; cases hop; exact pure_convStr hc hs hd ho
    · rename_i el hs hd
      split at hop
      · rename_i he; cases hop; exact write_strToBytes hc hs hd he ho
      · cases hop
    · rename_i el hs hd
      split at hop
      · rename_i he; cases hop; exact read_bytesToStr hc hs he hd ho
      · cases hop
    · cases hop
  | sliceToArrayPointer ty x => rw [hc] at hop; cases hop
  | makeInterface ty x =>
    rw [hc] at hop
    simp only [cOp] at hop
    split at hop
    · cases hop
    · rename_i d hd hu; cases hop; exact pure_mkIface hc hu (fun ms he => hd ms he) ho
    · cases hop
  | makeFunc f x y =>
    rw [hc] at hop
    cases f with
    | func f => cases hop; exact pure_mkFunc hc ho
    | _ => cases hop
  | makeMap ty r =>
    rw [hc] at hop
    cases r with
    | none => cases hop; exact alloc_mkMap hc
    | some r => cases hop
  | makeChan ty x => rw [hc] at hop; cases hop
  | makeSlice ty x y =>
    rw [hc] at hop
    simp only [cOp] at hop
    split at hop
    · rename_i el hu
      split at hop
      · rename_i z n k hz hb hn
        split at hop
        · rename_i hl
          cases hop
          simp only [AOp.ok, AOp.zeros, Bool.and_eq_true] at hk
          exact alloc_mkSlice hc hu hz hn hb hl hk.1.2 ho
        · cases hop
      · cases hop
    · cases hop
  | slice ty x lo hi mx =>
    rw [hc] at hop
    simp only [cOp] at hop
    split at hop
    · rename_i el hu
      split at hop
      · cases hop
      · rename_i hm
        obtain ⟨n, hn, rfl⟩ := isSomeMap hop
        refine read_sliceSl hc hu hn (fun h => ?_) ho
        cases hi <;> simp_all
    · rename_i hu
      split at hop
      · rename_i hm; cases mx <;> simp at hm; cases hop; exact pure_sliceStr hc hu ho
      · cases hop
    · rename_i n el hu
      split at hop
      · rename_i hm; cases mx <;> simp at hm
        obtain ⟨k, hn, rfl⟩ := isSomeMap hop
        exact read_sliceArr hc hu hn ho
      · cases hop
    · cases hop
  | fieldAddr s x i =>
    rw [hc] at hop
    simp only [cOp] at hop
    split at hop
    · rename_i fs hu
      split at hop
      · rename_i f hf
        split at hop
        · rename_i n hn
          split at hop
          · cases hop
          · rename_i hz; cases hop; exact pure_fieldAddr hc hu hf hn hz ho
        · cases hop
      · cases hop
    · cases hop
  | field s x i =>
    rw [hc] at hop
    simp only [cOp] at hop
    split at hop
    · rename_i fs hu
      split at hop
      · rename_i f hf
        split at hop
        · rename_i n ha hn; cases hop; exact pure_field (b := true) hc hu hf hn ha ho
        · rename_i n ha hn; cases hop; exact pure_field (b := false) hc hu hf hn ha ho
        · cases hop
      · cases hop
    · cases hop
  | indexAddr ty x i =>
    rw [hc] at hop
    simp only [cOp] at hop
    split at hop
    · rename_i el hu; obtain ⟨n, hn, rfl⟩ := isSomeMap hop; exact pure_idxSl hc hu hn ho
    · rename_i len el hu; obtain ⟨n, hn, rfl⟩ := isSomeMap hop; exact pure_idxArr hc hu hn ho
    · cases hop
  | index ty x i =>
    rw [hc] at hop
    simp only [cOp] at hop
    split at hop
    · rename_i len el hu
      split at hop
      · rename_i b n ha hn
        split at hop
        · cases hop
        · rename_i hl; cases hop; exact pure_indexArr hc hu hn ha hl ho
      · cases hop
    · rename_i hu; cases hop; exact pure_indexStr hc hu ho
    · cases hop
  | lookup ty x i ok =>
    rw [hc] at hop
    simp only [cOp] at hop
    split at hop
    · rename_i k e hu
      split at hop
      · rename_i sk z hsk hz
        cases hop
        simp only [AOp.ok, AOp.zero1, Bool.and_eq_true] at hk
        exact read_lookup hc hu hsk hz hk.2 ho
      · cases hop
    · cases hop
  | mapUpdate ty m k v =>
    rw [hc] at hop
    simp only [cOp] at hop
    split at hop
    · rename_i sk hsk; cases hop; exact write_mapSet (.inr hc) hsk ho
    · cases hop
  | mapEntry ty m k => rw [hc] at hop; cases hop
  | entryStore ty m k v => rw [hc] at hop; cases hop
  | range ty x =>
    rw [hc] at hop
    simp only [cOp] at hop
    split at hop
    · rename_i hu; cases hop; exact write_rangeStr hc hu ho
    · cases hop
  | next x b =>
    rw [hc] at hop
    cases b with
    | true => cases hop; exact write_nextStr hc ho
    | false => cases hop
  | entry x => rw [hc] at hop; cases hop
  | typeAssert x s ty ok =>
    rw [hc] at hop
    cases ok with
    | false => cases hop
    | true =>
      simp only [cOp] at hop
      split at hop
      · cases hop
      · rename_i d z hd hu hz
        cases hop
        simp only [AOp.ok, AOp.zero1, Bool.and_eq_true] at hk
        exact pure_typeIs hc hu (fun ms he => hd ms he) hz hk.2 ho
      · cases hop
  | extract x i => rw [hc] at hop; cases hop; exact pure_extract hc ho
  | call c =>
    rw [hc] at hop
    simp only [cOp] at hop
    split at hop
    · rename_i f hv
      split at hop
      · cases hop; exact write_never (fun h h1 v hv => by simp [aop, k_callF] at hv)
      · cases hop
    · cases hop; exact write_never (fun h h1 v hv => by simp only [aop, k_callV] at hv; split at hv <;> cases hv)
    · rename_i b hb; exact op_builtin hc hb hop hk ho
    · cases hop
  | go c => rw [hc] at hop; cases hop
  | defer c =>
    rw [hc] at hop
    simp only [cOp] at hop
    split at hop
    · cases hop; exact write_never (fun h h1 v hv => by simp only [aop, k_deferV] at hv; split at hv <;> cases hv)
    · cases hop
  | panic x => rw [hc] at hop; cases hop; exact write_never (fun h h1 v hv => by simp only [aop, k_panic] at hv; split at hv <;> cases hv)
  | send c x => rw [hc] at hop; cases hop
  | recv ty c ok => rw [hc] at hop; cases hop
  | select cs b => rw [hc] at hop; cases hop

end
end Go.Proofs.YtbejfgpeledcjaaGreat.A
namespace Go.Proofs.YtbejfgpeledcjaaGreat.A
noncomputable section
open Go

variable {P : Program} {ρ : Ren} {h h1 : AHeap} {G : Bes} {w : World} {t : Tr Value} {a : Act} {v : Value}

/-- A frame that runs. -/
def fat (b : Frame) (a : Act) (todo : List Item) : Frame := { b with tmps := a.tmps, todo := todo, defers := a.defers, mode := .run }

theorem eval_fat (b : Frame) (a : Act) (todo : List Item) : (fat b a todo).eval = a.eval := by
  funext x; cases x <;> rfl

section
variable {b : Frame} {k : List Item} {cs : List Frame} {ops : Array Oper}

theorem fstep_skip : step P (lone (fat b a (.code .skip :: k)) cs w) = .next (lone (fat b a k) cs w) := step_lone_go (by simp [stepG, stepG.exec, fat])
theorem fstep_label {l : Nat} : step P (lone (fat b a (.code (.label l) :: k)) cs w) = .next (lone (fat b a k) cs w) := step_lone_go (by simp [stepG, stepG.exec, fat])
theorem fstep_inBlock {id : Nat} : step P (lone (fat b a (.inBlock id :: k)) cs w) = .next (lone (fat b a k) cs w) := step_lone_go (by simp [stepG, stepG.exec, fat])
theorem fstep_inScope {c : Code} : step P (lone (fat b a (.inScope c :: k)) cs w) = .next (lone (fat b a k) cs w) := step_lone_go (by simp [stepG, stepG.exec, fat])
theorem fstep_scope {c : Code} : step P (lone (fat b a (.code (.scope c) :: k)) cs w) = .next (lone (fat b a (.code c :: .inScope c :: k)) cs w) := step_lone_go (by simp [stepG, stepG.exec, fat])
theorem fstep_seq {x y : Code} : step P (lone (fat b a (.code (.seq x y) :: k)) cs w) = .next (lone (fat b a (.code x :: .code y :: k)) cs w) := step_lone_go (by simp [stepG, stepG.exec, fat])
theorem fstep_cond {c : Operand} {x y : Code} {r : Bool} (hc : a.eval c = .bool r) : step P (lone (fat b a (.code (.cond c x y) :: k)) cs w) = .next (lone (fat b a (.code (if r then x else y) :: k)) cs w) :=
  step_lone_go (by
    have := congrFun (eval_fat b a (.code (.cond c x y) :: k)) c
    simp only [fat] at this
    simp [stepG, stepG.exec, fat, this, hc])
theorem fstep_block {id : Nat} {c : Code} : step P (lone (fat b a (.code (.block id c) :: k)) cs w) = .next (lone (fat b a (.code c :: .inBlock id :: k)) cs w) := step_lone_go (by simp [stepG, stepG.exec, fat])
theorem fstep_loop {c : Code} : step P (lone (fat b a (.code (.loop c) :: k)) cs w) = .next (lone (fat b a (.code c :: .inLoop c :: k)) cs w) := step_lone_go (by simp [stepG, stepG.exec, fat])
theorem fstep_inLoop {c : Code} : step P (lone (fat b a (.inLoop c :: k)) cs w) = .next (lone (fat b a (.code c :: .inLoop c :: k)) cs w) := step_lone_go (by simp [stepG, stepG.exec, fat])
theorem fstep_exit {id : Nat} {k' : List Item} (he : exitTo id k = some k') : step P (lone (fat b a (.code (.exit id) :: k)) cs w) = .next (lone (fat b a k') cs w) := step_lone_go (by simp [stepG, stepG.exec, fat, he])
theorem fstep_region {id : Nat} : step P (lone (fat b a (.code (.region id ops false) :: k)) cs w) = .next (lone (fat b a (.inRegion ops (List.range ops.size) :: k)) cs w) := step_lone_go (by simp [stepG, stepG.exec, fat])
theorem fstep_region_draw {id : Nat} : step P (lone (fat b a (.code (.region id ops true) :: k)) cs w) =
    .next (lone (fat b a (.inRegion ops (Region.schedule (P.follows .mixedOrders) ops (w.tape w.drawn (.order b.fn id))) :: k)) cs w.drew) :=
  step_lone_go (by simp [stepG, stepG.exec, fat, choose, Sem.run, Question.forced, Question.cut])
theorem fstep_region_end : step P (lone (fat b a (.inRegion ops [] :: k)) cs w) = .next (lone (fat b a k) cs w) := step_lone_go (by simp [stepG, stepG.exec, fat])

theorem finish_fat (i : Nat) (rest : List Nat) (v : Value) : (fat b a (.inRegion ops (i :: rest) :: k)).finish v = fat b (a.put ((ops[i]?).bind (·.dst)) v) (.inRegion ops rest :: k) := by
  cases h : (ops[i]?).bind (·.dst) <;> simp [Frame.finish, fat, Act.put, h]

theorem fstep_op_skip {i : Nat} {rest : List Nat} (hw : ((ops[i]?).map (Region.wanted · (yielded ops a.tmps))).getD false = false) :
    step P (lone (fat b a (.inRegion ops (i :: rest) :: k)) cs w) = .next (lone (fat b (a.put ((ops[i]?).bind (·.dst)) undef) (.inRegion ops rest :: k)) cs w) := by
  rw [← finish_fat]
  exact step_lone_go (by
    have h' := hw
    simp only [fat] at *
    simp [stepG, stepG.exec, h'])

theorem fstepG_op {i : Nat} {rest : List Nat} {o : Oper} (ho : ops[i]? = some o) (hw : Region.wanted o (yielded ops a.tmps) = true) (hd : b.roundOf = none ∨ ∀ c, o.op ≠ .defer c) :
    stepG P true { frame := fat b a (.inRegion ops (i :: rest) :: k), callers := cs, status := .running, dying := none } w =
      stepG.apply P true (fat b a (.inRegion ops (i :: rest) :: k)) cs none (execOp a.eval o) w := by
  have he := eval_fat b a (.inRegion ops (i :: rest) :: k)
  simp only [fat] at he
  simp only [stepG, stepG.exec, fat, ho, Option.map_some, Option.getD_some, hw, if_true, stepG.oper, Frame.oper?, he]
  rcases hd with hd | hd
  · rw [hd]
  · cases hr : b.roundOf with
    | none => rfl
    | some l => cases hop : o.op <;> first | rfl | exact absurd hop (hd _)

end

end
end Go.Proofs.YtbejfgpeledcjaaGreat.A
namespace Go.Proofs.YtbejfgpeledcjaaGreat.A
noncomputable section
open Go

variable {P : Program} {ρ : Ren} {h h1 : AHeap} {G : Bes} {w : World} {t : Tr Value} {a : Act} {v : Value}

theorem appendTo_next {size n : Nat} {s v : Value} {new : List Value} (hv : appendTo h size s new n = some (.val v h1)) : h.next ≤ h1.next := by
  unfold appendTo at hv
  repeat' split at hv
  all_goals first
    | (cases hv; done)
    | (simp only [Option.some.injEq, R.val.injEq] at hv; obtain ⟨_, rfl⟩ := hv; simp)

theorem aop_next {op : AOp} (hv : aop op t h = some (.val v h1)) : h.next ≤ h1.next := by
  cases op <;> simp only [aop, k_mv, k_pick, k_alloc, k_box, k_build, k_buildSlice, k_load1, k_loadN, k_store, k_nilCheck, k_bin, k_eqNil, k_eqBool, k_eqAgg, k_un, k_convInt, k_convStr, k_bytesToStr, k_strToBytes, k_mkIface, k_mkFunc, k_mkMap, k_mkSlice, k_sliceSl, k_sliceStr, k_sliceArr, k_fieldAddr, k_part, k_idxSl, k_idxArr, k_indexAgg, k_lookup, k_mapSet, k_rangeStr, k_nextStr, k_typeIs, k_extract, k_callF, k_callV, k_lenStr, k_lenSl, k_lenMap, k_append, k_copy, k_max2, k_min2, k_recover, k_deferV, k_panic] at hv
  all_goals (repeat' split at hv)
  all_goals first
    | (cases hv; done)
    | exact appendTo_next hv
    | (simp only [Option.some.injEq, R.val.injEq] at hv; obtain ⟨_, rfl⟩ := hv; simp; done)
    | (obtain ⟨_, _, he⟩ := isSomeMap hv; simp only [R.val.injEq] at he; obtain ⟨_, rfl⟩ := he; exact Nat.le_refl _)

/-- An operation that comes to a value. -/
theorem op_val {o : Oper} {op : AOp} (hs : OpS P ρ t a o op) (s : SR P ρ h G w) (hv : aop op t h = some (.val v h1)) (hG : Beside G h1.next) :
    ∃ nx w1 ρ1, (execOp a.eval o).run P w = .ok nx w1 ∧ ((∃ v', nx = .value v' ∧ VRel ρ1 v v') ∨ nx = .skip ∧ v = blank) ∧ ρ.le ρ1 ∧ SR P ρ1 h1 G w1 := by
  unfold OpS at hs
  split at hs
  · obtain ⟨rfl, _, v', g1, g2⟩ := hs h h1 v hv
    exact ⟨_, w, ρ, g1 w, .inl ⟨v', rfl, g2⟩, .refl _, s⟩
  · obtain ⟨rfl, v', g1, g2⟩ := hs h G w s h1 v hv
    exact ⟨_, w, ρ, g1, .inl ⟨v', rfl, g2⟩, .refl _, s⟩
  · obtain ⟨ob, rfl, obj, room, sz, hall⟩ := hs h h1 v hv
    obtain ⟨v', g1, g2⟩ := hall w
    have hf := s.fresh (n := h.next + 1) hG (Nat.lt_succ_self _)
    have hle := Ren.le_add ⟨w.heap.size, 0, room, sz⟩ hf
    obtain ⟨g3, g4⟩ := g2 _ hle (Ren.add_same _ _ _)
    obtain ⟨l1, l2⟩ := s.alloc hG (Nat.lt_succ_self _) rfl g4
    exact ⟨_, _, _, g1, .inl ⟨v', rfl, g3⟩, l1, l2⟩
  · exact hs h G w s h1 v hv hG

theorem TRel.put {s : Tr Value} {b : Act} (ht : TRel ρ s b.tmps) {dst : Option Nat} {v v' : Value} (hv : VRel ρ v v') (hd : ∀ d, dst = some d → d < b.tmps.size) : TRel ρ (putT s dst v) (b.put dst v').tmps := by
  cases dst with
  | none => exact ht
  | some d =>
    intro i
    have hlt := hd d rfl
    simp only [putT, Act.put, Tr.get_put]
    by_cases hi : i = d
    · subst hi; simp [hlt]; exact hv
    · rw [if_neg hi]
      have := ht i
      simp only [Array.getD_eq_getD_getElem?] at this ⊢
      rw [Array.getElem?_setIfInBounds_ne (fun e => hi e.symm)]; exact this

theorem put_size (b : Act) (dst : Option Nat) (v : Value) : (b.put dst v).tmps.size = b.tmps.size := by cases dst <;> simp [Act.put]
theorem put_defers (b : Act) (dst : Option Nat) (v : Value) : (b.put dst v).defers = b.defers := by cases dst <;> rfl

/-- How a frame is leaving. -/
def MRel (ρ : Ren) : Rec → FrameMode → Prop
  | .no, _ => False
  | .returning, m => m = .returning
  | .panicking v, m => ∃ v', m = .panicking [{ v := v', recovered := false }] ∧ VRel ρ v v'
  | .recovered v, m => ∃ v', m = .panicking [{ v := v', recovered := true }] ∧ VRel ρ v v'

theorem MRel.mono {ρ σ : Ren} (hs : ρ.le σ) {u : Rec} {m : FrameMode} (h : MRel ρ u m) : MRel σ u m := by
  cases u with
  | no => exact h
  | returning => exact h
  | panicking v => obtain ⟨v', h1, h2⟩ := h; exact ⟨v', h1, h2.mono hs⟩
  | recovered v => obtain ⟨v', h1, h2⟩ := h; exact ⟨v', h1, h2.mono hs⟩

def Rec.isNo : Rec → Bool
  | .no => true
  | _ => false

/-- The frame and its callers. -/
def URel (ρ : Ren) (u : Rec) (b : Frame) (cs : List Frame) : Prop :=
  if u.isNo = true then b.kind = .normal else b.kind = .deferred ∧ b.roundOf = none ∧ ∃ c rest, cs = c :: rest ∧ MRel ρ u c.mode

theorem URel.mono {ρ σ : Ren} (hs : ρ.le σ) {u : Rec} {b : Frame} {cs : List Frame} (h : URel ρ u b cs) : URel σ u b cs := by
  unfold URel at *
  split
  · rename_i hu; rw [if_pos hu] at h; exact h
  · rename_i hu; rw [if_neg hu] at h; obtain ⟨h1, h2, c, rest, h3, h4⟩ := h; exact ⟨h1, h2, c, rest, h3, h4.mono hs⟩

/-- The callers, but for how the first one is leaving. -/
def CsTo (n : Bool) (cs cs1 : List Frame) : Prop :=
  if n = true then cs1 = cs else cs1 = cs ∨ ∃ c rest m, cs = c :: rest ∧ cs1 = { c with mode := m } :: rest

theorem CsTo.refl (n : Bool) (cs : List Frame) : CsTo n cs cs := by unfold CsTo; split <;> simp
theorem CsTo.trans {n : Bool} {a b c : List Frame} (h : CsTo n a b) (k : CsTo n b c) : CsTo n a c := by
  unfold CsTo at *
  split
  · rename_i hn; rw [if_pos hn] at h k; rw [k, h]
  · rename_i hn; rw [if_neg hn] at h k
    rcases h with rfl | ⟨x, r, m, rfl, rfl⟩
    · exact k
    · rcases k with rfl | ⟨y, r2, m2, h2, rfl⟩
      · exact .inr ⟨x, r, m, rfl, rfl⟩
      · cases h2; exact .inr ⟨x, r, m2, rfl, rfl⟩

/-- A deferred call. -/
def DRel (ρ : Ren) (d : ADef) (d' : Deferred) : Prop :=
  match d with
  | .coll r => ∃ e, ρ r = some e ∧ d' = { target := .collected e.cb, args := #[] }
  | .fn f args => ∃ cap args', d'.target = .fn (.func f) cap ∧ d'.args ++ cap = args' ∧ LRel ρ args args'.toList

theorem DRel.mono {ρ σ : Ren} (hs : ρ.le σ) {d : ADef} {d' : Deferred} (h : DRel ρ d d') : DRel σ d d' := by
  cases d with
  | coll r => obtain ⟨e, h1, h2⟩ := h; exact ⟨e, hs _ _ h1, h2⟩
  | fn f args => obtain ⟨cap, args', h1, h2, h3⟩ := h; exact ⟨cap, args', h1, h2, h3.mono hs⟩

def DsRel (ρ : Ren) : List ADef → List Deferred → Prop
  | [], [] => True
  | d :: ds, d' :: ds' => DRel ρ d d' ∧ DsRel ρ ds ds'
  | _, _ => False

theorem DsRel.mono {ρ σ : Ren} (hs : ρ.le σ) : ∀ {ds : List ADef} {ds' : List Deferred}, DsRel ρ ds ds' → DsRel σ ds ds'
  | [], [], _ => trivial
  | _ :: _, _ :: _, h => ⟨h.1.mono hs, DsRel.mono hs h.2⟩
  | [], _ :: _, h => h.elim
  | _ :: _, [], h => h.elim

def RoRel (ρ : Ren) (ro : Option Nat) (s : St) (b : Frame) : Prop :=
  match ro with
  | none => b.roundOf = none ∧ s.rd = false
  | some l => s.rd = true ∧ ∃ e, ρ l = some e ∧ b.roundOf = some e.cb

theorem RoRel.mono {ρ σ : Ren} (hs : ρ.le σ) {ro : Option Nat} {s s' : St} {b : Frame} (h : RoRel ρ ro s b) (hr : s'.rd = s.rd) : RoRel σ ro s' b := by
  cases ro with
  | none => exact ⟨h.1, hr.trans h.2⟩
  | some l => obtain ⟨h1, e, h2, h3⟩ := h; exact ⟨hr.trans h1, e, hs _ _ h2, h3⟩

/-- A frame of the abstract machine stands for a frame. -/
structure FR (P : Program) (ρ : Ren) (G : Bes) (ro : Option Nat) (nt : Nat) (s : St) (b : Frame) (a : Act) (cs : List Frame) (w : World) : Prop where
  sr : SR P ρ s.h G w
  t : TRel ρ s.t a.tmps
  size : a.tmps.size = nt
  ds : DsRel ρ s.ds a.defers
  u : URel ρ s.u b cs
  ro : RoRel ρ ro s b
  fn : (P.funcs[b.fn]?).isSome = true

def ExRel (ρ : Ren) : Ex → Ex → Prop
  | .norm, .norm => True
  | .exit i, .exit j => i = j
  | .ret, .ret => True
  | .pan v, .pan v' => VRel ρ v v'
  | _, _ => False

/-- Where the machine comes to. -/
def Arr (P : Program) (m : Machine) (b : Frame) (k : List Item) (cs : List Frame) : Ex → Act → World → Prop
  | .norm, a, w => Steps P m (lone (fat b a k) cs w)
  | .exit id, a, w => ∃ k0, Steps P m (lone (fat b a (.code (.exit id) :: k0)) cs w) ∧ exitTo id k0 = exitTo id k
  | .ret, a, w => ∃ k0, Steps P m (lone (fat b a (.code .ret :: k0)) cs w)
  | .pan v, a, w => ∃ todo, Steps P m (lone { fat b a todo with mode := .panicking [{ v, recovered := false }] } cs w)

theorem Arr.of_steps {m m1 : Machine} {b : Frame} {k : List Item} {cs : List Frame} {e : Ex} (hs : Steps P m m1) (ha : Arr P m1 b k cs e a w) : Arr P m b k cs e a w := by
  cases e with
  | norm => exact hs.trans ha
  | exit id => obtain ⟨k0, h1, h2⟩ := ha; exact ⟨k0, hs.trans h1, h2⟩
  | ret => obtain ⟨k0, h1⟩ := ha; exact ⟨k0, hs.trans h1⟩
  | pan v => obtain ⟨k0, h1⟩ := ha; exact ⟨k0, hs.trans h1⟩

def EndRel (ρ : Ren) : Res → Ending → Prop
  | .ret v, .returned v' => VRel ρ v v'
  | .pan v, .panicked c => ∃ v', c = [{ v := v', recovered := false }] ∧ VRel ρ v v'
  | _, _ => False

/-- What is asked of the abstract machine's calls. -/
def KSim (P : Program) (K : CallFn) : Prop :=
  ∀ c args u h res u1 h1, K c args u h = some (res, u1, h1) → h.next ≤ h1.next ∧ ∀ (ρ : Ren) (G : Bes) (w : World) (args' : Array Value), SR P ρ h G w → Beside G h1.next → LRel ρ args args'.toList →
    match c with
    | .fn f => goodFn P f = true ∧ True ∧
        (u.isNo = true → Calls P f args' w fun e w1 => ∃ ρ1, ρ.le ρ1 ∧ SR P ρ1 h1 G w1 ∧ EndRel ρ1 res e) ∧
        (u.isNo = false → ∀ m, MRel ρ u m → CallsD P f args' m w fun e m1 w1 => ∃ ρ1, ρ.le ρ1 ∧ SR P ρ1 h1 G w1 ∧ EndRel ρ1 res e ∧ MRel ρ1 u1 m1)
    | .round l => ∀ e, ρ l = some e → ∃ fn tmps assign body w', (Instr.yield e.cb args').run P w = .ok (.round e.cb fn tmps assign body) w' ∧
        ∀ c cs, ∃ ρ1 w1, ρ.le ρ1 ∧ SR P ρ1 h1 G w1 ∧
          match res with
          | .ret v => ∃ v', VRel ρ1 v v' ∧ Steps P (lone (Frame.round e.cb fn tmps assign body .normal) (c :: cs) w') (lone (c.finish v') cs w1)
          | .pan v => ∃ v', VRel ρ1 v v' ∧ Steps P (lone (Frame.round e.cb fn tmps assign body .normal) (c :: cs) w') (lone (c.raise [{ v := v', recovered := false }]) cs w1)

end
end Go.Proofs.YtbejfgpeledcjaaGreat.A
namespace Go.Proofs.YtbejfgpeledcjaaGreat.A
noncomputable section
open Go

variable {P : Program} {ρ : Ren} {h h1 : AHeap} {G : Bes} {w : World} {t : Tr Value} {a : Act} {v : Value}

section
variable {b : Frame} {k : List Item} {cs : List Frame} {ops : Array Oper} {i : Nat} {rest : List Nat} {o : Oper}

theorem fop_value (ho : ops[i]? = some o) (hw : Region.wanted o (yielded ops a.tmps) = true) (hd : b.roundOf = none ∨ ∀ c, o.op ≠ .defer c) {v : Value} {w1 : World} (hr : (execOp a.eval o).run P w = .ok (.value v) w1) :
    step P (lone (fat b a (.inRegion ops (i :: rest) :: k)) cs w) = .next (lone (fat b (a.put o.dst v) (.inRegion ops rest :: k)) cs w1) := by
  have hf : (fat b a (.inRegion ops (i :: rest) :: k)).finish v = fat b (a.put o.dst v) (.inRegion ops rest :: k) := by rw [finish_fat, ho]; rfl
  rw [← hf]
  exact step_lone_go (by rw [fstepG_op ho hw hd]; simp [stepG.apply, hr])

theorem fop_skip (ho : ops[i]? = some o) (hw : Region.wanted o (yielded ops a.tmps) = true) (hd : b.roundOf = none ∨ ∀ c, o.op ≠ .defer c) {w1 : World} (hr : (execOp a.eval o).run P w = .ok .skip w1) :
    step P (lone (fat b a (.inRegion ops (i :: rest) :: k)) cs w) = .next (lone (fat b (a.put o.dst undef) (.inRegion ops rest :: k)) cs w1) := by
  have hf : (fat b a (.inRegion ops (i :: rest) :: k)).finish undef = fat b (a.put o.dst undef) (.inRegion ops rest :: k) := by rw [finish_fat, ho]; rfl
  rw [← hf]
  exact step_lone_go (by rw [fstepG_op ho hw hd]; simp [stepG.apply, hr])

theorem fop_defer (ho : ops[i]? = some o) (hw : Region.wanted o (yielded ops a.tmps) = true) (hd : b.roundOf = none ∨ ∀ c, o.op ≠ .defer c) {d : Deferred} {w1 : World} (hr : (execOp a.eval o).run P w = .ok (.defer d) w1) :
    step P (lone (fat b a (.inRegion ops (i :: rest) :: k)) cs w) = .next (lone (fat b ({ a with defers := d :: a.defers }.put o.dst undef) (.inRegion ops rest :: k)) cs w1) := by
  have hf : ({ fat b a (.inRegion ops (i :: rest) :: k) with defers := d :: (fat b a (.inRegion ops (i :: rest) :: k)).defers } : Frame).finish undef = fat b ({ a with defers := d :: a.defers }.put o.dst undef) (.inRegion ops rest :: k) := by
    have := finish_fat (b := b) (a := { a with defers := d :: a.defers }) (k := k) (ops := ops) i rest undef
    rw [ho] at this; exact this
  refine step_lone_go ?_
  rw [fstepG_op ho hw hd]
  simp only [stepG.apply, Sem.runT_eq, hr, GStep.bare_after]
  exact congrArg (fun fr => GStep.go { frame := fr, callers := cs, status := .running, dying := none } w1) hf

theorem fop_enter (ho : ops[i]? = some o) (hw : Region.wanted o (yielded ops a.tmps) = true) (hd : b.roundOf = none ∨ ∀ c, o.op ≠ .defer c) {f : FuncId} {args : Array Value} {w1 : World} (hr : (execOp a.eval o).run P w = .ok (.enter f args) w1) :
    step P (lone (fat b a (.inRegion ops (i :: rest) :: k)) cs w) = .next (lone (Frame.enter P f args .normal) (fat b a (.inRegion ops (i :: rest) :: k) :: cs) w1) :=
  step_lone_go (by rw [fstepG_op ho hw hd]; simp [stepG.apply, hr, fat])

theorem fop_round (ho : ops[i]? = some o) (hw : Region.wanted o (yielded ops a.tmps) = true) (hd : b.roundOf = none ∨ ∀ c, o.op ≠ .defer c) {l : Nat} {f : FuncId} {tmps : Array Value} {as bo : Code} {w1 : World} (hr : (execOp a.eval o).run P w = .ok (.round l f tmps as bo) w1) :
    step P (lone (fat b a (.inRegion ops (i :: rest) :: k)) cs w) = .next (lone (Frame.round l f tmps as bo .normal) (fat b a (.inRegion ops (i :: rest) :: k) :: cs) w1) :=
  step_lone_go (by rw [fstepG_op ho hw hd]; simp [stepG.apply, hr])

theorem fop_panic (ho : ops[i]? = some o) (hw : Region.wanted o (yielded ops a.tmps) = true) (hd : b.roundOf = none ∨ ∀ c, o.op ≠ .defer c) {v : Value} {w1 : World} (hr : (execOp a.eval o).run P w = .halt (.panic v) w1) :
    step P (lone (fat b a (.inRegion ops (i :: rest) :: k)) cs w) = .next (lone { fat b a (.inRegion ops (i :: rest) :: k) with mode := .panicking [{ v, recovered := false }] } cs w1) :=
  step_lone_go (by rw [fstepG_op ho hw hd]; simp [stepG.apply, hr, Frame.raise, fat])

theorem fop_recover (ho : ops[i]? = some o) (hw : Region.wanted o (yielded ops a.tmps) = true) (hb : b.kind = .deferred) (hro : b.roundOf = none) {w1 : World} (hr : (execOp a.eval o).run P w = .ok .recover w1) :
    step P (lone (fat b a (.inRegion ops (i :: rest) :: k)) cs w) = .next (match recoverD cs with
      | some (v, cs') => lone (fat b (a.put o.dst v) (.inRegion ops rest :: k)) cs' w1
      | none => lone (fat b (a.put o.dst .nilIface) (.inRegion ops rest :: k)) cs w1) := by
  have hf : ∀ v, (fat b a (.inRegion ops (i :: rest) :: k)).finish v = fat b (a.put o.dst v) (.inRegion ops rest :: k) := fun v => by rw [finish_fat, ho]; rfl
  have hk : (fat b a (.inRegion ops (i :: rest) :: k)).kind = .deferred := hb
  have hro' : (fat b a (.inRegion ops (i :: rest) :: k)).roundOf = none := hro
  have htr := tryRecover_deferred hk cs
  cases hrec : recoverD cs with
  | none =>
    simp only [← hf]
    refine step_lone_go ?_
    rw [fstepG_op ho hw (.inl hro)]
    simp [stepG.apply, hr, hro', htr, hrec]
  | some p =>
    obtain ⟨v, cs'⟩ := p
    simp only [← hf]
    refine step_lone_go ?_
    rw [fstepG_op ho hw (.inl hro)]
    simp [stepG.apply, hr, hro', htr, hrec]

end


def RInv (op : AOp) : R → Prop
  | .val .. => True
  | .call .. => (∃ f as, op = .callF f as) ∨ (∃ f as, op = .callV f as)
  | .dfr _ => ∃ f as, op = .deferV f as
  | .pan _ => ∃ x, op = .panic x
  | .rcv => op = .recover

theorem appendTo_inv {size n : Nat} {s : Value} {new : List Value} {r : R} (hv : appendTo h size s new n = some r) : ∃ v h1, r = .val v h1 := by
  unfold appendTo at hv
  repeat' split at hv
  all_goals first
    | (cases hv; done)
    | (cases hv; exact ⟨_, _, rfl⟩)

theorem mapVal_inv {α : Type} {o : Option α} {f : α → Value} {h : AHeap} {r : R} (hv : o.map (fun x => R.val (f x) h) = some r) : ∃ v h1, r = .val v h1 := by
  cases o with
  | none => cases hv
  | some x => cases hv; exact ⟨_, _, rfl⟩

theorem val_inv {op : AOp} {r : R} (h : ∃ v h1, r = .val v h1) : RInv op r := by obtain ⟨_, _, rfl⟩ := h; trivial

theorem aop_inv {op : AOp} {r : R} (hv : aop op t h = some r) : RInv op r := by
  cases op with
  | callF f as => simp only [aop, k_callF, Option.some.injEq] at hv; subst hv; exact .inl ⟨_, _, rfl⟩
  | callV f as => simp only [aop, k_callV] at hv; split at hv <;> cases hv; exact .inr ⟨_, _, rfl⟩
  | deferV f as => simp only [aop, k_deferV] at hv; split at hv <;> cases hv; exact ⟨_, _, rfl⟩
  | panic x => simp only [aop, k_panic] at hv; split at hv <;> cases hv; exact ⟨_, rfl⟩
  | recover => cases hv; rfl
  | _ =>
    refine val_inv ?_
    simp only [aop, k_mv, k_pick, k_alloc, k_box, k_build, k_buildSlice, k_load1, k_loadN, k_store, k_nilCheck, k_bin, k_eqNil, k_eqBool, k_eqAgg, k_un, k_convInt, k_convStr, k_bytesToStr, k_strToBytes, k_mkIface, k_mkFunc, k_mkMap, k_mkSlice, k_sliceSl, k_sliceStr, k_sliceArr, k_fieldAddr, k_part, k_idxSl, k_idxArr, k_indexAgg, k_lookup, k_mapSet, k_rangeStr, k_nextStr, k_typeIs, k_extract, k_lenStr, k_lenSl, k_lenMap, k_append, k_copy, k_max2, k_min2] at hv
    (repeat' split at hv)
    all_goals first
      | (cases hv; done)
      | exact appendTo_inv hv
      | exact mapVal_inv hv
      | (cases hv; exact ⟨_, _, rfl⟩)
      | (obtain ⟨x, _, he⟩ := isSomeMap hv; exact ⟨_, _, he⟩)

/-- Where a call, a defer, a panic and a recover come from. -/
def CInv (P : Program) (o : Op) : AOp → Prop
  | .callF f as => ∃ c : Call, o = .call c ∧ c.callee = .value (.func f) ∧ goodFn P f = true ∧ as = c.args.toList
  | .callV f as => ∃ c : Call, o = .call c ∧ c.callee = .value f ∧ as = c.args.toList
  | .deferV f as => ∃ c : Call, o = .defer c ∧ c.callee = .value f ∧ as = c.args.toList
  | .panic x => o = .panic x
  | .recover => ∃ c : Call, o = .call c ∧ c.callee = .builtin .recover
  | _ => ∀ c, o ≠ .defer c

theorem cNil_inv {k : NilK} {op : BinOp} {x y : Operand} {r : AOp} (hv : cNil k op x y = some r) : ∃ a b c d, r = .eqNil a b c d := by
  unfold cNil at hv; split at hv <;> cases hv <;> exact ⟨_, _, _, _, rfl⟩

theorem cOp_inv {o : Op} {op : AOp} (hv : cOp P o = some op) : CInv P o op := by
  cases o with
  | call c =>
    simp only [cOp] at hv
    split at hv
    · rename_i f hf
      split at hv
      · rename_i hg; cases hv; exact ⟨c, rfl, hf, hg, rfl⟩
      · cases hv
    · rename_i f _ hf; cases hv; exact ⟨c, rfl, hf, rfl⟩
    · rename_i b hb
      unfold cBuiltin at hv
      (repeat' split at hv)
      all_goals first
        | (cases hv; done)
        | (cases hv; exact ⟨c, rfl, hb⟩)
        | (cases hv; intro d hd; cases hd)
        | (obtain ⟨x, _, rfl⟩ := isSomeMap hv; intro d hd; cases hd)
    · cases hv
  | defer c =>
    simp only [cOp] at hv
    split at hv
    · rename_i f hf; cases hv; exact ⟨c, rfl, hf, rfl⟩
    · cases hv
  | panic x => cases hv; rfl
  | binOp bop ty x y z =>
    simp only [cOp, cBin] at hv
    (repeat' split at hv)
    all_goals first
      | (cases hv; done)
      | (cases hv; intro d hd; cases hd)
      | (obtain ⟨_, _, _, _, rfl⟩ := cNil_inv hv; intro d hd; cases hd)
  | makeFunc f a b =>
    cases f <;> first
      | (simp only [cOp] at hv; cases hv; intro d hd; cases hd)
      | (simp [cOp] at hv)
  | makeMap ty n =>
    cases n <;> first
      | (simp only [cOp] at hv; cases hv; intro d hd; cases hd)
      | (simp [cOp] at hv)
  | next x b =>
    cases b <;> first
      | (simp only [cOp] at hv; cases hv; intro d hd; cases hd)
      | (simp [cOp] at hv)
  | typeAssert x s ty ok =>
    cases ok with
    | false => simp [cOp] at hv
    | true =>
      simp only [cOp] at hv
      (repeat' split at hv)
      all_goals first
        | (cases hv; done)
        | (cases hv; intro d hd; cases hd)
  | _ =>
    simp only [cOp, cConv] at hv
    (repeat' split at hv)
    all_goals first
      | (cases hv; done)
      | (cases hv; intro d hd; cases hd)
      | (obtain ⟨x, _, rfl⟩ := isSomeMap hv; intro d hd; cases hd)
/-- What one operation comes to, in the machine. -/
def OpOut (P : Program) (ρ : Ren) (G : Bes) (ro : Option Nat) (ops : Array Oper) (i : Nat) (rest : List Nat) (o : Oper) (ao : AOper) (s : St) (b : Frame) (k : List Item) (a : Act) (cs : List Frame) (w : World) (e : Ex) (s1 : St) : Prop :=
  match e with
  | .norm => ∃ v v' ds' ρ1 cs1 w1, s1.t = putT s.t ao.dst v ∧ VRel ρ1 v v' ∧ ρ.le ρ1 ∧
      Steps P (lone (fat b a (.inRegion ops (i :: rest) :: k)) cs w) (lone (fat b ({ a with defers := ds' }.put o.dst v') (.inRegion ops rest :: k)) cs1 w1) ∧
      SR P ρ1 s1.h G w1 ∧ DsRel ρ1 s1.ds ds' ∧ URel ρ1 s1.u b cs1 ∧ s1.rd = s.rd ∧ CsTo s.u.isNo cs cs1 ∧ s1.u.isNo = s.u.isNo
  | .pan v => s1.t = s.t ∧ s1.ds = s.ds ∧ s1.u = s.u ∧ s1.rd = s.rd ∧ ∃ v' ρ1 w1 todo, VRel ρ1 v v' ∧ ρ.le ρ1 ∧
      Steps P (lone (fat b a (.inRegion ops (i :: rest) :: k)) cs w) (lone { fat b a todo with mode := .panicking [{ v := v', recovered := false }] } cs w1) ∧ SR P ρ1 s1.h G w1
  | _ => False


theorem opStep_sim {K : CallFn} (hK : KSim P K) {ro : Option Nat} {ops : Array Oper} {i : Nat} {rest : List Nat} {o : Oper} {ao : AOper} {s s1 : St} {b : Frame} {k : List Item} {cs : List Frame} {e : Ex}
    (ho : ops[i]? = some o) (hop : cOp P o.op = some ao.op) (hok : ao.op.ok = true) (hdst : ao.dst = o.dst) (hs : opStep K ao s = some (e, s1))
    (hw : Region.wanted o (yielded ops a.tmps) = true) (hsr : SR P ρ s.h G w) (hord : ORd ρ s.t a ao.op.opds) (hds : DsRel ρ s.ds a.defers) (hu : URel ρ s.u b cs) (hro : RoRel ρ ro s b)
    (hG : Beside G s1.h.next) : s.h.next ≤ s1.h.next ∧ OpOut P ρ G ro ops i rest o ao s b k a cs w e s1 := by
  have hsim := op_sim (ρ := ρ) (t := s.t) (a := a) hop hok hord
  have hci := cOp_inv hop
  have hndef : (∀ d, aop ao.op s.t s.h ≠ some (.dfr d)) → aop ao.op s.t s.h ≠ none → (b.roundOf = none ∨ ∀ c, o.op ≠ .defer c) := by
    intro hn hne
    right
    intro c hc
    cases hx : ao.op with
    | deferV f as =>
      rw [hx] at hn hne
      simp only [aop, k_deferV] at hn hne
      split at hn
      · exact hn _ rfl
      · rename_i hno
        split at hne
        · rename_i he; exact hno _ _ he
        · exact hne rfl
    | callF f as => rw [hx] at hci; obtain ⟨c', h1, _⟩ := hci; rw [hc] at h1; cases h1
    | callV f as => rw [hx] at hci; obtain ⟨c', h1, _⟩ := hci; rw [hc] at h1; cases h1
    | panic x => rw [hx] at hci; rw [hci] at hc; cases hc
    | recover => rw [hx] at hci; obtain ⟨c', h1, _⟩ := hci; rw [hc] at h1; cases h1
    | _ => rw [hx] at hci; exact hci c hc
  unfold opStep at hs
  split at hs
  · cases hs
  · rename_i v h' ha
    cases hs
    obtain ⟨nx, w1, ρ1, g1, g2, g3, g4⟩ := op_val hsim hsr ha hG
    refine ⟨aop_next ha, ?_⟩
    have hd := hndef (fun d hd => by rw [ha] at hd; cases hd) (by rw [ha]; simp)
    rcases g2 with ⟨v', rfl, hv⟩ | ⟨rfl, rfl⟩
    · exact ⟨v, v', a.defers, ρ1, cs, w1, rfl, hv, g3, .one (fop_value ho hw hd g1), g4, hds.mono g3, hu.mono g3, rfl, .refl _ _, rfl⟩
    · exact ⟨_, undef, a.defers, ρ1, cs, w1, rfl, .blank ρ1, g3, .one (fop_skip ho hw hd g1), g4, hds.mono g3, hu.mono g3, rfl, .refl _ _, rfl⟩
  · rename_i c args ha
    have hd := hndef (fun d hd => by rw [ha] at hd; cases hd) (by rw [ha]; simp)
    have hri := aop_inv ha
    have hfin : ∀ v, (fat b a (.inRegion ops (i :: rest) :: k)).finish v = fat b (a.put o.dst v) (.inRegion ops rest :: k) := fun v => by rw [finish_fat, ho]; rfl
    -- what the call comes to
    have key : ∀ res u1 h1, K c args .no s.h = some (res, u1, h1) → Beside G h1.next → s.h.next ≤ h1.next ∧ ∃ ρ1 w1, ρ.le ρ1 ∧ SR P ρ1 h1 G w1 ∧
        match res with
        | .ret v => ∃ v', VRel ρ1 v v' ∧ Steps P (lone (fat b a (.inRegion ops (i :: rest) :: k)) cs w) (lone (fat b (a.put o.dst v') (.inRegion ops rest :: k)) cs w1)
        | .pan v => ∃ v' todo, VRel ρ1 v v' ∧ Steps P (lone (fat b a (.inRegion ops (i :: rest) :: k)) cs w) (lone { fat b a todo with mode := .panicking [{ v := v', recovered := false }] } cs w1) := by
      intro res u1 h1 hk hG1
      obtain ⟨hle, hall⟩ := hK _ _ _ _ _ _ _ hk
      refine ⟨hle, ?_⟩
      cases c with
      | fn f =>
        have hrun : goodFn P f = true → ∃ args' : Array Value, LRel ρ args args'.toList ∧ (execOp a.eval o).run P w = .ok (.enter f args') w := by
          intro hgood
          rcases hri with ⟨g, as, hx⟩ | ⟨g, as, hx⟩
          · rw [hx] at hci ha hord
            obtain ⟨cl, q1, q2, q3, rfl⟩ := hci
            exact call_callF q1 q2 q3 hord _ _ _ _ ha
          · rw [hx] at hci ha hord
            obtain ⟨cl, q1, q2, rfl⟩ := hci
            refine call_callV q1 q2 hord (fun _ _ _ => hgood) _ _ _ ha
        have hgood : goodFn P f = true := by
          obtain ⟨args', hl⟩ : ∃ args' : Array Value, LRel ρ args args'.toList := by
            rcases hri with ⟨g, as, hx⟩ | ⟨g, as, hx⟩
            · rw [hx] at ha hord
              simp only [aop, k_callF, Option.some.injEq, R.call.injEq] at ha
              obtain ⟨_, rfl⟩ := ha
              exact ⟨⟨as.map a.eval⟩, ORd.lrel hord⟩
            · rw [hx] at ha hord
              simp only [aop, k_callV] at ha
              split at ha
              · rename_i cc l hcal
                cases ha
                obtain ⟨args', h1, _⟩ := callee_rel (P := P) (hord g (by simp [AOp.opds])) (ORd.lrel (l := as) (fun z hz => hord z (by simp [AOp.opds]; exact .inr hz))) hcal
                exact ⟨args', h1⟩
              · cases ha
          exact (hall ρ G w args' hsr hG1 hl).1
        obtain ⟨args', hl, hr⟩ := hrun hgood
        have hcall := (hall ρ G w args' hsr hG1 hl).2.2.1 rfl
        obtain ⟨e, w', fr, ⟨ρ1, hle1, hsr1, hend⟩, hsteps, _, hleave⟩ := hcall (fat b a (.inRegion ops (i :: rest) :: k) :: cs)
        have henter := fop_enter (k := k) (cs := cs) (rest := rest) (b := b) ho hw hd hr
        refine ⟨ρ1, w', hle1, hsr1, ?_⟩
        cases res with
        | ret v =>
          cases e with
          | returned v' =>
            refine ⟨v', hend, ?_⟩
            refine .head henter (hsteps.trans (.one ?_))
            rw [← hfin]; exact step_leave_returned hleave
          | panicked _ => exact hend.elim
          | outgrown => exact hend.elim
        | pan v =>
          cases e with
          | returned _ => exact hend.elim
          | outgrown => exact hend.elim
          | panicked chain =>
            obtain ⟨v', rfl, hv⟩ := hend
            refine ⟨v', .inRegion ops (i :: rest) :: k, hv, ?_⟩
            exact .head henter (hsteps.trans (.one (step_leave_panicked hleave)))
      | round l =>
        rcases hri with ⟨g, as, hx⟩ | ⟨g, as, hx⟩
        · rw [hx] at ha; simp [aop, k_callF] at ha
        · rw [hx] at hci ha hord
          obtain ⟨cl, q1, q2, rfl⟩ := hci
          obtain ⟨args', hl, e, he, hr⟩ := call_round (P := P) q1 q2 hord s.h w args ha
          obtain ⟨fn, tmps, as, bo, w', hy, hrest⟩ := hall ρ G w args' hsr hG1 hl e he
          rw [hy] at hr
          have henter := fop_round (k := k) (cs := cs) (rest := rest) (b := b) ho hw hd hr
          obtain ⟨ρ1, w1, hle1, hsr1, hm⟩ := hrest (fat b a (.inRegion ops (i :: rest) :: k)) cs
          refine ⟨ρ1, w1, hle1, hsr1, ?_⟩
          cases res with
          | ret v =>
            obtain ⟨v', hv, hst⟩ := hm
            refine ⟨v', hv, .head henter ?_⟩
            rw [← hfin]; exact hst
          | pan v =>
            obtain ⟨v', hv, hst⟩ := hm
            exact ⟨v', .inRegion ops (i :: rest) :: k, hv, .head henter hst⟩
    split at hs
    · rename_i v u' h' hk
      cases hs
      obtain ⟨hle, ρ1, w1, g1, g2, v', g3, g4⟩ := key _ _ _ hk hG
      exact ⟨hle, v, v', a.defers, ρ1, cs, w1, rfl, g3, g1, g4, g2, hds.mono g1, hu.mono g1, rfl, .refl _ _, rfl⟩
    · rename_i v u' h' hk
      cases hs
      obtain ⟨hle, ρ1, w1, g1, g2, v', todo, g3, g4⟩ := key _ _ _ hk hG
      exact ⟨hle, rfl, rfl, rfl, rfl, v', ρ1, w1, todo, g3, g1, g4, g2⟩
    · cases hs
  · rename_i d ha
    split at hs
    · cases hs
    · rename_i hrd
      cases hs
      have hb : b.roundOf = none := by
        cases ro with
        | none => exact hro.1
        | some l => exact absurd hro.1 hrd
      obtain ⟨f, as, hx⟩ := aop_inv ha
      rw [hx] at hci ha hord
      obtain ⟨cl, q1, q2, rfl⟩ := hci
      simp only [aop, k_deferV] at ha
      split at ha
      · rename_i g l hcal
        cases ha
        obtain ⟨args', h1, d', h2, cap, h3, h4⟩ := callee_rel (P := P) (hord f (by simp [AOp.opds])) (ORd.lrel (l := cl.args.toList) (fun z hz => hord z (by simp [AOp.opds]; simp at hz; exact .inr hz))) hcal
        have hargs : cl.args.map a.eval = ⟨cl.args.toList.map a.eval⟩ := by apply Array.ext'; simp
        have hr : (execOp a.eval o).run P w = .ok (.defer d') w := by
          simp only [execOp, q1, resolve, q2, hargs, Sem.run_bind, h2, Result.andThen_ok, Sem.run_pure]
        refine ⟨Nat.le_refl _, blank, undef, d' :: a.defers, ρ, cs, w, rfl, .blank ρ, .refl _, .one (fop_defer ho hw (.inl hb) hr), hsr, ⟨⟨cap, args', h3, h4, h1⟩, hds⟩, hu, rfl, .refl _ _, rfl⟩
      · cases ha
  · rename_i v ha
    cases hs
    have hd := hndef (fun d hd => by rw [ha] at hd; cases hd) (by rw [ha]; simp)
    obtain ⟨x, hx⟩ := aop_inv ha
    rw [hx] at hci ha hord
    simp only [aop, k_panic] at ha
    split at ha
    · rename_i ty pv hev
      cases ha
      have hv := hord x (by simp [AOp.opds])
      rw [hev] at hv
      obtain ⟨v', hv1, hv2⟩ : ∃ v', VRel ρ (.iface ty pv) v' ∧ (execOp a.eval o).run P w = .halt (.panic v') w := by
        refine ⟨_, hv, ?_⟩
        have hci' : o.op = .panic x := hci
        generalize hvv : a.eval x = vv at hv
        simp only [execOp, hci', hvv]
        cases hv <;> first | rfl | skip
      exact ⟨Nat.le_refl _, rfl, rfl, rfl, rfl, v', ρ, w, _, hv1, .refl _, .one (fop_panic ho hw hd hv2), hsr⟩
    · cases ha
  · rename_i ha
    have hx := aop_inv ha
    have hx' : ao.op = .recover := hx
    rw [hx'] at hci
    obtain ⟨cl, q1, q2⟩ := hci
    have hr : (execOp a.eval o).run P w = .ok .recover w := by
      simp only [execOp, q1, resolve, q2]
      rfl
    have hnot : s.u.isNo = false := by
      cases hsu : s.u <;> rw [hsu] at hs <;> first | rfl | cases hs
    have hu' := hu
    unfold URel at hu'
    rw [if_neg (by simp [hnot])] at hu'
    obtain ⟨hkind, hround, c, crest, rfl, hmr⟩ := hu'
    have hstep := fop_recover (k := k) (cs := c :: crest) (rest := rest) ho hw hkind hround hr
    cases hsu : s.u with
    | no => rw [hsu] at hnot; cases hnot
    | panicking v =>
      rw [hsu] at hs hmr
      cases hs
      obtain ⟨v', hm, hv⟩ := hmr
      simp only [recoverD, hm] at hstep
      refine ⟨Nat.le_refl _, v, v', a.defers, ρ, _, w, rfl, hv, .refl _, .one hstep, hsr, hds, ?_, rfl, ?_, ?_⟩
      · exact ⟨hkind, hround, _, _, rfl, v', rfl, hv⟩
      · rw [hsu]; exact .inr ⟨_, _, _, rfl, rfl⟩
      · rw [hsu]; rfl
    | returning =>
      rw [hsu] at hs hmr
      cases hs
      have hm : c.mode = .returning := hmr
      simp only [recoverD, hm] at hstep
      exact ⟨Nat.le_refl _, .nilIface, .nilIface, a.defers, ρ, _, w, rfl, .nilIface, .refl _, .one hstep, hsr, hds, by rw [hsu] at hu; exact hu, rfl, .refl _ _, by rw [hsu]⟩
    | recovered v =>
      rw [hsu] at hs hmr
      cases hs
      obtain ⟨v', hm, hv⟩ := hmr
      simp only [recoverD, hm] at hstep
      exact ⟨Nat.le_refl _, .nilIface, .nilIface, a.defers, ρ, _, w, rfl, .nilIface, .refl _, .one hstep, hsr, hds, by rw [hsu] at hu; exact hu, rfl, .refl _ _, by rw [hsu]⟩

end
end Go.Proofs.YtbejfgpeledcjaaGreat.A
