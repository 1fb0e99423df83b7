/- Summaries: what was run on some blocks alone holds on any heap that has them. -/
import Derived.Test.YtbejfgpeledcjaaGreatA7
set_option linter.unusedVariables false
set_option linter.unusedSimpArgs false
namespace Go.Proofs.YtbejfgpeledcjaaGreat.A
noncomputable section
open Go

variable {P : Program} {ρ : Ren} {h h1 : AHeap} {G : Bes} {w w1 : World} {v : Value}

/-- The world has grown, and what it had is as it was. -/
theorem SR.later (s : SR P ρ h G w) (he : EnvEq w w1) (hw : ∀ (k : Nat) (ob : Obj), w.heap[k]? = some ob → w1.heap[k]? = some ob) : SR P ρ h G w1 := by
  have hsame : ∀ k, k < w.heap.size → w1.heap[k]? = w.heap[k]? := fun k hk => by
    rw [Array.getElem?_eq_getElem hk]; exact hw k _ (Array.getElem?_eq_getElem hk)
  have hsize : w.heap.size ≤ w1.heap.size := by
    rcases Nat.eq_zero_or_pos w.heap.size with h0 | h0
    · omega
    · have := (Array.getElem?_eq_some_iff.1 (hw (w.heap.size - 1) _ (Array.getElem?_eq_getElem (by omega)))).1; omega
  refine ⟨⟨fun b o e hb he => ?_, s.hr.apart⟩, s.wf, s.dom, fun b o e hb he hl => Nat.lt_of_lt_of_le (s.lt b o e hb he hl) hsize, s.ban, fun k ob hk => ⟨hw k ob (s.raw k ob hk).1, (s.raw k ob hk).2⟩, s.env.trans he⟩
  have hob := s.hr.obj b o e hb he
  refine hob.mono (.refl _) ?_
  cases o with
  | cells cs sz ro =>
    intro i _
    have := hsame e.cb (s.lt b _ e hb he rfl)
    simp only [World.cell?, World.frozen?, this]; exact ⟨trivial, trivial⟩
  | dead => trivial
  | map es => exact hsame e.cb (s.lt b _ e hb he rfl)
  | loop r => exact hsame e.cb (s.lt b _ e hb he rfl)
  | siter x y => exact hsame e.cb (s.lt b _ e hb he rfl)
  | defers t => exact hsame e.cb (s.lt b _ e hb he rfl)

theorem VRel.scalar_inv {v v' : Value} (hv : scalarOk v = true) (h : VRel ρ v v') : v' = v := by
  cases h <;> first | rfl | (simp [scalarOk] at hv)

theorem LRel.scalar_inv : ∀ {l l' : List Value}, l.all scalarOk = true → LRel ρ l l' → l' = l
  | [], [], _, _ => rfl
  | x :: l, y :: l', hl, h => by
    simp at hl
    rw [VRel.scalar_inv hl.1 h.head, LRel.scalar_inv (by simpa using hl.2) h.tail]
  | [], _ :: _, _, h => by have := h.1; simp at this
  | _ :: _, [], _, h => by have := h.1; simp at this

theorem VRel.const_inv {v v' : Value} (hv : constOk v = true) (h : VRel ρ v v') : v' = v := by
  unfold constOk at hv
  split at hv
  · cases h with
    | agg a b h1 h2 h3 => rw [LRel.scalar_inv hv ⟨h1, h2⟩]
  · cases h with
    | iface t x y h1 => rw [VRel.scalar_inv hv h1]
  · exact VRel.scalar_inv hv h

theorem LRel.const_inv : ∀ {l l' : List Value}, l.all constOk = true → LRel ρ l l' → l' = l
  | [], [], _, _ => rfl
  | x :: l, y :: l', hl, h => by
    simp at hl
    rw [VRel.const_inv hl.1 h.head, LRel.const_inv (by simpa using hl.2) h.tail]
  | [], _ :: _, _, h => by have := h.1; simp at this
  | _ :: _, [], _, h => by have := h.1; simp at this

theorem LRel.consts : ∀ {l : List Value}, l.all constOk = true → LRel ρ l l
  | [], _ => LRel.nil ρ
  | x :: l, hl => by simp at hl; exact .cons (.const hl.1) (LRel.consts (by simpa using hl.2))

/-- A plain result: one value, or several. -/
def plain : Value → Bool
  | .tuple cs => cs.toList.all constOk
  | v => constOk v

theorem VRel.plain_inv {v v' : Value} (hv : plain v = true) (h : VRel ρ v v') : v' = v := by
  unfold plain at hv
  split at hv
  · rename_i cs
    cases h with
    | tuple a b h1 h2 => rw [LRel.const_inv hv ⟨h1, h2⟩]
  · exact VRel.const_inv hv h

theorem VRel.plain {v : Value} (hv : plain v = true) : VRel ρ v v := by
  unfold A.plain at hv
  split at hv
  · exact VRel.tuple' (LRel.consts hv)
  · exact VRel.const hv

/-- The empty heap stands for any world; nothing of the world lies in it. -/
theorem SR.empty (w : World) : SR P (fun _ => none) ⟨0, .nil⟩ ⟨fun _ => none, fun _ => False, ⟨fun k => w.heap[k]?, w⟩⟩ w :=
  { hr := { obj := fun _ _ _ _ h => (by cases h), apart := fun b c o p e f hbc h1 h2 h3 => (by cases h3) }
    wf := fun b o h => by simp [AHeap.get, Tr.get] at h
    dom := fun _ _ h => by cases h
    lt := fun _ _ _ _ h => by cases h
    ban := fun _ h => False.elim h
    raw := fun k ob h => ⟨h, fun _ _ _ _ h => by cases h⟩
    env := EnvEq.refl w }

/-- A call that is given and gives plain values, and leaves the world as it was. -/
def Pure (P : Program) (f : FuncId) (args : List Value) (v : Value) : Prop :=
  goodFn P f = true ∧ args.all constOk = true ∧ plain v = true ∧ ∀ w, Calls P f ⟨args⟩ w fun e w1 => e = .returned v ∧ EnvEq w w1 ∧ ∀ (k : Nat) (ob : Obj), w.heap[k]? = some ob → w1.heap[k]? = some ob

/-- **What was run on the empty heap holds on any.** -/
theorem Pure.of {K : CallFn} (hK : KSim P K) {f : FuncId} {args : List Value} {v : Value} {u1 : Rec} {h1 : AHeap} (hr : K (.fn f) args .no ⟨0, .nil⟩ = some (.ret v, u1, h1)) (ha : args.all constOk = true) (hv : plain v = true) : Pure P f args v := by
  have hb : ∀ w : World, Beside (⟨fun _ => none, fun _ => False, ⟨fun k => w.heap[k]?, w⟩⟩ : Bes) h1.next := fun w b hb => by cases hb
  have hall := (hK _ _ _ _ _ _ _ hr).2
  refine ⟨(hall _ _ default ⟨args⟩ (SR.empty default) (hb _) (LRel.consts ha)).1, ha, hv, fun w => ?_⟩
  obtain ⟨_, _, hcall, _⟩ := hall _ _ w ⟨args⟩ (SR.empty w) (hb w) (LRel.consts ha)
  refine (hcall rfl).mono fun e w1 ⟨ρ1, _, hsr, hend⟩ => ?_
  cases e with
  | returned v' => exact ⟨by rw [VRel.plain_inv hv hend], hsr.env, fun k ob hk => (hsr.raw k ob hk).1⟩
  | panicked c => exact hend.elim
  | outgrown => exact hend.elim

/-- A table of such calls. -/
def tab (T : FuncId → List Value → Option Value) (K : CallFn) : CallFn := fun c args u h =>
  match c, u with
  | .fn f, .no => match T f args with
    | some v => some (.ret v, .no, h)
    | none => K (.fn f) args .no h
  | c, u => K c args u h

theorem tab_sim {T : FuncId → List Value → Option Value} (hT : ∀ f args v, T f args = some v → Pure P f args v) {K : CallFn} (hK : KSim P K) : KSim P (tab T K) := by
  intro c args u h res u1 h1 hs
  unfold tab at hs
  split at hs
  · rename_i f
    split at hs
    · rename_i v hv
      cases hs
      obtain ⟨hg, ha, hp, hc⟩ := hT _ _ _ hv
      refine ⟨Nat.le_refl _, fun ρ G w args' hsr hG hl => ?_⟩
      have : args' = ⟨args⟩ := by
        have := LRel.const_inv ha hl
        cases args'; simp only at this; rw [this]
      subst this
      refine ⟨hg, trivial, fun _ => ?_, fun h => by cases h⟩
      refine (hc w).mono fun e w1 ⟨he, henv, hw⟩ => ⟨ρ, .refl _, hsr.later henv hw, ?_⟩
      subst he; exact VRel.plain hp
    · exact hK _ _ _ _ _ _ _ hs
  · exact hK _ _ _ _ _ _ _ hs

/-- Calls, with a table. -/
def callT (S : ASys) (T : FuncId → List Value → Option Value) : Nat → CallFn
  | 0 => fun _ _ _ _ => none
  | n + 1 => tab T (callS S n (callT S T n))

theorem callT_sim {S : ASys} {T : FuncId → List Value → Option Value} (hm : P.follows .mixedOrders = true) (hS : ∀ f af, S.fns.get f = some af → cFn P f = some af) (hT : ∀ f args v, T f args = some v → Pure P f args v) : ∀ n, KSim P (callT S T n)
  | 0 => by intro c args u h res u1 h1 hs; cases hs
  | n + 1 => tab_sim hT (callS_sim hS (fun _ hK => drawn_ok hm hK) n (callT_sim hm hS hT n))

end
end Go.Proofs.YtbejfgpeledcjaaGreat.A
namespace Go.Proofs.YtbejfgpeledcjaaGreat.A
noncomputable section
open Go

variable {P : Program} {ρ : Ren} {h h1 : AHeap} {G : Bes} {w w1 : World} {v : Value}

/-- A value names kept blocks alone. -/
def vIn (keep : Nat → Bool) : Nat → Value → Bool
  | 0, _ => false
  | n + 1, v => match v with
    | .pointer (some a) => keep a.block
    | .slice (some a) _ _ => keep a.block
    | .map (some r) => keep r
    | .func (.func _) a b => a.toList.all (vIn keep n) && b.toList.all (vIn keep n)
    | .func (.yield l) _ _ => keep l
    | .iface _ v => vIn keep n v
    | .agg cs => cs.toList.all (vIn keep n)
    | .tuple cs => cs.toList.all (vIn keep n)
    | _ => true

def Ren.cut (ρ : Ren) (keep : Nat → Bool) : Ren := fun b => if keep b then ρ b else none

theorem Ren.cut_some {keep : Nat → Bool} {b : Nat} {e : Emb} (h : ρ b = some e) (hk : keep b = true) : ρ.cut keep b = some e := by unfold Ren.cut; rw [if_pos hk]; exact h
theorem Ren.of_cut {keep : Nat → Bool} {b : Nat} {e : Emb} (h : ρ.cut keep b = some e) : ρ b = some e ∧ keep b = true := by
  unfold Ren.cut at h
  split at h
  · rename_i hk; exact ⟨h, hk⟩
  · cases h

theorem VRel.cut {keep : Nat → Bool} {v v' : Value} (h : VRel ρ v v') : ∀ n, vIn keep n v = true → VRel (ρ.cut keep) v v' := by
  have all : ∀ {l : List Value} {n : Nat}, l.all (vIn keep n) = true → ∀ {i : Nat} {x : Value}, l[i]? = some x → vIn keep n x = true := fun hl _ _ hx => List.all_eq_true.1 hl _ (List.mem_of_getElem? hx)
  induction h with
  | poison v => intro _ _; exact .poison v
  | bool b => intro _ _; exact .bool b
  | int k n => intro _ _; exact .int k n
  | string s => intro _ _; exact .string s
  | nilPtr => intro _ _; exact .nilPtr
  | ptr b o e he => intro n hn; cases n <;> simp only [vIn, Bool.false_eq_true] at hn; exact .ptr b o e (Ren.cut_some he hn)
  | nilSlice => intro _ _; exact .nilSlice
  | slice b o len cap a cap' h1 h2 h3 =>
    intro n hn; cases n <;> simp only [vIn, Bool.false_eq_true] at hn
    exact .slice b o len cap a cap' h1 h2 fun hc => let ⟨e, he, r⟩ := h3 hc; ⟨e, Ren.cut_some he hn, r⟩
  | nilMap => intro _ _; exact .nilMap
  | map r e he => intro n hn; cases n <;> simp only [vIn, Bool.false_eq_true] at hn; exact .map r e (Ren.cut_some he hn)
  | nilFunc => intro _ _; exact .nilFunc
  | func f a b c d h1 h2 _ _ ih1 ih2 =>
    intro n hn; cases n <;> simp only [vIn, Bool.false_eq_true, Bool.and_eq_true] at hn
    exact .func f a b c d h1 h2 (fun i x y hx hy => ih1 i x y hx hy _ (all hn.1 hx)) (fun i x y hx hy => ih2 i x y hx hy _ (all hn.2 hx))
  | yield l e he => intro n hn; cases n <;> simp only [vIn, Bool.false_eq_true] at hn; exact .yield l e (Ren.cut_some he hn)
  | nilIface => intro _ _; exact .nilIface
  | iface t v w _ ih => intro n hn; cases n <;> simp only [vIn, Bool.false_eq_true] at hn; exact .iface t v w (ih _ hn)
  | agg a b hl _ h1 ih =>
    intro n hn; cases n <;> simp only [vIn, Bool.false_eq_true] at hn
    exact .agg a b hl (fun i x y hx hy => ih i x y hx hy _ (all hn hx)) h1
  | tuple a b hl _ ih =>
    intro n hn; cases n <;> simp only [vIn, Bool.false_eq_true] at hn
    exact .tuple a b hl (fun i x y hx hy => ih i x y hx hy _ (all hn hx))

def oIn (keep : Nat → Bool) : AObj → Bool
  | .cells cs _ _ => cs.all (vIn keep 6)
  | .map es => es.all fun (_, v) => vIn keep 6 v
  | .loop _ => false
  | _ => true

theorem ORel.cut {keep : Nat → Bool} {o : AObj} {e : Emb} (h : ORel P ρ o e w) (hk : oIn keep o = true) : ORel P (ρ.cut keep) o e w := by
  cases o with
  | cells cs sz ro =>
    obtain ⟨h0, h1, h2, h3, h4⟩ := h
    refine ⟨h0, h1, fun i v hi => ?_, h3, h4⟩
    obtain ⟨v', a, b, c⟩ := h2 i v hi
    exact ⟨v', a, b.cut 6 (List.all_eq_true.1 hk v (List.mem_of_getElem? hi)), c⟩
  | map es =>
    obtain ⟨h0, h1, es', clk, h2, h3, h4⟩ := h
    refine ⟨h0, h1, es', clk, h2, h3, fun i k v m a b => ⟨(h4 i k v m a b).1, (h4 i k v m a b).2.cut 6 ?_⟩⟩
    exact List.all_eq_true.1 hk (k, v) (List.mem_of_getElem? a)
  | loop r => cases hk
  | siter s pos => exact h
  | defers t => exact h
  | dead => trivial

theorem SR.gc (s : SR P ρ h G w) (hf : ∀ b, G b = none) (hb : ∀ b, ¬ G.ban b) {keep : Nat → Bool} {h' : AHeap} (hn : h.next ≤ h'.next) (hg : ∀ b o, h'.get b = some o → h.get b = some o ∧ oIn keep o = true) :
    SR P (ρ.cut keep) h' G w := by
  have key : ∀ b o, h'.with G b = some o → h.with G b = some o ∧ oIn keep o = true := fun b o hx => by
    unfold AHeap.with at hx
    split at hx
    · rename_i o' ho
      cases hx
      exact ⟨AHeap.with_get (hg b _ ho).1 G, (hg b _ ho).2⟩
    · rw [hf] at hx; cases hx
  refine ⟨⟨fun b o e h1 h2 => ?_, fun b c o p e f hbc h1 h2 h3 h4 => s.hr.apart b c o p e f hbc (key b o h1).1 (key c p h2).1 (Ren.of_cut h3).1 (Ren.of_cut h4).1⟩, fun b o hx => Nat.lt_of_lt_of_le (s.wf b o (hg b o hx).1) hn, fun b e hx => ?_, fun b o e h1 h2 => s.lt b o e (key b o h1).1 (Ren.of_cut h2).1, fun b hx => absurd hx (hb b), fun k ob hk => ⟨(s.raw k ob hk).1, fun b o e h1 h2 => (s.raw k ob hk).2 b o e (key b o h1).1 (Ren.of_cut h2).1⟩, s.env⟩
  · exact (s.hr.obj b o e (key b o h1).1 (Ren.of_cut h2).1).cut (key b o h1).2
  · rcases s.dom b e (Ren.of_cut hx).1 with h1 | h1
    · exact .inl (Nat.lt_of_lt_of_le h1 hn)
    · rw [hf] at h1; cases h1

end
end Go.Proofs.YtbejfgpeledcjaaGreat.A
namespace Go.Proofs.YtbejfgpeledcjaaGreat.A
noncomputable section
open Go

variable {P : Program} {ρ : Ren} {h h1 : AHeap} {G : Bes} {w w1 : World} {v : Value}

abbrev Bl := List (Nat × AObj)

def Bl.has (bl : Bl) (b : Nat) : Bool := bl.any fun x => Nat.beq x.1 b

/-- The blocks of a list lie in the heap. -/
def hasAll (h : AHeap) : Bl → Bool
  | [] => true
  | (b, o) :: l => (match h.get b with | some o' => oeq o o' | none => false) && hasAll h l

def blTree : Bl → Tr AObj
  | [] => .nil
  | (b, o) :: l => (blTree l).put b o

/-- The list: each block once, below a number, plain cells that name blocks of the list alone. -/
def blOk (keep : Nat → Bool) (N : Nat) : Bl → Bool
  | [] => true
  | (b, o) :: l => (Nat.blt b N && !Bl.has l b && oIn keep o && !o.ro) && blOk keep N l

theorem Bl.has_iff {bl : Bl} {b : Nat} : bl.has b = true ↔ ∃ o, (b, o) ∈ bl := by
  unfold Bl.has
  rw [List.any_eq_true]
  constructor
  · rintro ⟨⟨c, o⟩, hm, he⟩; have : c = b := Nat.eq_of_beq_eq_true he; subst this; exact ⟨o, hm⟩
  · rintro ⟨o, hm⟩; exact ⟨_, hm, Nat.beq_refl b⟩

theorem hasAll_get : ∀ {bl : Bl}, hasAll h bl = true → ∀ {b o}, (b, o) ∈ bl → h.get b = some o
  | [], _, _, _, hm => by cases hm
  | (c, p) :: l, hb, b, o, hm => by
    simp only [hasAll, Bool.and_eq_true] at hb
    rcases List.mem_cons.1 hm with he | hm
    · cases he
      have h1 := hb.1
      split at h1
      · rename_i o' ho; rw [ho, oeq_eq h1]
      · cases h1
    · exact hasAll_get hb.2 hm

theorem blTree_mem : ∀ {bl : Bl} {b o}, (blTree bl).get b = some o → (b, o) ∈ bl
  | [], b, o, h => by simp [blTree, Tr.get] at h
  | (c, p) :: l, b, o, h => by
    simp only [blTree, Tr.get_put] at h
    split at h
    · rename_i hc; cases h; subst hc; simp
    · exact List.mem_cons_of_mem _ (blTree_mem h)

theorem blOk_mem {keep : Nat → Bool} {N : Nat} : ∀ {bl : Bl}, blOk keep N bl = true → ∀ {b o}, (b, o) ∈ bl → b < N ∧ oIn keep o = true ∧ o.ro = false
  | [], _, _, _, hm => by cases hm
  | (c, p) :: l, hb, b, o, hm => by
    simp only [blOk, Bool.and_eq_true, Bool.not_eq_true'] at hb
    rcases List.mem_cons.1 hm with he | hm
    · cases he; exact ⟨Nat.le_of_ble_eq_true hb.1.1.1.1, hb.1.1.2, hb.1.2⟩
    · exact blOk_mem hb.2 hm

theorem Same.of_heap {o : AObj} {e : Emb} (hw : o.live = true → w1.heap[e.cb]? = w.heap[e.cb]?) : Same o e w w1 := by
  cases o with
  | cells cs sz ro =>
    intro i _
    have := hw rfl
    simp only [World.cell?, World.frozen?, this]; exact ⟨trivial, trivial⟩
  | dead => trivial
  | map es => exact hw rfl
  | loop r => exact hw rfl
  | siter x y => exact hw rfl
  | defers t => exact hw rfl

/-- A call that reads some blocks, gives a plain value, and leaves the heap as it was. -/
def HPure (P : Program) (f : FuncId) (args : List Value) (bl : Bl) (v : Value) : Prop :=
  ∀ (ρ : Ren) (h : AHeap) (G : Bes) (w : World) (args' : Array Value), SR P ρ h G w → hasAll h bl = true → LRel ρ args args'.toList →
    goodFn P f = true ∧ Calls P f args' w fun e w1 => e = .returned v ∧ plain v = true ∧ ∃ ρ2, ρ.le ρ2 ∧ SR P ρ2 h G w1

theorem LRel.cut {keep : Nat → Bool} {n : Nat} : ∀ {l l' : List Value}, l.all (vIn keep n) = true → LRel ρ l l' → LRel (ρ.cut keep) l l'
  | [], [], _, _ => LRel.nil _
  | x :: l, y :: l', hl, h => by
    simp at hl
    exact .cons (h.head.cut n hl.1) (LRel.cut (by simpa using hl.2) h.tail)
  | [], _ :: _, _, h => by have := h.1; simp at this
  | _ :: _, [], _, h => by have := h.1; simp at this

theorem Ren.cut_le (ρ : Ren) (keep : Nat → Bool) : (ρ.cut keep).le ρ := fun _ _ h => (Ren.of_cut h).1

open Classical in
/-- What of the world the blocks of a list do not lie in. -/
def rawOf (ρ : Ren) (bl : Bl) (w : World) (k : Nat) : Option Obj := if ∃ b o e, (b, o) ∈ bl ∧ ρ b = some e ∧ o.live = true ∧ e.cb = k then none else w.heap[k]?

theorem rawOf_some {bl : Bl} {k : Nat} (hk : ∀ b o e, (b, o) ∈ bl → ρ b = some e → o.live = true → e.cb ≠ k) : rawOf ρ bl w k = w.heap[k]? := by
  unfold rawOf
  rw [if_neg]
  rintro ⟨b, o, e, h1, h2, h3, h4⟩
  exact hk b o e h1 h2 h3 h4

theorem rawOf_ne {bl : Bl} {k : Nat} {ob : Obj} (hk : rawOf ρ bl w k = some ob) : w.heap[k]? = some ob ∧ ∀ b o e, (b, o) ∈ bl → ρ b = some e → o.live = true → e.cb ≠ k := by
  unfold rawOf at hk
  split at hk
  · cases hk
  · rename_i hn; exact ⟨hk, fun b o e h1 h2 h3 h4 => hn ⟨b, o, e, h1, h2, h3, h4⟩⟩

/-- **What was run on some blocks alone holds on any heap that has them.** -/
theorem HPure.of {K : CallFn} (hK : KSim P K) {f : FuncId} {args : List Value} {bl : Bl} {N : Nat} {v : Value} {u1 : Rec} {h1 : AHeap} (hr : K (.fn f) args .no ⟨N, blTree bl⟩ = some (.ret v, u1, h1))
    (hb : blOk bl.has N bl = true) (h1b : hasAll h1 bl = true) (ha : args.all (vIn bl.has 6) = true) (hv : plain v = true) : HPure P f args bl v := by
  have hall := (hK _ _ _ _ _ _ _ hr).2
  have mem : ∀ {b o}, (⟨N, blTree bl⟩ : AHeap).get b = some o → (b, o) ∈ bl := fun h => blTree_mem h
  intro ρ h G w args' s hh hl
  have hkeep : ∀ {b o}, (b, o) ∈ bl → bl.has b = true := fun h => Bl.has_iff.2 ⟨_, h⟩
  have s0 : SR P (ρ.cut bl.has) ⟨N, blTree bl⟩ ⟨fun _ => none, fun b => G.ban b ∧ bl.has b = true, ⟨rawOf ρ bl w, w⟩⟩ w := by
    have wit : ∀ b o, (⟨N, blTree bl⟩ : AHeap).with ⟨fun _ => none, fun b => G.ban b ∧ bl.has b = true, ⟨rawOf ρ bl w, w⟩⟩ b = some o → (b, o) ∈ bl := fun b o hx => by
      unfold AHeap.with at hx
      split at hx
      · rename_i ho; cases hx; exact mem ho
      · cases hx
    refine ⟨⟨fun b o e hx he => ?_, fun b c o p e f hbc hx hy he hf => ?_⟩, fun b o hx => (blOk_mem hb (mem hx)).1, fun b e he => .inl ?_, fun b o e hx he => ?_, fun b hx => ⟨?_, ?_⟩, fun k ob hk => ⟨(rawOf_ne hk).1, fun b o e hx he hl _ => ?_⟩, EnvEq.refl w⟩
    · have hm := wit b o hx
      exact (s.obj (hasAll_get hh hm) (Ren.of_cut he).1).cut (blOk_mem hb hm).2.1
    · exact s.hr.apart b c o p e f hbc (AHeap.with_get (hasAll_get hh (wit b o hx)) G) (AHeap.with_get (hasAll_get hh (wit c p hy)) G) (Ren.of_cut he).1 (Ren.of_cut hf).1
    · obtain ⟨o, ho⟩ := Bl.has_iff.1 (Ren.of_cut he).2
      exact (blOk_mem hb ho).1
    · exact s.lt b o e (AHeap.with_get (hasAll_get hh (wit b o hx)) G) (Ren.of_cut he).1
    · obtain ⟨o, ho⟩ := Bl.has_iff.1 hx.2; exact (blOk_mem hb ho).1
    · have := (s.ban b hx.1).2
      simp [Ren.cut, this]
    · exact (rawOf_ne hk).2 b o e (wit b o hx) (Ren.of_cut he).1 hl
  obtain ⟨hgood, _, hcall, _⟩ := hall _ _ w args' s0 (fun b hb => by cases hb) (LRel.cut ha hl)
  refine ⟨hgood, (hcall rfl).mono fun e w1 ⟨ρ1, hle, s1, hend⟩ => ?_⟩
  cases e with
  | panicked c => exact hend.elim
  | outgrown => exact hend.elim
  | returned v' =>
    refine ⟨by rw [VRel.plain_inv hv hend], hv, fun b => if bl.has b then ρ1 b else ρ b, ?_, ?_⟩
    · intro b e he
      show (if bl.has b then ρ1 b else ρ b) = some e
      split
      · rename_i hk; exact hle _ _ (Ren.cut_some he hk)
      · exact he
    have hcl : (ρ1.cut bl.has).le (fun b => if bl.has b then ρ1 b else ρ b) := fun b e he => by
      have := Ren.of_cut he
      show (if bl.has b then ρ1 b else ρ b) = some e
      rw [if_pos this.2]; exact this.1
    have hr2 : ∀ {b e}, (if bl.has b then ρ1 b else ρ b) = some e → (∃ o, (b, o) ∈ bl) ∧ ρ1 b = some e ∨ bl.has b = false ∧ ρ b = some e := fun {b e} he => by
      by_cases hk : bl.has b = true
      · rw [if_pos hk] at he; exact .inl ⟨Bl.has_iff.1 hk, he⟩
      · rw [if_neg hk] at he; exact .inr ⟨by simpa using hk, he⟩
    have hold : ρ.le (fun b => if bl.has b then ρ1 b else ρ b) := fun b e he => by
      show (if bl.has b then ρ1 b else ρ b) = some e
      split
      · rename_i hk; exact hle _ _ (Ren.cut_some he hk)
      · exact he
    have inn : ∀ {b o p}, (b, o) ∈ bl → h.with G b = some p → p = o := fun hm hp => by
      rw [AHeap.with_get (hasAll_get hh hm) G] at hp; cases hp; rfl
    have w1h : ∀ {b o}, (b, o) ∈ bl → h1.with ⟨fun _ => none, fun b => G.ban b ∧ bl.has b = true, ⟨rawOf ρ bl w, w⟩⟩ b = some o := fun hm => AHeap.with_get (hasAll_get h1b hm) _
    -- what lies outside is raw
    have out : ∀ {b o e}, h.with G b = some o → bl.has b = false → ρ b = some e → o.live = true → ∃ ob, w.heap[e.cb]? = some ob ∧ rawOf ρ bl w e.cb = some ob := fun {b o e} hx hk he hl => by
      have hlt := s.lt b o e hx he hl
      refine ⟨w.heap[e.cb], Array.getElem?_eq_getElem hlt, ?_⟩
      rw [rawOf_some, Array.getElem?_eq_getElem hlt]
      intro c p f hm hf hl'
      have hne : c ≠ b := fun h => by rw [h] at hm; have := hkeep hm; rw [hk] at this; cases this
      exact s.hr.apart c b p o f e hne (AHeap.with_get (hasAll_get hh hm) G) hx hf he hl' hl (.inl (blOk_mem hb hm).2.2)
    have keepsame : ∀ {b o e}, h.with G b = some o → bl.has b = false → ρ b = some e → o.live = true → w1.heap[e.cb]? = w.heap[e.cb]? := fun hx hk he hl => by
      obtain ⟨ob, h2, h3⟩ := out hx hk he hl
      rw [h2]; exact (s1.raw _ ob h3).1
    refine ⟨⟨fun b o e hx he => ?_, fun b c o p e f hbc hx hy he hf hl1 hl2 hro => ?_⟩, s.wf, fun b e he => ?_, fun b o e hx he hlv => ?_, fun b hx => ⟨(s.ban b hx).1, ?_⟩, fun k ob hk => ?_, s.env.trans s1.env⟩
    · rcases hr2 he with ⟨⟨o', hm⟩, he'⟩ | ⟨hk, he'⟩
      · cases inn hm hx
        have := s1.hr.obj b _ e (w1h hm) he'
        refine (this.cut (blOk_mem hb hm).2.1).mono hcl (Same.of_heap fun _ => rfl)
      · exact (s.hr.obj b o e hx he').mono hold (Same.of_heap fun hl => keepsame hx hk he' hl)
    · rcases hr2 he with ⟨⟨o', hm⟩, he'⟩ | ⟨hk, he'⟩ <;> rcases hr2 hf with ⟨⟨p', hm2⟩, hf'⟩ | ⟨hk2, hf'⟩
      · cases inn hm hx; cases inn hm2 hy
        exact s1.hr.apart b c _ _ e f hbc (w1h hm) (w1h hm2) he' hf' hl1 hl2 hro
      · cases inn hm hx
        obtain ⟨ob, _, h3⟩ := out hy hk2 hf' hl2
        exact (s1.raw _ ob h3).2 b _ e (w1h hm) he' hl1 (blOk_mem hb hm).2.2
      · cases inn hm2 hy
        obtain ⟨ob, _, h3⟩ := out hx hk he' hl1
        exact fun heq => (s1.raw _ ob h3).2 c _ f (w1h hm2) hf' hl2 (blOk_mem hb hm2).2.2 heq.symm
      · exact s.hr.apart b c o p e f hbc hx hy he' hf' hl1 hl2 hro
    · rcases hr2 he with ⟨⟨o', hm⟩, he'⟩ | ⟨hk, he'⟩
      · exact .inl (s.wf b o' (hasAll_get hh hm))
      · exact s.dom b e he'
    · rcases hr2 he with ⟨⟨o', hm⟩, he'⟩ | ⟨hk, he'⟩
      · cases inn hm hx
        exact s1.lt b _ e (w1h hm) he' hlv
      · obtain ⟨ob, _, h3⟩ := out hx hk he' hlv
        exact (Array.getElem?_eq_some_iff.1 (s1.raw _ ob h3).1).1
    · show (if bl.has b then ρ1 b else ρ b) = none
      split
      · rename_i hk; exact (s1.ban b ⟨hx, hk⟩).2
      · exact (s.ban b hx).2
    · obtain ⟨r1, r2⟩ := s.raw k ob hk
      have h3 : rawOf ρ bl w k = some ob := by
        rw [rawOf_some, r1]
        intro b o e hm he hl
        exact r2 b o e (AHeap.with_get (hasAll_get hh hm) G) he hl (blOk_mem hb hm).2.2
      refine ⟨(s1.raw k ob h3).1, fun b o e hx he hl hro => ?_⟩
      rcases hr2 he with ⟨⟨o', hm⟩, he'⟩ | ⟨hk, he'⟩
      · cases inn hm hx
        exact (s1.raw k ob h3).2 b _ e (w1h hm) he' hl hro
      · exact r2 b o e hx he' hl hro

def veqLL : List Value → List Value → Bool
  | [], [] => true
  | x :: xs, y :: ys => veq x y && veqLL xs ys
  | _, _ => false

theorem veqLL_eq : ∀ {a b : List Value}, veqLL a b = true → a = b
  | [], [], _ => rfl
  | x :: xs, y :: ys, h => by
    simp only [veqLL, Bool.and_eq_true] at h
    rw [veq_eq h.1, veqLL_eq h.2]
  | [], _ :: _, h => by cases h
  | _ :: _, [], h => by cases h

/-- A table of such calls. -/
structure Ent where
  args : List Value
  bl : Bl
  v : Value

def findEnt (args : List Value) (h : AHeap) : List Ent → Option Value
  | [] => none
  | e :: l => if veqLL e.args args && hasAll h e.bl then some e.v else findEnt args h l

def TabOk (P : Program) (T : Tr (List Ent)) : Prop := ∀ f l, T.get f = some l → ∀ e ∈ l, HPure P f e.args e.bl e.v

def tabH (T : Tr (List Ent)) (K : CallFn) : CallFn := fun c args u h =>
  match c, u with
  | .fn f, .no => match T.get f with
    | some l => match findEnt args h l with
      | some v => some (.ret v, .no, h)
      | none => K (.fn f) args .no h
    | none => K (.fn f) args .no h
  | c, u => K c args u h

theorem findEnt_mem {args : List Value} {h : AHeap} {v : Value} : ∀ {l : List Ent}, findEnt args h l = some v → ∃ e ∈ l, e.args = args ∧ hasAll h e.bl = true ∧ e.v = v
  | [], hf => by cases hf
  | e :: l, hf => by
    unfold findEnt at hf
    split at hf
    · rename_i hc
      simp only [Bool.and_eq_true] at hc
      cases hf
      exact ⟨e, by simp, veqLL_eq hc.1, hc.2, rfl⟩
    · obtain ⟨e', h1, h2⟩ := findEnt_mem hf
      exact ⟨e', List.mem_cons_of_mem _ h1, h2⟩

theorem tabH_sim {T : Tr (List Ent)} (hT : TabOk P T) {K : CallFn} (hK : KSim P K) : KSim P (tabH T K) := by
  intro c args u h res u1 h1 hs
  unfold tabH at hs
  split at hs
  · rename_i f
    split at hs
    · rename_i l hl
      split at hs
      · rename_i v hv
        cases hs
        obtain ⟨e, he, rfl, hh, rfl⟩ := findEnt_mem hv
        have hp := hT f l hl e he
        refine ⟨Nat.le_refl _, fun ρ G w args' hsr hG hl => ?_⟩
        obtain ⟨h1, h2⟩ := hp ρ h G w args' hsr hh hl
        refine ⟨h1, trivial, fun _ => ?_, fun h => by cases h⟩
        refine h2.mono fun e' w1 ⟨he, hpl, ρ2, h3, h4⟩ => ⟨ρ2, h3, h4, ?_⟩
        subst he; exact VRel.plain hpl
      · exact hK _ _ _ _ _ _ _ hs
    · exact hK _ _ _ _ _ _ _ hs
  · exact hK _ _ _ _ _ _ _ hs

/-- Calls, with a table. -/
def callH (S : ASys) (T : Tr (List Ent)) : Nat → CallFn
  | 0 => fun _ _ _ _ => none
  | n + 1 => tabH T (callS S n (callH S T n))

theorem callH_sim {S : ASys} {T : Tr (List Ent)} (hm : P.follows .mixedOrders = true) (hS : ∀ f af, S.fns.get f = some af → cFn P f = some af) (hT : TabOk P T) : ∀ n, KSim P (callH S T n)
  | 0 => by intro c args u h res u1 h1 hs; cases hs
  | n + 1 => tabH_sim hT (callS_sim hS (fun _ hK => drawn_ok hm hK) n (callH_sim hm hS hT n))

theorem TabOk.nil : TabOk P .nil := fun f l h => by simp [Tr.get] at h

theorem TabOk.put {T : Tr (List Ent)} (hT : TabOk P T) {f : FuncId} {l : List Ent} (hl : ∀ e ∈ l, HPure P f e.args e.bl e.v) : TabOk P (T.put f l) := by
  intro g l' hg
  rw [Tr.get_put] at hg
  split at hg
  · rename_i h; cases hg; subst h; exact hl
  · exact hT g l' hg

end
end Go.Proofs.YtbejfgpeledcjaaGreat.A
namespace Go.Proofs.YtbejfgpeledcjaaGreat.A
noncomputable section
open Go

variable {P : Program}

def veqP : Value → Value → Bool
  | .tuple ⟨a⟩, .tuple ⟨b⟩ => veqLL a b
  | a, b => veq a b

theorem veqP_eq {a b : Value} (h : veqP a b = true) : a = b := by
  unfold veqP at h
  split at h
  · rw [veqLL_eq h]
  · exact veq_eq h

def runsTo (r : Option (Res × Rec × AHeap)) (v : Value) (bl : Bl) : Bool :=
  match r with
  | some (.ret v', _, h1) => veqP v' v && hasAll h1 bl
  | _ => false

theorem HPure.of_runs {K : CallFn} (hK : KSim P K) {f : FuncId} {args : List Value} {bl : Bl} {N : Nat} {v : Value} (hr : runsTo (K (.fn f) args .no ⟨N, blTree bl⟩) v bl = true)
    (hb : (blOk bl.has N bl && args.all (vIn bl.has 6) && plain v) = true) : HPure P f args bl v := by
  simp only [Bool.and_eq_true] at hb
  unfold runsTo at hr
  split at hr
  · rename_i v' u h1 hk
    simp only [Bool.and_eq_true] at hr
    rw [veqP_eq hr.1] at hk
    exact HPure.of hK hk hb.1.1 hr.2 hb.1.2 hb.2
  · cases hr

end
end Go.Proofs.YtbejfgpeledcjaaGreat.A
