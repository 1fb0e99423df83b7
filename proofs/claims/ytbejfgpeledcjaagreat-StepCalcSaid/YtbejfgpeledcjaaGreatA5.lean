/- Code and calls of the abstract machine are simulated by the model's, but for regions of open order. -/
import Derived.Test.YtbejfgpeledcjaaGreatA4
import Derived.RangeFuncRecord
import Derived.RangeFuncNested
import Derived.RangeFuncLeaves
import Derived.AtR
set_option linter.unusedVariables false
set_option linter.unusedSimpArgs false
namespace Go.Proofs.YtbejfgpeledcjaaGreat.A
noncomputable section
open Go

variable {P : Program} {ρ : Ren} {h h1 : AHeap} {G : Bes} {w : World} {t : Tr Value} {a : Act} {v : Value}

def KNext (K : CallFn) : Prop := ∀ c args u h res u1 h1, K c args u h = some (res, u1, h1) → h.next ≤ h1.next

theorem opStep_next {K : CallFn} (hK : KNext K) {o : AOper} {s s1 : St} {e : Ex} (hs : opStep K o s = some (e, s1)) : s.h.next ≤ s1.h.next := by
  unfold opStep at hs
  split at hs
  · cases hs
  · rename_i ha; cases hs; exact aop_next ha
  · split at hs
    · rename_i hk; cases hs; exact hK _ _ _ _ _ _ _ hk
    · rename_i hk; cases hs; exact hK _ _ _ _ _ _ _ hk
    · cases hs
  · split at hs <;> cases hs; exact Nat.le_refl _
  · cases hs; exact Nat.le_refl _
  · split at hs <;> cases hs <;> exact Nat.le_refl _

theorem opsRun_next {K : CallFn} (hK : KNext K) : ∀ (l : List AOper) {s s1 : St} {e : Ex}, opsRun K l s = some (e, s1) → s.h.next ≤ s1.h.next
  | [], s, s1, e, hs => by cases hs; exact Nat.le_refl _
  | o :: rest, s, s1, e, hs => by
    simp only [opsRun] at hs
    split at hs
    · cases hs
    · exact opsRun_next hK rest (s := { s with t := putT s.t o.dst blank }) hs
    · split at hs
      · rename_i s' ho; exact Nat.le_trans (opStep_next hK ho) (opsRun_next hK rest hs)
      · exact opStep_next hK hs

theorem drawnRun_next {K : CallFn} (hK : KNext K) (all : List AOper) : ∀ (l : List AOper) {k : Nat} {hs' : List AHeap} {rs : List DChk} {s s1 : St} {e : Ex}, drawnRun K all l k s hs' rs = some (e, s1) → s.h.next ≤ s1.h.next
  | [], k, hs', rs, s, s1, e, hs => by
    simp only [drawnRun] at hs
    split at hs <;> cases hs; exact Nat.le_refl _
  | o :: rest, k, hs', rs, s, s1, e, hs => by
    simp only [drawnRun] at hs
    split at hs
    · cases hs
    · exact drawnRun_next hK all rest (s := { s with t := putT s.t o.dst blank }) hs
    · split at hs
      · split at hs
        · rename_i s' ho; exact Nat.le_trans (opStep_next hK ho) (drawnRun_next hK all rest hs)
        · rename_i v s' ho; split at hs <;> cases hs; exact opStep_next (s1 := s') hK ho
        · cases hs
      · split at hs
        · rename_i v h' ho; exact Nat.le_trans (aop_next ho) (drawnRun_next hK all rest (s := { s with t := putT s.t o.dst v, h := h' }) hs)
        · cases hs
      · split at hs
        · rename_i v h' ho
          split at hs
          · exact Nat.le_trans (aop_next ho) (drawnRun_next hK all rest (s := { s with t := putT s.t o.dst v, h := h' }) hs)
          · cases hs
        · cases hs
      · split at hs
        · rename_i v h' ho; exact Nat.le_trans (aop_next ho) (drawnRun_next hK all rest (s := { s with t := putT s.t o.dst v, h := h' }) hs)
        · cases hs

theorem loopN_next {f : St → Option (Ex × St)} (hf : ∀ s s1 e, f s = some (e, s1) → s.h.next ≤ s1.h.next) : ∀ (n : Nat) {s s1 : St} {e : Ex}, loopN f n s = some (e, s1) → s.h.next ≤ s1.h.next
  | 0, _, _, _, hs => by cases hs
  | n + 1, s, s1, e, hs => by
    simp only [loopN] at hs
    split at hs
    · rename_i s' h1; exact Nat.le_trans (hf _ _ _ h1) (loopN_next hf n hs)
    · exact hf _ _ _ hs

theorem enterA_next {ro : Option Nat} {s : St} {ps : List Tmp} {as bo : ACode} {l : Nat} {ds : List ADef} {h1 : AHeap} (he : enterA ro s ps as bo = some (l, ds, h1)) : s.h.next ≤ h1.next := by
  unfold enterA at he
  split at he
  · cases he; simp; omega
  · split at he <;> cases he; simp

theorem exec_next {K : CallFn} (hK : KNext K) (n : Nat) (ro : Option Nat) : ∀ (c : ACode) {s s1 : St} {e : Ex}, exec K n ro c s = some (e, s1) → s.h.next ≤ s1.h.next := by
  intro c
  induction c with
  | skip => intro s s1 e hs; cases hs; exact Nat.le_refl _
  | region ops => intro s s1 e hs; exact opsRun_next hK _ hs
  | drawn ops => intro s s1 e hs; exact drawnRun_next hK _ _ hs
  | seq x y ihx ihy =>
    intro s s1 e hs
    simp only [exec] at hs
    split at hs
    · rename_i s' h1; exact Nat.le_trans (ihx h1) (ihy hs)
    · exact ihx hs
  | cond c x y ihx ihy =>
    intro s s1 e hs
    simp only [exec] at hs
    split at hs
    · exact ihx hs
    · exact ihy hs
    · cases hs
  | block id b ih =>
    intro s s1 e hs
    simp only [exec] at hs
    split at hs
    · rename_i i s' h1; split at hs <;> cases hs <;> exact ih h1
    · exact ih hs
  | loop b ih => intro s s1 e hs; exact loopN_next (fun _ _ _ h => ih h) n hs
  | rangeFunc f ps as bo iha ihb =>
    intro s s1 e hs
    simp only [exec] at hs
    split at hs
    · rename_i g first cap l ds h0 hev hent
      split at hs
      · rename_i h' hk
        split at hs
        · split at hs <;> cases hs
          have h9 := hK _ _ _ _ _ _ _ hk
          exact Nat.le_trans (enterA_next hent) h9
        · cases hs
      · rename_i hk; cases hs; exact Nat.le_trans (enterA_next hent) (hK _ _ _ _ _ _ _ hk)
      · cases hs
    · cases hs
  | exit id => intro s s1 e hs; cases hs; exact Nat.le_refl _
  | ret => intro s s1 e hs; cases hs; exact Nat.le_refl _

theorem leave_next {K : CallFn} (hK : KNext K) (rs : List ARes) : ∀ (n : Nat) {u : Rec} {s : St} {r : Res} {h1 : AHeap}, leave K rs n u s = some (r, h1) → s.h.next ≤ h1.next
  | 0, _, _, _, _, hs => by cases hs
  | n + 1, u, s, r, h1, hs => by
    simp only [leave] at hs
    split at hs
    · split at hs
      · obtain ⟨v, _, he⟩ := isSomeMap hs; cases he; exact Nat.le_refl _
      · cases hs; exact Nat.le_refl _
      · cases hs
    · split at hs
      · rename_i ds _ b hg
        have := leave_next hK rs n (s := { s with ds := _, h := s.h.put _ (.defers true) }) hs
        exact this
      · cases hs
    · split at hs
      · rename_i ds _ x u' h2 hk
        have h0 := hK _ _ _ _ _ _ _ hk
        split at hs
        · exact Nat.le_trans h0 (leave_next hK rs n (s := { s with ds := _, h := h2 }) hs)
        · exact Nat.le_trans h0 (leave_next hK rs n (s := { s with ds := _, h := h2 }) hs)
      · cases hs

theorem roundA_next {K : CallFn} (hK : KNext K) {n l : Nat} {r : ALoop} {args : List Value} {h : AHeap} {res : Res} {u1 : Rec} {h1 : AHeap} (hs : roundA K n l r args h = some (res, u1, h1)) : h.next ≤ h1.next := by
  unfold roundA at hs
  split at hs
  · split at hs
    · rename_i s1 he
      split at hs
      · rename_i r1 hds hl
        split at hs
        · split at hs
          · rename_i e s2 he2
            have g1 := exec_next hK n _ _ he
            have g2 := exec_next hK n _ _ he2
            have g3 : s2.h.next ≤ h1.next := by
              unfold endRoundA at hs
              (repeat' split at hs) <;> cases hs <;> exact Nat.le_refl _
            exact Nat.le_trans g1 (Nat.le_trans g2 g3)
          · cases hs
        · cases hs
      · cases hs
    · cases hs
  · cases hs

theorem callN_next (S : ASys) : ∀ n, KNext (callN S n)
  | 0 => by intro c args u h res u1 h1 hs; cases hs
  | n + 1 => by
    have hK := callN_next S n
    intro c args u h res u1 h1 hs
    simp only [callN] at hs
    split at hs
    · split at hs
      · cases hs
      · rename_i fn hfn
        split at hs
        · split at hs
          · rename_i s he
            obtain ⟨⟨r, h2⟩, hl, h3⟩ := isSomeMap hs; cases h3
            exact Nat.le_trans (exec_next hK n _ _ he) (leave_next hK _ _ hl)
          · rename_i s he
            obtain ⟨⟨r, h2⟩, hl, h3⟩ := isSomeMap hs; cases h3
            exact Nat.le_trans (exec_next hK n _ _ he) (leave_next hK _ _ hl)
          · rename_i s he
            obtain ⟨⟨r, h2⟩, hl, h3⟩ := isSomeMap hs; cases h3
            exact Nat.le_trans (exec_next hK n _ _ he) (leave_next hK _ _ hl)
          · cases hs
        · cases hs
    · split at hs
      · exact roundA_next hK hs
      · cases hs

/-- An operation of the abstract machine's is one of the program's. -/
structure CO (P : Program) (nt : Nat) (all : List Oper) (o : Oper) (ao : AOper) : Prop where
  op : cOp P o.op = some ao.op
  ok : ao.op.ok = true
  dst : ao.dst = o.dst
  guard : cGuard all o.guard = some ao.guard
  lt : ∀ d, o.dst = some d → d < nt

theorem cOpers_get {nt : Nat} {all : List Oper} : ∀ {l : List Oper} {r : List AOper}, cOpers P nt all l = some r → r.length = l.length ∧ ∀ (i : Nat) (o : Oper) (ao : AOper), l[i]? = some o → r[i]? = some ao → CO P nt all o ao
  | [], r, hc => by cases hc; exact ⟨rfl, fun i o ao h => by simp at h⟩
  | o :: rest, r, hc => by
    simp only [cOpers] at hc
    split at hc
    · rename_i op g l' h1 h2 h3
      split at hc
      · rename_i hcond
        cases hc
        obtain ⟨q1, q2⟩ := cOpers_get h3
        refine ⟨by simp [q1], fun i x ao hx hao => ?_⟩
        cases i with
        | zero =>
          simp at hx hao; subst hx; subst hao
          simp only [Bool.and_eq_true] at hcond
          refine ⟨h1, hcond.2, rfl, h2, fun d hd => ?_⟩
          have := hcond.1; rw [hd] at this; simpa using this
        | succ i => simp at hx hao; exact q2 i x ao hx hao
      · cases hc
    · cases hc

theorem wanted_rel' {nt : Nat} {ops : Array Oper} {o : Oper} {ao : AOper} (hc : CO P nt ops.toList o ao) {s : Tr Value} (ht : ∀ d want, ao.guard = some (d, want) → VRel ρ ((s.get d).getD blank) (a.tmps.getD d undef)) {r : Bool} (hw : wantedA s ao = some r) :
    Region.wanted o (yielded ops a.tmps) = r := by
  have hg := hc.guard
  unfold cGuard at hg
  unfold wantedA at hw
  unfold Region.wanted
  split at hg
  · rename_i h0
    simp only [Option.some.injEq] at hg
    rw [← hg] at hw; simp at hw; rw [h0]; subst hw; rfl
  · rename_i j want h0
    split at hg
    · rename_i d hd
      simp only [Option.some.injEq] at hg
      rw [← hg] at hw
      simp only at hw
      rw [h0]
      simp only [Array.getElem?_toList] at hd
      simp only [yielded, hd, Option.bind_some]
      have hrel := ht d want hg.symm
      have hget : a.tmps.getD d undef = (a.tmps[d]?).getD undef := by simp [Array.getD_eq_getD_getElem?]
      rw [hget] at hrel
      cases hs : s.get d with
      | none =>
        rw [hs] at hw hrel
        simp at hw; subst hw
        simp only [Option.getD_none] at hrel
        cases hcv : a.tmps[d]? with
        | none => rfl
        | some cv =>
          rw [hcv] at hrel
          simp only [Option.getD_some] at hrel
          cases hrel; rfl
      | some x =>
        rw [hs] at hw hrel
        simp only [Option.getD_some] at hrel
        split at hw
        · rename_i x' b heq
          cases heq
          simp only [Option.some.injEq] at hw
          cases hcv : a.tmps[d]? with
          | none => rw [hcv] at hrel; cases hrel
          | some cv =>
            rw [hcv] at hrel
            simp only [Option.getD_some] at hrel
            cases hrel
            simp only [← hw]
            cases b <;> cases want <;> rfl
        · cases hw
        · rename_i x' hnb hnp
          simp only [Option.some.injEq] at hw
          subst hw
          cases hcv : a.tmps[d]? with
          | none => rfl
          | some cv =>
            rw [hcv] at hrel
            simp only [Option.getD_some] at hrel
            cases cv with
            | bool b =>
              exfalso
              cases hrel with
              | poison => exact hnp rfl
              | bool => exact hnb _ rfl
            | _ => rfl
    · cases hg

theorem wanted_rel {nt : Nat} {ops : Array Oper} {o : Oper} {ao : AOper} (hc : CO P nt ops.toList o ao) {s : Tr Value} (ht : TRel ρ s a.tmps) {r : Bool} (hw : wantedA s ao = some r) :
    Region.wanted o (yielded ops a.tmps) = r := wanted_rel' hc (fun d _ _ => ht d) hw

theorem CO.ord {nt : Nat} {all : List Oper} {o : Oper} {ao : AOper} (hc : CO P nt all o ao) {s : Tr Value} (ht : TRel ρ s a.tmps) : ORd ρ s a ao.op.opds := by
  intro x hx
  have := hc.ok
  simp only [AOp.ok, Bool.and_eq_true] at this
  exact ht.ev (List.all_eq_true.1 this.1.1 x hx)

/-- What running a piece of code comes to. -/
def Out (P : Program) (ρ : Ren) (G : Bes) (ro : Option Nat) (nt : Nat) (b : Frame) (k : List Item) (cs : List Frame) (m : Machine) (s : St) (e : Ex) (s1 : St) : Prop :=
  ∃ ρ1 a1 cs1 w1 e', ρ.le ρ1 ∧ FR P ρ1 G ro nt s1 b a1 cs1 w1 ∧ ExRel ρ1 e e' ∧ CsTo s.u.isNo cs cs1 ∧ s1.u.isNo = s.u.isNo ∧ Arr P m b k cs1 e' a1 w1

theorem opsRun_sim {K : CallFn} (hK : KSim P K) {ro : Option Nat} {nt : Nat} {ops : Array Oper} {b : Frame} {k : List Item} : ∀ (l : List AOper) (i : Nat),
    (∀ j ao, l[j]? = some ao → ∃ o, ops[i + j]? = some o ∧ CO P nt ops.toList o ao) →
    ∀ {ρ : Ren} {cs : List Frame} {s s1 : St} {e : Ex} {a : Act} {w : World}, opsRun K l s = some (e, s1) → Beside G s1.h.next → FR P ρ G ro nt s b a cs w →
    Out P ρ G ro nt b k cs (lone (fat b a (.inRegion ops (List.range' i l.length) :: k)) cs w) s e s1
  | [], i, _, ρ, cs, s, s1, e, a, w, hs, _, hfr => by
    cases hs
    exact ⟨ρ, a, cs, w, .norm, .refl _, hfr, trivial, .refl _ _, rfl, .one fstep_region_end⟩
  | ao :: rest, i, hall, ρ, cs, s, s1, e, a, w, hs, hG, hfr => by
    have hKN : KNext K := fun c args u h res u1 h1 hk => (hK c args u h res u1 h1 hk).1
    obtain ⟨o, ho, hco⟩ := hall 0 ao (by simp)
    simp only [Nat.add_zero] at ho
    have hrest : ∀ j ao, rest[j]? = some ao → ∃ o, ops[i + 1 + j]? = some o ∧ CO P nt ops.toList o ao := fun j x hx => by
      obtain ⟨o', h1, h2⟩ := hall (j + 1) x (by simpa using hx)
      exact ⟨o', by rw [← h1]; congr 1; omega, h2⟩
    have hrg : List.range' i (ao :: rest).length = i :: List.range' (i + 1) rest.length := by simp [List.range'_succ]
    rw [hrg]
    have hdlt : ∀ d, o.dst = some d → d < a.tmps.size := fun d hd => by rw [hfr.size]; exact hco.lt d hd
    simp only [opsRun] at hs
    split at hs
    · cases hs
    · rename_i hw
      have hwc := wanted_rel hco hfr.t hw
      have hstep := fstep_op_skip (P := P) (b := b) (a := a) (k := k) (cs := cs) (w := w) (ops := ops) (i := i) (rest := List.range' (i + 1) rest.length) (by simp [ho, hwc])
      simp only [ho, Option.bind_some] at hstep
      have hfr' : FR P ρ G ro nt { s with t := putT s.t ao.dst blank } b (a.put o.dst undef) cs w :=
        { sr := hfr.sr, t := by rw [hco.dst]; exact hfr.t.put (.blank ρ) hdlt, size := by rw [put_size]; exact hfr.size, ds := by rw [put_defers]; exact hfr.ds, u := hfr.u, ro := hfr.ro.mono (.refl _) rfl, fn := hfr.fn }
      obtain ⟨ρ1, a1, cs1, w1, e', h1, h2, h3, h4, h5, h6⟩ := opsRun_sim hK rest (i + 1) hrest hs hG hfr'
      exact ⟨ρ1, a1, cs1, w1, e', h1, h2, h3, h4, h5, .of_steps (.one hstep) h6⟩
    · rename_i hw
      have hwc := wanted_rel hco hfr.t hw
      split at hs
      · rename_i s' hop
        have hG' := hG.le (opsRun_next hKN rest hs)
        obtain ⟨_, hout⟩ := opStep_sim (k := k) (rest := List.range' (i + 1) rest.length) hK ho hco.op hco.ok hco.dst hop hwc hfr.sr (hco.ord hfr.t) hfr.ds hfr.u hfr.ro hG'
        obtain ⟨v, v', ds', ρ1, cs1, w1, g1, g2, g3, g4, g5, g6, g7, g8, g9, g10⟩ := hout
        have hfr' : FR P ρ1 G ro nt s' b ({ a with defers := ds' }.put o.dst v') cs1 w1 :=
          { sr := g5, t := by rw [g1, hco.dst]; exact TRel.put (b := { a with defers := ds' }) (hfr.t.mono g3) g2 hdlt, size := by rw [put_size]; exact hfr.size, ds := by rw [put_defers]; exact g6, u := g7, ro := hfr.ro.mono g3 g8, fn := hfr.fn }
        obtain ⟨ρ2, a2, cs2, w2, e', h1, h2, h3, h4, h5, h6⟩ := opsRun_sim hK rest (i + 1) hrest hs hG hfr'
        exact ⟨ρ2, a2, cs2, w2, e', g3.trans h1, h2, h3, g9.trans (g10 ▸ h4), h5.trans g10, .of_steps g4 h6⟩
      · rename_i r hno
        obtain ⟨_, hout⟩ := opStep_sim (k := k) (rest := List.range' (i + 1) rest.length) hK ho hco.op hco.ok hco.dst hs hwc hfr.sr (hco.ord hfr.t) hfr.ds hfr.u hfr.ro hG
        cases e with
        | norm => exact absurd hs (hno s1)
        | exit id => exact hout.elim
        | ret => exact hout.elim
        | pan v =>
          obtain ⟨g1, g2, g3, g4, v', ρ1, w1, todo, g5, g6, g7, g8⟩ := hout
          refine ⟨ρ1, a, cs, w1, .pan v', g6, ⟨g8, by rw [g1]; exact hfr.t.mono g6, hfr.size, by rw [g2]; exact hfr.ds.mono g6, by rw [g3]; exact hfr.u.mono g6, hfr.ro.mono g6 g4, hfr.fn⟩, g5, .refl _ _, by rw [g3], todo, g7⟩

theorem region_sim {K : CallFn} (hK : KSim P K) {ro : Option Nat} {nt id : Nat} {ops : Array Oper} {b : Frame} {k : List Item} {l : List AOper} (hl : cOpers P nt ops.toList ops.toList = some l)
    {ρ : Ren} {cs : List Frame} {s s1 : St} {e : Ex} {a : Act} {w : World} (hs : opsRun K l s = some (e, s1)) (hG : Beside G s1.h.next) (hfr : FR P ρ G ro nt s b a cs w) :
    Out P ρ G ro nt b k cs (lone (fat b a (.code (.region id ops false) :: k)) cs w) s e s1 := by
  obtain ⟨h1, h2⟩ := cOpers_get hl
  have := opsRun_sim (k := k) hK l 0 (fun j ao hj => by
    have hlt : j < ops.toList.length := by rw [← h1]; exact (List.getElem?_eq_some_iff.1 hj).1
    refine ⟨ops.toList[j], ?_, h2 j _ ao (List.getElem?_eq_getElem hlt) hj⟩
    simp) hs hG hfr
  obtain ⟨ρ1, a1, cs1, w1, e', g1, g2, g3, g4, g5, g6⟩ := this
  refine ⟨ρ1, a1, cs1, w1, e', g1, g2, g3, g4, g5, .of_steps (.one fstep_region) ?_⟩
  have : List.range ops.size = List.range' 0 l.length := by rw [h1, List.range_eq_range']; simp
  rw [this]; exact g6

end
end Go.Proofs.YtbejfgpeledcjaaGreat.A
namespace Go.Proofs.YtbejfgpeledcjaaGreat.A
noncomputable section
open Go

variable {P : Program} {ρ : Ren} {h h1 : AHeap} {G : Bes} {w : World} {t : Tr Value} {a : Act} {v : Value}

theorem CsTo.of_eq {n m : Bool} {a b : List Frame} (h : CsTo n a b) (e : n = m) : CsTo m a b := e ▸ h

/-- One piece of code after another. -/
theorem Out.bind {ro : Option Nat} {nt : Nat} {b : Frame} {k k' : List Item} {cs : List Frame} {m : Machine} {s s1 s2 : St} {e : Ex}
    (h : Out P ρ G ro nt b k' cs m s .norm s1)
    (hk : ∀ (ρ1 : Ren) (a1 : Act) (cs1 : List Frame) (w1 : World), FR P ρ1 G ro nt s1 b a1 cs1 w1 → Out P ρ1 G ro nt b k cs1 (lone (fat b a1 k') cs1 w1) s1 e s2) :
    Out P ρ G ro nt b k cs m s e s2 := by
  obtain ⟨ρ1, a1, cs1, w1, e', g1, g2, g3, g4, g5, g6⟩ := h
  cases e' with
  | norm =>
    obtain ⟨ρ2, a2, cs2, w2, e2, q1, q2, q3, q4, q5, q6⟩ := hk ρ1 a1 cs1 w1 g2
    exact ⟨ρ2, a2, cs2, w2, e2, g1.trans q1, q2, q3, g4.trans (g5 ▸ q4), q5.trans g5, .of_steps g6 q6⟩
  | exit => exact g3.elim
  | ret => exact g3.elim
  | pan => exact g3.elim

/-- How it ends if not normally: what lies between is left. -/
theorem Out.pass {ro : Option Nat} {nt : Nat} {b : Frame} {k k' : List Item} {cs : List Frame} {m : Machine} {s s1 : St} {e : Ex}
    (hn : e ≠ .norm) (hx : ∀ id, e = .exit id → exitTo id k' = exitTo id k) (h : Out P ρ G ro nt b k' cs m s e s1) : Out P ρ G ro nt b k cs m s e s1 := by
  obtain ⟨ρ1, a1, cs1, w1, e', g1, g2, g3, g4, g5, g6⟩ := h
  refine ⟨ρ1, a1, cs1, w1, e', g1, g2, g3, g4, g5, ?_⟩
  cases e <;> cases e' <;> simp only [ExRel] at g3 <;> first | exact absurd rfl hn | exact g6 | skip
  rename_i i j
  subst g3
  obtain ⟨k0, q1, q2⟩ := g6
  exact ⟨k0, q1, q2.trans (hx _ rfl)⟩

theorem Out.steps {ro : Option Nat} {nt : Nat} {b : Frame} {k : List Item} {cs : List Frame} {m m1 : Machine} {s s1 : St} {e : Ex} (hs : Steps P m m1) (h : Out P ρ G ro nt b k cs m1 s e s1) : Out P ρ G ro nt b k cs m s e s1 := by
  obtain ⟨ρ1, a1, cs1, w1, e', g1, g2, g3, g4, g5, g6⟩ := h
  exact ⟨ρ1, a1, cs1, w1, e', g1, g2, g3, g4, g5, .of_steps hs g6⟩

theorem Out.here {ro : Option Nat} {nt : Nat} {b : Frame} {k : List Item} {cs : List Frame} {m : Machine} {s : St} (hf : FR P ρ G ro nt s b a cs w) (hs : Steps P m (lone (fat b a k) cs w)) : Out P ρ G ro nt b k cs m s .norm s :=
  ⟨ρ, a, cs, w, .norm, .refl _, hf, trivial, .refl _ _, rfl, hs⟩

/-- Regions whose order is open. -/
def DrawnOk (P : Program) (K : CallFn) : Prop :=
  ∀ (ro : Option Nat) (nt id : Nat) (ops : Array Oper) (b : Frame) (k : List Item) (l : List AOper), cDrawn P nt ops.toList = some l →
    ∀ (ρ : Ren) (G : Bes) (cs : List Frame) (s s1 : St) (e : Ex) (a : Act) (w : World), drawnRun K l l 0 s [] [] = some (e, s1) → Beside G s1.h.next → FR P ρ G ro nt s b a cs w →
    Out P ρ G ro nt b k cs (lone (fat b a (.code (.region id ops true) :: k)) cs w) s e s1

theorem TRel.ev_bool {s : Tr Value} (hs : TRel ρ s a.tmps) {x : Operand} {r : Bool} (hx : A.ev s x = .bool r) : a.eval x = .bool r := by
  cases x with
  | tmp i =>
    have := hs i
    simp only [A.ev] at hx
    rw [hx] at this
    simp only [Act.eval]
    generalize hv : a.tmps.getD i undef = v at this
    cases this; rfl
  | const v => exact hx
  | global g => cases hx
  | func f => cases hx

theorem fstep_rangeFunc {b : Frame} {k : List Item} {cs : List Frame} {g : Operand} {ps : Array Tmp} {assign body : Code} {l : Nat} {mark : List Deferred} {w₁ w₁' w₂ : World} {d : Deferred} {f : FuncId} {args : Array Value}
    (he : (Instr.enterLoop b.fn a.tmps ps assign body b.roundOf).run P w = .ok (l, mark) w₁)
    (hres : (resolve a.eval (rangeCall g l) 0).run P w₁ = .ok d w₁') (hinv : (invoke d.target d.args).run P w₁' = .ok (.enter f args) w₂) :
    step P (lone (fat b a (.code (.rangeFunc g ps assign body) :: k)) cs w) =
      .next (lone (Frame.enter P f args .normal) (fat b { a with defers := mark ++ a.defers } (.inRangeFunc l :: k) :: cs) w₂) :=
  step_lone_go (by
    have hev := eval_fat b { a with defers := mark ++ a.defers } (.inRangeFunc l :: k)
    simp only [fat] at hev
    have hres' : Sem.run P (resolve ({ tmps := a.tmps, defers := mark ++ a.defers } : Act).eval { callee := .value g, args := #[.const (.func (.yield l) #[] #[])], argTypes := #[] } 0) w₁ = .ok d w₁' := hres
    simp [stepG, stepG.exec, fat, Sem.runT_eq, he, GStep.bare_after, stepG.apply, hev, Sem.run_bind, hres', hinv, Result.andThen])

theorem fstep_endRangeFunc {b : Frame} {k : List Item} {cs : List Frame} {l : Nat} {jump : Option Code} {w' : World} (h : (Instr.endLoop l).run P w = .ok jump w') :
    step P (lone (fat b a (.endRangeFunc l :: k)) cs w) = .next (lone (fat b a ((jump.map Item.code).toList ++ k)) cs w') :=
  step_lone_go (by simp [stepG, stepG.exec, fat, Sem.runT_eq, h, GStep.bare_after])

theorem finish_fat_range {b : Frame} {k : List Item} (l : Nat) (v : Value) : (fat b a (.inRangeFunc l :: k)).finish v = fat b a (.endRangeFunc l :: k) := by
  simp [Frame.finish, fat]

theorem enterA_sim {ro : Option Nat} {nt : Nat} {s : St} {b : Frame} {cs : List Frame} {ps : Array Tmp} {as bo : Code} {aa ab : ACode} {l : Nat} {ds : List ADef} {h0 : AHeap} (hf : FR P ρ G ro nt s b a cs w)
    (hent : enterA ro s ps.toList aa ab = some (l, ds, h0)) (hG : Beside G h0.next) (ha : cCode P nt as = some aa) (hb : cCode P nt bo = some ab) (hps : ∀ p ∈ ps.toList, p < nt) :
    ∃ ρ0 w0 mark em, ρ.le ρ0 ∧ ρ0 l = some em ∧ (Instr.enterLoop b.fn a.tmps ps as bo b.roundOf).run P w = .ok (em.cb, mark) w0 ∧ SR P ρ0 h0 G w0 ∧ DsRel ρ0 ds (mark ++ a.defers) := by
  unfold enterA at hent
  split at hent
  · cases hent
    have hro : b.roundOf = none := hf.ro.1
    have hG1 : Beside G (s.h.next + 1) := hG.le (by simp)
    obtain ⟨l1, s1⟩ := hf.sr.alloc hG1 (Nat.lt_succ_self _) (o := .defers false) (e := ⟨w.heap.size, 0, 1, 1⟩) rfl (ob := .deferred (some [])) ⟨rfl, rfl, World.alloc_heap_new w _⟩
    have hG2 : Beside G (s.h.next + 2) := hG.le (by simp)
    obtain ⟨l2, s2⟩ := s1.alloc (n := s.h.next + 2) hG2 (by simp) (o := .loop { st := .ready, pend := none, tmps := s.t, params := ps.toList, assign := aa, body := ab }) (e := ⟨(w.alloc (.deferred (some []))).heap.size, 0, 1, 1⟩) rfl
      (ob := .loop { state := .ready, pending := none, fn := b.fn, tmps := a.tmps, params := ps, assign := as, body := bo, defers := w.heap.size })
      ⟨rfl, rfl, _, World.alloc_heap_new _ _, ⟨trivial, trivial, hf.t.mono (l1.trans (Ren.le_add _ (s1.fresh hG2 (by simp)))), rfl, fun p hp => by rw [hf.size]; exact hps p hp, by rw [hf.size]; exact ha, by rw [hf.size]; exact hb, hf.fn⟩⟩
    refine ⟨_, _, [{ target := .collected w.heap.size, args := #[] }], ⟨(w.alloc (.deferred (some []))).heap.size, 0, 1, 1⟩, l1.trans l2, Ren.add_same _ _ _, ?_, s2, ?_⟩
    · rw [hro, run_enterLoop_outer]; simp only [World.size_alloc]
    · exact ⟨⟨_, l2 _ _ (Ren.add_same _ _ _), rfl⟩, hf.ds.mono (l1.trans l2)⟩
  · rename_i lo
    split at hent
    · rename_i r hl
      cases hent
      obtain ⟨hrd, e, he, hro⟩ := hf.ro
      unfold loopOf at hl
      split at hl
      · rename_i r' hg
        cases hl
        obtain ⟨h0', h1', lp, hh, hlr⟩ := hf.sr.obj hg he
        have hG1 : Beside G (s.h.next + 1) := hG.le (by simp)
        obtain ⟨l2, s2⟩ := hf.sr.alloc hG1 (by simp) (o := .loop { st := .ready, pend := none, tmps := s.t, params := ps.toList, assign := aa, body := ab }) (e := ⟨w.heap.size, 0, 1, 1⟩) rfl
          (ob := .loop { state := .ready, pending := none, fn := b.fn, tmps := a.tmps, params := ps, assign := as, body := bo, defers := lp.defers })
          ⟨rfl, rfl, _, World.alloc_heap_new _ _, ⟨trivial, trivial, hf.t.mono (Ren.le_add _ (hf.sr.fresh hG1 (by simp))), rfl, fun p hp => by rw [hf.size]; exact hps p hp, by rw [hf.size]; exact ha, by rw [hf.size]; exact hb, hf.fn⟩⟩
        refine ⟨_, _, [], ⟨w.heap.size, 0, 1, 1⟩, l2, Ren.add_same _ _ _, ?_, s2, hf.ds.mono l2⟩
        rw [hro, run_enterLoop_inner hh]
      · cases hl
    · cases hent

theorem exec_sim {K : CallFn} (hK : KSim P K) (hD : DrawnOk P K) (n : Nat) {ro : Option Nat} {nt : Nat} : ∀ (c : Code) (ac : ACode), cCode P nt c = some ac →
    ∀ {ρ : Ren} {G : Bes} {b : Frame} {k : List Item} {cs : List Frame} {s s1 : St} {e : Ex} {a : Act} {w : World}, exec K n ro ac s = some (e, s1) → Beside G s1.h.next → FR P ρ G ro nt s b a cs w →
    Out P ρ G ro nt b k cs (lone (fat b a (.code c :: k)) cs w) s e s1 := by
  have hKN : KNext K := fun c args u h res u1 h1 hk => (hK c args u h res u1 h1 hk).1
  intro c
  induction c with
  | skip => intro ac hc ρ G b k cs s s1 e a w hs hG hf; cases hc; cases hs; exact .here hf (.one fstep_skip)
  | label l => intro ac hc ρ G b k cs s s1 e a w hs hG hf; cases hc; cases hs; exact .here hf (.one fstep_label)
  | region id ops d =>
    intro ac hc ρ G b k cs s s1 e a w hs hG hf
    cases d with
    | false =>
      simp only [cCode] at hc
      obtain ⟨l, hl, rfl⟩ := isSomeMap hc
      exact region_sim hK hl hs hG hf
    | true =>
      simp only [cCode] at hc
      obtain ⟨l, hl, rfl⟩ := isSomeMap hc
      exact hD ro nt id ops b k l hl ρ G cs s s1 e a w hs hG hf
  | seq x y ihx ihy =>
    intro ac hc ρ G b k cs s s1 e a w hs hG hf
    simp only [cCode] at hc
    split at hc
    · rename_i ax ay hx hy
      cases hc
      refine .steps (.one fstep_seq) ?_
      simp only [exec] at hs
      split at hs
      · rename_i s' h1
        refine (ihx ax hx (k := .code y :: k) h1 (hG.le (exec_next hKN n ro _ hs)) hf).bind (fun ρ1 a1 cs1 w1 hf1 => ?_)
        exact ihy ay hy hs hG hf1
      · rename_i r hno
        refine Out.pass (k' := .code y :: k) ?_ (fun id _ => by simp [exitTo]) (ihx ax hx (k := .code y :: k) hs hG hf)
        rintro rfl; exact hno _ hs
    · cases hc
  | cond c x y ihx ihy =>
    intro ac hc ρ G b k cs s s1 e a w hs hG hf
    simp only [cCode] at hc
    split at hc
    · rename_i ax ay hx hy
      cases hc
      simp only [exec] at hs
      split at hs
      · rename_i he
        exact .steps (.one (fstep_cond (hf.t.ev_bool he))) (ihx ax hx hs hG hf)
      · rename_i he
        exact .steps (.one (fstep_cond (hf.t.ev_bool he))) (ihy ay hy hs hG hf)
      · cases hs
    · cases hc
  | block id c ih =>
    intro ac hc ρ G b k cs s s1 e a w hs hG hf
    simp only [cCode] at hc
    obtain ⟨ax, hx, rfl⟩ := isSomeMap hc
    refine .steps (.one fstep_block) ?_
    simp only [exec] at hs
    split at hs
    · rename_i i s' h1
      split at hs
      · rename_i hi
        subst hi
        cases hs
        obtain ⟨ρ1, a1, cs1, w1, e', g1, g2, g3, g4, g5, g6⟩ := ih ax hx (k := .inBlock i :: k) h1 hG hf
        cases e' with
        | exit j =>
          cases g3
          obtain ⟨k0, q1, q2⟩ := g6
          refine ⟨ρ1, a1, cs1, w1, .norm, g1, g2, trivial, g4, g5, q1.trans (.one (fstep_exit ?_))⟩
          rw [q2]; simp [exitTo]
        | norm => exact g3.elim
        | ret => exact g3.elim
        | pan => exact g3.elim
      · rename_i hi
        cases hs
        refine Out.pass (by simp) (fun id' he => ?_) (ih ax hx (k := .inBlock id :: k) h1 hG hf)
        cases he
        have : (id == i) = false := by simpa using fun e => hi e.symm
        simp [exitTo, this]
    · rename_i r hno
      cases e with
      | norm =>
        refine (ih ax hx (k := .inBlock id :: k) hs hG hf).bind (fun ρ1 a1 cs1 w1 hf1 => .here hf1 (.one fstep_inBlock))
      | exit i => exact absurd hs (hno i s1)
      | ret => exact Out.pass (by simp) (fun _ h => by cases h) (ih ax hx (k := .inBlock id :: k) hs hG hf)
      | pan v => exact Out.pass (by simp) (fun _ h => by cases h) (ih ax hx (k := .inBlock id :: k) hs hG hf)
  | loop c ih =>
    intro ac hc ρ G b k cs s s1 e a w hs hG hf
    simp only [cCode] at hc
    obtain ⟨ax, hx, rfl⟩ := isSomeMap hc
    refine .steps (.one fstep_loop) ?_
    simp only [exec] at hs
    have hloop : ∀ (m : Nat) {ρ : Ren} {cs : List Frame} {s s1 : St} {e : Ex} {a : Act} {w : World}, loopN (exec K n ro ax) m s = some (e, s1) → Beside G s1.h.next → FR P ρ G ro nt s b a cs w →
        Out P ρ G ro nt b k cs (lone (fat b a (.code c :: .inLoop c :: k)) cs w) s e s1 := by
      intro m
      induction m with
      | zero => intro ρ cs s s1 e a w hs; cases hs
      | succ m ihm =>
        intro ρ cs s s1 e a w hs hG hf
        simp only [loopN] at hs
        split at hs
        · rename_i s' h1
          refine (ih ax hx (k := .inLoop c :: k) h1 (hG.le (loopN_next (fun _ _ _ h => exec_next hKN n ro ax h) m hs)) hf).bind (fun ρ1 a1 cs1 w1 hf1 => ?_)
          exact .steps (.one fstep_inLoop) (ihm hs hG hf1)
        · rename_i r hno
          refine Out.pass (k' := .inLoop c :: k) ?_ (fun id _ => by simp [exitTo]) (ih ax hx (k := .inLoop c :: k) hs hG hf)
          rintro rfl; exact hno _ hs
    exact hloop n hs hG hf
  | scope c ih =>
    intro ac hc ρ G b k cs s s1 e a w hs hG hf
    simp only [cCode] at hc
    refine .steps (.one fstep_scope) ?_
    cases e with
    | norm => exact (ih ac hc (k := .inScope c :: k) hs hG hf).bind (fun ρ1 a1 cs1 w1 hf1 => .here hf1 (.one fstep_inScope))
    | exit i => exact Out.pass (k' := .inScope c :: k) (by simp) (fun _ _ => by simp [exitTo]) (ih ac hc (k := .inScope c :: k) hs hG hf)
    | ret => exact Out.pass (by simp) (fun _ h => by cases h) (ih ac hc (k := .inScope c :: k) hs hG hf)
    | pan v => exact Out.pass (by simp) (fun _ h => by cases h) (ih ac hc (k := .inScope c :: k) hs hG hf)
  | exit id =>
    intro ac hc ρ G b k cs s s1 e a w hs hG hf
    cases hc; cases hs
    exact ⟨ρ, a, cs, w, .exit id, .refl _, hf, rfl, .refl _ _, rfl, k, .refl _ _, rfl⟩
  | ret =>
    intro ac hc ρ G b k cs s s1 e a w hs hG hf
    cases hc; cases hs
    exact ⟨ρ, a, cs, w, .ret, .refl _, hf, trivial, .refl _ _, rfl, k, .refl _ _⟩
  | goto l => intro ac hc; cases hc
  | refuse y => intro ac hc; cases hc
  | rangeFunc f ps as bo iha ihb =>
    intro ac hc ρ G b k cs s s1 e a w hs hG hf
    simp only [cCode] at hc
    split at hc
    · rename_i aa ab ha hb
      split at hc
      · rename_i hps
        cases hc
        simp only [Bool.and_eq_true] at hps
        simp only [exec] at hs
        split at hs
        · rename_i g first cap l ds h0 hev hent
          have hvf := hf.t.ev hps.2
          rw [hev] at hvf
          have hps' : ∀ p ∈ ps.toList, p < nt := fun p hp => by simpa using List.all_eq_true.1 hps.1 p hp
          have main : ∀ (res : Res) (u1 : Rec) (h' : AHeap), K (.fn g) (first.toList ++ [.func (.yield l) #[] #[]] ++ cap.toList) .no h0 = some (res, u1, h') → Beside G h'.next →
              ∃ ρ1 w1 mark em, ρ.le ρ1 ∧ SR P ρ1 h' G w1 ∧ ρ1 l = some em ∧ DsRel ρ1 ds (mark ++ a.defers) ∧
                match res with
                | .ret _ => Steps P (lone (fat b a (.code (.rangeFunc f ps as bo) :: k)) cs w) (lone (fat b { a with defers := mark ++ a.defers } (.endRangeFunc em.cb :: k)) cs w1)
                | .pan v => ∃ v', VRel ρ1 v v' ∧ Steps P (lone (fat b a (.code (.rangeFunc f ps as bo) :: k)) cs w) (lone { fat b { a with defers := mark ++ a.defers } (.inRangeFunc em.cb :: k) with mode := .panicking [{ v := v', recovered := false }] } cs w1) := by
            intro res u1 h' hk hG'
            obtain ⟨hle, hall⟩ := hK _ _ _ _ _ _ _ hk
            obtain ⟨ρ0, w0, mark, em, q1, q2, q3, q4, q5⟩ := enterA_sim hf hent (hG'.le hle) ha hb hps'
            obtain ⟨args', c1, d, c2, cap', c3, c4⟩ := callee_rel (P := P) (l := [.func (.yield l) #[] #[]]) (l' := [.func (.yield em.cb) #[] #[]]) (hvf.mono q1) (.cons (.yield l em q2) (.nil _)) (c := .fn g) (args := first.toList ++ [.func (.yield l) #[] #[]] ++ cap.toList) rfl
            obtain ⟨hgood, _, hcall, _⟩ := hall ρ0 G w0 args' q4 hG' c1
            obtain ⟨en, w', fr, ⟨ρ1, hle1, hsr1, hend⟩, hsteps, _, hleave⟩ := hcall rfl (fat b { a with defers := mark ++ a.defers } (.inRangeFunc em.cb :: k) :: cs)
            have henter := fstep_rangeFunc (P := P) (b := b) (a := a) (k := k) (cs := cs) (g := f) q3 (by
                simp only [resolve]
                have : (#[Operand.const (.func (.yield em.cb) #[] #[])].map a.eval) = ⟨[.func (.yield em.cb) #[] #[]]⟩ := by simp [Act.eval]
                rw [this]
                exact c2 w0) (by rw [c3]; simp only [invoke, c4]; exact run_callFunc hgood args' w0)
            refine ⟨ρ1, w', mark, em, q1.trans hle1, hsr1, hle1 _ _ q2, q5.mono hle1, ?_⟩
            cases res with
            | ret v =>
              cases en with
              | returned v' =>
                refine .head henter (hsteps.trans (.one ?_))
                rw [← finish_fat_range em.cb v']; exact step_leave_returned hleave
              | panicked _ => exact hend.elim
              | outgrown => exact hend.elim
            | pan v =>
              cases en with
              | returned _ => exact hend.elim
              | outgrown => exact hend.elim
              | panicked chain =>
                obtain ⟨v', rfl, hv⟩ := hend
                exact ⟨v', hv, .head henter (hsteps.trans (.one (step_leave_panicked hleave)))⟩
          split at hs
          · rename_i v u1 h' hk
            split at hs
            · rename_i r hl
              split at hs
              · cases hs
              · rename_i hbusy
                cases hs
                obtain ⟨ρ1, w1, mark, em, q1, q2, q3, q4, q5⟩ := main _ _ _ hk hG
                unfold loopOf at hl
                split at hl
                · rename_i r' hg
                  cases hl
                  obtain ⟨h0', h1', lp, hh, hlr⟩ := q2.obj hg q3
                  have hb' : lp.state ≠ .busy := by
                    intro hbz
                    have hst := hlr.st
                    rw [hbz] at hst
                    cases hrs : r.st <;> rw [hrs] at hst hbusy <;> first | exact hst.elim | exact absurd rfl hbusy
                  have hend := run_endLoop (P := P) hh hb'
                  have hstep := fstep_endRangeFunc (P := P) (b := b) (a := { a with defers := mark ++ a.defers }) (k := k) (cs := cs) hend
                  have hsr : SR P ρ1 (h'.put l (.loop { r with st := .over })) G (w1.putObj em.cb (.loop { lp with state := .exhausted })) :=
                    q2.putObj hg q3 rfl rfl hh rfl h0' h1' rfl ⟨h0', h1', _, World.putObj_heap_same (Array.getElem?_eq_some_iff.1 hh).1, ⟨trivial, hlr.pend, hlr.tmps, hlr.params, hlr.small, hlr.assign, hlr.body, hlr.fn⟩⟩
                  have hf1 : FR P ρ1 G ro nt { s with h := h'.put l (.loop { r with st := .over }), ds := ds } b { a with defers := mark ++ a.defers } cs (w1.putObj em.cb (.loop { lp with state := .exhausted })) :=
                    ⟨hsr, hf.t.mono q1, hf.size, q4, hf.u.mono q1, hf.ro.mono q1 rfl, hf.fn⟩
                  have hp := hlr.pend
                  have hall : ∀ J, lp.pending = J → Steps P (lone (fat b a (.code (.rangeFunc f ps as bo) :: k)) cs w) (lone (fat b { a with defers := mark ++ a.defers } ((J.map Item.code).toList ++ k)) cs (w1.putObj em.cb (.loop { lp with state := .exhausted }))) :=
                    fun J hJ => by subst hJ; exact q5.trans (.one hstep)
                  obtain ⟨j, hj⟩ : ∃ j, r.pend = j := ⟨_, rfl⟩
                  rw [hj] at hp
                  cases j with
                  | none =>
                    have hjm : jumpA r.pend = .norm := by rw [hj]; rfl
                    rw [hjm]
                    cases hlp : lp.pending with
                    | none => exact ⟨ρ1, _, cs, _, .norm, q1, hf1, trivial, .refl _ _, rfl, hall _ hlp⟩
                    | some _ => rw [hlp] at hp; exact hp.elim
                  | some j =>
                    cases hlp : lp.pending with
                    | none => rw [hlp] at hp; cases j <;> exact hp.elim
                    | some cj =>
                      rw [hlp] at hp
                      cases j with
                      | exit i =>
                        have hjm : jumpA r.pend = .exit i := by rw [hj]; rfl
                        rw [hjm]
                        cases cj <;> first | exact hp.elim | skip
                        rename_i i'
                        have hp' : i = i' := hp
                        subst hp'
                        exact ⟨ρ1, _, cs, _, .exit i, q1, hf1, rfl, .refl _ _, rfl, k, hall _ hlp, rfl⟩
                      | ret =>
                        have hjm : jumpA r.pend = .ret := by rw [hj]; rfl
                        rw [hjm]
                        cases cj <;> first | exact hp.elim | skip
                        exact ⟨ρ1, _, cs, _, .ret, q1, hf1, trivial, .refl _ _, rfl, k, hall _ hlp⟩
                · cases hl
            · cases hs
          · rename_i v u1 h' hk
            cases hs
            obtain ⟨ρ1, w1, mark, em, q1, q2, q3, q4, v', q5, q6⟩ := main _ _ _ hk hG
            exact ⟨ρ1, { a with defers := mark ++ a.defers }, cs, w1, .pan v', q1, ⟨q2, hf.t.mono q1, hf.size, q4, hf.u.mono q1, hf.ro.mono q1 rfl, hf.fn⟩, q5, .refl _ _, rfl, _, q6⟩
          · cases hs
        · cases hs
      · cases hc
    · cases hc

end
end Go.Proofs.YtbejfgpeledcjaaGreat.A
namespace Go.Proofs.YtbejfgpeledcjaaGreat.A
noncomputable section
open Go

variable {P : Program} {ρ : Ren} {h h1 : AHeap} {G : Bes} {w : World} {t : Tr Value} {a : Act} {v : Value}

theorem fat_atR (b : Frame) (a : Act) (todo : List Item) : fat b a todo = b.atR a todo := rfl

/-- One result. -/
def res1 (tmps : Array Value) : ResultVar → Sem Value
  | .tmp t => pure (tmps.getD t undef)
  | .cell a t => do loadVar t (← asAddr (tmps.getD a undef))

theorem result1_sim {s : St} {tmps : Array Value} (hsr : SR P ρ s.h G w) (ht : TRel ρ s.t tmps) {rv : ResultVar} {r : ARes} (hc : cRes P rv = some r) (hv : result1 s r = some v) :
    ∃ v', (res1 tmps rv).run P w = .ok v' w ∧ VRel ρ v v' := by
  cases rv with
  | tmp i => cases hc; cases hv; exact ⟨_, rfl, ht i⟩
  | cell x ty =>
    have hx : VRel ρ (ev s.t (.tmp x)) (tmps.getD x undef) := ht x
    simp only [cRes] at hc
    split at hc
    · rename_i n hu hn
      cases hc
      simp only [result1] at hv
      split at hv
      · rename_i b off he
        rw [he] at hx
        obtain ⟨e, g1, g2⟩ := hx.ptr_inv
        obtain ⟨u, hu', rfl⟩ := isSomeMap hv
        obtain ⟨cs', q1, q2, q3⟩ := readN_rel hsr hu' g1
        refine ⟨_, ?_, VRel.agg' q1 (fun x hx => by obtain ⟨j, hj⟩ := List.getElem?_of_mem hx; exact (q2 j x hj).2)⟩
        have := run_cells (P := P) (w := w) e.cb (e.off + off) n (cs' := cs') (fun j v hj => by rw [Nat.add_assoc]; exact (q2 j v hj).1) q3
        simp only [res1, g2, asAddr, Sem.run_bind, Sem.run_pure, Result.andThen_ok, loadVar, run_isAgg hu, if_true, run_size hn, this]
      · cases hv
    · rename_i hu
      cases hc
      simp only [result1] at hv
      split at hv
      · rename_i b off he
        rw [he] at hx
        obtain ⟨e, g1, g2⟩ := hx.ptr_inv
        obtain ⟨v', q1, q2, _⟩ := read1_rel hsr hv g1
        refine ⟨v', ?_, q2⟩
        simp only [res1, g2, asAddr, Sem.run_bind, Sem.run_pure, Result.andThen_ok, loadVar, run_isAgg hu, Bool.false_eq_true, if_false, run_load_cell q1]
      · cases hv
    · cases hc

theorem resultL_sim {s : St} {tmps : Array Value} (hsr : SR P ρ s.h G w) (ht : TRel ρ s.t tmps) : ∀ {rv : List ResultVar} {rs : List ARes} {vs : List Value}, rv.mapM (cRes P) = some rs → rs.mapM (result1 s) = some vs →
    ∃ vs', (rv.mapM (res1 tmps)).run P w = .ok vs' w ∧ LRel ρ vs vs'
  | [], rs, vs, hc, hv => by
    simp at hc; subst hc; simp at hv; subst hv
    exact ⟨[], rfl, .nil _⟩
  | x :: rv, rs, vs, hc, hv => by
    simp only [List.mapM_cons, Option.bind_eq_bind, Option.bind_eq_some_iff, Option.pure_def, Option.some.injEq] at hc
    obtain ⟨r, h1, rs', h2, rfl⟩ := hc
    simp only [List.mapM_cons, Option.bind_eq_bind, Option.bind_eq_some_iff, Option.pure_def, Option.some.injEq] at hv
    obtain ⟨v, h3, vs', h4, rfl⟩ := hv
    obtain ⟨v1, g1, g2⟩ := result1_sim hsr ht h1 h3
    obtain ⟨vs1, g3, g4⟩ := resultL_sim hsr ht h2 h4
    exact ⟨v1 :: vs1, by simp only [List.mapM_cons, Sem.run_bind, g1, Result.andThen_ok, g3, Sem.run_pure], .cons g2 g4⟩

theorem mapM_len {α β : Type} {f : α → Option β} : ∀ {l : List α} {vs : List β}, l.mapM f = some vs → l.length = vs.length
  | [], vs, h => by simp at h; subst h; rfl
  | y :: ys, vs, h => by
    simp only [List.mapM_cons, Option.bind_eq_bind, Option.bind_eq_some_iff, Option.pure_def, Option.some.injEq] at h
    obtain ⟨u, _, us, h2, rfl⟩ := h
    simp [mapM_len h2]

theorem results_sim {s : St} {tmps : Array Value} {fn : Func} {rs : List ARes} (hsr : SR P ρ s.h G w) (ht : TRel ρ s.t tmps) (hc : fn.results.toList.mapM (cRes P) = some rs) (hv : A.results s rs = some v) :
    ∃ v', (Go.results fn tmps).run P w = .ok v' w ∧ VRel ρ v v' := by
  have hr : (Go.results fn tmps) = (do let vs ← List.toArray <$> fn.results.toList.mapM (res1 tmps); pure (if h : vs.size = 1 then vs[0] else .tuple vs)) := by
    unfold Go.results
    rw [Array.mapM_eq_mapM_toList]
    congr 2
  rw [hr]
  obtain ⟨vs, hvs, hcase⟩ : ∃ vs, rs.mapM (result1 s) = some vs ∧ ((∃ x, vs = [x] ∧ v = x) ∨ (vs.length ≠ 1 ∧ v = .tuple ⟨vs⟩)) := by
    unfold A.results at hv
    split at hv
    · rename_i r
      refine ⟨[v], by simp [hv], .inl ⟨v, rfl, rfl⟩⟩
    · rename_i hno
      obtain ⟨vs, h1, rfl⟩ := isSomeMap hv
      refine ⟨vs, h1, .inr ⟨fun h => ?_, rfl⟩⟩
      have hl : rs.length = vs.length := mapM_len h1
      rw [h] at hl
      match rs, hl with
      | [r], _ => exact hno r rfl
  obtain ⟨vs', g1, g2⟩ := resultL_sim hsr ht hc hvs
  have hl := g2.1
  rcases hcase with ⟨x, rfl, rfl⟩ | ⟨hne, rfl⟩
  · match vs', hl with
    | [y], _ =>
      refine ⟨y, ?_, g2.head⟩
      simp [Sem.run_bind, Sem.run_map, g1, Result.andThen_ok]
  · refine ⟨.tuple ⟨vs'⟩, ?_, .tuple' g2⟩
    have : ¬ (List.toArray vs').size = 1 := by simp; omega
    simp [Sem.run_bind, Sem.run_map, g1, Result.andThen_ok]
    intro h; omega

/-- How a frame goes on leaving once a deferred call has returned. -/
def settleA : Rec → Rec
  | .recovered _ => .returning
  | u => u

theorem MRel.settle {u : Rec} {m : FrameMode} (h : MRel ρ u m) : MRel ρ (settleA u) (Go.settle m) := by
  cases u with
  | no => exact h.elim
  | returning => have h' : m = .returning := h; subst h'; rfl
  | panicking v => obtain ⟨v', rfl, hv⟩ := h; exact ⟨v', rfl, hv⟩
  | recovered v => obtain ⟨v', rfl, hv⟩ := h; rfl

theorem MRel.run {u : Rec} {m : FrameMode} (h : MRel ρ u m) : m ≠ .run := by
  cases u with
  | no => exact h.elim
  | returning => have h' : m = .returning := h; subst h'; simp
  | panicking v => obtain ⟨v', rfl, hv⟩ := h; simp
  | recovered v => obtain ⟨v', rfl, hv⟩ := h; simp

theorem MRel.isNo {u : Rec} {m : FrameMode} (h : MRel ρ u m) : u.isNo = false := by cases u <;> first | exact h.elim | rfl

theorem leave_sim {K : CallFn} (hK : KSim P K) {fn : Func} {rs : List ARes} (hc : fn.results.toList.mapM (cRes P) = some rs) : ∀ (n : Nat) {u : Rec} {s : St} {r : Res} {h1 : AHeap} {ρ : Ren} {w : World} {fr : Frame} (cs : List Frame),
    leave K rs n u s = some (r, h1) → Beside G h1.next → SR P ρ s.h G w → TRel ρ s.t fr.tmps → DsRel ρ s.ds fr.defers → MRel ρ u fr.mode → P.funcs[fr.fn]? = some fn →
    ∃ ρ1 w1 fr1 e, ρ.le ρ1 ∧ SR P ρ1 h1 G w1 ∧ EndRel ρ1 r e ∧ Steps P (lone fr cs w) (lone fr1 cs w1) ∧ fr1.fn = fr.fn ∧ fr1.kind = fr.kind ∧ fr1.going P w1 e
  | 0, u, s, r, h1, ρ, w, fr, cs, hs, _, _, _, _, _, _ => by cases hs
  | n + 1, u, s, r, h1, ρ, w, fr, cs, hs, hG, hsr, ht, hds, hm, hf => by
    have hKN : KNext K := fun c args u h res u1 h1 hk => (hK c args u h res u1 h1 hk).1
    simp only [leave] at hs
    split at hs
    · rename_i hd
      rw [hd] at hds
      have hd' : fr.defers = [] := by cases hx : fr.defers with
        | nil => rfl
        | cons _ _ => rw [hx] at hds; exact hds.elim
      split at hs
      · obtain ⟨v, hv, he⟩ := isSomeMap hs
        cases he
        obtain ⟨v', g1, g2⟩ := results_sim hsr ht hc hv
        exact ⟨ρ, w, fr, .returned v', .refl _, hsr, g2, .refl _ _, rfl, rfl, hm, hd', fn, hf, g1⟩
      · cases hs
        obtain ⟨v', g1, g2⟩ := hm
        exact ⟨ρ, w, fr, .panicked [{ v := v', recovered := false }], .refl _, hsr, ⟨v', rfl, g2⟩, .refl _ _, rfl, rfl, g1, hd', fn, hf⟩
      · cases hs
    · rename_i b ds hd
      rw [hd] at hds
      obtain ⟨d', ds', hfd, ⟨e, he, hde⟩, hds'⟩ : ∃ d' ds', fr.defers = d' :: ds' ∧ DRel ρ (.coll b) d' ∧ DsRel ρ ds ds' := by
        cases hx : fr.defers with
        | nil => rw [hx] at hds; exact hds.elim
        | cons y ys => rw [hx] at hds; exact ⟨y, ys, rfl, hds.1, hds.2⟩
      split at hs
      · rename_i hg
        obtain ⟨g0, g1, g2⟩ := hsr.obj hg he
        have htk := run_takeDeferred (P := P) (b := e.cb) (ds := []) g2
        have hstep := step_collected (cs := cs) hm.run hfd (by rw [hde]) htk
        have hsr' : SR P ρ (s.h.put b (.defers true)) G (w.putObj e.cb (.deferred none)) :=
          hsr.putObj hg he rfl rfl g2 rfl g0 g1 rfl ⟨g0, g1, World.putObj_heap_same (Array.getElem?_eq_some_iff.1 g2).1⟩
        obtain ⟨ρ1, w1, fr1, en, q1, q2, q3, q4, q5, q6, q7⟩ := leave_sim hK hc n (fr := { fr with defers := [] ++ ds' }) cs hs hG hsr' ht hds' hm hf
        exact ⟨ρ1, w1, fr1, en, q1, q2, q3, .head hstep q4, q5, q6, q7⟩
      · cases hs
    · rename_i f args ds hd
      rw [hd] at hds
      obtain ⟨d', ds', hfd, ⟨cap, args', c1, c2, c3⟩, hds'⟩ : ∃ d' ds', fr.defers = d' :: ds' ∧ DRel ρ (.fn f args) d' ∧ DsRel ρ ds ds' := by
        cases hx : fr.defers with
        | nil => rw [hx] at hds; exact hds.elim
        | cons y ys => rw [hx] at hds; exact ⟨y, ys, rfl, hds.1, hds.2⟩
      split at hs
      · rename_i v u1 h2 hk
        obtain ⟨hle, hall⟩ := hK _ _ _ _ _ _ _ hk
        have hrest : leave K rs n (settleA u1) { s with ds := ds, h := h2 } = some (r, h1) := by
          cases u1 <;> exact hs
        have hG2 : Beside G h2.next := hG.le (leave_next hKN rs n hrest)
        obtain ⟨hgood, hno, _, hD⟩ := hall ρ G w args' hsr hG2 c3
        have hinv : (invoke d'.target d'.args).run P w = .ok (.enter f args') w := by
          rw [c1]; simp only [invoke, c2]; exact run_callFunc hgood args' w
        have hstep := step_defer (cs := cs) hm.run hfd c1 hinv
        obtain ⟨en, m1, w1, frX, ⟨ρ1, q1, q2, q3, q4⟩, hsteps, hkX, hgo⟩ := hD hm.isNo _ hm { fr with defers := ds' } cs rfl
        cases en with
        | panicked _ => exact q3.elim
        | outgrown => exact q3.elim
        | returned v' =>
          have h2' := step_going_returned (c := { { fr with defers := ds' } with mode := m1 }) (cs := cs) hkX hgo
          obtain ⟨ρ2, w2, fr1, en, p1, p2, p3, p4, p5, p6, p7⟩ := leave_sim hK hc n (fr := { { { fr with defers := ds' } with mode := m1 } with mode := Go.settle m1 }) cs hrest hG q2 (ht.mono q1) (hds'.mono q1) q4.settle hf
          exact ⟨ρ2, w2, fr1, en, q1.trans p1, p2, p3, .head hstep (hsteps.trans (.head h2' p4)), p5, p6, p7⟩
      · cases hs

theorem initT_rel : ∀ (l l' : List Value) (i : Nat), LRel ρ l l' → ∀ j, VRel ρ (((initT i l).get j).getD blank) (if i ≤ j then l'[j - i]?.getD undef else undef)
  | [], [], i, _, j => by simp [initT, Tr.get]; exact .blank ρ
  | x :: l, y :: l', i, h, j => by
    simp only [initT, Tr.get_put]
    by_cases hj : j = i
    · subst hj; simp; exact h.head
    · rw [if_neg hj]
      have := initT_rel l l' (i + 1) h.tail j
      by_cases hij : i ≤ j
      · rw [if_pos hij]
        rw [if_pos (by omega)] at this
        have e : j - i = (j - (i + 1)) + 1 := by omega
        rw [e]; simpa using this
      · rw [if_neg hij]
        rw [if_neg (by omega)] at this
        exact this
  | [], _ :: _, _, h, _ => by have := h.1; simp at this
  | _ :: _, [], _, h, _ => by have := h.1; simp at this

theorem initT_tmps {l : List Value} {args : Array Value} (h : LRel ρ l args.toList) (n : Nat) : TRel ρ (initT 0 l) (args ++ Array.replicate n undef) := by
  intro j
  have := initT_rel l args.toList 0 h j
  simp only [Nat.zero_le, if_true, Nat.sub_zero] at this
  have e : (args ++ Array.replicate n undef).getD j undef = args.toList[j]?.getD undef := by
    simp only [Array.getD_eq_getD_getElem?, Array.getElem?_append, Array.getElem?_toList]
    split
    · rfl
    · rename_i hj
      rw [Array.getElem?_eq_none (Nat.le_of_not_lt hj)]
      simp only [Option.getD_none]
      cases hx : (Array.replicate n undef)[j - args.size]? with
      | none => rfl
      | some y =>
        have := Array.getElem?_eq_some_iff.1 hx
        obtain ⟨hlt, heq⟩ := this
        simp at heq; simp [heq]
  rw [e]; exact this

end
end Go.Proofs.YtbejfgpeledcjaaGreat.A
namespace Go.Proofs.YtbejfgpeledcjaaGreat.A
noncomputable section
open Go

variable {P : Program} {ρ : Ren} {h h1 : AHeap} {G : Bes} {w : World} {t : Tr Value} {a : Act} {v : Value}

theorem cFn_spec {f : FuncId} {af : AFn} (h : cFn P f = some af) : ∃ fn c, P.funcs[f]? = some fn ∧ fn.body = some c ∧ cCode P fn.ntmps c = some af.body ∧ fn.results.toList.mapM (cRes P) = some af.results ∧
    af.nparams ≤ fn.ntmps ∧ af.ntmps = fn.ntmps ∧ goodFn P f = true := by
  unfold cFn at h
  split at h
  · cases h
  · rename_i fn hfn
    split at h
    · cases h
    · rename_i c hb
      split at h
      · rename_i body rs h1 h2
        split at h
        · rename_i hle; cases h; exact ⟨fn, c, hfn, hb, h1, h2, hle.1, rfl, hle.2⟩
        · cases h
      · cases h

/-- How a function begins to leave. -/
def LeaveAs (e : Ex) (u0 : Rec) : Prop :=
  match e with
  | .norm => u0 = .returning
  | .ret => u0 = .returning
  | .pan v => u0 = .panicking v
  | .exit _ => False

/-- A body, and how the function is left. -/
theorem body_sim {K : CallFn} (hK : KSim P K) (hD : DrawnOk P K) {f : FuncId} {af : AFn} (hcf : cFn P f = some af) {n : Nat} {args : List Value} {args' : Array Value} {u : Rec} {s : St} {e : Ex} {r : Res} {h2 : AHeap}
    (hargs : LRel ρ args args'.toList) (hlen : args.length = af.nparams) (hex : exec K n none af.body { t := initT 0 args, ds := [], u := u, rd := false, h := h } = some (e, s))
    {u0 : Rec} (hu0 : LeaveAs e u0)
    (hl : leave K af.results n u0 s = some (r, h2)) (hG : Beside G h2.next) (hsr : SR P ρ h G w) {kind : CallKind} {cs : List Frame}
    (hu : URel ρ u { (default : Frame) with fn := f, kind := kind, roundOf := none } cs) :
    ∃ ρ1 w1 fr1 en cs1, ρ.le ρ1 ∧ SR P ρ1 h2 G w1 ∧ EndRel ρ1 r en ∧ Steps P (lone (Frame.enter P f args' kind) cs w) (lone fr1 cs1 w1) ∧ fr1.fn = f ∧ fr1.kind = kind ∧ fr1.going P w1 en ∧
      CsTo u.isNo cs cs1 ∧ s.u.isNo = u.isNo ∧ URel ρ1 s.u { (default : Frame) with fn := f, kind := kind, roundOf := none } cs1 := by
  obtain ⟨fn, c, hfn, hb, hcc, hrs, hle, hnt, _⟩ := cFn_spec hcf
  have hKN : KNext K := fun c args u h res u1 h1 hk => (hK c args u h res u1 h1 hk).1
  have henter : Frame.enter P f args' kind = fat { (default : Frame) with fn := f, kind := kind, roundOf := none } { tmps := args' ++ Array.replicate (fn.ntmps - args'.size) undef, defers := [] } [.code c] := by
    simp [Frame.enter, fat, hfn, hb]
  have hal : args'.size = args.length := by rw [hargs.1]; simp
  have hfr : FR P ρ G none fn.ntmps { t := initT 0 args, ds := [], u := u, rd := false, h := h } { (default : Frame) with fn := f, kind := kind, roundOf := none }
      { tmps := args' ++ Array.replicate (fn.ntmps - args'.size) undef, defers := [] } cs w :=
    ⟨hsr, initT_tmps hargs _, by simp; omega, trivial, hu, ⟨rfl, rfl⟩, by simp [hfn]⟩
  obtain ⟨ρ1, a1, cs1, w1, e', g1, g2, g3, g4, g5, g6⟩ := exec_sim hK hD n c af.body hcc (k := []) hex (hG.le (leave_next hKN _ n hl)) hfr
  rw [← henter] at g6
  -- the frame that leaves
  have key : ∀ (fr : Frame), Steps P (lone (Frame.enter P f args' kind) cs w) (lone fr cs1 w1) → fr.tmps = a1.tmps → fr.defers = a1.defers → MRel ρ1 u0 fr.mode → fr.fn = f → fr.kind = kind →
      ∃ ρ2 w2 fr1 en cs1, ρ.le ρ2 ∧ SR P ρ2 h2 G w2 ∧ EndRel ρ2 r en ∧ Steps P (lone (Frame.enter P f args' kind) cs w) (lone fr1 cs1 w2) ∧ fr1.fn = f ∧ fr1.kind = kind ∧ fr1.going P w2 en ∧
      CsTo u.isNo cs cs1 ∧ s.u.isNo = u.isNo ∧ URel ρ2 s.u { (default : Frame) with fn := f, kind := kind, roundOf := none } cs1 := by
    intro fr hst hft hfd hfm hff hfk
    obtain ⟨ρ2, w2, fr1, en, p1, p2, p3, p4, p5, p6, p7⟩ := leave_sim hK hrs n (fr := fr) cs1 hl hG g2.sr (by rw [hft]; exact g2.t) (by rw [hfd]; exact g2.ds) hfm (by rw [hff]; exact hfn)
    exact ⟨ρ2, w2, fr1, en, cs1, g1.trans p1, p2, p3, hst.trans p4, p5.trans hff, p6.trans hfk, p7, g4, g5, g2.u.mono p1⟩
  cases e with
  | exit i => exact hu0.elim
  | norm =>
    cases e' <;> first | exact g3.elim | skip
    have hu0' := hu0; unfold LeaveAs at hu0'; subst hu0'
    exact key _ (g6.trans (.one (stepR_end (b := { (default : Frame) with fn := f, kind := kind, roundOf := none }) rfl))) rfl rfl rfl rfl rfl
  | ret =>
    cases e' <;> first | exact g3.elim | skip
    have hu0' := hu0; unfold LeaveAs at hu0'; subst hu0'
    obtain ⟨k0, hst⟩ := g6
    exact key _ (hst.trans (.one (stepR_ret (b := { (default : Frame) with fn := f, kind := kind, roundOf := none }) rfl))) rfl rfl rfl rfl rfl
  | pan v =>
    cases e' <;> first | exact g3.elim | skip
    have hu0' := hu0; unfold LeaveAs at hu0'; subst hu0'
    obtain ⟨todo, hst⟩ := g6
    exact key _ hst rfl rfl ⟨_, rfl, g3⟩ rfl rfl

theorem putAll_rel : ∀ (ps : List Tmp) (l l' : List Value) {t : Tr Value} {tmps : Array Value}, TRel ρ t tmps → LRel ρ l l' → (∀ p ∈ ps, p < tmps.size) → l.length = ps.length →
    TRel ρ (putAll t ps l) ((ps.zip l').foldl (fun tmps (t, a) => tmps.setIfInBounds t a) tmps) ∧ ((ps.zip l').foldl (fun tmps (t, a) => tmps.setIfInBounds t a) tmps).size = tmps.size
  | [], _, _, _, _, ht, _, _, _ => ⟨by simpa [putAll] using ht, by simp⟩
  | p :: ps, x :: l, y :: l', t, tmps, ht, hl, hp, hlen => by
    simp only [putAll, List.zip_cons_cons, List.foldl_cons]
    have h1 : TRel ρ (t.put p x) (tmps.setIfInBounds p y) := TRel.put (b := { tmps := tmps, defers := [] }) (dst := some p) ht hl.head (fun d hd => by cases hd; exact hp p (by simp))
    have := putAll_rel ps l l' h1 hl.tail (fun q hq => by simp; exact hp q (by simp [hq])) (by simpa using hlen)
    refine ⟨this.1, this.2.trans (by simp)⟩
  | _ :: _, [], _, _, _, _, _, _, hlen => by simp at hlen
  | _ :: _, _ :: _, [], _, _, _, hl, _, _ => by have := hl.1; simp at this

/-- How a round ends. -/
def RoundEnd (P : Program) (ρ1 : Ren) (m : Machine) (c : Frame) (cs : List Frame) (w1 : World) : Res → Prop
  | .ret v => ∃ v', VRel ρ1 v v' ∧ Steps P m (lone (c.finish v') cs w1)
  | .pan v => ∃ v', VRel ρ1 v v' ∧ Steps P m (lone (c.raise [{ v := v', recovered := false }]) cs w1)

theorem round_sim {K : CallFn} (hK : KSim P K) (hD : DrawnOk P K) {n l : Nat} {r : ALoop} {args : List Value} {args' : Array Value} {h : AHeap} {res : Res} {u1 : Rec} {h1 : AHeap}
    (hr : loopOf h l = some r) (hs : roundA K n l r args h = some (res, u1, h1)) (hsr : SR P ρ h G w) (hG : Beside G h1.next) (hargs : LRel ρ args args'.toList) {e : Emb} (he : ρ l = some e) :
    ∃ fn tmps assign body w', (Instr.yield e.cb args').run P w = .ok (.round e.cb fn tmps assign body) w' ∧
        ∀ c cs, ∃ ρ1 w1, ρ.le ρ1 ∧ SR P ρ1 h1 G w1 ∧ RoundEnd P ρ1 (lone (Frame.round e.cb fn tmps assign body .normal) (c :: cs) w') c cs w1 res := by
  have hKN : KNext K := fun c args u h res u1 h1 hk => (hK c args u h res u1 h1 hk).1
  have hloop : ∀ {h : AHeap} {r : ALoop}, loopOf h l = some r → h.get l = some (.loop r) := by
    intro h r hh
    unfold loopOf at hh
    split at hh
    · rename_i r' hg; cases hh; exact hg
    · cases hh
  obtain ⟨z0, z1, lp, hh, hlr⟩ := hsr.obj (hloop hr) he
  unfold roundA at hs
  split at hs
  · rename_i hcond
    have hsz : args'.size = lp.params.size := by
      have h1 := hargs.1
      have h2 := hlr.params
      have h3 : lp.params.toList.length = r.params.length := by rw [h2]
      simp at h1 h3
      omega
    refine ⟨_, _, _, _, w, run_yield hh hsz, fun c cs => ?_⟩
    have hzip : ((lp.params.zip args').foldl (fun tmps (x : Tmp × Value) => tmps.setIfInBounds x.1 x.2) lp.tmps) = ((r.params.zip args'.toList).foldl (fun tmps (x : Tmp × Value) => tmps.setIfInBounds x.1 x.2) lp.tmps) := by
      rw [← Array.foldl_toList, Array.toList_zip, hlr.params]
    obtain ⟨ht, htsz⟩ := putAll_rel r.params args args'.toList hlr.tmps hargs hlr.small hcond.1
    obtain ⟨T, hT⟩ : ∃ T, T = ((lp.params.zip args').foldl (fun tmps (x : Tmp × Value) => tmps.setIfInBounds x.1 x.2) lp.tmps) := ⟨_, rfl⟩
    have ht' : TRel ρ (putAll r.tmps r.params args) T := by rw [hT, hzip]; exact ht
    have htsz' : T.size = lp.tmps.size := by rw [hT, hzip]; exact htsz
    show ∃ ρ1 w1, ρ.le ρ1 ∧ SR P ρ1 h1 G w1 ∧ RoundEnd P ρ1 (lone (Frame.round e.cb lp.fn ((lp.params.zip args').foldl (fun tmps (x : Tmp × Value) => tmps.setIfInBounds x.1 x.2) lp.tmps) lp.assign lp.body .normal) (c :: cs) w) c cs w1 res
    rw [← hT]
    obtain ⟨b, hb⟩ : ∃ b : Frame, b = { (default : Frame) with fn := lp.fn, kind := .normal, roundOf := some e.cb } := ⟨_, rfl⟩
    have hb0 : Frame.round e.cb lp.fn T lp.assign lp.body .normal = fat b { tmps := T, defers := [] } [.code lp.assign, .beginRound, .code lp.body] := by
      subst hb; simp [Frame.round, fat]
    have hbr : b.roundOf = some e.cb := by rw [hb]
    have hbk : b.kind = .normal := by rw [hb]
    have hbf : b.fn = lp.fn := by rw [hb]
    rw [hb0]
    split at hs
    · rename_i s1 hex
      split at hs
      · rename_i r1 hds1 hl1
        split at hs
        · rename_i hready
          split at hs
          · rename_i e2 s2 hex2
            have hend : s2.h.next ≤ h1.next := by
              unfold endRoundA at hs
              (repeat' split at hs) <;> cases hs <;> exact Nat.le_refl _
            have hG2 : Beside G s2.h.next := hG.le hend
            have hn2 := exec_next hKN n _ _ hex2
            have hG1 : Beside G s1.h.next := hG2.le hn2
            have hfr : FR P ρ G (some l) lp.tmps.size { t := putAll r.tmps r.params args, ds := [], u := .no, rd := true, h := h } b { tmps := T, defers := [] } (c :: cs) w :=
              ⟨hsr, ht', htsz', trivial, hbk, ⟨rfl, e, he, hbr⟩, by rw [hbf]; exact hlr.fn⟩
            obtain ⟨ρ1, a1, cs1, w1, e', g1, g2, g3, g4, g5, g6⟩ := exec_sim hK hD n lp.assign r.assign hlr.assign (k := [.beginRound, .code lp.body]) hex hG1 hfr
            have g4' : cs1 = c :: cs := g4
            subst g4'
            cases e' <;> first | exact g3.elim | skip
            obtain ⟨y0, y1, lp1, hh1, hlr1⟩ := g2.sr.obj (hloop hl1) (g1 _ _ he)
            have hst1 : lp1.state = .ready := by
              have hst := hlr1.st
              cases hrs : r1.st <;> rw [hrs] at hst hready <;> cases hls : lp1.state <;> rw [hls] at hst <;> first | rfl | exact hst.elim | (simp [LSt.isReady] at hready)
            have hbeg := stepR_beginRound (P := P) (b := b) (a := a1) (k := [.code lp.body]) (cs := c :: cs) hbr (run_beginRound hh1 hst1)
            have hsr1 : SR P ρ1 (s1.h.put l (.loop { r1 with st := .busy })) G (w1.putObj e.cb (.loop { lp1 with state := .busy })) :=
              g2.sr.putObj (hloop hl1) (g1 _ _ he) rfl rfl hh1 rfl y0 y1 rfl ⟨y0, y1, _, World.putObj_heap_same (Array.getElem?_eq_some_iff.1 hh1).1, ⟨trivial, hlr1.pend, hlr1.tmps, hlr1.params, hlr1.small, hlr1.assign, hlr1.body, hlr1.fn⟩⟩
            have hfr1 : FR P ρ1 G (some l) lp.tmps.size { s1 with h := s1.h.put l (.loop { r1 with st := .busy }) } b a1 (c :: cs) (w1.putObj e.cb (.loop { lp1 with state := .busy })) :=
              ⟨hsr1, g2.t, g2.size, g2.ds, g2.u, g2.ro.mono (.refl _) rfl, g2.fn⟩
            obtain ⟨ρ2, a2, cs2, w2, e2', p1, p2, p3, p4, p5, p6⟩ := exec_sim hK hD n lp.body r.body hlr.body (k := []) hex2 hG2 hfr1
            have hno : s1.u.isNo = true := g5
            have p4' : cs2 = c :: cs := by
              have : CsTo s1.u.isNo (c :: cs) cs2 := p4
              rw [hno] at this; exact this
            subst p4'
            have hpre : Steps P (lone (fat b { tmps := T, defers := [] } [.code lp.assign, .beginRound, .code lp.body]) (c :: cs) w) (lone (fat b a1 [.code lp.body]) (c :: cs) (w1.putObj e.cb (.loop { lp1 with state := .busy }))) := g6.trans (.one hbeg)
            have hel : ρ2 l = some e := p1 _ _ (g1 _ _ he)
            unfold endRoundA at hs
            split at hs
            · rename_i r2 hds2 hl2
              obtain ⟨x0, x1, lp2, hh2, hlr2⟩ := p2.sr.obj (hloop hl2) hel
              have hput : ∀ (st' : LSt) (st : LoopState) (j' : Option Jump) (j : Option Code), st'.rel st → Jump.rel j' j → SR P ρ2 (s2.h.put l (.loop { r2 with st := st', pend := j' })) G (w2.putObj e.cb (.loop { lp2 with state := st, pending := j })) := fun st' st j' j q1 q2 =>
                p2.sr.putObj (hloop hl2) hel rfl rfl hh2 rfl x0 x1 rfl ⟨x0, x1, _, World.putObj_heap_same (Array.getElem?_eq_some_iff.1 hh2).1, ⟨q1, q2, hlr2.tmps, hlr2.params, hlr2.small, hlr2.assign, hlr2.body, hlr2.fn⟩⟩
              have hnd : a2.defers = [] := by
                have hd := p2.ds
                rw [hds2] at hd
                cases hx : a2.defers with
                | nil => rfl
                | cons _ _ => rw [hx] at hd; exact hd.elim
              cases e2 with
              | norm =>
                cases hs
                cases e2' <;> first | exact p3.elim | skip
                have hlast := stepR_round_end (P := P) (b := b) (a := a2) (c := c) (cs := cs) hbr hbk (run_endRound none hh2)
                exact ⟨ρ2, _, g1.trans p1, hput .ready .ready none none trivial trivial, .bool true, .bool true, hpre.trans (p6.trans (.one hlast))⟩
              | exit id =>
                cases hs
                cases e2' <;> first | exact p3.elim | skip
                rename_i id'
                have p3' : id = id' := p3
                subst p3'
                obtain ⟨k0, q1, q2⟩ := p6
                have hlast := stepR_round_exit (P := P) (b := b) (a := a2) (c := c) (cs := cs) hbr hbk (q2.trans rfl) (run_endRound (some (.exit id)) hh2)
                exact ⟨ρ2, _, g1.trans p1, hput .done .done (some (.exit id)) (some (.exit id)) trivial rfl, .bool false, .bool false, hpre.trans (q1.trans (.one hlast))⟩
              | ret =>
                cases hs
                cases e2' <;> first | exact p3.elim | skip
                obtain ⟨k0, q1⟩ := p6
                have hlast := stepR_round_ret (P := P) (b := b) (a := a2) (k := k0) (c := c) (cs := cs) hbr hbk (run_endRound (some .ret) hh2)
                exact ⟨ρ2, _, g1.trans p1, hput .done .done (some .ret) (some .ret) trivial trivial, .bool false, .bool false, hpre.trans (q1.trans (.one hlast))⟩
              | pan v =>
                cases hs
                cases e2' <;> first | exact p3.elim | skip
                rename_i v'
                obtain ⟨todo, q1⟩ := p6
                obtain ⟨fn, hfn⟩ := Option.isSome_iff_exists.1 p2.fn
                exact ⟨ρ2, w2, g1.trans p1, p2.sr, v', p3, hpre.trans (q1.trans (.one (step_leave_panicked ⟨rfl, hnd, fn, hfn⟩)))⟩
            · cases hs
          · cases hs
        · cases hs
      · cases hs
    · cases hs
  · cases hs

/-- One call, given the calls within. -/
def callS (S : ASys) (n : Nat) (K : CallFn) : CallFn := fun c args u h =>
    match c with
    | .fn f =>
      match S.fns.get f with
      | none => none
      | some fn =>
        if args.length = fn.nparams then
          match exec K n none fn.body { t := initT 0 args, ds := [], u := u, rd := false, h := h } with
          | some (.norm, s) => (leave K fn.results n .returning s).map fun (r, h) => (r, s.u, h)
          | some (.ret, s) => (leave K fn.results n .returning s).map fun (r, h) => (r, s.u, h)
          | some (.pan v, s) => (leave K fn.results n (.panicking v) s).map fun (r, h) => (r, s.u, h)
          | _ => none
        else none
    | .round l =>
      match u, loopOf h l with
      | .no, some r => roundA K n l r args h
      | _, _ => none

theorem callN_succ (S : ASys) (n : Nat) : callN S (n + 1) = callS S n (callN S n) := rfl

theorem callS_next {S : ASys} {n : Nat} {K : CallFn} (hK : KNext K) : KNext (callS S n K) := by
  intro c args u h res u1 h1 hs
  simp only [callS] at hs
  split at hs
  · split at hs
    · cases hs
    · rename_i fn hfn
      split at hs
      · split at hs
        · rename_i s he
          obtain ⟨⟨r, h2⟩, hl, h3⟩ := isSomeMap hs; cases h3
          exact Nat.le_trans (exec_next hK n _ _ he) (leave_next hK _ _ hl)
        · rename_i s he
          obtain ⟨⟨r, h2⟩, hl, h3⟩ := isSomeMap hs; cases h3
          exact Nat.le_trans (exec_next hK n _ _ he) (leave_next hK _ _ hl)
        · rename_i s he
          obtain ⟨⟨r, h2⟩, hl, h3⟩ := isSomeMap hs; cases h3
          exact Nat.le_trans (exec_next hK n _ _ he) (leave_next hK _ _ hl)
        · cases hs
      · cases hs
  · split at hs
    · exact roundA_next hK hs
    · cases hs

theorem callS_sim {S : ASys} (hS : ∀ f af, S.fns.get f = some af → cFn P f = some af) (hD : ∀ K, KSim P K → DrawnOk P K) (n : Nat) {K : CallFn} (hK : KSim P K) : KSim P (callS S n K) := by
    have hKN : KNext K := fun c args u h res u1 h1 hk => (hK c args u h res u1 h1 hk).1
    intro c args u h res u1 h1 hs
    refine ⟨callS_next hKN _ _ _ _ _ _ _ hs, fun ρ G w args' hsr hG hargs => ?_⟩
    cases c with
    | round l =>
      simp only [callS] at hs
      split at hs
      · rename_i r hr
        intro e he
        obtain ⟨fn, tmps, as, bo, w', g1, g2⟩ := round_sim hK (hD _ hK) hr hs hsr hG hargs he
        refine ⟨fn, tmps, as, bo, w', g1, fun c cs => ?_⟩
        obtain ⟨ρ1, w1, g3, g4, g5⟩ := g2 c cs
        refine ⟨ρ1, w1, g3, g4, ?_⟩
        cases res <;> exact g5
      · cases hs
    | fn f =>
      simp only [callS] at hs
      split at hs
      · cases hs
      · rename_i af haf
        have hcf := hS f af haf
        split at hs
        · rename_i hlen
          obtain ⟨_, _, _, _, _, _, _, _, hgood⟩ := cFn_spec hcf
          have key : ∃ e s u0, exec K n none af.body { t := initT 0 args, ds := [], u := u, rd := false, h := h } = some (e, s) ∧
              LeaveAs e u0 ∧ leave K af.results n u0 s = some (res, h1) ∧ u1 = s.u := by
            split at hs
            · rename_i s he
              obtain ⟨⟨r, h2⟩, hl, h3⟩ := isSomeMap hs; cases h3
              exact ⟨_, _, _, he, rfl, hl, rfl⟩
            · rename_i s he
              obtain ⟨⟨r, h2⟩, hl, h3⟩ := isSomeMap hs; cases h3
              exact ⟨_, _, _, he, rfl, hl, rfl⟩
            · rename_i v s he
              obtain ⟨⟨r, h2⟩, hl, h3⟩ := isSomeMap hs; cases h3
              exact ⟨_, _, _, he, rfl, hl, rfl⟩
            · cases hs
          obtain ⟨e, s, u0, hex, hu0, hl, rfl⟩ := key
          refine ⟨hgood, trivial, fun hno cs => ?_, fun hno m hm c cs hc => ?_⟩
          · have hu : URel ρ u { (default : Frame) with fn := f, kind := .normal, roundOf := none } cs := by
              unfold URel; rw [if_pos hno]
            obtain ⟨ρ1, w1, fr1, en, cs1, q1, q2, q3, q4, q5, q6, q7, q8, _, _⟩ := body_sim hK (hD _ hK) hcf hargs hlen hex hu0 hl hG hsr hu
            rw [hno] at q8
            have q8' : cs1 = cs := q8
            subst q8'
            refine ⟨en, w1, fr1, ⟨ρ1, q1, q2, q3⟩, ?_, q5, ?_⟩
            · cases en with
              | returned v => exact q4
              | panicked c => exact q4
              | outgrown => cases res <;> exact q3.elim
            · cases en with
              | returned v => exact ⟨q7.1, q7.2.1, q6, q7.2.2⟩
              | panicked c => exact q7
              | outgrown => trivial
          · have hu : URel ρ u { (default : Frame) with fn := f, kind := .deferred, roundOf := none } (c :: cs) := by
              unfold URel; rw [if_neg (by simp [hno])]; exact ⟨rfl, rfl, c, cs, rfl, hc ▸ hm⟩
            obtain ⟨ρ1, w1, fr1, en, cs1, q1, q2, q3, q4, q5, q6, q7, q8, q9, q10⟩ := body_sim hK (hD _ hK) hcf hargs hlen hex hu0 hl hG hsr hu
            unfold URel at q10
            rw [if_neg (by rw [q9]; simp [hno])] at q10
            obtain ⟨_, _, c1, rest, hcs, hm1⟩ := q10
            have hform : cs1 = { c with mode := c1.mode } :: cs := by
              rw [hno] at q8
              rcases q8 with h | ⟨x, r', m', h1, h2⟩
              · rw [h] at hcs ⊢; cases hcs; rfl
              · cases h1; rw [h2] at hcs ⊢; cases hcs; rfl
            refine ⟨en, c1.mode, w1, fr1, ⟨ρ1, q1, q2, q3, hm1⟩, ?_, q6, q7⟩
            rw [hform] at q4
            cases en with
            | returned v => exact q4
            | panicked c => exact q4
            | outgrown => cases res <;> exact q3.elim
        · cases hs

theorem callN_sim {S : ASys} (hS : ∀ f af, S.fns.get f = some af → cFn P f = some af) (hD : ∀ K, KSim P K → DrawnOk P K) : ∀ n, KSim P (callN S n)
  | 0 => by intro c args u h res u1 h1 hs; cases hs
  | n + 1 => callS_sim hS hD n (callN_sim hS hD n)

end
end Go.Proofs.YtbejfgpeledcjaaGreat.A
