/- Regions whose order is open (2); the abstract machine is sound: what a run of it comes to, every run of the model comes to. -/
import Derived.Test.YtbejfgpeledcjaaGreatA6
set_option linter.unusedVariables false
set_option linter.unusedSimpArgs false
namespace Go.Proofs.YtbejfgpeledcjaaGreat.A
noncomputable section
open Go

variable {P : Program} {K : CallFn} {nt : Nat} {ops : Array Oper} {l : List AOper} {ws : List Nat} {HH : List AHeap} {p : Nat} {σ : Nat → St} {G : Bes}
variable {ro : Option Nat} {b : Frame} {ρ0 : Ren} {cs0 : List Frame} {S : Nat → Prop} {c : Nat} {ρ : Ren} {Gs : Bes} {a : Act} {cs : List Frame} {w : World}

/-- The writing operation that may be carried out is the next one. -/
theorem Inv.isNext (R : Reg P K nt ops l ws HH p σ G) (I : Inv P nt ops l p σ G ro b ρ0 cs0 S c ρ Gs a cs w) (hcw : c < p → ∃ x, l[c]? = some x ∧ x.op.cls = .write) {i : Nat} (hi : i ≤ p) {x : AOper} (hx : l[i]? = some x)
    (hw : x.op.cls = .write) (hn : ¬ S i) (hr : ∀ j, anc (ancAll [] ops.toList) i j = true → S j) : i = c := by
  have hci : c ≤ i := by
    rcases Nat.lt_or_ge i p with h | h
    · have := I.cs1 i x h hx hw
      rcases Nat.lt_or_ge i c with h' | h'
      · exact absurd (this.2 h') hn
      · exact h'
    · have := I.cle; omega
  rcases Nat.lt_or_ge c i with h | h
  · exfalso
    have hcp : c < p := by omega
    obtain ⟨y, hy, hyw⟩ := hcw hcp
    have := R.fit.chain (fun z => S z ∨ z = i) (fun z j hz hj => by
      rcases hz with hz | rfl
      · exact .inl (I.down.anc (z + 1) z j (by omega) hz hj)
      · exact .inl (hr j hj)) c i ((R.fit.mem c).2 ⟨y, hy, hyw⟩) ((R.fit.mem i).2 ⟨x, hx, hw⟩) h (.inr rfl)
    rcases this with h1 | h1
    · have := (I.cs1 c y hcp hy hyw).1 h1; omega
    · omega
  · omega

theorem Inv.besideNext (R : Reg P K nt ops l ws HH p σ G) (I : Inv P nt ops l p σ G ro b ρ0 cs0 S c ρ Gs a cs w) {x : AOper} (hc : c < p) (hx : l[c]? = some x) (hw : x.op.cls = .write) : Beside Gs (σ (c + 1)).h.next := by
  intro y hy
  rcases Nat.lt_or_ge y (σ p).h.next with h | h
  · obtain ⟨j, ob, hA, hs, he⟩ := I.g5 y h hy
    have h2 := I.g2 y hy
    have hjc : c ≤ j := by
      rcases Nat.lt_or_ge j c with h' | h'
      · have := hA.lt (ob' := ob) R h' I.cle; omega
      · exact h'
    have hne : j ≠ c := by
      rintro rfl
      obtain ⟨_, o, _, g1, g2, _⟩ := hA
      rw [hx] at g1; cases g1; rw [hw] at g2; cases g2
    have := R.next_le (i := c + 1) (j := j) (by omega) (Nat.le_of_lt hA.1)
    omega
  · exact Nat.le_trans (R.next_le (by omega) (Nat.le_refl _)) h

/-- A write has been carried out. -/
theorem Inv.wrote (R : Reg P K nt ops l ws HH p σ G) (I : Inv P nt ops l p σ G ro b ρ0 cs0 S c ρ Gs a cs w) (hc : c < p) {x : AOper} (hx : l[c]? = some x) (hw : x.op.cls = .write) (hn : ¬ S c)
    (hd : Down ops.toList (fun j => S j ∨ j = c)) {ρ1 : Ren} {a1 : Act} {cs1 : List Frame} {w1 : World} (hle : ρ.le ρ1) (hsr : SR P ρ1 (σ (c + 1)).h Gs w1)
    {v v' : Value} (hv : VRel ρ1 v v') (ht : (σ (c + 1)).t = putT (σ c).t x.dst v) (hsz : ∀ d, x.dst = some d → d < a.tmps.size) (ha1 : a1.tmps = a.tmps)
    (hds : DsRel ρ1 (σ (c + 1)).ds a1.defers) (hu : URel ρ1 (σ (c + 1)).u b cs1) (hro : (σ (c + 1)).rd = (σ c).rd) (hcst : CsTo (σ c).u.isNo cs cs1) (huno : (σ (c + 1)).u.isNo = (σ c).u.isNo) :
    Inv P nt ops l p σ G ro b ρ0 cs0 (fun j => S j ∨ j = c) (c + 1) ρ1 Gs (a1.put x.dst v') cs1 w1 := by
  have hnext := R.next1 hc
  have hnA : ∀ ob, ¬ Alc l p σ c ob := fun ob hA => by
    obtain ⟨_, o, _, g1, g2, _⟩ := hA
    rw [hx] at g1; cases g1; rw [hw] at g2; cases g2
  refine ⟨I.ext.trans hle, hd, ?_, hc, ?_, hsr, I.g1, I.besideNext R hc hx hw, I.g3, ?_, ?_, ?_, I.slotsPut R hc hx hn hle ha1 hv ht hsz, by rw [put_size, ha1]; exact I.size, by rw [put_defers]; exact hds, hu, I.ro.mono hle hro, I.cst.trans (I.uno ▸ hcst), huno.trans I.uno, I.raw⟩
  · rintro j (hj | rfl)
    · exact I.lt j hj
    · exact .inl hc
  · intro j y hj hy hyw
    by_cases hjc : j = c
    · subst hjc; simp
    · simp only [hjc, or_false]
      rw [I.cs1 j y hj hy hyw]; omega
  · rintro j ob hA (hs | rfl) hle'
    · exact I.g4 j ob hA hs (by omega)
    · exact absurd hA (hnA ob)
  · intro y hy hsome
    obtain ⟨j, ob, h1, h2, h3⟩ := I.g5 y hy hsome
    exact ⟨j, ob, h1, .inl h2, h3⟩
  · intro j ob hA hs hlt
    have hjc : j ≠ c := by rintro rfl; exact hnA ob hA
    rcases Nat.lt_or_ge j c with h | h
    · exact I.g6 j ob hA (fun h' => hs (.inl h')) (hA.lt (ob' := ob) R h I.cle)
    · have := R.next_le (i := c + 1) (j := j) (by omega) (Nat.le_of_lt hA.1)
      omega

theorem push_inj {h : AHeap} {o o' : AObj} (e : h.push o = h.push o') : o = o' := by
  have h1 : (h.push o).get h.next = (h.push o').get h.next := by rw [e]
  simp at h1; exact h1

theorem Inv.one (R : Reg P K nt ops l ws HH p σ G) (hK : KSim P K) (hGB : ∀ y, G.ban y → y < (σ 0).h.next) (I : Inv P nt ops l p σ G ro b ρ0 cs0 S c ρ Gs a cs w)
    (hcw : c < p → ∃ x, l[c]? = some x ∧ x.op.cls = .write) {i : Nat} (hi : i < p) (hn : ¬ S i) {o : Oper} (ho : ops[i]? = some o) (hr : ∀ e ∈ o.after.toList, Region.binds .any e = true → S e.on) (rest : List Nat) (k : List Item) :
    ∃ ρ1 Gs1 c1 a1 cs1 w1, Steps P (lone (fat b a (.inRegion ops (i :: rest) :: k)) cs w) (lone (fat b a1 (.inRegion ops rest :: k)) cs1 w1) ∧
      Inv P nt ops l p σ G ro b ρ0 cs0 (fun j => S j ∨ j = i) c1 ρ1 Gs1 a1 cs1 w1 ∧ (c1 < p → ∃ x, l[c1]? = some x ∧ x.op.cls = .write) := by
  obtain ⟨x, hx, hsrec⟩ := R.step i hi
  have hco := R.co i o x ho hx
  have hol : ops.toList[i]? = some o := by simpa using ho
  have hanc : ∀ j, anc (ancAll [] ops.toList) i j = true → S j := fun j hj => ready_anc I.down hol hr hj
  have hslot : ∀ d ∈ x.names, VRel ρ (((σ i).t.get d).getD blank) (a.tmps.getD d undef) := fun d hd => I.slot R (Nat.le_of_lt hi) hx hn hanc hd
  have hord : ORd ρ (σ i).t a x.op.opds := by
    intro z hz
    cases z with
    | tmp d =>
      refine hslot d ?_
      unfold AOper.names AOper.reads
      have : ∀ L : List Operand, Operand.tmp d ∈ L → d ∈ tmpsOf L := by
        intro L
        induction L with
        | nil => simp
        | cons y ys ih =>
          intro h
          cases y <;> simp only [tmpsOf] <;> simp at h ⊢ <;> first | exact ih h | (rcases h with rfl | h; exact .inl rfl; exact .inr (ih h))
      have := this _ hz
      simp only [List.mem_append]; exact .inr (.inr this)
    | const v =>
      have := hco.ok
      simp only [AOp.ok, Bool.and_eq_true] at this
      exact VRel.const (List.all_eq_true.1 this.1.1 _ hz)
    | global g => exact .poison _
    | func f => exact .func f [] [] [] [] rfl rfl (fun i x y h => by simp at h) (fun i x y h => by simp at h)
  have hguard : ∀ d want, x.guard = some (d, want) → VRel ρ (((σ i).t.get d).getD blank) (a.tmps.getD d undef) := fun d want hg => hslot d (by unfold AOper.names AOper.reads; rw [hg]; simp)
  have hsz : ∀ d, x.dst = some d → d < a.tmps.size := fun d hd => by rw [I.size]; exact hco.lt d (by rw [← hco.dst]; exact hd)
  have hd' : Down ops.toList (fun j => S j ∨ j = i) := I.down.add hol hr
  rcases hsrec.step with ⟨hwant, hnew⟩ | ⟨hwant, hcls⟩
  · -- not wanted
    have hwc := wanted_rel' hco hguard hwant
    have hstep := fstep_op_skip (P := P) (b := b) (a := a) (k := k) (cs := cs) (w := w) (ops := ops) (i := i) (rest := rest) (by simp [ho, hwc])
    simp only [ho, Option.bind_some] at hstep
    rw [← hco.dst] at hstep
    have ht : (σ (i + 1)).t = putT (σ i).t x.dst blank := by rw [hnew]
    by_cases hw : x.op.cls = .write
    · have hic := I.isNext R hcw (Nat.le_of_lt hi) hx hw hn hanc
      subst hic
      have I1 := I.wrote (a1 := a) (cs1 := cs) (w1 := w) R hi hx hw hn hd' (.refl _) (by rw [hnew]; exact I.sr) (.blank ρ) ht hsz rfl (by rw [hnew]; exact I.ds) (by rw [hnew]; exact I.u) (by rw [hnew]) (.refl _ _) (by rw [hnew])
      obtain ⟨Gs', c', I2, hcw'⟩ := I1.settle R _ _ _ rfl
      exact ⟨ρ, Gs', c', _, cs, w, .one hstep, I2, hcw'⟩
    · have hnA : ∀ ob, ¬ Alc l p σ i ob := fun ob hA => by
        obtain ⟨_, y, _, g1, _, g3, _⟩ := hA
        rw [hx] at g1; cases g1; rw [hwant] at g3; cases g3
      exact ⟨ρ, Gs, c, _, cs, w, .one hstep, I.putSame R hi hx hn hw hd' hnA (.blank ρ) ht hsz, hcw⟩
  · have hwc := wanted_rel' hco hguard hwant
    have hsim := op_sim (ρ := ρ) (t := (σ i).t) (a := a) hco.op hco.ok hord
    rcases hcls with ⟨hw, hop⟩ | ⟨hc, v, hnew, hread⟩ | ⟨hc, v, ob, hop, hnew, hmade⟩ | ⟨hc, v, hop, hnew⟩
    · -- a write
      have hic := I.isNext R hcw (Nat.le_of_lt hi) hx hw hn hanc
      subst hic
      obtain ⟨_, hout⟩ := opStep_sim (k := k) (rest := rest) hK ho hco.op hco.ok hco.dst hop hwc I.sr hord I.ds I.u I.ro (I.besideNext R hi hx hw)
      obtain ⟨v, v', ds', ρ1, cs1, w1, q1, q2, q3, q4, q5, q6, q7, q8, q9, q10⟩ := hout
      rw [← hco.dst] at q4
      have I1 := I.wrote (a1 := { a with defers := ds' }) (cs1 := cs1) (w1 := w1) R hi hx hw hn hd' q3 q5 q2 q1 hsz rfl q6 q7 q8 q9 q10
      obtain ⟨Gs', c', I2, hcw'⟩ := I1.settle R _ _ _ rfl
      exact ⟨ρ1, Gs', c', _, cs1, w1, q4, I2, hcw'⟩
    · -- a read
      have hnd := nodefer hco.op (by rw [hc]; simp)
      have hwin := I.window R (Nat.le_of_lt hi) hx hn hanc
      have hav := hread _ _ hwin.1 hwin.2 (R.front I.cle hcw)
      unfold OpS at hsim
      rw [hc] at hsim
      obtain ⟨_, v', h1, h2⟩ := hsim _ _ _ I.sr _ _ hav
      have hstep := fop_value (P := P) (k := k) (cs := cs) (rest := rest) (b := b) ho hwc (.inr hnd) h1
      rw [← hco.dst] at hstep
      have hnA : ∀ ob, ¬ Alc l p σ i ob := fun ob hA => by
        obtain ⟨_, y, _, g1, g2, _⟩ := hA
        rw [hx] at g1; cases g1; rw [hc] at g2; cases g2
      exact ⟨ρ, Gs, c, _, cs, w, .one hstep, I.putSame R hi hx hn (by rw [hc]; simp) hd' hnA h2 (by rw [hnew]) hsz, hcw⟩
    · -- a block
      have hnd := nodefer hco.op (by rw [hc]; simp)
      have hA : Alc l p σ i ob := ⟨hi, x, v, hx, hc, hwant, hop⟩
      have hnw : x.op.cls ≠ .write := by rw [hc]; simp
      unfold OpS at hsim
      rw [hc] at hsim
      obtain ⟨ob', he, obj, room, sz, hall⟩ := hsim _ _ _ hop
      have := push_inj he; subst this
      obtain ⟨v', h1, h2⟩ := hall w
      have hstep := fop_value (P := P) (k := k) (cs := cs) (rest := rest) (b := b) ho hwc (.inr hnd) h1
      rw [← hco.dst] at hstep
      have hbp : (σ i).h.next < (σ p).h.next := hA.lt (ob' := ob) R hi (Nat.le_refl _)
      have hrho : ρ (σ i).h.next = none := by
        rcases Nat.lt_or_ge (σ i).h.next (σ c).h.next with hlt | hge
        · exact (I.sr.ban _ (I.g6 i ob hA hn hlt)).2
        · cases hx' : ρ (σ i).h.next with
          | none => rfl
          | some e =>
            rcases I.sr.dom _ _ hx' with h3 | h3
            · omega
            · obtain ⟨j, ob2, hA2, hs2, he2⟩ := I.g5 _ hbp h3
              exact absurd ((hA2.inj hA R he2) ▸ hs2) hn
      have hle := Ren.le_add ⟨w.heap.size, 0, room, sz⟩ hrho
      obtain ⟨h3, h4⟩ := h2 _ hle (Ren.add_same _ _ _)
      have ht : (σ (i + 1)).t = putT (σ i).t x.dst v := by rw [hnew]
      rcases Nat.lt_or_ge i c with hic | hci
      · -- late: the heap has it
        have hlt : (σ i).h.next < (σ c).h.next := hA.lt (ob' := ob) R hic I.cle
        have hget : (σ c).h.get (σ i).h.next = some ob := by
          rcases Nat.lt_or_ge (W l i) (W l c) with hW | hW
          · exact hmade (W l c) _ hW (I.window R (Nat.le_of_lt hi) hx hn hanc).2 (R.front I.cle hcw)
          · have hk := R.keep (i := i + 1) (y := (σ i).h.next) (c - (i + 1)) (by have := I.cle; omega) (fun j y hj1 hj2 hy hyw => by
                have h5 := W_succ hy
                rw [if_pos hyw] at h5
                have h6 := W_mono l (i := i) (j := j) (by omega)
                have h7 := W_mono l (i := j + 1) (j := c) (by omega)
                omega) (by rw [hA.next R]; simp)
            rw [show i + 1 + (c - (i + 1)) = c by omega] at hk
            rw [hk, hA.next R]; simp
        refine ⟨_, ⟨Gs.f, fun y => y ≠ (σ i).h.next ∧ Gs.ban y, Gs.raw⟩, c, _, cs, _, .one hstep, I.put R hi hx hn hnw hd' hle (I.sr.make (Gs' := ⟨Gs.f, fun y => y ≠ (σ i).h.next ∧ Gs.ban y, Gs.raw⟩) hrho rfl h4 (.inl ⟨hlt, hget, fun y => rfl⟩) (fun y hy => hy) rfl) ?_ I.g2 I.g3 ?_ ?_ ?_ rfl h3 ht hsz, hcw⟩
        · intro y hy
          refine ⟨?_, I.g1 y hy⟩
          have h5 := hGB y hy
          have h6 := R.next_le (i := 0) (j := i) (by omega) (Nat.le_of_lt hi)
          omega
        · rintro j ob2 hA2 (hs | rfl) hle2
          · exact I.g4 j ob2 hA2 hs hle2
          · omega
        · intro y hy hsome
          obtain ⟨j, ob2, q1, q2, q3⟩ := I.g5 y hy hsome
          exact ⟨j, ob2, q1, .inl q2, q3⟩
        · intro j ob2 hA2 hs hlt2
          refine ⟨fun he2 => hs (.inr (hA2.inj hA R he2)), I.g6 j ob2 hA2 (fun h' => hs (.inl h')) hlt2⟩
      · -- early: it is kept beside
        have hge : (σ c).h.next ≤ (σ i).h.next := R.next_le hci (Nat.le_of_lt hi)
        refine ⟨_, ⟨fun y => if y = (σ i).h.next then some ob else Gs y, Gs.ban, Gs.raw⟩, c, _, cs, _, .one hstep, I.put R hi hx hn hnw hd' hle (I.sr.make (Gs' := ⟨fun y => if y = (σ i).h.next then some ob else Gs y, Gs.ban, Gs.raw⟩) hrho rfl h4 (.inr ⟨hge, by simp, fun y hy => by simp [hy]⟩) (fun y hy => ⟨?_, hy⟩) rfl) I.g1 ?_ ?_ ?_ ?_ ?_ rfl h3 ht hsz, hcw⟩
        · have := (I.sr.ban y hy).1; omega
        · intro y hy
          simp only at hy
          split at hy
          · rename_i h5; omega
          · exact I.g2 y hy
        · intro y hy
          have hne : y ≠ (σ i).h.next := by omega
          simp only [hne, if_false]; exact I.g3 y hy
        · rintro j ob2 hA2 (hs | rfl) hle2
          · have hne : (σ j).h.next ≠ (σ i).h.next := fun he2 => hn ((hA2.inj hA R he2) ▸ hs)
            simp only [hne, if_false]; exact I.g4 j ob2 hA2 hs hle2
          · have e1 := hA2.next R
            rw [hA.next R] at e1
            have := push_inj e1; subst this
            simp
        · intro y hy hsome
          simp only at hsome
          split at hsome
          · rename_i h5; exact ⟨i, ob, hA, .inr rfl, h5.symm⟩
          · obtain ⟨j, ob2, q1, q2, q3⟩ := I.g5 y hy hsome
            exact ⟨j, ob2, q1, .inl q2, q3⟩
        · intro j ob2 hA2 hs hlt2
          exact I.g6 j ob2 hA2 (fun h' => hs (.inl h')) hlt2
    · -- nothing but a value
      have hnd := nodefer hco.op (by rw [hc]; simp)
      unfold OpS at hsim
      rw [hc] at hsim
      obtain ⟨_, _, v', h1, h2⟩ := hsim _ _ _ hop
      have hstep := fop_value (P := P) (k := k) (cs := cs) (rest := rest) (b := b) ho hwc (.inr hnd) (h1 w)
      rw [← hco.dst] at hstep
      have hnA : ∀ ob, ¬ Alc l p σ i ob := fun ob hA => by
        obtain ⟨_, y, _, g1, g2, _⟩ := hA
        rw [hx] at g1; cases g1; rw [hc] at g2; cases g2
      exact ⟨ρ, Gs, c, _, cs, w, .one hstep, I.putSame R hi hx hn (by rw [hc]; simp) hd' hnA h2 (by rw [hnew]) hsz, hcw⟩

end
end Go.Proofs.YtbejfgpeledcjaaGreat.A
namespace Go.Proofs.YtbejfgpeledcjaaGreat.A
noncomputable section
open Go

variable {P : Program} {K : CallFn} {nt : Nat} {ops : Array Oper} {l : List AOper} {ws : List Nat} {HH : List AHeap} {p : Nat} {σ : Nat → St} {G : Bes}
variable {ro : Option Nat} {b : Frame} {ρ0 : Ren} {cs0 : List Frame} {S : Nat → Prop} {c : Nat} {ρ : Ren} {Gs : Bes} {a : Act} {cs : List Frame} {w : World}

theorem Inv.ord (R : Reg P K nt ops l ws HH p σ G) (I : Inv P nt ops l p σ G ro b ρ0 cs0 S c ρ Gs a cs w) {i : Nat} (hi : i ≤ p) {o : Oper} {x : AOper} (ho : ops[i]? = some o) (hx : l[i]? = some x) (hn : ¬ S i)
    (hanc : ∀ j, anc (ancAll [] ops.toList) i j = true → S j) : ORd ρ (σ i).t a x.op.opds := by
  have hco := R.co i o x ho hx
  intro z hz
  cases z with
  | tmp d =>
    refine I.slot R hi hx hn hanc ?_
    unfold AOper.names AOper.reads
    have : ∀ L : List Operand, Operand.tmp d ∈ L → d ∈ tmpsOf L := by
      intro L
      induction L with
      | nil => simp
      | cons y ys ih =>
        intro h
        cases y <;> simp only [tmpsOf] <;> simp at h ⊢ <;> first | exact ih h | (rcases h with rfl | h; exact .inl rfl; exact .inr (ih h))
    have := this _ hz
    simp only [List.mem_append]; exact .inr (.inr this)
  | const v =>
    have := hco.ok
    simp only [AOp.ok, Bool.and_eq_true] at this
    exact VRel.const (List.all_eq_true.1 this.1.1 _ hz)
  | global g => exact .poison _
  | func f => exact .func f [] [] [] [] rfl rfl (fun i x y h => by simp at h) (fun i x y h => by simp at h)

/-- At the end of the text, nothing is kept beside that was not there before. -/
theorem Inv.home (R : Reg P K nt ops l ws HH p σ G) (I : Inv P nt ops l p σ G ro b ρ0 cs0 S p ρ Gs a cs w) : SR P ρ (σ p).h G w := by
  refine I.sr.beside (fun y => ?_) I.g1 I.raw
  rcases Nat.lt_or_ge y (σ p).h.next with h | h
  · have h1 : G y = none := by
      cases hx : G y with
      | none => rfl
      | some o => have := R.bes y (by rw [hx]; rfl); omega
    have h2 : Gs y = none := by
      cases hx : Gs y with
      | none => rfl
      | some o => have := I.g2 y (by rw [hx]; rfl); omega
    rw [h1, h2]
  · exact (I.g3 y h).symm

theorem Inv.begin (R : Reg P K nt ops l ws HH p σ G) (hf : FR P ρ G ro nt (σ 0) b a cs w) : Inv P nt ops l p σ G ro b ρ cs (fun _ => False) 0 ρ G a cs w := by
  refine ⟨.refl _, fun _ _ h => h.elim, fun _ h => h.elim, by omega, fun j x _ _ _ => by simp, hf.sr, fun _ h => h, R.bes.le (R.next_le (by omega) (Nat.le_refl _)), fun _ _ => rfl, fun _ _ _ h => h.elim, fun y hy hs => ?_, fun j ob hA _ hlt => ?_, ?_, hf.size, hf.ds, hf.u, hf.ro, .refl _ _, rfl, rfl⟩
  · have := R.bes y hs; omega
  · have := R.next_le (i := 0) (j := j) (by omega) (Nat.le_of_lt hA.1); omega
  · intro q d hq h1 h2
    have := R.slots (i := 0) (d := d) q (by omega) (fun j x _ hj hx hd => (h1 j x (by omega) hx hd).2 (by omega))
    rw [Nat.zero_add] at this
    rw [this]; exact hf.t d

theorem safe_run {o : Oper} {x : AOper} (hco : CO P nt ops.toList o x) (hs : x.safe = true) (a : Act) (w : World) :
    o.guard = none ∧ x.op.cls ≠ .write ∧ ∃ v w', (execOp a.eval o).run P w = .ok (.value v) w' ∧ (w' = w ∨ ∃ ob, w' = w.alloc ob) := by
  unfold AOper.safe at hs
  simp only [Bool.and_eq_true, Option.isNone_iff_eq_none] at hs
  have hg : o.guard = none := by
    have := hco.guard
    rw [hs.1] at this
    unfold cGuard at this
    split at this
    · assumption
    · split at this <;> simp at this
  refine ⟨hg, ?_⟩
  have hok := hco.ok
  have hop := hco.op
  cases hx : x.op <;> rw [hx] at hs hok hop <;> simp at hs
  case mv z =>
    refine ⟨by simp [AOp.cls], ?_⟩
    have hord : ORd (fun _ => none) (match z with | .tmp d => (Tr.nil).put d poison | _ => .nil) a [z] := by
      intro y hy
      simp at hy; subst hy
      cases y with
      | tmp d => simp only [ev, Tr.get_put_same, Option.getD_some]; exact .poison _
      | const v => simp only [AOp.ok, AOp.opds, Bool.and_eq_true] at hok; exact VRel.const (List.all_eq_true.1 hok.1.1 (.const v) (by simp))
      | global g => exact .poison _
      | func f => exact .func f [] [] [] [] rfl rfl (fun i x y h => by simp at h) (fun i x y h => by simp at h)
    have hsim := op_sim (P := P) hop hok hord
    obtain ⟨_, _, v', h1, _⟩ := hsim ⟨0, .nil⟩ _ _ rfl
    exact ⟨v', w, h1 w, .inl rfl⟩
  case alloc z =>
    refine ⟨by simp [AOp.cls], ?_⟩
    have hsim := op_sim (P := P) (ρ := fun _ => none) (t := .nil) (a := a) hop hok (fun y hy => by simp [AOp.opds] at hy)
    obtain ⟨ob, _, obj, room, sz, hall⟩ := hsim ⟨0, .nil⟩ _ _ rfl
    obtain ⟨v', h1, _⟩ := hall w
    exact ⟨v', _, h1, .inr ⟨_, rfl⟩⟩

/-- An operation behind the one that panics, one that cannot fail. -/
theorem Inv.safe (R : Reg P K nt ops l ws HH p σ G) (I : Inv P nt ops l p σ G ro b ρ0 cs0 S c ρ Gs a cs w) {i : Nat} (hi : p < i) {x : AOper} {o : Oper} (ho : ops[i]? = some o) (hx : l[i]? = some x) (hs : x.safe = true)
    (hr : ∀ e ∈ o.after.toList, Region.binds .any e = true → S e.on) (rest : List Nat) (k : List Item) :
    ∃ a1 w1, Steps P (lone (fat b a (.inRegion ops (i :: rest) :: k)) cs w) (lone (fat b a1 (.inRegion ops rest :: k)) cs w1) ∧ Inv P nt ops l p σ G ro b ρ0 cs0 (fun j => S j ∨ j = i) c ρ Gs a1 cs w1 := by
  have hco := R.co i o x ho hx
  obtain ⟨hg, hnw, v, w', hrun, hw'⟩ := safe_run hco hs a w
  have hwant : Region.wanted o (yielded ops a.tmps) = true := by unfold Region.wanted; rw [hg]
  have hstep := fop_value (P := P) (k := k) (cs := cs) (rest := rest) (b := b) ho hwant (.inr (nodefer hco.op hnw)) hrun
  refine ⟨_, w', .one hstep, ?_⟩
  have hsr : SR P ρ (σ c).h Gs w' := by
    rcases hw' with rfl | ⟨ob, rfl⟩
    · exact I.sr
    · exact I.sr.other ob
  have hlt : ∀ j ob, Alc l p σ j ob → j ≠ i := fun j ob hA => by have := hA.1; omega
  refine ⟨I.ext, I.down.add (by simpa using ho) hr, ?_, I.cle, ?_, hsr, I.g1, I.g2, I.g3, ?_, ?_, ?_, ?_, by rw [put_size]; exact I.size, by rw [put_defers]; exact I.ds, I.u, I.ro, I.cst, I.uno, I.raw⟩
  · rintro j (hj | rfl)
    · exact I.lt j hj
    · exact .inr ⟨hi, x, hx, hs⟩
  · intro j y hj hy hyw
    have : j ≠ i := by omega
    simp only [this, or_false]; exact I.cs1 j y hj hy hyw
  · rintro j ob hA (hs | rfl) hle
    · exact I.g4 j ob hA hs hle
    · exact absurd rfl (hlt j ob hA)
  · intro y hy hsome
    obtain ⟨j, ob, q1, q2, q3⟩ := I.g5 y hy hsome
    exact ⟨j, ob, q1, .inl q2, q3⟩
  · intro j ob hA hs' hle
    exact I.g6 j ob hA (fun h => hs' (.inl h)) hle
  · intro q d hq h1 h2
    by_cases hd : x.dst = some d
    · exact absurd (.inr rfl) (h2 i x (by omega) hx hd)
    · have hget : (a.put o.dst v).tmps.getD d undef = a.tmps.getD d undef := by
        rw [← hco.dst]
        cases hxd : x.dst with
        | none => simp [Act.put]
        | some d' =>
          have hne : d' ≠ d := by rintro rfl; exact hd hxd
          simp only [Act.put, Array.getD_eq_getD_getElem?, Array.getElem?_setIfInBounds_ne hne]
      rw [hget]
      refine I.slots q d hq (fun j y hj hy hyd => ?_) (fun j y hj hy hyd hs' => h2 j y hj hy hyd (.inl hs'))
      have := h1 j y hj hy hyd
      have hne : j ≠ i := by omega
      simpa [hne] using this

theorem forget_get : ∀ (l : List AOper) (t : Tr Value) (d : Nat), ((∃ x ∈ l, x.dst = some d) → (forget l t).get d = some poison) ∧ ((∀ x ∈ l, x.dst ≠ some d) → (forget l t).get d = t.get d)
  | [], t, d => ⟨fun ⟨_, h, _⟩ => by simp at h, fun _ => rfl⟩
  | o :: rest, t, d => by
    have ih := forget_get rest (putT t o.dst poison) d
    simp only [forget]
    by_cases hr : ∃ x ∈ rest, x.dst = some d
    · refine ⟨fun _ => ih.1 hr, fun h => ?_⟩
      obtain ⟨x, h1, h2⟩ := hr
      exact absurd h2 (h x (by simp [h1]))
    · have hr' : ∀ x ∈ rest, x.dst ≠ some d := fun x hx hd => hr ⟨x, hx, hd⟩
      rw [ih.2 hr']
      constructor
      · rintro ⟨x, hx, hd⟩
        rcases List.mem_cons.1 hx with rfl | hx
        · rw [hd]; simp [putT, Tr.get_put_same]
        · exact absurd hd (hr' x hx)
      · intro h
        have hne := h o (by simp)
        cases ho : o.dst with
        | none => rfl
        | some d' =>
          have : d' ≠ d := by rintro rfl; exact hne ho
          simp only [putT]; rw [Tr.get_put_ne _ _ (fun e => this e.symm)]

theorem countP_less {α : Type} {p q : α → Bool} : ∀ {L : List α} {i : α}, (∀ x ∈ L, q x = true → p x = true) → i ∈ L → p i = true → q i = false → L.countP q + 1 ≤ L.countP p
  | [], i, _, hi, _, _ => by simp at hi
  | x :: L, i, h, hi, hp, hq => by
    simp only [List.countP_cons]
    by_cases hxi : i ∈ L
    · have ih := countP_less (L := L) (fun y hy => h y (by simp [hy])) hxi hp hq
      have := h x (by simp)
      cases hqx : q x <;> cases hpx : p x <;> simp_all <;> omega
    · have hx : i = x := by rcases List.mem_cons.1 hi with h' | h'; exact h'; exact absurd h' hxi
      subst hx
      have hle : L.countP q ≤ L.countP p := List.countP_mono_left (fun y hy hq => h y (by simp [hy]) hq)
      rw [hp, hq]; simp; omega

end
end Go.Proofs.YtbejfgpeledcjaaGreat.A
namespace Go.Proofs.YtbejfgpeledcjaaGreat.A
noncomputable section
open Go

variable {P : Program} {K : CallFn} {nt : Nat} {ops : Array Oper} {l : List AOper} {ws : List Nat} {HH : List AHeap} {p : Nat} {σ : Nat → St} {G : Bes}
variable {ro : Option Nat} {b : Frame} {ρ0 : Ren} {cs0 : List Frame} {S : Nat → Prop} {c : Nat} {ρ : Ren} {Gs : Bes} {a : Act} {cs : List Frame} {w : World}

theorem Inv.congr {S' : Nat → Prop} (I : Inv P nt ops l p σ G ro b ρ0 cs0 S c ρ Gs a cs w) (h : ∀ j, S j ↔ S' j) : Inv P nt ops l p σ G ro b ρ0 cs0 S' c ρ Gs a cs w := by
  have : S = S' := funext fun j => propext (h j)
  exact this ▸ I

/-- All is done. -/
theorem Inv.finish (R : Reg P K nt ops l ws HH p σ G) (I : Inv P nt ops l p σ G ro b ρ0 cs0 S c ρ Gs a cs w) (hcw : c < p → ∃ x, l[c]? = some x ∧ x.op.cls = .write) (hfn : (P.funcs[b.fn]?).isSome = true)
    (hall : ∀ j, j < l.length → S j) {e : Ex} {s1 : St} (hend : TEnd K l l p σ e s1) (k : List Item) : Out P ρ0 G ro nt b k cs0 (lone (fat b a (.inRegion ops [] :: k)) cs w) (σ 0) e s1 := by
  rcases hend with ⟨rfl, hp, rfl⟩ | ⟨v, s', o, _, ho, _⟩
  · have hcp : c = p := by
      rcases Nat.lt_or_ge c p with h | h
      · obtain ⟨x, hx, hw⟩ := hcw h
        have := (I.cs1 c x h hx hw).1 (hall c (by omega)); omega
      · have := I.cle; omega
    subst hcp
    refine ⟨ρ, a, cs, w, .norm, I.ext, ⟨I.home R, fun d => ?_, I.size, I.ds, I.u, I.ro, hfn⟩, trivial, I.cst, I.uno, .one fstep_region_end⟩
    refine I.slots c d (Nat.le_refl _) (fun j x hj hx _ => ⟨fun _ => hj, fun _ => hall j (by omega)⟩) (fun j x hj hx _ _ => ?_)
    have := (List.getElem?_eq_some_iff.1 hx).1; omega
  · exfalso
    have hp := (List.getElem?_eq_some_iff.1 ho).1
    rcases I.lt p (hall p hp) with h | ⟨h, _⟩ <;> omega

/-- The operation that panics. -/
theorem Inv.panics (R : Reg P K nt ops l ws HH p σ G) (hK : KSim P K) (I : Inv P nt ops l p σ G ro b ρ0 cs0 S c ρ Gs a cs w) (hcw : c < p → ∃ x, l[c]? = some x ∧ x.op.cls = .write) (hfn : (P.funcs[b.fn]?).isSome = true)
    {o : Oper} (ho : ops[p]? = some o) (hn : ¬ S p) (hr : ∀ e ∈ o.after.toList, Region.binds .any e = true → S e.on) {e : Ex} {s1 : St} (hend : TEnd K l l p σ e s1) (hG : Beside G s1.h.next) (rest : List Nat) (k : List Item) :
    Out P ρ0 G ro nt b k cs0 (lone (fat b a (.inRegion ops (p :: rest) :: k)) cs w) (σ 0) e s1 := by
  rcases hend with ⟨_, hp, _⟩ | ⟨v, s', x, rfl, hx, hwant, hw, hal, hop, rfl⟩
  · exfalso
    have := (Array.getElem?_eq_some_iff.1 ho).1
    have := R.len; omega
  · have hol : ops.toList[p]? = some o := by simpa using ho
    have hanc : ∀ j, anc (ancAll [] ops.toList) p j = true → S j := fun j hj => ready_anc I.down hol hr hj
    have hpc := I.isNext R hcw (Nat.le_refl _) hx hw hn hanc
    subst hpc
    have hco := R.co p o x ho hx
    have hguard : ∀ d want, x.guard = some (d, want) → VRel ρ (((σ p).t.get d).getD blank) (a.tmps.getD d undef) := fun d want hg => I.slot R (Nat.le_refl _) hx hn hanc (by unfold AOper.names AOper.reads; rw [hg]; simp)
    have hwc := wanted_rel' hco hguard hwant
    obtain ⟨_, hout⟩ := opStep_sim (k := k) (rest := rest) hK ho hco.op hco.ok hco.dst hop hwc (I.home R) (I.ord R (Nat.le_refl _) ho hx hn hanc) I.ds I.u I.ro hG
    obtain ⟨q1, q2, q3, q4, v', ρ1, w1, todo, q5, q6, q7, q8⟩ := hout
    refine ⟨ρ1, a, cs, w1, .pan v', I.ext.trans q6, ⟨q8, fun d => ?_, I.size, by rw [show (St.ds _) = s'.ds from rfl, q2]; exact I.ds.mono q6, by rw [show (St.u _) = s'.u from rfl, q3]; exact I.u.mono q6, I.ro.mono q6 q4, hfn⟩, q5, I.cst, (by rw [show (St.u _) = s'.u from rfl, q3]; exact I.uno), todo, q7⟩
    by_cases hd : ∃ y ∈ l, y.dst = some d
    · show VRel ρ1 (((forget l (σ p).t).get d).getD blank) _
      rw [(forget_get l (σ p).t d).1 hd]; exact .poison _
    · have hd' : ∀ y ∈ l, y.dst ≠ some d := fun y hy hyd => hd ⟨y, hy, hyd⟩
      show VRel ρ1 (((forget l (σ p).t).get d).getD blank) _
      rw [(forget_get l (σ p).t d).2 hd']
      exact (I.slots p d (Nat.le_refl _) (fun j y _ hy hyd => absurd hyd (hd' y (List.mem_of_getElem? hy))) (fun j y _ hy hyd => absurd hyd (hd' y (List.mem_of_getElem? hy)))).mono q6

theorem getD_set {listed : Array Bool} {i j : Nat} (hi : i < listed.size) : (listed.setIfInBounds i true).getD j false = true ↔ (listed.getD j false = true ∨ j = i) := by
  by_cases hij : i = j
  · subst hij; simp [hi]
  · have : j ≠ i := fun h => hij h.symm
    simp [Array.getElem?_setIfInBounds_ne hij, this]

theorem edges_lt : ∀ {ops : List Oper} {i j : Nat} {o : Oper}, edgesOk i ops = true → ops[j]? = some o → ∀ e ∈ o.after.toList, Region.binds .any e = true → e.on < i + j
  | [], _, j, _, _, h => by simp at h
  | x :: ops, i, j, o, h, hj => by
    simp only [edgesOk, Bool.and_eq_true] at h
    cases j with
    | zero =>
      simp at hj; subst hj
      intro e he hb
      have := List.all_eq_true.1 h.1 e he
      simpa [hb] using this
    | succ j =>
      simp at hj
      intro e he hb
      have := edges_lt h.2 hj e he hb; omega

theorem ready_none {ops : Array Oper} {listed : Array Bool} (he : edgesOk 0 ops.toList = true) (hs : listed.size = ops.size) (hn : Region.ready .any ops listed = []) : ∀ (m j : Nat), j < m → j < ops.size → listed.getD j false = true
  | 0, j, h, _ => by omega
  | m + 1, j, h, hj => by
    cases hl : listed.getD j false with
    | true => rfl
    | false =>
      exfalso
      have hmem : j ∈ Region.ready .any ops listed := by
        rw [mem_ready]
        refine ⟨?_, ops[j], Array.getElem?_eq_getElem hj, fun e hem hb => ?_⟩
        · have : j < listed.size := by omega
          simp [this] at hl ⊢; exact hl
        · have hlt := edges_lt he (j := j) (o := ops[j]) (by simp [hj]) e (by simpa using hem) hb
          exact ready_none he hs hn m e.on (by omega) (by omega)
      rw [hn] at hmem; cases hmem

/-- However the operations are ordered. -/
theorem drawn_run (R : Reg P K nt ops l ws HH p σ G) (hK : KSim P K) (hE : edgesOk 0 ops.toList = true) (hGB : ∀ y, G.ban y → y < (σ 0).h.next) (hfn : (P.funcs[b.fn]?).isSome = true)
    {e : Ex} {s1 : St} (hend : TEnd K l l p σ e s1) (hG : Beside G s1.h.next) (k : List Item) : ∀ (fuel t : Nat) (listed : Array Bool) (S : Nat → Prop) (c : Nat) (ρ : Ren) (Gs : Bes) (a : Act) (cs : List Frame) (w : World),
    Inv P nt ops l p σ G ro b ρ0 cs0 S c ρ Gs a cs w → (c < p → ∃ x, l[c]? = some x ∧ x.op.cls = .write) → (∀ j, S j ↔ listed.getD j false = true) → listed.size = ops.size →
    (List.range ops.size).countP (fun j => !listed.getD j false) ≤ fuel →
    Out P ρ0 G ro nt b k cs0 (lone (fat b a (.inRegion ops (Region.linearise.go .any ops fuel t listed []) :: k)) cs w) (σ 0) e s1
  | 0, t, listed, S, c, ρ, Gs, a, cs, w, I, hcw, hS, hsz, hcnt => by
    simp only [Region.linearise.go, List.reverse_nil]
    refine I.finish R hcw hfn (fun j hj => ?_) hend k
    rw [hS]
    have := List.countP_eq_zero.1 (Nat.le_zero.1 hcnt) j (List.mem_range.2 (by have := R.len; omega))
    simpa using this
  | fuel + 1, t, listed, S, c, ρ, Gs, a, cs, w, I, hcw, hS, hsz, hcnt => by
    simp only [Region.linearise.go]
    change Out P ρ0 G ro nt b k cs0 (lone (fat b a (.inRegion ops (match (Region.ready .any ops listed)[t % (Region.ready .any ops listed).length]? with
      | some i => Region.linearise.go .any ops fuel (t / (Region.ready .any ops listed).length) (listed.setIfInBounds i true) [i]
      | none => [].reverse) :: k)) cs w) (σ 0) e s1
    cases hi : (Region.ready .any ops listed)[t % (Region.ready .any ops listed).length]? with
    | none =>
      have hnil : Region.ready .any ops listed = [] := by
        cases hr : Region.ready .any ops listed with
        | nil => rfl
        | cons x xs =>
          rw [hr] at hi
          have hlt : t % (x :: xs).length < (x :: xs).length := Nat.mod_lt _ (by simp)
          simp at hi
          simp at hlt
          omega
      simp only [List.reverse_nil]
      exact I.finish R hcw hfn (fun j hj => (hS j).2 (ready_none hE hsz hnil (j + 1) j (by omega) (by have := R.len; omega))) hend k
    | some i =>
      simp only []
      rw [linearise_go_acc, List.reverse_singleton, List.singleton_append]
      obtain ⟨hun, o, ho, hready⟩ := mem_ready.1 (List.mem_of_getElem? hi)
      have hio : i < ops.size := (Array.getElem?_eq_some_iff.1 ho).1
      have hil : i < listed.size := by omega
      have hnS : ¬ S i := by
        rw [hS]
        simp [hil] at hun ⊢; exact hun
      have hr : ∀ e ∈ o.after.toList, Region.binds .any e = true → S e.on := fun e he hb => (hS _).2 (hready e (by simpa using he) hb)
      have hS' : ∀ j, (S j ∨ j = i) ↔ (listed.setIfInBounds i true).getD j false = true := fun j => by rw [getD_set hil, hS]
      have hcnt' : (List.range ops.size).countP (fun j => !(listed.setIfInBounds i true).getD j false) ≤ fuel := by
        have := countP_less (L := List.range ops.size) (p := fun j => !listed.getD j false) (q := fun j => !(listed.setIfInBounds i true).getD j false) (i := i) (fun j _ hq => by
          cases hl : listed.getD j false with
          | false => rfl
          | true =>
            have := (hS' j).1 (.inl ((hS j).2 hl))
            rw [this] at hq; cases hq) (List.mem_range.2 hio) (by
          cases hl : listed.getD i false with
          | false => rfl
          | true => exact absurd ((hS i).2 hl) hnS) (by rw [(hS' i).1 (.inr rfl)]; rfl)
        omega
      rcases Nat.lt_trichotomy i p with hip | rfl | hip
      · obtain ⟨ρ1, Gs1, c1, a1, cs1, w1, hst, I1, hcw1⟩ := I.one R hK hGB hcw hip hnS ho hr (Region.linearise.go .any ops fuel (t / (Region.ready .any ops listed).length) (listed.setIfInBounds i true) []) k
        exact .steps hst (drawn_run R hK hE hGB hfn hend hG k fuel _ _ _ c1 ρ1 Gs1 a1 cs1 w1 I1 hcw1 hS' (by simp [hsz]) hcnt')
      · exact I.panics R hK hcw hfn ho hnS hr hend hG _ k
      · have hlen := R.len
        obtain ⟨x, hx⟩ : ∃ x, l[i]? = some x := ⟨l[i], List.getElem?_eq_getElem (by omega)⟩
        have hsafe : x.safe = true := by
          rcases hend with ⟨_, hp, _⟩ | ⟨v, s', y, _, hy, _, _, hal, _, _⟩
          · omega
          · rcases R.alone p y hy hal i x hx with h1 | h1 | h1
            · omega
            · exfalso
              have hSp := ready_anc I.down (by simpa using ho) hr h1
              rcases I.lt p hSp with h2 | ⟨h2, _⟩ <;> omega
            · exact h1
        obtain ⟨a1, w1, hst, I1⟩ := I.safe R hip ho hx hsafe hr (Region.linearise.go .any ops fuel (t / (Region.ready .any ops listed).length) (listed.setIfInBounds i true) []) k
        exact .steps hst (drawn_run R hK hE hGB hfn hend hG k fuel _ _ _ c ρ Gs a1 cs w1 I1 hcw hS' (by simp [hsz]) hcnt')

theorem drawn_ok (hm : P.follows .mixedOrders = true) (hK : KSim P K) : DrawnOk P K := by
  intro ro nt id ops b k l hl ρ G cs s s1 e a w hrun hG hf
  have hKN : KNext K := fun c args u h res u1 h1 hk => (hK c args u h res u1 h1 hk).1
  unfold cDrawn at hl
  split at hl
  · cases hl
  · rename_i l0 hl0
    dsimp only at hl
    split at hl
    · rename_i hcond
      cases hl
      simp only [Bool.and_eq_true] at hcond
      obtain ⟨⟨hE, hSl⟩, hCh⟩ := hcond
      have hfit0 := fit_of hSl hCh
      obtain ⟨hlen0, hget0⟩ := cOpers_get hl0
      obtain ⟨l, hl⟩ : ∃ l, l = marked (ancAll [] ops.toList) (writesAt ((List.range l0.length).zip l0)) ((List.range l0.length).zip l0) := ⟨_, rfl⟩
      rw [← hl] at hrun
      have hlen : l.length = l0.length := by rw [hl]; simp [marked]
      have hmk : ∀ (i : Nat) (x : AOper), l[i]? = some x → ∃ x0, l0[i]? = some x0 ∧ x.dst = x0.dst ∧ x.op = x0.op ∧ x.guard = x0.guard ∧
          x.lo = (writesAt ((List.range l0.length).zip l0)).countP (anc (ancAll [] ops.toList) i ·) ∧ x.hi = (writesAt ((List.range l0.length).zip l0)).countP (fun j => !anc (ancAll [] ops.toList) j i) ∧
          x.alone = ((List.range l0.length).zip l0).all fun (j, y) => decide (j ≤ i) || anc (ancAll [] ops.toList) j i || y.safe := by
        intro i x hx
        rw [hl] at hx
        simp only [marked, List.getElem?_map] at hx
        obtain ⟨⟨i', x0⟩, h1, h2⟩ := Option.map_eq_some_iff.1 hx
        have h3 := mem_il.1 (List.mem_of_getElem? h1)
        rw [List.getElem?_zip_eq_some] at h1
        have h4 : i' = i := by
          have := h1.1
          rw [List.getElem?_range (by have := (List.getElem?_eq_some_iff.1 h1.2).1; omega)] at this
          simpa using this.symm
        subst h4
        subst h2
        exact ⟨x0, h1.2, rfl, rfl, rfl, rfl, rfl, rfl⟩
      have hmk' : ∀ (i : Nat) (x0 : AOper), l0[i]? = some x0 → ∃ x, l[i]? = some x ∧ x.dst = x0.dst ∧ x.op = x0.op ∧ x.guard = x0.guard := by
        intro i x0 hx0
        have hlt := (List.getElem?_eq_some_iff.1 hx0).1
        have hx : l[i]? = some l[i] := List.getElem?_eq_getElem (by omega)
        obtain ⟨y, h1, h2, h3, h4, _⟩ := hmk i _ hx
        rw [hx0] at h1; cases h1
        exact ⟨_, hx, h2, h3, h4⟩
      have hopmap : l.map (·.op.cls) = l0.map (·.op.cls) := by
        apply List.ext_getElem?
        intro i
        simp only [List.getElem?_map]
        cases hx : l[i]? with
        | none =>
          have : l0[i]? = none := by rw [List.getElem?_eq_none_iff] at hx ⊢; omega
          rw [this]
        | some x =>
          obtain ⟨x0, h1, _, h3, _⟩ := hmk i x hx
          rw [h1]; simp [h3]
      have hfit : Fit (ancAll [] ops.toList) (writesAt ((List.range l0.length).zip l0)) l := by
        refine ⟨fun i j x y d hx hy hd hij hn => ?_, hfit0.chain, fun i => ?_, fun c => ?_⟩
        · obtain ⟨x0, h1, h2, h3, h4, _⟩ := hmk i x hx
          obtain ⟨y0, g1, g2, g3, g4, _⟩ := hmk j y hy
          refine hfit0.slot i j x0 y0 d h1 g1 (by rw [← h2]; exact hd) hij ?_
          have : y.names = y0.names := by unfold AOper.names AOper.reads; rw [g2, g3, g4]
          rw [← this]; exact hn
        · rw [hfit0.mem]
          constructor
          · rintro ⟨x0, h1, h2⟩
            obtain ⟨x, g1, _, g3, _⟩ := hmk' i x0 h1
            exact ⟨x, g1, by rw [g3]; exact h2⟩
          · rintro ⟨x, h1, h2⟩
            obtain ⟨x0, g1, _, g3, _⟩ := hmk i x h1
            exact ⟨x0, g1, by rw [← g3]; exact h2⟩
        · rw [hfit0.cnt]
          have h1 : ∀ L : List AOper, L.countP (fun x => decide (x.op.cls = .write)) = (L.map (·.op.cls)).countP (fun z => decide (z = .write)) := fun L => by rw [List.countP_map]; rfl
          rw [h1, h1, List.map_take, List.map_take, hopmap]
      obtain ⟨HH, p, σ, -, hσ0, hple, hstep, hfin, -, hend⟩ := drawn_trace l l 0 s [] [] e s1 hrun rfl
      simp only [Nat.zero_add] at hstep hfin
      have hbes : Beside G (σ p).h.next := by
        rcases hend with ⟨_, _, rfl⟩ | ⟨v, s', o, _, _, _, _, _, hop, rfl⟩
        · exact hG
        · have h9 := opStep_next hKN hop
          exact hG.le h9
      have R : Reg P K nt ops l (writesAt ((List.range l0.length).zip l0)) HH p σ G := by
        refine ⟨by rw [hlen, hlen0]; simp, fun i o ao ho hao => ?_, hfit, fun i x hx => ?_, fun i x hx => ?_, fun i x hx hal j y hy => ?_, hple, hstep, hfin, hKN, hbes⟩
        · obtain ⟨x0, h1, h2, h3, h4, _⟩ := hmk i ao hao
          have := hget0 i o x0 (by simpa using ho) h1
          exact ⟨by rw [h3]; exact this.op, by rw [h3]; exact this.ok, h2.trans this.dst, by rw [h4]; exact this.guard, this.lt⟩
        · obtain ⟨x0, _, _, _, _, h5, _⟩ := hmk i x hx; exact h5
        · obtain ⟨x0, _, _, _, _, _, h6, _⟩ := hmk i x hx; exact h6
        · obtain ⟨x0, _, _, _, _, _, _, h7⟩ := hmk i x hx
          obtain ⟨y0, g1, g2, g3, g4, _⟩ := hmk j y hy
          rw [h7] at hal
          have := List.all_eq_true.1 hal (j, y0) (mem_il.2 g1)
          simp only [Bool.or_eq_true, decide_eq_true_eq] at this
          have hsafe : y.safe = y0.safe := by unfold AOper.safe; rw [g3, g4]
          rw [hsafe]
          rcases this with (h | h) | h
          · exact .inl h
          · exact .inr (.inl h)
          · exact .inr (.inr h)
      have hf' : FR P ρ G ro nt (σ 0) b a cs w.drew := by
        rw [hσ0]; exact ⟨hf.sr.drew, hf.t, hf.size, hf.ds, hf.u, hf.ro, hf.fn⟩
      obtain ⟨Gs, c, I, hcw⟩ := (Inv.begin R hf').settle R _ _ _ rfl
      have hmain := drawn_run R hK hE (fun y hy => (hf'.sr.ban y hy).1) hf.fn hend hG k ops.size (w.tape w.drawn (.order b.fn id)) (Array.replicate ops.size false) _ c ρ Gs a cs w.drew I hcw
        (fun j => by
          constructor
          · exact fun h => h.elim
          · intro h
            simp only [Array.getD_eq_getD_getElem?] at h
            by_cases hj : j < ops.size
            · simp [hj] at h
            · simp [hj] at h) (by simp) (by
          refine Nat.le_trans List.countP_le_length ?_
          simp)
      rw [hσ0] at hmain
      refine .steps (.one fstep_region_draw) ?_
      simp only [Region.schedule, hm, Bool.true_or, if_true]
      exact hmain
    · cases hl

/-- **The abstract machine is sound.** -/
theorem sound {S : ASys} (hm : P.follows .mixedOrders = true) (hS : ∀ f af, S.fns.get f = some af → cFn P f = some af) (n : Nat) : KSim P (callN S n) :=
  callN_sim hS (fun _ hK => drawn_ok hm hK) n

end
end Go.Proofs.YtbejfgpeledcjaaGreat.A
