/- The relation between heaps and worlds lives through what operations do (1). -/
import Derived.Test.YtbejfgpeledcjaaGreatA0
import Derived.Laws.StructEq
import Derived.Laws.Pointers
import Derived.WideLaws
set_option linter.unusedVariables false
set_option linter.unusedSimpArgs false
namespace Go.Proofs.YtbejfgpeledcjaaGreat.A
noncomputable section
open Go

variable {P : Program} {ρ : Ren} {h : AHeap} {G : Bes} {w : World}

theorem AHeap.with_put (h : AHeap) (G : Bes) (b : Nat) (o : AObj) (c : Nat) : (h.put b o).with G c = if c = b then some o else h.with G c := by
  unfold AHeap.with; rw [AHeap.get_put]; by_cases hc : c = b <;> simp [hc]
theorem AHeap.with_push (h : AHeap) (G : Bes) (o : AObj) (c : Nat) : (h.push o).with G c = if c = h.next then some o else h.with G c := by
  unfold AHeap.with; rw [AHeap.get_push]; by_cases hc : c = h.next <;> simp [hc]
theorem AHeap.with_get {h : AHeap} {b : Nat} {o : AObj} (hb : h.get b = some o) (G : Bes) : h.with G b = some o := by unfold AHeap.with; rw [hb]

theorem SR.obj (s : SR P ρ h G w) {b : Nat} {o : AObj} {e : Emb} (hb : h.get b = some o) (he : ρ b = some e) : ORel P ρ o e w := s.hr.obj b o e (AHeap.with_get hb G) he

theorem SR.fresh (s : SR P ρ h G w) {n : Nat} (hG : Beside G n) (hn : h.next < n) : ρ h.next = none := by
  cases hr : ρ h.next with
  | none => rfl
  | some e =>
    rcases s.dom _ _ hr with h1 | h1
    · omega
    · have := hG _ h1; omega

theorem Same.of_lt {o : AObj} {e : Emb} {w : World} (h : o.live = true → e.cb < w.heap.size) (ob : Obj) : Same o e w (w.alloc ob) := by
  cases o with
  | cells cs sz ro =>
    intro i _
    have := h rfl
    exact ⟨World.cell?_alloc_lt w ob _ this, World.frozen?_alloc_old w ob _ (Nat.ne_of_lt this)⟩
  | dead => trivial
  | _ =>
    have := h rfl
    show (w.alloc ob).heap[e.cb]? = _
    simp only [World.alloc, Array.getElem?_push, Nat.ne_of_lt this, if_false]

/-- A block is made, under a number that stood for nothing. -/
theorem HR.alloc {g g' : Nat → Option AObj} (r : HR P ρ g w) (lt : ∀ b o e, g b = some o → ρ b = some e → o.live = true → e.cb < w.heap.size)
    {b : Nat} (hb : ρ b = none) {o : AObj} (hg : ∀ c, c ≠ b → g' c = g c) (hgb : g' b = some o) {e : Emb} (he : e.cb = w.heap.size) {ob : Obj}
    (ho : ORel P (ρ.add b e) o e (w.alloc ob)) : HR P (ρ.add b e) g' (w.alloc ob) := by
  have hle := Ren.le_add e hb
  constructor
  · intro c p f hc hf
    by_cases hcb : c = b
    · subst hcb; rw [Ren.add_same] at hf; cases hf; rw [hgb] at hc; cases hc; exact ho
    · rw [Ren.add_ne ρ e hcb] at hf; rw [hg c hcb] at hc
      exact (r.obj c p f hc hf).mono hle (Same.of_lt (fun hl => lt c p f hc hf hl) ob)
  · intro c d p q f k hcd hc hd hf hk hl1 hl2 hro
    by_cases hcb : c = b
    · subst hcb
      have hdb : d ≠ c := fun x => hcd x.symm
      rw [Ren.add_same] at hf; cases hf
      rw [Ren.add_ne ρ e hdb] at hk; rw [hg d hdb] at hd
      have := lt d q k hd hk hl2
      exact (by unfold Emb.apart; omega)
    · rw [Ren.add_ne ρ e hcb] at hf; rw [hg c hcb] at hc
      by_cases hdb : d = b
      · subst hdb
        rw [Ren.add_same] at hk; cases hk
        have := lt c p f hc hf hl1
        exact (by unfold Emb.apart; omega)
      · rw [Ren.add_ne ρ e hdb] at hk; rw [hg d hdb] at hd
        exact r.apart c d p q f k hcd hc hd hf hk hl1 hl2 hro

theorem EnvEq.setCells {v : World} (b : Nat) : ∀ (vs : List Value) (off : Nat) {w : World}, EnvEq v w → EnvEq v (w.setCells b off vs)
  | [], _, _, h => h
  | x :: r, off, w, h => EnvEq.setCells b r (off + 1) (w := w.setCell ⟨b, off, none⟩ x) ⟨h.os, h.tape, h.output⟩

theorem SR.alloc (s : SR P ρ h G w) {n : Nat} (hG : Beside G n) (hn : h.next < n) {o : AObj} {e : Emb} (he : e.cb = w.heap.size) {ob : Obj}
    (ho : ORel P (ρ.add h.next e) o e (w.alloc ob)) : ρ.le (ρ.add h.next e) ∧ SR P (ρ.add h.next e) (h.push o) G (w.alloc ob) := by
  have hf := s.fresh hG hn
  refine ⟨Ren.le_add e hf, ?_, ?_, ?_, ?_, fun b hb => ?_, fun k rb hk => ?_, ⟨s.env.os, s.env.tape, s.env.output⟩⟩
  · exact s.hr.alloc s.lt hf (fun c hc => by rw [AHeap.with_push]; simp [hc]) (by rw [AHeap.with_push]; simp) he ho
  · intro b p hb
    rw [AHeap.get_push] at hb
    split at hb
    · simp; omega
    · have := s.wf b p hb; simp; omega
  · intro b f hb
    by_cases hc : b = h.next
    · left; simp; omega
    · rw [Ren.add_ne ρ e hc] at hb
      rcases s.dom b f hb with h1 | h1
      · left; simp; omega
      · exact .inr h1
  · intro b p f hb hf' hl
    rw [AHeap.with_push] at hb
    by_cases hc : b = h.next
    · subst hc; rw [Ren.add_same] at hf'; cases hf'; simp; omega
    · simp [hc] at hb; rw [Ren.add_ne ρ e hc] at hf'
      have := s.lt b p f hb hf' hl; simp; omega
  · have h1 := s.ban b hb
    exact ⟨by simp; omega, by rw [Ren.add_ne ρ e (by omega)]; exact h1.2⟩
  · obtain ⟨r1, r2⟩ := s.raw k rb hk
    have hlt := (Array.getElem?_eq_some_iff.1 r1).1
    refine ⟨by simp only [World.alloc, Array.getElem?_push, Nat.ne_of_lt hlt, if_false]; exact r1, fun b p f hb hf' hl hro => ?_⟩
    rw [AHeap.with_push] at hb
    by_cases hc : b = h.next
    · subst hc; rw [Ren.add_same] at hf'; cases hf'; omega
    · simp [hc] at hb; rw [Ren.add_ne ρ e hc] at hf'
      exact r2 b p f hb hf' hl hro


def noCells : Obj → Bool
  | .cells .. => false
  | _ => true

theorem heap_setCell {w : World} {k : Nat} {o : Obj} (a : Addr) (v : Value) (hk : w.heap[k]? = some o) (ho : noCells o = true) : (w.setCell a v).heap[k]? = some o := by
  simp only [World.setCell, Array.getElem?_modify]
  split
  · rw [hk]; cases o <;> simp_all [noCells]
  · exact hk

theorem heap_setCells {k : Nat} {o : Obj} (b : Nat) (ho : noCells o = true) : ∀ (vs : List Value) (off : Nat) (w : World), w.heap[k]? = some o → (w.setCells b off vs).heap[k]? = some o
  | [], _, _, hk => hk
  | v :: r, off, w, hk => heap_setCells b ho r (off + 1) _ (heap_setCell _ _ hk ho)

theorem heap_setCells_ne {k : Nat} (b : Nat) (hk : k ≠ b) : ∀ (vs : List Value) (off : Nat) (w : World), (w.setCells b off vs).heap[k]? = w.heap[k]?
  | [], _, _ => rfl
  | v :: r, off, w => by
    rw [World.setCells, heap_setCells_ne b hk r]
    simp only [World.setCell, Array.getElem?_modify]
    rw [if_neg (fun e => hk e.symm)]

theorem size_setCells (b : Nat) : ∀ (vs : List Value) (off : Nat) (w : World), (w.setCells b off vs).heap.size = w.heap.size
  | [], _, _ => rfl
  | v :: r, off, w => by rw [World.setCells, size_setCells b r, World.size_setCell]

/-- Another object does not feel what is stored into a room apart from its own. -/
theorem ORel.setCells {o : AObj} {f : Emb} (hr : ORel P ρ o f w) {cb lo hi : Nat} (ha : o.live = true → f.cb ≠ cb ∨ f.off + f.room ≤ lo ∨ hi ≤ f.off)
    {off : Nat} {vs : List Value} (h1 : lo ≤ off) (h2 : off + vs.length ≤ hi) : ORel P ρ o f (w.setCells cb off vs) := by
  cases o with
  | cells cs sz ro =>
    refine hr.mono (.refl _) (fun i hi' => ?_)
    have ha := ha rfl
    refine ⟨World.cell?_setCells_out _ _ _ _ _ (fun hb _ => ?_), World.frozen?_setCells _ _ _ _ _⟩
    simp only at hb
    rcases ha with ha | ha | ha
    · exact absurd hb ha
    · left; simp only; omega
    · right; simp only; omega
  | map es =>
    obtain ⟨h0, h1, es', clk, h2, h3, h4⟩ := hr
    exact ⟨h0, h1, es', clk, heap_setCells _ rfl _ _ _ h2, h3, h4⟩
  | loop r =>
    obtain ⟨h0, h1, l, h2, h3⟩ := hr
    exact ⟨h0, h1, l, heap_setCells _ rfl _ _ _ h2, h3⟩
  | siter s pos => obtain ⟨h0, h1, h2⟩ := hr; exact ⟨h0, h1, heap_setCells _ rfl _ _ _ h2⟩
  | defers taken => obtain ⟨h0, h1, h2⟩ := hr; exact ⟨h0, h1, heap_setCells _ rfl _ _ _ h2⟩
  | dead => trivial

theorem setRange_length {cs new : List Value} {o : Nat} (h : o + new.length ≤ cs.length) : (setRange cs o new).length = cs.length := by
  simp [setRange]; omega

theorem setRange_in {cs new : List Value} {o i : Nat} (h : o + new.length ≤ cs.length) (h1 : o ≤ i) (h2 : i < o + new.length) : (setRange cs o new)[i]? = new[i - o]? := by
  unfold setRange
  rw [List.append_assoc, List.getElem?_append_right (by simp; omega), List.getElem?_append_left (by simp; omega)]
  congr 1; simp; omega

theorem setRange_out {cs new : List Value} {o i : Nat} (h : o + new.length ≤ cs.length) (h1 : i < o ∨ o + new.length ≤ i) : (setRange cs o new)[i]? = cs[i]? := by
  unfold setRange
  rcases h1 with h1 | h1
  · rw [List.append_assoc, List.getElem?_append_left (by simp; omega), List.getElem?_take, if_pos h1]
  · rw [List.append_assoc, List.getElem?_append_right (by simp; omega), List.getElem?_append_right (by simp; omega), List.getElem?_drop]
    congr 1; simp; omega

/-- The cells of one object, part of them written. -/
theorem cells_written {cs new new' : List Value} {sz o : Nat} {e : Emb} (hr : ORel P ρ (.cells cs sz false) e w) (ho : o + new.length ≤ cs.length) (hn : LRel ρ new new')
    (h1 : ∀ v ∈ new', v.oneCell' = true) : ORel P ρ (.cells (setRange cs o new) sz false) e (w.setCells e.cb (e.off + o) new') := by
  obtain ⟨a, b, c, d, f⟩ := hr
  have hl := hn.1
  have hsome : ∀ j, j < new'.length → (w.cell? ⟨e.cb, e.off + o + j, none⟩).isSome = true := fun j hj => by
    have := (d rfl (o + j) (by omega)).1
    rwa [Nat.add_assoc]
  refine ⟨a, by rw [setRange_length ho]; exact b, fun i v hi => ?_, fun _ i hi => ?_, by simp⟩
  · by_cases hin : o ≤ i ∧ i < o + new.length
    · rw [setRange_in ho hin.1 hin.2] at hi
      obtain ⟨v', hv', hvr⟩ := hn.get hi
      have hj : i - o < new'.length := by omega
      refine ⟨v', ?_, hvr, h1 v' (List.mem_of_getElem? hv')⟩
      have := World.cell?_setCells_in e.cb new' (e.off + o) w hsome (i - o) hj
      rw [show e.off + o + (i - o) = e.off + i by omega] at this
      rw [this]; rw [← hv']; simp [hj]
    · rw [setRange_out ho (by omega)] at hi
      obtain ⟨v', hv', x, y⟩ := c i v hi
      refine ⟨v', ?_, x, y⟩
      rw [World.cell?_setCells_out _ _ _ _ _ (fun _ _ => by simp only; omega)]
      exact hv'
  · refine ⟨?_, by rw [World.frozen?_setCells]; exact (d rfl i hi).2⟩
    by_cases hin : o ≤ i ∧ i < o + new.length
    · have hj : i - o < new'.length := by omega
      have := World.cell?_setCells_in e.cb new' (e.off + o) w hsome (i - o) hj
      rw [show e.off + o + (i - o) = e.off + i by omega] at this
      simp [this]
    · rw [World.cell?_setCells_out _ _ _ _ _ (fun _ _ => by simp only; omega)]
      exact (d rfl i hi).1

/-- A store. -/
theorem SR.store (s : SR P ρ h G w) {b o sz : Nat} {cs new new' : List Value} {e : Emb} (hb : h.get b = some (.cells cs sz false)) (he : ρ b = some e)
    (ho : o + new.length ≤ cs.length) (hn : LRel ρ new new') (h1 : ∀ v ∈ new', v.oneCell' = true) :
    SR P ρ (h.put b (.cells (setRange cs o new) sz false)) G (w.setCells e.cb (e.off + o) new') := by
  have hob := s.obj hb he
  have hroom : cs.length ≤ e.room := hob.2.1
  have hl := hn.1
  refine ⟨⟨?_, ?_⟩, ?_, ?_, ?_, s.ban, fun k rb hk => ?_, s.env.setCells _ _ _⟩
  · intro c p f hc hf
    rw [AHeap.with_put] at hc
    by_cases hcb : c = b
    · subst hcb; simp at hc; subst hc; rw [he] at hf; cases hf
      exact cells_written hob ho hn h1
    · simp [hcb] at hc
      refine (s.hr.obj c p f hc hf).setCells (lo := e.off) (hi := e.off + e.room) (fun hlive => ?_) (by omega) (by omega)
      have := s.hr.apart c b p _ f e hcb hc (AHeap.with_get hb G) hf he hlive rfl (.inr rfl)
      unfold Emb.apart at this
      omega
  · intro c d p q f k hcd hc hd hf hk hl1 hl2 hro
    rw [AHeap.with_put] at hc hd
    have hbw := AHeap.with_get hb G
    by_cases hcb : c = b
    · subst hcb; simp at hc; subst hc
      have hdb : ¬ d = c := fun x => hcd x.symm
      simp [hdb] at hd
      exact s.hr.apart c d _ q f k hcd hbw hd hf hk rfl hl2 (by simp [AObj.ro])
    · simp [hcb] at hc
      by_cases hdb : d = b
      · subst hdb; simp at hd; subst hd
        exact s.hr.apart c d p _ f k hcd hc hbw hf hk hl1 rfl (by simp [AObj.ro])
      · simp [hdb] at hd
        exact s.hr.apart c d p q f k hcd hc hd hf hk hl1 hl2 hro
  · intro c p hc
    rw [AHeap.get_put] at hc
    by_cases hcb : c = b
    · subst hcb; exact s.wf c _ hb
    · simp [hcb] at hc; exact s.wf c p hc
  · exact s.dom
  · intro c p f hc hf hlive
    rw [size_setCells]
    rw [AHeap.with_put] at hc
    by_cases hcb : c = b
    · subst hcb; exact s.lt c _ f (AHeap.with_get hb G) hf rfl
    · simp [hcb] at hc; exact s.lt c p f hc hf hlive
  · obtain ⟨r1, r2⟩ := s.raw k rb hk
    have hne := r2 b _ e (AHeap.with_get hb G) he rfl rfl
    refine ⟨by rw [heap_setCells_ne _ (fun x => hne x.symm)]; exact r1, fun c p f hc hf hl hro2 => ?_⟩
    rw [AHeap.with_put] at hc
    by_cases hcb : c = b
    · subst hcb; rw [he] at hf; cases hf; exact hne
    · simp [hcb] at hc; exact r2 c p f hc hf hl hro2

/-- An object that is no cells is another one now. -/
theorem SR.putObj (s : SR P ρ h G w) {b : Nat} {o o' : AObj} {e : Emb} (hb : h.get b = some o) (he : ρ b = some e) (hlive : o.live = true) (hro : o.ro = false) {ob ob' : Obj}
    (hw : w.heap[e.cb]? = some ob) (hn : noCells ob = true) (h0 : e.off = 0) (h1 : e.room = 1) (hro' : o'.ro = false) (hr : ORel P ρ o' e (w.putObj e.cb ob')) : SR P ρ (h.put b o') G (w.putObj e.cb ob') := by
  have hlt : e.cb < w.heap.size := (Array.getElem?_eq_some_iff.1 hw).1
  have hbw := AHeap.with_get hb G
  refine ⟨⟨?_, ?_⟩, ?_, ?_, ?_, s.ban, fun k rb hk => ?_, ⟨s.env.os, s.env.tape, s.env.output⟩⟩
  · intro c p f hc hf
    rw [AHeap.with_put] at hc
    by_cases hcb : c = b
    · subst hcb; simp at hc; subst hc; rw [he] at hf; cases hf; exact hr
    · simp [hcb] at hc
      have hop := s.hr.obj c p f hc hf
      cases hpl : p.live with
      | false => cases p <;> simp [AObj.live] at hpl; trivial
      | true =>
        have hap := s.hr.apart c b p o f e hcb hc hbw hf he hpl hlive (.inr hro)
        have other : f.cb ≠ e.cb → ORel P ρ p f (w.putObj e.cb ob') := fun hne => by
          refine hop.mono (.refl _) ?_
          have hh : (w.putObj e.cb ob').heap[f.cb]? = w.heap[f.cb]? := World.putObj_heap_other hne
          cases p with
          | cells => intro i _; simp only [World.cell?, World.frozen?, hh]; exact ⟨trivial, trivial⟩
          | dead => trivial
          | _ => exact hh
        by_cases hne : f.cb = e.cb
        · have hroomf : ∀ (x : f.off = 0 ∧ f.room = 1), False := fun x => by unfold Emb.apart at hap; omega
          cases p with
          | cells cs sz ro =>
            obtain ⟨x1, x2, x3, x4, x5⟩ := hop
            have hz : f.room = 0 := by
              rcases Nat.eq_zero_or_pos f.room with hz | hz
              · exact hz
              · exfalso
                have hcell : (w.cell? (f.at 0)).isSome = true := by
                  cases ro with
                  | false => exact (x4 rfl 0 hz).1
                  | true =>
                    have := x5 rfl
                    obtain ⟨v', hv, _⟩ := x3 0 (cs[0]'(by omega)) (by simp)
                    simp [hv]
                simp only [World.cell?, hne, hw] at hcell
                cases ob <;> simp_all [noCells]
            refine ⟨x1, x2, fun i v hi => ?_, fun _ i hi => by omega, x5⟩
            have := (List.getElem?_eq_some_iff.1 hi).1
            omega
          | dead => trivial
          | map => exact (hroomf ⟨hop.1, hop.2.1⟩).elim
          | loop => exact (hroomf ⟨hop.1, hop.2.1⟩).elim
          | siter => exact (hroomf ⟨hop.1, hop.2.1⟩).elim
          | defers => exact (hroomf ⟨hop.1, hop.2.1⟩).elim
        · exact other hne
  · intro c d p q f k hcd hc hd hf hk hl1 hl2 hro2
    rw [AHeap.with_put] at hc hd
    by_cases hcb : c = b
    · subst hcb; simp at hc; subst hc
      have hdb : ¬ d = c := fun x => hcd x.symm
      simp [hdb] at hd
      exact s.hr.apart c d _ q f k hcd hbw hd hf hk hlive hl2 (.inl hro)
    · simp [hcb] at hc
      by_cases hdb : d = b
      · subst hdb; simp at hd; subst hd
        exact s.hr.apart c d p _ f k hcd hc hbw hf hk hl1 hlive (.inr hro)
      · simp [hdb] at hd
        exact s.hr.apart c d p q f k hcd hc hd hf hk hl1 hl2 hro2
  · intro c p hc
    rw [AHeap.get_put] at hc
    by_cases hcb : c = b
    · subst hcb; exact s.wf c _ hb
    · simp [hcb] at hc; exact s.wf c p hc
  · exact s.dom
  · intro c p f hc hf hl
    rw [World.putObj_size]
    rw [AHeap.with_put] at hc
    by_cases hcb : c = b
    · subst hcb; exact s.lt c _ f hbw hf hlive
    · simp [hcb] at hc; exact s.lt c p f hc hf hl
  · obtain ⟨r1, r2⟩ := s.raw k rb hk
    have hne := r2 b _ e hbw he hlive hro
    refine ⟨by rw [World.putObj_heap_other (fun x => hne x.symm)]; exact r1, fun c p f hc hf hl hro2 => ?_⟩
    rw [AHeap.with_put] at hc
    by_cases hcb : c = b
    · subst hcb; rw [he] at hf; cases hf; exact hne
    · simp [hcb] at hc; exact r2 c p f hc hf hl hro2

/-- A block is given up. -/
theorem SR.kill (s : SR P ρ h G w) {b : Nat} {o : AObj} (hb : h.get b = some o) : SR P ρ (h.put b .dead) G w := by
  refine ⟨⟨?_, ?_⟩, ?_, s.dom, ?_, s.ban, fun k rb hk => ?_, s.env⟩
  · intro c p f hc hf
    rw [AHeap.with_put] at hc
    by_cases hcb : c = b
    · simp [hcb] at hc; subst hc; trivial
    · simp [hcb] at hc; exact s.hr.obj c p f hc hf
  · intro c d p q f k hcd hc hd hf hk hl1 hl2 hro
    rw [AHeap.with_put] at hc hd
    by_cases hcb : c = b
    · simp [hcb] at hc; subst hc; simp [AObj.live] at hl1
    · by_cases hdb : d = b
      · simp [hdb] at hd; subst hd; simp [AObj.live] at hl2
      · simp [hcb] at hc; simp [hdb] at hd; exact s.hr.apart c d p q f k hcd hc hd hf hk hl1 hl2 hro
  · intro c p hc
    rw [AHeap.get_put] at hc
    by_cases hcb : c = b
    · subst hcb; exact s.wf c _ hb
    · simp [hcb] at hc; exact s.wf c p hc
  · intro c p f hc hf hl
    rw [AHeap.with_put] at hc
    by_cases hcb : c = b
    · simp [hcb] at hc; subst hc; simp [AObj.live] at hl
    · simp [hcb] at hc; exact s.lt c p f hc hf hl
  · obtain ⟨r1, r2⟩ := s.raw k rb hk
    refine ⟨r1, fun c p f hc hf hl hro2 => ?_⟩
    rw [AHeap.with_put] at hc
    by_cases hcb : c = b
    · simp [hcb] at hc; subst hc; simp [AObj.live] at hl
    · simp [hcb] at hc; exact r2 c p f hc hf hl hro2

theorem ORel.drew {o : AObj} {e : Emb} (hr : ORel P ρ o e w) : ORel P ρ o e w.drew := by
  refine hr.mono (.refl _) ?_
  cases o with
  | cells => intro i _; exact ⟨rfl, rfl⟩
  | dead => trivial
  | _ => rfl

theorem SR.drew (s : SR P ρ h G w) : SR P ρ h G w.drew :=
  ⟨⟨fun c p f hc hf => (s.hr.obj c p f hc hf).drew, s.hr.apart⟩, s.wf, s.dom, s.lt, s.ban, s.raw, ⟨s.env.os, s.env.tape, s.env.output⟩⟩

/-- An append that finds room: the row is the new block's from now on. -/
theorem SR.grow (s : SR P ρ h G w) {n : Nat} (hG : Beside G n) (hn : h.next < n) {b o k : Nat} {cs new new' : List Value} {sz : Nat} {e : Emb} (hb : h.get b = some (.cells cs sz false)) (he : ρ b = some e)
    (ho : o + k ≤ cs.length) (hroom : o + k + new.length ≤ e.room) (hnew : LRel ρ new new') (h1 : ∀ v ∈ new', v.oneCell' = true) :
    ρ.le (ρ.add h.next ⟨e.cb, e.off + o, e.room - o, sz⟩) ∧
    SR P (ρ.add h.next ⟨e.cb, e.off + o, e.room - o, sz⟩) ((h.put b .dead).push (.cells ((cs.drop o).take k ++ new) sz false)) G (w.setCells e.cb (e.off + o + k) new') := by
  have hf := s.fresh hG hn
  have hle := Ren.le_add ⟨e.cb, e.off + o, e.room - o, sz⟩ hf
  have hob := s.obj hb he
  have hbw := AHeap.with_get hb G
  have hbn : b ≠ h.next := by have := s.wf b _ hb; omega
  have hl := hnew.1
  obtain ⟨a1, a2, a3, a4, a5⟩ := hob
  have hsome : ∀ j, j < new'.length → (w.cell? ⟨e.cb, e.off + o + k + j, none⟩).isSome = true := fun j hj => by
    have := (a4 rfl (o + k + j) (by omega)).1
    rwa [show e.off + o + k + j = e.off + (o + k + j) by omega]
  have key : ∀ c, ((h.put b .dead).push (.cells ((cs.drop o).take k ++ new) sz false)).with G c = if c = h.next then some (.cells ((cs.drop o).take k ++ new) sz false) else if c = b then some .dead else h.with G c := fun c => by
    rw [AHeap.with_push, AHeap.with_put]; rfl
  refine ⟨hle, ⟨?_, ?_⟩, ?_, ?_, ?_, fun b hb => ?_, fun k rb hk => ?_, s.env.setCells _ _ _⟩
  · intro c p f hc hfe
    rw [key] at hc
    by_cases hcn : c = h.next
    · subst hcn; simp at hc; subst hc; rw [Ren.add_same] at hfe; cases hfe
      have hlen : ((cs.drop o).take k).length = k := by simp; omega
      refine ⟨rfl, by simp; omega, fun i v hi => ?_, fun _ i hi => ?_, by simp⟩
      · show ∃ v', (w.setCells e.cb (e.off + o + k) new').cell? ⟨e.cb, e.off + o + i, none⟩ = some v' ∧ _ ∧ _
        by_cases hik : i < k
        · rw [List.getElem?_append_left (by omega), List.getElem?_take, if_pos hik, List.getElem?_drop] at hi
          obtain ⟨v', hv', x, y⟩ := a3 _ v hi
          refine ⟨v', ?_, x.mono hle, y⟩
          rw [World.cell?_setCells_out _ _ _ _ _ (fun _ _ => by simp only; omega)]
          rw [← hv']; simp only [Emb.at]; rw [Nat.add_assoc]
        · rw [List.getElem?_append_right (by omega), hlen] at hi
          obtain ⟨v', hv', hvr⟩ := hnew.get hi
          have hj : i - k < new'.length := by have := (List.getElem?_eq_some_iff.1 hv').1; omega
          refine ⟨v', ?_, hvr.mono hle, h1 v' (List.mem_of_getElem? hv')⟩
          have := World.cell?_setCells_in e.cb new' (e.off + o + k) w hsome (i - k) hj
          rw [show e.off + o + k + (i - k) = e.off + o + i by omega] at this
          rw [this, ← hv']; simp [hj]
      · show ((w.setCells e.cb (e.off + o + k) new').cell? ⟨e.cb, e.off + o + i, none⟩).isSome = true ∧ (w.setCells e.cb (e.off + o + k) new').frozen? ⟨e.cb, e.off + o + i, none⟩ = false
        simp only at hi
        have h4 := a4 rfl (o + i) (by omega)
        simp only [Emb.at] at h4
        rw [← Nat.add_assoc] at h4
        refine ⟨?_, by rw [World.frozen?_setCells]; exact h4.2⟩
        by_cases hin : k ≤ i ∧ i < k + new'.length
        · have := World.cell?_setCells_in e.cb new' (e.off + o + k) w hsome (i - k) (by omega)
          rw [show e.off + o + k + (i - k) = e.off + o + i by omega] at this
          simp [this]
        · rw [World.cell?_setCells_out _ _ _ _ _ (fun _ _ => by simp only; omega)]; exact h4.1
    · simp [hcn] at hc
      rw [Ren.add_ne ρ _ hcn] at hfe
      by_cases hcb : c = b
      · simp [hcb] at hc; subst hc; trivial
      · simp [hcb] at hc
        have hop := s.hr.obj c p f hc hfe
        cases hpl : p.live with
        | false => cases p <;> simp [AObj.live] at hpl; trivial
        | true =>
          have hap := s.hr.apart c b p _ f e hcb hc hbw hfe he hpl rfl (.inr rfl)
          have := (hop.setCells (cb := e.cb) (lo := e.off) (hi := e.off + e.room) (off := e.off + o + k) (vs := new') (fun _ => by unfold Emb.apart at hap; omega) (by omega) (by omega))
          refine this.mono hle ?_
          cases p with
          | cells => intro i _; exact ⟨rfl, rfl⟩
          | dead => trivial
          | _ => rfl
  · intro c d p q f k' hcd hc hd hfe hke hl1 hl2 hro
    rw [key] at hc hd
    by_cases hcn : c = h.next
    · subst hcn; simp at hc; subst hc; rw [Ren.add_same] at hfe; cases hfe
      have hdn : ¬ d = h.next := fun x => hcd x.symm
      simp [hdn] at hd; rw [Ren.add_ne ρ _ hdn] at hke
      by_cases hdb : d = b
      · simp [hdb] at hd; subst hd; simp [AObj.live] at hl2
      · simp [hdb] at hd
        have := s.hr.apart b d _ q e k' (fun x => hdb x.symm) hbw hd he hke rfl hl2 (.inl rfl)
        unfold Emb.apart at this ⊢
        simp only; omega
    · simp [hcn] at hc; rw [Ren.add_ne ρ _ hcn] at hfe
      by_cases hcb : c = b
      · simp [hcb] at hc; subst hc; simp [AObj.live] at hl1
      · simp [hcb] at hc
        by_cases hdn : d = h.next
        · subst hdn; simp at hd; subst hd; rw [Ren.add_same] at hke; cases hke
          have := s.hr.apart c b p _ f e hcb hc hbw hfe he hl1 rfl (.inr rfl)
          unfold Emb.apart at this ⊢
          simp only; omega
        · simp [hdn] at hd; rw [Ren.add_ne ρ _ hdn] at hke
          by_cases hdb : d = b
          · simp [hdb] at hd; subst hd; simp [AObj.live] at hl2
          · simp [hdb] at hd
            exact s.hr.apart c d p q f k' hcd hc hd hfe hke hl1 hl2 hro
  · intro c p hc
    rw [AHeap.get_push, AHeap.get_put] at hc
    simp only [AHeap.next_put, AHeap.next_push] at hc ⊢
    by_cases hcn : c = h.next
    · omega
    · simp [hcn] at hc
      by_cases hcb : c = b
      · subst hcb; have := s.wf c _ hb; omega
      · simp [hcb] at hc; have := s.wf c p hc; omega
  · intro c f hfe
    by_cases hcn : c = h.next
    · left; simp; omega
    · rw [Ren.add_ne ρ _ hcn] at hfe
      rcases s.dom c f hfe with h1 | h1
      · left; simp; omega
      · exact .inr h1
  · intro c p f hc hfe hlv
    rw [size_setCells]
    rw [key] at hc
    by_cases hcn : c = h.next
    · subst hcn; rw [Ren.add_same] at hfe; cases hfe
      exact s.lt b _ e hbw he rfl
    · simp [hcn] at hc; rw [Ren.add_ne ρ _ hcn] at hfe
      by_cases hcb : c = b
      · simp [hcb] at hc; subst hc; simp [AObj.live] at hlv
      · simp [hcb] at hc; exact s.lt c p f hc hfe hlv
  · have h1 := s.ban b hb
    exact ⟨by simp; omega, by rw [Ren.add_ne ρ _ (by omega)]; exact h1.2⟩
  · obtain ⟨r1, r2⟩ := s.raw k rb hk
    have hne := r2 b _ e hbw he rfl rfl
    refine ⟨by rw [heap_setCells_ne _ (fun x => hne x.symm)]; exact r1, fun c p f hc hfe hlv hro2 => ?_⟩
    rw [key] at hc
    by_cases hcn : c = h.next
    · subst hcn; rw [Ren.add_same] at hfe; cases hfe; exact hne
    · simp [hcn] at hc; rw [Ren.add_ne ρ _ hcn] at hfe
      by_cases hcb : c = b
      · simp [hcb] at hc; subst hc; simp [AObj.live] at hlv
      · simp [hcb] at hc; exact r2 c p f hc hfe hlv hro2

end
end Go.Proofs.YtbejfgpeledcjaaGreat.A
namespace Go.Proofs.YtbejfgpeledcjaaGreat.A
noncomputable section
open Go

variable {P : Program} {ρ : Ren} {h h1 : AHeap} {G : Bes} {w : World} {t : Tr Value} {a : Act} {v : Value}

theorem run_und {ty : TypeId} {d : TypeDesc} (hu : P.underlying ty = some d) (w : World) : (underlying ty).run P w = .ok d w := by
  simp [underlying, hu]
theorem run_tyinfo {ty : TypeId} {i : TypeInfo} (hu : P.info? ty = some i) (w : World) : (typeInfo ty).run P w = .ok i w := by
  simp [typeInfo, hu]
theorem run_size {ty : TypeId} {n : Nat} (hu : sizeT P ty = some n) (w : World) : (sizeOf ty).run P w = .ok n w := by
  unfold sizeT at hu
  cases hi : P.info? ty with
  | none => simp [hi] at hu
  | some i => simp [hi] at hu; simp [sizeOf, run_tyinfo hi, hu]
theorem run_isAgg {ty : TypeId} {b : Bool} (hu : isAggT P ty = some b) (w : World) : (isAgg ty).run P w = .ok b w := by
  unfold isAggT at hu
  cases hi : P.underlying ty with
  | none => simp [hi] at hu
  | some d => cases d <;> simp [hi] at hu <;> simp [isAgg, run_und hi, hu]
theorem run_zero {ty : TypeId} {v : Value} (hu : zeroT P ty = some v) (w : World) : (zeroValue ty).run P w = .ok v w := by
  unfold zeroT at hu
  cases hi : P.info? ty with
  | none => simp [hi] at hu
  | some i => simp [hi] at hu; simp [zeroValue, run_tyinfo hi, hu]

theorem VRel.scalar {v : Value} (hv : scalarOk v = true) : VRel ρ v v := by
  unfold scalarOk at hv
  split at hv <;> first | constructor | (simp at hv; done)

theorem LRel.scalars : ∀ {l : List Value}, l.all scalarOk = true → LRel ρ l l
  | [], _ => LRel.nil ρ
  | x :: l, hl => by simp at hl; exact .cons (.scalar hl.1) (LRel.scalars (by simpa using hl.2))

theorem scalar_one {v : Value} (hv : scalarOk v = true) : v.oneCell' = true := by
  unfold scalarOk at hv
  split at hv <;> first | rfl | (simp at hv; done)

theorem VRel.const {v : Value} (hv : constOk v = true) : VRel ρ v v := by
  unfold constOk at hv
  split at hv
  · rename_i cs; exact VRel.agg' (LRel.scalars hv) (fun x hx => scalar_one (List.all_eq_true.1 hv x hx))
  · exact .iface _ _ _ (.scalar hv)
  · exact .scalar hv

/-- The operands stand for the operands. -/
def ORd (ρ : Ren) (t : Tr Value) (a : Act) (l : List Operand) : Prop := ∀ x ∈ l, VRel ρ (ev t x) (a.eval x)

theorem TRel.ev {s : Tr Value} (hs : TRel ρ s a.tmps) {x : Operand} (hx : opdOk x = true) : VRel ρ (ev s x) (a.eval x) := by
  cases x with
  | tmp i => exact hs i
  | const v => exact VRel.const hx
  | global g => exact .poison _
  | func f => exact .func f [] [] [] [] rfl rfl (fun i x y h => by simp at h) (fun i x y h => by simp at h)

theorem ORd.lrel {l : List Operand} (hl : ORd ρ t a l) : LRel ρ (l.map (A.ev t)) (l.map a.eval) := by
  refine ⟨by simp, fun i x y hx hy => ?_⟩
  simp at hx hy
  obtain ⟨o, ho, rfl⟩ := hx
  obtain ⟨o', ho', rfl⟩ := hy
  rw [ho] at ho'; cases ho'
  exact hl o (List.mem_of_getElem? ho)

theorem isSomeMap {α β : Type} {o : Option α} {f : α → β} {b : β} (h : o.map f = some b) : ∃ a, o = some a ∧ f a = b := by
  cases o with
  | none => simp at h
  | some a => exact ⟨a, rfl, by simpa using h⟩

/-- What a plain operation of two numbers comes to. -/
theorem run_binInt {op : BinOp} {ty : TypeId} {k : IntKind} {x y : Int} {v : Value} (hv : binInt op k x y = some v) (w : World) :
    (binOp op ty (.int k x) (.int k y)).run P w = .ok v w := by
  unfold binInt at hv
  cases op <;> simp at hv <;> (try obtain ⟨hz, rfl⟩ := hv) <;> (try subst hv) <;>
    simp [binOp, Op.intArith, Op.intDiv, Op.intBits, Op.intCmp, *]


theorem equal_eq (ty : TypeId) (x y : Value) : Op.equal ty x y = Op.equalIn (9999 + 1) ty x y := rfl

def Sk.fits : Sk → TypeDesc → Bool
  | .b, .bool | .i, .int _ | .s, .string => true
  | _, _ => false

theorem run_equal_flat1 {ty : TypeId} {td : TypeDesc} {k : Sk} {x y : Value} {r : Bool} (d : Nat) (hr : eqK k x y = some r) (hu : P.underlying ty = some td) (hf : k.fits td = true) (w : World) :
    (Op.equalIn (d + 1) ty x y).run P w = .ok r w := by
  unfold eqK at hr
  split at hr
  · cases td <;> simp [Sk.fits] at hf; cases hr; exact run_equalIn_bool w d ty _ _ hu
  · cases td <;> simp [Sk.fits] at hf
    split at hr
    · rename_i hkk; subst hkk; cases hr; exact run_equalIn_int w d ty _ _ _ _ hu
    · cases hr
  · cases td <;> simp [Sk.fits] at hf; cases hr; rw [run_equalIn_string w d ty _ _ hu]; simp only [ByteArray.toList_eq]
  · cases hr

theorem run_binVal {op : BinOp} {ty : TypeId} {x y v : Value} (hv : binVal op x y = some v) (w : World) :
    (binOp op ty x y).run P w = .ok v w := by
  unfold binVal at hv
  split at hv
  · unfold binShift at hv; split at hv
    · cases hv
    · simp at hv; subst hv; rename_i hn; simp [binOp, Op.shift, hn]
  · unfold binShift at hv; split at hv
    · cases hv
    · simp at hv; subst hv; rename_i hn; simp [binOp, Op.shift, hn]
  · split at hv
    · rename_i hk; subst hk; exact run_binInt hv w
    · cases hv
  · simp at hv; subst hv; simp [binOp, Op.stringOp, ByteArray.toList_eq]
  · simp at hv; subst hv; simp [binOp, Op.stringOp, ByteArray.toList_eq]
  · cases hv

/-- Types that can be held against nil alone. -/
def nilType : TypeDesc → Bool
  | .pointer _ | .slice _ | .map _ _ | .func .. => true
  | _ => false

def nilIn : TypeDesc → Value → Bool
  | .pointer _, .pointer _ => true
  | .slice _, .slice .. => true
  | .map _ _, .map _ => true
  | .func .., .nilFunc => true
  | .func .., .func .. => true
  | _, _ => false

theorem run_nil_pointer {ty e : TypeId} (hu : P.underlying ty = some (.pointer e)) {x y : Option Addr} (hn : x.isNone || y.isNone) (d : Nat) (w : World) :
    (Op.equalIn (d + 1) ty (.pointer x) (.pointer y)).run P w = .ok (x.isNone && y.isNone) w := by
  cases x <;> cases y <;> simp_all [Op.equalIn, run_und hu]
theorem run_nil_slice {ty e : TypeId} (hu : P.underlying ty = some (.slice e)) {x y : Option Addr} {m c n k : Nat} (hn : x.isNone || y.isNone) (d : Nat) (w : World) :
    (Op.equalIn (d + 1) ty (.slice x m c) (.slice y n k)).run P w = .ok (x.isNone && y.isNone) w := by
  cases x <;> cases y <;> simp_all [Op.equalIn, run_und hu]
theorem run_nil_map {ty a b : TypeId} (hu : P.underlying ty = some (.map a b)) {x y : Option Nat} (hn : x.isNone || y.isNone) (d : Nat) (w : World) :
    (Op.equalIn (d + 1) ty (.map x) (.map y)).run P w = .ok (x.isNone && y.isNone) w := by
  cases x <;> cases y <;> simp_all [Op.equalIn, run_und hu]

/-- What is said of an operation that only reckons. -/
def PureS (P : Program) (ρ : Ren) (t : Tr Value) (a : Act) (o : Oper) (op : AOp) : Prop :=
  ∀ h h1 v, aop op t h = some (.val v h1) → h1 = h ∧ (∀ h2, aop op t h2 = some (.val v h2)) ∧ ∃ v', (∀ w, (execOp a.eval o).run P w = .ok (.value v') w) ∧ VRel ρ v v'

theorem pure_mv {o : Oper} {x : Operand} (hc : o.op = .move x ∨ o.op = .assign x) (ho : ORd ρ t a [x]) : PureS P ρ t a o (.mv x) := by
  intro h h1 v hv
  simp only [aop, k_mv, Option.some.injEq, R.val.injEq] at hv
  obtain ⟨rfl, rfl⟩ := hv
  refine ⟨rfl, fun _ => rfl, a.eval x, fun w => ?_, ho x (by simp)⟩
  rcases hc with hc | hc <;> simp [execOp, hc]

theorem pure_pick {o : Oper} {c x y : Operand} (hc : o.op = .pick c x y) (ho : ORd ρ t a [c, x, y]) : PureS P ρ t a o (.pick c x y) := by
  intro h h1 v hv
  have h0 := ho c (by simp)
  simp only [aop, k_pick] at hv
  split at hv
  · rename_i hcv
    rw [hcv] at h0
    simp only [Option.some.injEq, R.val.injEq] at hv
    obtain ⟨rfl, rfl⟩ := hv
    have hb : a.eval c = .bool true := by cases hx : a.eval c <;> rw [hx] at h0 <;> cases h0; rfl
    refine ⟨rfl, fun _ => by simp [aop, k_pick, hcv], a.eval x, fun w => ?_, ho x (by simp)⟩
    simp [execOp, hc, hb, asBool]
  · rename_i hcv
    rw [hcv] at h0
    simp only [Option.some.injEq, R.val.injEq] at hv
    obtain ⟨rfl, rfl⟩ := hv
    have hb : a.eval c = .bool false := by cases hx : a.eval c <;> rw [hx] at h0 <;> cases h0; rfl
    refine ⟨rfl, fun _ => by simp [aop, k_pick, hcv], a.eval y, fun w => ?_, ho y (by simp)⟩
    simp [execOp, hc, hb, asBool]
  · cases hv

theorem cells_rel {v v' : Value} {cs : List Value} (hv : cellsOf v = some cs) (h : VRel ρ v v') : LRel ρ cs v'.cells.toList ∧ ∀ x ∈ v'.cells.toList, x.oneCell' = true := by
  cases h <;> simp [cellsOf, cellOk] at hv <;> first
    | (subst hv; simp only [Value.cells]; refine ⟨LRel.cons ?_ (LRel.nil ρ), fun x hx => ?_⟩ <;> first | (simp at hx; subst hx; rfl) | (constructor <;> assumption))
    | (subst hv; rename_i h1 h2 h3; exact ⟨⟨h1, h2⟩, h3⟩)

end
end Go.Proofs.YtbejfgpeledcjaaGreat.A
namespace Go.Proofs.YtbejfgpeledcjaaGreat.A
noncomputable section
open Go

variable {P : Program} {ρ : Ren} {h h1 : AHeap} {G : Bes} {w : World} {t : Tr Value} {a : Act} {v : Value}

/-- The parts laid in one by one. -/
def fillS : List Value → List (Nat × Nat × Value) → Option (List Value)
  | cs, [] => some cs
  | cs, (off, n, v) :: rest =>
    match cellsOf v with
    | some new => if new.length = n ∧ off + n ≤ cs.length then fillS (setRange cs off new) rest else none
    | none => none

theorem fillL_spec : ∀ (parts : List (Nat × Nat × Value)) (pos : Nat) (full l : List Value), pos ≤ full.length → fillL pos (full.drop pos) parts = some l →
    full.length - pos ≤ l.length ∧ (l.length = full.length - pos → fillS full parts = some (full.take pos ++ l))
  | [], pos, full, l, hp, hl => by
    simp [fillL] at hl; subst hl
    exact ⟨by simp, fun _ => by simp [fillS]⟩
  | (off, n, v) :: rest, pos, full, l, hp, hl => by
    unfold fillL at hl
    split at hl
    · rename_i new hnew
      split at hl
      · rename_i hc
        simp only [Bool.and_eq_true, Nat.ble_eq, Nat.blt_eq] at hc
        obtain ⟨⟨h1, h2⟩, h3⟩ := hc
        replace h2 := Nat.eq_of_beq_eq_true h2
        split at hl
        · rename_i l' hl'
          simp only [Option.some.injEq] at hl
          rw [List.drop_drop, show pos + (off - pos + n) = off + n by omega] at hl'
          by_cases hle : off + n ≤ full.length
          · have hlen : (setRange full off new).length = full.length := setRange_length (by omega)
            have hdrop : full.drop (off + n) = (setRange full off new).drop (off + n) := by
              apply List.ext_getElem?
              intro i
              rw [List.getElem?_drop, List.getElem?_drop, setRange_out (by omega) (by omega)]
            rw [hdrop] at hl'
            obtain ⟨k1, k2⟩ := fillL_spec rest (off + n) (setRange full off new) l' (by omega) hl'
            rw [hlen] at k1 k2
            refine ⟨by rw [← hl]; simp; omega, fun he => ?_⟩
            have hl2 : l'.length = full.length - (off + n) := by rw [← hl] at he; simp at he; omega
            have k3 := k2 hl2
            unfold fillS
            simp only [hnew]
            rw [if_pos ⟨h2, hle⟩, k3, ← hl]
            congr 1
            have ht : (setRange full off new).take (off + n) = full.take off ++ new := by
              unfold setRange
              have e1 : (full.take off ++ new).length = off + n := by simp; omega
              rw [← e1, List.take_left']; rfl
            rw [ht, ← List.append_assoc, ← List.append_assoc]
            congr 2
            conv => lhs; rw [← List.take_append_drop pos (full.take off), List.take_take, List.drop_take]
            congr 2
            omega
          · have hnil : full.drop (off + n) = [] := List.drop_eq_nil_of_le (by omega)
            refine ⟨by rw [← hl]; simp; omega, fun he => ?_⟩
            rw [← hl] at he
            simp at he
            omega
        · cases hl
      · cases hl
    · cases hl

theorem fold_set : ∀ (l : List Value) (k off : Nat) (cells : Array Value), off + k + l.length ≤ cells.size →
    ((l.zipIdx k).foldl (fun (cs : Array Value) (x : Value × Nat) => cs.setIfInBounds (off + x.2) x.1) cells).toList = setRange cells.toList (off + k) l
  | [], k, off, cells, hh => by simp [setRange]
  | x :: l, k, off, cells, hh => by
    simp only [List.zipIdx_cons, List.foldl_cons]
    rw [fold_set l (k + 1) off _ (by simp at hh ⊢; omega)]
    apply List.ext_getElem?
    intro i
    simp only [List.length_cons] at hh
    by_cases hi : off + (k + 1) ≤ i ∧ i < off + (k + 1) + l.length
    · rw [setRange_in (by simp; omega) hi.1 hi.2, setRange_in (by simp; omega) (by omega) (by simp; omega)]
      rw [show i - (off + k) = (i - (off + (k + 1))) + 1 by omega]; simp
    · rw [setRange_out (by simp; omega) (by omega)]
      by_cases hi2 : i = off + k
      · subst hi2
        rw [setRange_in (by simp; omega) (by omega) (by simp)]
        simp only [Array.toList_setIfInBounds]
        rw [List.getElem?_set_self (by simp; omega)]; simp
      · rw [setRange_out (by simp; omega) (by simp; omega)]
        simp [Array.toList_setIfInBounds, List.getElem?_set_ne (Ne.symm hi2)]

theorem LRel.setRange {cs cs' new new' : List Value} (hc : LRel ρ cs cs') (hn : LRel ρ new new') (off : Nat) : LRel ρ (setRange cs off new) (setRange cs' off new') := by
  unfold A.setRange
  have hl := hn.1
  exact ((hc.take off).append hn).append (by rw [hl]; exact hc.drop _)

/-- The concrete parts: where they lie is what the place says. -/
def PRel (ρ : Ren) (place : Nat → Option (Nat × Nat)) : List (Nat × Nat × Value) → List (Nat × Value) → Prop
  | [], [] => True
  | (off, n, v) :: l, (i, v') :: l' => place i = some (off, n) ∧ VRel ρ v v' ∧ PRel ρ place l l'
  | _, _ => False

theorem fill_rel {place : Nat → Option (Nat × Nat)} : ∀ (l : List (Nat × Nat × Value)) (l' : List (Nat × Value)) (cs : List Value) (cells : Array Value) (r : List Value),
    PRel ρ place l l' → LRel ρ cs cells.toList → (∀ x ∈ cells.toList, x.oneCell' = true) → fillS cs l = some r → ∃ r' : Array Value, Instr.fill place cells l' = some r' ∧ LRel ρ r r'.toList ∧ ∀ x ∈ r'.toList, x.oneCell' = true
  | [], [], cs, cells, r, _, hc, h1, hf => by simp [fillS] at hf; subst hf; exact ⟨cells, rfl, hc, h1⟩
  | (off, n, v) :: l, (i, v') :: l', cs, cells, r, hp, hc, hone, hf => by
    obtain ⟨hp1, hp2, hp3⟩ := hp
    unfold fillS at hf
    split at hf
    · rename_i new hnew
      split at hf
      · rename_i hle
        obtain ⟨hcr, hco⟩ := cells_rel hnew hp2
        have hsz : v'.cells.size = n := by have := hcr.1; simp at this; omega
        have hcl := hc.1
        simp at hcl
        have hset := fold_set v'.cells.toList 0 off cells (by simp; omega)
        have hnx := hc.setRange hcr off
        obtain ⟨r', h1, h2⟩ := fill_rel l l' _ (((v'.cells.toList.zipIdx 0).foldl (fun (cs : Array Value) (x : Value × Nat) => cs.setIfInBounds (off + x.2) x.1) cells)) r hp3 (by rw [hset]; exact hnx) (by
          rw [hset]
          intro x hx
          simp only [Nat.add_zero, A.setRange, List.mem_append] at hx
          rcases hx with (hx | hx) | hx
          · exact hone x (List.mem_of_mem_take hx)
          · exact hco x hx
          · exact hone x (List.mem_of_mem_drop hx)) hf
        refine ⟨r', ?_, h2⟩
        unfold Instr.fill
        simp only [hp1]
        rw [if_neg (by simp; omega), ← h1]
        congr 1
        rw [← Array.foldl_toList]
        simp
      · cases hf
    · cases hf
  | [], _ :: _, _, _, _, hp, _, _, _ => hp.elim
  | _ :: _, [], _, _, _, hp, _, _, _ => hp.elim

end
end Go.Proofs.YtbejfgpeledcjaaGreat.A
namespace Go.Proofs.YtbejfgpeledcjaaGreat.A
noncomputable section
open Go

variable {P : Program} {ρ : Ren} {h h1 : AHeap} {G : Bes} {w : World} {t : Tr Value} {a : Act} {v : Value}

theorem VRel.int_inv {k : IntKind} {n : Int} {x : Value} (h : VRel ρ (.int k n) x) : x = .int k n := by cases h; rfl
theorem VRel.bool_inv {b : Bool} {x : Value} (h : VRel ρ (.bool b) x) : x = .bool b := by cases h; rfl
theorem VRel.str_inv {s : ByteArray} {x : Value} (h : VRel ρ (.string s) x) : x = .string s := by cases h; rfl
theorem VRel.ptr_inv {b o : Nat} {x : Value} (h : VRel ρ (.pointer (some ⟨b, o, none⟩)) x) : ∃ e, ρ b = some e ∧ x = .pointer (some (e.at o)) := by
  cases h; rename_i e he; exact ⟨e, he, rfl⟩
theorem VRel.agg_inv' {cs : Array Value} {x : Value} (h : VRel ρ (.agg cs) x) : ∃ ds : Array Value, x = .agg ds ∧ LRel ρ cs.toList ds.toList ∧ ∀ x ∈ ds.toList, x.oneCell' = true := by
  cases h; rename_i l1 l2 h1 h2 h3; exact ⟨⟨l2⟩, rfl, ⟨h1, h2⟩, h3⟩
theorem VRel.agg_inv {cs : Array Value} {x : Value} (h : VRel ρ (.agg cs) x) : ∃ ds : Array Value, x = .agg ds ∧ LRel ρ cs.toList ds.toList := by
  obtain ⟨ds, h1, h2, _⟩ := h.agg_inv'; exact ⟨ds, h1, h2⟩
theorem VRel.tuple_inv {cs : Array Value} {x : Value} (h : VRel ρ (.tuple cs) x) : ∃ ds : Array Value, x = .tuple ds ∧ LRel ρ cs.toList ds.toList := by
  cases h; rename_i l1 l2 h1 h2; exact ⟨⟨l2⟩, rfl, h1, h2⟩

theorem addr_add (e : Emb) (o n : Nat) : (e.at o).add n = e.at (o + n) := by
  unfold Addr.add Emb.at
  split
  · rename_i h; subst h; rfl
  · simp [Nat.add_assoc]

theorem zeroCells_inv {ty : TypeId} {z : List Value} (h : zeroCellsT P ty = some z) : ∃ v, zeroT P ty = some v ∧ v.cells.toList = z := isSomeMap h

def placesOf (P : Program) (fs : List Go.Field) : List (Nat × Nat) := fs.map fun f => (f.offset, (sizeT P f.type).getD 0)

theorem placesOf_get {fs : List Go.Field} {i : Nat} {f : Go.Field} {n : Nat} (hi : fs[i]? = some f) (hn : sizeT P f.type = some n) : (placesOf P fs)[i]? = some (f.offset, n) := by
  simp [placesOf, hi, hn]

theorem mapM_places {fs : List Go.Field} (hall : fs.all (fun f => (sizeT P f.type).isSome) = true) (w : World) :
    (fs.mapM fun f => (do pure (f.offset, ← sizeOf f.type) : Sem (Nat × Nat))).run P w = .ok (placesOf P fs) w := by
  induction fs with
  | nil => simp [placesOf]
  | cons f fs ih =>
    simp only [List.all_cons, Bool.and_eq_true] at hall
    obtain ⟨n, hn⟩ := Option.isSome_iff_exists.1 hall.1
    rw [List.mapM_cons]
    simp only [Sem.run_bind, run_size hn, Result.andThen_ok, Sem.run_pure, ih hall.2]
    simp [placesOf, hn]

theorem mapM_places' {fs : Array Go.Field} (hall : fs.toList.all (fun f => (sizeT P f.type).isSome) = true) (w : World) :
    (fs.mapM fun f => (do pure (f.offset, ← sizeOf f.type) : Sem (Nat × Nat))).run P w = .ok (placesOf P fs.toList).toArray w := by
  rw [Array.mapM_eq_mapM_toList]
  simp only [Sem.run_map, mapM_places hall, Result.andThen_ok]

theorem partsOf_rel {fs : Array Go.Field} :
    ∀ {ps : List (Nat × Operand)} {parts : Parts}, partsOf P fs ps = some parts → ORd ρ t a (parts.map (·.2.2)) →
      PRel ρ (fun i => (placesOf P fs.toList)[i]?) (evParts t parts) (ps.map fun x => (x.1, a.eval x.2))
  | [], parts, hp, _ => by simp [partsOf] at hp; subst hp; trivial
  | (i, x) :: ps, parts, hp, ho => by
    unfold partsOf at hp
    rw [List.mapM_cons] at hp
    simp only [Option.bind_eq_bind, Option.bind_eq_some_iff] at hp
    obtain ⟨y, hy, ys, hys, he⟩ := hp
    cases he
    split at hy
    · rename_i f hf
      obtain ⟨n, hn, rfl⟩ := isSomeMap hy
      refine ⟨placesOf_get (by simpa using hf) hn, ho x (by simp), ?_⟩
      exact partsOf_rel hys (fun z hz => ho z (by simp at hz ⊢; exact .inr hz))
    · cases hy

theorem idxParts_rel {n : Nat} : ∀ {ps : List (Nat × Operand)}, ORd ρ t a (ps.map (·.2)) →
    PRel ρ (fun i => some (i * n, n)) (evParts t (ps.map fun (i, x) => (i * n, n, x))) (ps.map fun x => (x.1, a.eval x.2))
  | [], _ => trivial
  | (i, x) :: ps, ho => ⟨rfl, ho x (by simp), idxParts_rel (fun z hz => ho z (by simp at hz ⊢; exact .inr hz))⟩

/-- What laying parts comes to on both sides. -/
theorem fill_both {place : Nat → Option (Nat × Nat)} {z cs : List Value} {parts : Parts} {ps : List (Nat × Value)} {cells : Array Value} (hz : LRel ρ z cells.toList) (hz1 : ∀ x ∈ cells.toList, x.oneCell' = true)
    (hf : fillL 0 z (evParts t parts) = some cs) (hlen : cs.length = z.length) (hp : PRel ρ place (evParts t parts) ps) : ∃ r' : Array Value, Instr.fill place cells ps = some r' ∧ LRel ρ cs r'.toList ∧ ∀ x ∈ r'.toList, x.oneCell' = true := by
  have := (fillL_spec (evParts t parts) 0 z cs (Nat.zero_le _) (by simpa using hf)).2 (by simpa using hlen)
  simp at this
  exact fill_rel _ _ _ _ _ hp hz hz1 this

theorem pure_build {o : Oper} {ty : TypeId} {ps : Array (Nat × Operand)} {op : AOp} (hc : o.op = .build ty ps) (hop : cOp P (.build ty ps) = some op) (hk : op.ok = true) (ho : ORd ρ t a op.opds) : PureS P ρ t a o op := by
  intro h h1 v hv
  have key : ∀ {place : Nat → Option (Nat × Nat)} {z : List Value} {parts : Parts} {zv : Value}, op = .build z parts → zeroT P ty = some zv → zv.cells.toList = z →
      (∀ w, ∀ cells : Array Value, Instr.fill place zv.cells (ps.toList.map fun x => (x.1, a.eval x.2)) = some cells → (execOp a.eval o).run P w = .ok (.value (.agg cells)) w) →
      PRel ρ place (evParts t parts) (ps.toList.map fun x => (x.1, a.eval x.2)) →
      h1 = h ∧ (∀ h2, aop op t h2 = some (.val v h2)) ∧ ∃ v', (∀ w, (execOp a.eval o).run P w = .ok (.value v') w) ∧ VRel ρ v v' := by
    intro place z parts zv hop hz hzc hrun hrel
    subst hop
    simp only [aop, k_build] at hv
    split at hv
    · rename_i cs hcs
      split at hv
      · rename_i hl
        simp only [Option.some.injEq, R.val.injEq] at hv
        obtain ⟨rfl, rfl⟩ := hv
        simp only [AOp.ok, AOp.zeros, Bool.and_eq_true] at hk
        have hzr : LRel ρ z zv.cells.toList := by rw [hzc]; exact LRel.scalars hk.1.2
        obtain ⟨r', h1, h2, h3⟩ := fill_both hzr (by rw [hzc]; intro x hx; have := hk.1.2; simp at this; exact scalar_one (this x hx)) hcs (Nat.eq_of_beq_eq_true hl) hrel
        exact ⟨rfl, fun h2 => by simp [aop, k_build, hcs, hl], _, fun w => hrun w r' h1, VRel.agg' h2 h3⟩
      · cases hv
    · cases hv
  simp only [cOp] at hop
  split at hop
  · rename_i fs z hu hz
    split at hop
    · rename_i hall
      obtain ⟨parts, hp, rfl⟩ := isSomeMap hop
      obtain ⟨zv, hz1, hz2⟩ := zeroCells_inv hz
      refine key (place := fun i => (placesOf P fs.toList)[i]?) rfl hz1 hz2 (fun w cells hf => ?_) (partsOf_rel hp (by simpa [AOp.opds] using ho))
      simp only [execOp, hc, Instr.build, Sem.run_bind, run_zero hz1, run_und hu, Result.andThen_ok, mapM_places' hall]
      simp [hf]
    · cases hop
  · rename_i n e z hu hz
    obtain ⟨m, hm, rfl⟩ := isSomeMap hop
    obtain ⟨zv, hz1, hz2⟩ := zeroCells_inv hz
    refine key (place := fun i => some (i * m, m)) rfl hz1 hz2 (fun w cells hf => ?_) (idxParts_rel (by simpa [AOp.opds, Function.comp_def] using ho))
    simp only [execOp, hc, Instr.build, Sem.run_bind, run_zero hz1, run_und hu, Result.andThen_ok, run_size hm]
    simp [hf]
  · cases hop

end
end Go.Proofs.YtbejfgpeledcjaaGreat.A
namespace Go.Proofs.YtbejfgpeledcjaaGreat.A
noncomputable section
open Go

variable {P : Program} {ρ : Ren} {h h1 : AHeap} {G : Bes} {w : World} {t : Tr Value} {a : Act} {v : Value}

theorem isNil_rel {k : NilK} {x x' : Value} {b : Bool} (hx : isNil k x = some b) (h : VRel ρ x x') : isNil k x' = some b := by
  cases k <;> cases h <;> simp_all [isNil]

def NilK.fits : NilK → TypeDesc → Bool
  | .ptr, .pointer _ | .sl, .slice _ | .map, .map _ _ | .fn, .func .. | .iface, .interface _ => true
  | _, _ => false

theorem run_isNil {k : NilK} {ty : TypeId} {d : TypeDesc} (hu : P.underlying ty = some d) (hf : k.fits d = true) {x y : Value} {p q : Bool} (hx : isNil k x = some p) (hy : isNil k y = some q) (hn : (p || q) = true) (n : Nat) (w : World) :
    (Op.equalIn (n + 1) ty x y).run P w = .ok (p && q) w := by
  cases k <;> cases d <;> simp [NilK.fits] at hf <;> cases x <;> simp [isNil] at hx <;> cases y <;> simp [isNil] at hy <;> subst hx hy
  · rename_i e x y; exact run_nil_pointer hu hn n w
  · exact run_nil_slice hu hn n w
  · exact run_nil_map hu hn n w
  all_goals simp_all [Op.equalIn, run_und hu]

theorem run_eql_nil {k : NilK} {op : BinOp} {neg : Bool} (hop : op = .eql ∧ neg = false ∨ op = .neq ∧ neg = true) {ty : TypeId} {d : TypeDesc} (hu : P.underlying ty = some d) (hf : k.fits d = true) {x y : Value} {p q : Bool} (hx : isNil k x = some p) (hy : isNil k y = some q) (hn : (p || q) = true)
    (w : World) : (binOp op ty x y).run P w = .ok (.bool (neg != (p && q))) w := by
  have := run_isNil hu hf hx hy hn 9999 w
  rcases hop with ⟨rfl, rfl⟩ | ⟨rfl, rfl⟩
  · have e : binOp .eql ty x y = (do pure (.bool (← Op.equal ty x y))) := by
      cases k <;> cases x <;> simp [isNil] at hx <;> cases y <;> simp [isNil] at hy <;> rfl
    rw [e]; simp only [equal_eq, Sem.run_bind, this, Result.andThen_ok, Sem.run_pure]; simp
  · have e : binOp .neq ty x y = (do pure (.bool (!(← Op.equal ty x y)))) := by
      cases k <;> cases x <;> simp [isNil] at hx <;> cases y <;> simp [isNil] at hy <;> rfl
    rw [e]; simp only [equal_eq, Sem.run_bind, this, Result.andThen_ok, Sem.run_pure]; simp

theorem pure_nil {o : Oper} {op : BinOp} {ty yt : TypeId} {x y : Operand} {k : NilK} {d : TypeDesc} (hc : o.op = .binOp op ty x y yt) (hu : P.underlying ty = some d) (hf : k.fits d = true)
    (hi : k = .iface → x = .const .nilIface ∨ y = .const .nilIface) {neg : Bool} (hop : op = .eql ∧ neg = false ∨ op = .neq ∧ neg = true) (ho : ORd ρ t a [x, y]) : PureS P ρ t a o (.eqNil k neg x y) := by
  intro h h1 v hv
  simp only [aop, k_eqNil] at hv
  split at hv
  · rename_i p q hp hq
    split at hv
    · rename_i hn
      simp only [Option.some.injEq, R.val.injEq] at hv
      obtain ⟨rfl, rfl⟩ := hv
      have hx := isNil_rel hp (ho x (by simp))
      have hy := isNil_rel hq (ho y (by simp))
      refine ⟨rfl, fun h2 => by simp [aop, k_eqNil, hp, hq, hn], _, fun w => ?_, .bool _⟩
      have hg : (eqGuard op ty x y (a.eval x) (a.eval y)).run P w = .ok () w := by
        cases k <;> cases hxe : a.eval x <;> rw [hxe] at hx <;> simp [isNil] at hx <;> cases hye : a.eval y <;> rw [hye] at hy <;> simp [isNil] at hy
        all_goals first
          | (rcases hop with ⟨rfl, _⟩ | ⟨rfl, _⟩ <;> simp [eqGuard]; done)
          | (rcases hi rfl with hi | hi <;> subst hi <;> (rcases hop with ⟨rfl, _⟩ | ⟨rfl, _⟩) <;> simp [eqGuard])
      simp only [execOp, hc, Sem.run_bind, hg, Result.andThen_ok, run_eql_nil hop hu hf hx hy hn, Sem.run_pure]
    · cases hv
  · cases hv

theorem pure_bool {o : Oper} {op : BinOp} {ty yt : TypeId} {x y : Operand} (hc : o.op = .binOp op ty x y yt) (hu : P.underlying ty = some .bool)
    {neg : Bool} (hop : op = .eql ∧ neg = false ∨ op = .neq ∧ neg = true) (ho : ORd ρ t a [x, y]) : PureS P ρ t a o (.eqBool neg x y) := by
  intro h h1 v hv
  simp only [aop, k_eqBool] at hv
  split at hv
  · rename_i p q hp hq
    simp only [Option.some.injEq, R.val.injEq] at hv
    obtain ⟨rfl, rfl⟩ := hv
    have hx := ho x (by simp)
    have hy := ho y (by simp)
    rw [hp] at hx; rw [hq] at hy
    replace hx := hx.bool_inv
    replace hy := hy.bool_inv
    refine ⟨rfl, fun h2 => by simp [aop, k_eqBool, hp, hq], _, fun w => ?_, .bool _⟩
    have := run_equalIn_bool w 9999 ty p q hu
    have e1 : binOp .eql ty (.bool p) (.bool q) = (do pure (.bool (← Op.equal ty (.bool p) (.bool q)))) := rfl
    have e2 : binOp .neq ty (.bool p) (.bool q) = (do pure (.bool (!(← Op.equal ty (.bool p) (.bool q))))) := rfl
    rcases hop with ⟨rfl, rfl⟩ | ⟨rfl, rfl⟩
    · simp only [execOp, hc, hx, hy, eqGuard, e1, equal_eq, Sem.run_bind, Result.andThen_ok, Sem.run_pure, this]; simp [this]
    · simp only [execOp, hc, hx, hy, eqGuard, e2, equal_eq, Sem.run_bind, Result.andThen_ok, Sem.run_pure, this]; simp [this]
  · cases hv

theorem binInt_inv {op : BinOp} {k : IntKind} {x y : Int} {u : Value} (h : binInt op k x y = some u) : (∃ b, u = .bool b) ∨ ∃ k n, u = .int k n := by
  unfold binInt at h
  cases op <;> simp at h <;> (try obtain ⟨_, rfl⟩ := h) <;> (try subst h) <;> first | exact .inl ⟨_, rfl⟩ | exact .inr ⟨_, _, rfl⟩

theorem binVal_inv {op : BinOp} {x y u : Value} (h : binVal op x y = some u) :
    ((∃ k n, x = .int k n) ∧ (∃ k n, y = .int k n) ∨ (∃ s, x = .string s) ∧ ∃ s, y = .string s) ∧ ((∃ b, u = .bool b) ∨ ∃ k n, u = .int k n) := by
  unfold binVal at h
  split at h
  · refine ⟨.inl ⟨⟨_, _, rfl⟩, ⟨_, _, rfl⟩⟩, ?_⟩
    unfold binShift at h; split at h
    · cases h
    · simp at h; subst h; exact .inr ⟨_, _, rfl⟩
  · refine ⟨.inl ⟨⟨_, _, rfl⟩, ⟨_, _, rfl⟩⟩, ?_⟩
    unfold binShift at h; split at h
    · cases h
    · simp at h; subst h; exact .inr ⟨_, _, rfl⟩
  · refine ⟨.inl ⟨⟨_, _, rfl⟩, ⟨_, _, rfl⟩⟩, ?_⟩
    split at h
    · exact binInt_inv h
    · cases h
  · simp at h; subst h; exact ⟨.inr ⟨⟨_, rfl⟩, ⟨_, rfl⟩⟩, .inl ⟨_, rfl⟩⟩
  · simp at h; subst h; exact ⟨.inr ⟨⟨_, rfl⟩, ⟨_, rfl⟩⟩, .inl ⟨_, rfl⟩⟩
  · cases h

theorem pure_bin {o : Oper} {op : BinOp} {ty yt : TypeId} {x y : Operand} (hc : o.op = .binOp op ty x y yt) (ho : ORd ρ t a [x, y]) : PureS P ρ t a o (.bin op x y) := by
  intro h h1 v hv
  simp only [aop, k_bin] at hv
  obtain ⟨u, hu, he⟩ := isSomeMap hv
  simp only [R.val.injEq] at he
  obtain ⟨rfl, rfl⟩ := he
  have hx := ho x (by simp)
  have hy := ho y (by simp)
  obtain ⟨i1, i2⟩ := binVal_inv hu
  have same : a.eval x = ev t x ∧ a.eval y = ev t y ∧ (∀ w, (eqGuard op ty x y (ev t x) (ev t y)).run P w = .ok () w) := by
    rcases i1 with ⟨⟨k, n, e1⟩, ⟨k', n', e2⟩⟩ | ⟨⟨k, e1⟩, ⟨k', e2⟩⟩
    · rw [e1] at hx; rw [e2] at hy; rw [e1, e2]; exact ⟨hx.int_inv, hy.int_inv, fun w => by cases op <;> simp [eqGuard]⟩
    · rw [e1] at hx; rw [e2] at hy; rw [e1, e2]; exact ⟨hx.str_inv, hy.str_inv, fun w => by cases op <;> simp [eqGuard]⟩
  obtain ⟨s1, s2, s4⟩ := same
  refine ⟨rfl, fun h2 => by simp [aop, k_bin, hu], u, fun w => ?_, ?_⟩
  · simp only [execOp, hc, s1, s2, Sem.run_bind, s4, Result.andThen_ok, run_binVal hu, Sem.run_pure]
  · rcases i2 with ⟨b, rfl⟩ | ⟨k, n, rfl⟩
    · exact .bool b
    · exact .int k n

theorem eqK_rel {k : Sk} {x y x' y' : Value} {r : Bool} (h : eqK k x y = some r) (hx : VRel ρ x x') (hy : VRel ρ y y') : x' = x ∧ y' = y := by
  unfold eqK at h
  split at h
  · exact ⟨hx.bool_inv, hy.bool_inv⟩
  · exact ⟨hx.int_inv, hy.int_inv⟩
  · exact ⟨hx.str_inv, hy.str_inv⟩
  · cases h

theorem eqL_rel : ∀ {ks : List Sk} {x y x' y' : List Value} {r : Bool}, eqL ks x y = some r → LRel ρ x x' → LRel ρ y y' → x' = x ∧ y' = y
  | [], [], [], x', y', r, _, hx, hy => by
    have h1 := hx.1; have h2 := hy.1
    cases x' <;> simp at h1; cases y' <;> simp at h2
    exact ⟨rfl, rfl⟩
  | _ :: _, u :: x, v :: y, [], y', r, h, hx, hy => by have := hx.1; simp at this
  | _ :: _, u :: x, v :: y, u' :: x', [], r, h, hx, hy => by have := hy.1; simp at this
  | k :: ks, u :: x, v :: y, u' :: x', v' :: y', r, h, hx, hy => by
    unfold eqL at h
    split at h
    · rename_i p q hp hq
      obtain ⟨rfl, rfl⟩ := eqK_rel hp hx.head hy.head
      obtain ⟨rfl, rfl⟩ := eqL_rel hq hx.tail hy.tail
      exact ⟨rfl, rfl⟩
    · cases h
  | [], [], _ :: _, _, _, _, h, _, _ => by simp [eqL] at h
  | [], _ :: _, _, _, _, _, h, _, _ => by simp [eqL] at h
  | _ :: _, [], _, _, _, _, h, _, _ => by simp [eqL] at h
  | _ :: _, _ :: _, [], _, _, _, h, _, _ => by simp [eqL] at h

theorem eqL_len : ∀ {ks : List Sk} {x y : List Value} {r : Bool}, eqL ks x y = some r → x.length = ks.length ∧ y.length = ks.length
  | [], [], [], _, _ => ⟨rfl, rfl⟩
  | k :: ks, u :: x, v :: y, r, h => by
    unfold eqL at h
    split at h
    · rename_i p q hp hq
      have := eqL_len hq
      simp [this.1, this.2]
    · cases h
  | [], [], _ :: _, _, h => by simp [eqL] at h
  | [], _ :: _, _, _, h => by simp [eqL] at h
  | _ :: _, [], _, _, h => by simp [eqL] at h
  | _ :: _, _ :: _, [], _, h => by simp [eqL] at h

theorem eqL_split : ∀ {ks ls : List Sk} {x y : List Value} {r : Bool}, eqL (ks ++ ls) x y = some r →
    ∃ p q, eqL ks (x.take ks.length) (y.take ks.length) = some p ∧ eqL ls (x.drop ks.length) (y.drop ks.length) = some q ∧ r = (p && q)
  | [], ls, x, y, r, h => ⟨true, r, by simp [eqL], by simpa using h, by simp⟩
  | k :: ks, ls, u :: x, v :: y, r, h => by
    simp only [List.cons_append, eqL] at h
    split at h
    · rename_i p q hp hq
      obtain ⟨p', q', h1, h2, rfl⟩ := eqL_split hq
      simp only [Option.some.injEq] at h
      refine ⟨p && p', q', by simp [eqL, hp, h1], by simpa using h2, by rw [← h]; cases p <;> simp⟩
    · cases h
  | _ :: _, ls, [], _, _, h => by simp [eqL] at h
  | _ :: _, ls, _ :: _, [], _, h => by simp [eqL] at h

end
end Go.Proofs.YtbejfgpeledcjaaGreat.A
