/- The abstract machine without a bound on its steps, its equations, and rules by which simp runs code. -/
import Derived.Test.YtbejfgpeledcjaaGreatA8
import Derived.IntWalk
set_option linter.unusedVariables false
set_option linter.unusedSimpArgs false
namespace Go.Proofs.YtbejfgpeledcjaaGreat.A
noncomputable section
open Go

/-- A call that is asked, and what it comes to. -/
structure Qu where
  c : Cal
  args : List Value
  u : Rec
  h : AHeap
  r : Res × Rec × AHeap

def Agree (L : List Qu) (K : CallFn) : Prop := ∀ q ∈ L, K q.c q.args q.u q.h = some q.r

theorem Agree.left {L M : List Qu} {K : CallFn} (h : Agree (L ++ M) K) : Agree L K := fun q hq => h q (List.mem_append_left _ hq)
theorem Agree.right {L M : List Qu} {K : CallFn} (h : Agree (L ++ M) K) : Agree M K := fun q hq => h q (List.mem_append_right _ hq)
theorem Agree.append {L M : List Qu} {K : CallFn} (h : Agree L K) (k : Agree M K) : Agree (L ++ M) K := fun q hq => (List.mem_append.1 hq).elim (h q) (k q)
theorem Agree.nil {K : CallFn} : Agree [] K := fun q hq => by cases hq
theorem Agree.one {K : CallFn} {c : Cal} {args : List Value} {u : Rec} {h : AHeap} {r : Res × Rec × AHeap} : Agree [⟨c, args, u, h, r⟩] K ↔ K c args u h = some r :=
  ⟨fun hk => hk ⟨c, args, u, h, r⟩ (by simp), fun hk q hq => by simp at hq; subst hq; exact hk⟩

/-- What comes of `f K n` uses finitely many calls, and no more steps than n. -/
def Fin {α : Type} (f : CallFn → Nat → Option α) (K : CallFn) (n : Nat) (r : α) : Prop :=
  ∃ L, Agree L K ∧ ∀ K' n', n ≤ n' → Agree L K' → f K' n' = some r

theorem Fin.const {α : Type} {K : CallFn} {n : Nat} {x : Option α} {r : α} (h : x = some r) : Fin (fun _ _ => x) K n r := ⟨[], Agree.nil, fun _ _ _ _ => h⟩

theorem opStep_fin {K : CallFn} {o : AOper} {s : St} {r : Ex × St} (n : Nat) (h : opStep K o s = some r) : Fin (fun K _ => opStep K o s) K n r := by
  have h0 := h
  unfold opStep at h
  split at h
  · cases h
  · rename_i v h1 he; exact ⟨[], Agree.nil, fun K' _ _ _ => by unfold opStep; rw [he]; exact h⟩
  · rename_i c args he
    cases hk : K c args .no s.h with
    | none => rw [hk] at h; cases h
    | some r1 =>
      rw [hk] at h
      refine ⟨[⟨c, args, .no, s.h, r1⟩], Agree.one.2 hk, fun K' _ _ hK' => ?_⟩
      unfold opStep; rw [he]; simp only []; rw [Agree.one.1 hK']; exact h
  · rename_i d he; exact ⟨[], Agree.nil, fun K' _ _ _ => by unfold opStep; rw [he]; exact h⟩
  · rename_i v he; exact ⟨[], Agree.nil, fun K' _ _ _ => by unfold opStep; rw [he]; exact h⟩
  · rename_i he; exact ⟨[], Agree.nil, fun K' _ _ _ => by unfold opStep; rw [he]; exact h⟩

theorem opsRun_fin {K : CallFn} (n : Nat) : ∀ (ops : List AOper) {s : St} {r : Ex × St}, opsRun K ops s = some r → Fin (fun K _ => opsRun K ops s) K n r
  | [], s, r, h => ⟨[], Agree.nil, fun _ _ _ _ => h⟩
  | o :: rest, s, r, h => by
    unfold opsRun at h
    cases hw : wantedA s.t o with
    | none => rw [hw] at h; cases h
    | some b =>
      rw [hw] at h
      cases b with
      | false =>
        obtain ⟨L, h1, h2⟩ := opsRun_fin n rest h
        exact ⟨L, h1, fun K' n' hn hL => by unfold opsRun; rw [hw]; exact h2 K' n' hn hL⟩
      | true =>
        simp only [] at h
        cases hs : opStep K o s with
        | none => rw [hs] at h; cases h
        | some x =>
          obtain ⟨L, h1, h2⟩ := opStep_fin n hs
          rw [hs] at h
          split at h
          · rename_i s' he
            cases he
            obtain ⟨M, h3, h4⟩ := opsRun_fin n rest h
            exact ⟨L ++ M, h1.append h3, fun K' n' hn hL => by
              unfold opsRun; rw [hw]; simp only []
              have := h2 K' n' hn hL.left
              simp only [] at this
              rw [this]; exact h4 K' n' hn hL.right⟩
          · rename_i hne
            refine ⟨L, h1, fun K' n' hn hL => ?_⟩
            unfold opsRun; rw [hw]; simp only []
            have := h2 K' n' hn hL
            simp only [] at this
            rw [this]
            split
            · rename_i s' he; exact absurd he (hne s')
            · exact h

theorem drawnRun_fin {K : CallFn} (n : Nat) (all : List AOper) : ∀ (ops : List AOper) {k : Nat} {s : St} {hs : List AHeap} {rs : List DChk} {r : Ex × St}, drawnRun K all ops k s hs rs = some r → Fin (fun K _ => drawnRun K all ops k s hs rs) K n r
  | [], k, s, hs, rs, r, h => ⟨[], Agree.nil, fun _ _ _ _ => h⟩
  | o :: rest, k, s, hs, rs, r, h => by
    unfold drawnRun at h
    cases hw : wantedA s.t o with
    | none => rw [hw] at h; cases h
    | some b =>
      rw [hw] at h
      cases b with
      | false =>
        obtain ⟨L, h1, h2⟩ := drawnRun_fin n all rest h
        exact ⟨L, h1, fun K' n' hn hL => by unfold drawnRun; rw [hw]; exact h2 K' n' hn hL⟩
      | true =>
        simp only [] at h
        cases hc : o.op.cls with
        | write =>
          rw [hc] at h; simp only [] at h
          cases hst : opStep K o s with
          | none => rw [hst] at h; cases h
          | some x =>
            obtain ⟨L, h1, h2⟩ := opStep_fin n hst
            rw [hst] at h
            obtain ⟨e, s'⟩ := x
            cases e with
            | norm =>
              obtain ⟨M, h3, h4⟩ := drawnRun_fin n all rest h
              exact ⟨L ++ M, h1.append h3, fun K' n' hn hL => by
                unfold drawnRun; rw [hw]; simp only []; rw [hc]; simp only []
                have := h2 K' n' hn hL.left
                simp only [] at this
                rw [this]; exact h4 K' n' hn hL.right⟩
            | exit id => cases h
            | ret => cases h
            | pan v =>
              exact ⟨L, h1, fun K' n' hn hL => by
                unfold drawnRun; rw [hw]; simp only []; rw [hc]; simp only []
                have := h2 K' n' hn hL
                simp only [] at this
                rw [this]; exact h⟩
        | read =>
          rw [hc] at h; simp only [] at h
          split at h
          · rename_i v h' he
            obtain ⟨L, h1, h2⟩ := drawnRun_fin n all rest h
            exact ⟨L, h1, fun K' n' hn hL => by unfold drawnRun; rw [hw]; simp only []; rw [hc]; simp only []; rw [he]; exact h2 K' n' hn hL⟩
          · cases h
        | alloc =>
          rw [hc] at h; simp only [] at h
          split at h
          · rename_i v h' he
            split at h
            · rename_i ob hob
              obtain ⟨L, h1, h2⟩ := drawnRun_fin n all rest h
              exact ⟨L, h1, fun K' n' hn hL => by unfold drawnRun; rw [hw]; simp only []; rw [hc]; simp only []; rw [he]; simp only []; rw [hob]; exact h2 K' n' hn hL⟩
            · cases h
          · cases h
        | pure =>
          rw [hc] at h; simp only [] at h
          split at h
          · rename_i v h' he
            obtain ⟨L, h1, h2⟩ := drawnRun_fin n all rest h
            exact ⟨L, h1, fun K' n' hn hL => by unfold drawnRun; rw [hw]; simp only []; rw [hc]; simp only []; rw [he]; exact h2 K' n' hn hL⟩
          · cases h

/-- Rounds of a loop; the second number bounds them. -/
theorem loopN_fin {F : CallFn → Nat → St → Option (Ex × St)} (hF : ∀ K n s r, F K n s = some r → Fin (fun K n => F K n s) K n r) {K : CallFn} {n : Nat} : ∀ (m : Nat) {s : St} {r : Ex × St}, loopN (F K n) m s = some r →
    ∃ L, Agree L K ∧ ∀ K' n' m', n ≤ n' → m ≤ m' → Agree L K' → loopN (F K' n') m' s = some r
  | 0, s, r, h => by cases h
  | m + 1, s, r, h => by
    unfold loopN at h
    cases hs : F K n s with
    | none => rw [hs] at h; cases h
    | some x =>
      obtain ⟨L, h1, h2⟩ := hF K n s x hs
      rw [hs] at h
      obtain ⟨e, s'⟩ := x
      have step : ∀ K' n' m', n ≤ n' → m + 1 ≤ m' → Agree L K' → ∃ p, m' = p + 1 ∧ F K' n' s = some (e, s') := fun K' n' m' hn hm hL => ⟨m' - 1, by omega, h2 K' n' hn hL⟩
      cases e with
      | norm =>
        obtain ⟨M, h3, h4⟩ := loopN_fin hF m h
        refine ⟨L ++ M, h1.append h3, fun K' n' m' hn hm hL => ?_⟩
        obtain ⟨p, rfl, hp⟩ := step K' n' m' hn hm hL.left
        unfold loopN; rw [hp]; exact h4 K' n' p hn (by omega) hL.right
      | _ =>
        refine ⟨L, h1, fun K' n' m' hn hm hL => ?_⟩
        obtain ⟨p, rfl, hp⟩ := step K' n' m' hn hm hL
        unfold loopN; rw [hp]; exact h

theorem exec_fin (ro : Option Nat) : ∀ (c : ACode) (K : CallFn) (n : Nat) (s : St) (r : Ex × St), exec K n ro c s = some r → Fin (fun K n => exec K n ro c s) K n r
  | .skip, K, n, s, r, h => ⟨[], Agree.nil, fun _ _ _ _ => h⟩
  | .exit id, K, n, s, r, h => ⟨[], Agree.nil, fun _ _ _ _ => h⟩
  | .ret, K, n, s, r, h => ⟨[], Agree.nil, fun _ _ _ _ => h⟩
  | .region ops, K, n, s, r, h => by
    simp only [exec] at h
    obtain ⟨L, h1, h2⟩ := opsRun_fin n ops h
    exact ⟨L, h1, fun K' n' hn hL => by simp only [exec]; exact h2 K' n' hn hL⟩
  | .drawn ops, K, n, s, r, h => by
    simp only [exec] at h
    obtain ⟨L, h1, h2⟩ := drawnRun_fin n ops ops h
    exact ⟨L, h1, fun K' n' hn hL => by simp only [exec]; exact h2 K' n' hn hL⟩
  | .seq a b, K, n, s, r, h => by
    simp only [exec] at h
    cases ha : exec K n ro a s with
    | none => rw [ha] at h; cases h
    | some x =>
      obtain ⟨L, h1, h2⟩ := exec_fin ro a K n s x ha
      rw [ha] at h
      obtain ⟨e, s'⟩ := x
      cases e with
      | norm =>
        obtain ⟨M, h3, h4⟩ := exec_fin ro b K n s' r h
        refine ⟨L ++ M, h1.append h3, fun K' n' hn hL => ?_⟩
        have := h2 K' n' hn hL.left
        simp only [exec] at this ⊢
        rw [this]; exact h4 K' n' hn hL.right
      | _ =>
        refine ⟨L, h1, fun K' n' hn hL => ?_⟩
        have := h2 K' n' hn hL
        simp only [exec] at this ⊢
        rw [this]; exact h
  | .cond c a b, K, n, s, r, h => by
    simp only [exec] at h
    split at h
    · rename_i he
      obtain ⟨L, h1, h2⟩ := exec_fin ro a K n s r h
      exact ⟨L, h1, fun K' n' hn hL => by simp only [exec]; rw [he]; exact h2 K' n' hn hL⟩
    · rename_i he
      obtain ⟨L, h1, h2⟩ := exec_fin ro b K n s r h
      exact ⟨L, h1, fun K' n' hn hL => by simp only [exec]; rw [he]; exact h2 K' n' hn hL⟩
    · cases h
  | .block id b, K, n, s, r, h => by
    simp only [exec] at h
    cases hb : exec K n ro b s with
    | none => rw [hb] at h; cases h
    | some x =>
      obtain ⟨L, h1, h2⟩ := exec_fin ro b K n s x hb
      rw [hb] at h
      exact ⟨L, h1, fun K' n' hn hL => by
        have := h2 K' n' hn hL
        simp only [exec] at this ⊢
        rw [this]; exact h⟩
  | .loop b, K, n, s, r, h => by
    simp only [exec] at h
    obtain ⟨L, h1, h2⟩ := loopN_fin (F := fun K n => exec K n ro b) (fun K n s r => exec_fin ro b K n s r) n h
    exact ⟨L, h1, fun K' n' hn hL => by simp only [exec]; exact h2 K' n' n' hn hn hL⟩
  | .rangeFunc f params assign body, K, n, s, r, h => by
    simp only [exec] at h
    split at h
    · rename_i g first captured l ds hp he1 he2
      generalize hk : K (.fn g) (first.toList ++ [.func (.yield l) #[] #[]] ++ captured.toList) .no hp = x at h
      cases x with
      | none => cases h
      | some r1 =>
        refine ⟨[⟨_, _, _, _, r1⟩], Agree.one.2 hk, fun K' n' hn hL => ?_⟩
        simp only [exec]; rw [he1, he2]; simp only []
        rw [Agree.one.1 hL]; exact h
    · cases h

theorem leave_fin {rs : List ARes} {K : CallFn} : ∀ (n : Nat) {u : Rec} {s : St} {r : Res × AHeap}, leave K rs n u s = some r → ∃ L, Agree L K ∧ ∀ K' n', n ≤ n' → Agree L K' → leave K' rs n' u s = some r
  | 0, u, s, r, h => by cases h
  | n + 1, u, s, r, h => by
    have suc : ∀ n', n + 1 ≤ n' → ∃ p, n' = p + 1 := fun n' h => ⟨n' - 1, by omega⟩
    unfold leave at h
    cases hd : s.ds with
    | nil =>
      rw [hd] at h
      refine ⟨[], Agree.nil, fun K' n' hn _ => ?_⟩
      obtain ⟨p, rfl⟩ := suc n' hn
      unfold leave; rw [hd]; exact h
    | cons d ds =>
      rw [hd] at h
      cases d with
      | coll q =>
        simp only [] at h
        split at h
        · rename_i hq
          obtain ⟨L, h1, h2⟩ := leave_fin n h
          refine ⟨L, h1, fun K' n' hn hL => ?_⟩
          obtain ⟨p, rfl⟩ := suc n' hn
          unfold leave; rw [hd]; simp only []; rw [hq]; exact h2 K' p (by omega) hL
        · cases h
      | fn f args =>
        simp only [] at h
        cases hk : K (.fn f) args u s.h with
        | none => rw [hk] at h; cases h
        | some x =>
          obtain ⟨res, u', h'⟩ := x
          rw [hk] at h
          cases res with
          | pan v => cases h
          | ret v =>
            simp only [] at h
            cases u' with
            | recovered v =>
              obtain ⟨L, h1, h2⟩ := leave_fin n h
              refine ⟨⟨.fn f, args, u, s.h, _⟩ :: L, fun q hq => (List.mem_cons.1 hq).elim (fun e => by subst e; exact hk) (h1 q), fun K' n' hn hL => ?_⟩
              · obtain ⟨p, rfl⟩ := suc n' hn
                have h9 := hL _ (List.mem_cons_self ..)
                simp only [] at h9
                unfold leave; rw [hd]; simp only []; rw [h9]; exact h2 K' p (by omega) fun q hq => hL q (List.mem_cons_of_mem _ hq)
            | _ =>
              obtain ⟨L, h1, h2⟩ := leave_fin n h
              refine ⟨⟨.fn f, args, u, s.h, _⟩ :: L, fun q hq => (List.mem_cons.1 hq).elim (fun e => by subst e; exact hk) (h1 q), fun K' n' hn hL => ?_⟩
              · obtain ⟨p, rfl⟩ := suc n' hn
                have h9 := hL _ (List.mem_cons_self ..)
                simp only [] at h9
                unfold leave; rw [hd]; simp only []; rw [h9]; exact h2 K' p (by omega) fun q hq => hL q (List.mem_cons_of_mem _ hq)

theorem roundA_fin {l : Nat} {rl : ALoop} {args : List Value} {h : AHeap} {K : CallFn} {n : Nat} {r : Res × Rec × AHeap} (hr : roundA K n l rl args h = some r) : Fin (fun K n => roundA K n l rl args h) K n r := by
  unfold roundA at hr
  split at hr
  · rename_i hc
    generalize hx : exec K n (some l) rl.assign { t := putAll rl.tmps rl.params args, ds := [], u := .no, rd := true, h := h } = x at hr
    cases x with
    | none => cases hr
    | some y =>
      obtain ⟨L, h1, h2⟩ := exec_fin _ _ _ _ _ _ hx
      obtain ⟨e, s1⟩ := y
      cases e with
      | norm =>
        simp only [] at hr
        split at hr
        · rename_i r1 hds hl1
          split at hr
          · rename_i hrd
            generalize hx2 : exec K n (some l) rl.body { s1 with h := s1.h.put l (.loop { r1 with st := .busy }) } = x2 at hr
            cases x2 with
            | none => cases hr
            | some y2 =>
              obtain ⟨M, h3, h4⟩ := exec_fin _ _ _ _ _ _ hx2
              refine ⟨L ++ M, h1.append h3, fun K' n' hn hL => ?_⟩
              have g1 := h2 K' n' hn hL.left
              have g2 := h4 K' n' hn hL.right
              simp only [] at g1 g2
              show roundA K' n' l rl args h = some r
              unfold roundA
              rw [hds] at g2; rw [if_pos hc, g1]; simp only []; rw [hds, hl1]; simp only []; rw [if_pos hrd, g2]; exact hr
          · cases hr
        · cases hr
      | exit id => cases hr
      | ret => cases hr
      | pan v => cases hr
  · cases hr

theorem callS_fin {S : ASys} {c : Cal} {args : List Value} {u : Rec} {h : AHeap} {K : CallFn} {n : Nat} {r : Res × Rec × AHeap} (hr : callS S n K c args u h = some r) : Fin (fun K n => callS S n K c args u h) K n r := by
  cases c with
  | fn f =>
    simp only [callS] at hr
    cases hf : S.fns.get f with
    | none => rw [hf] at hr; cases hr
    | some fn =>
      rw [hf] at hr
      simp only [] at hr
      split at hr
      · rename_i hlen
        generalize hx : exec K n none fn.body { t := initT 0 args, ds := [], u := u, rd := false, h := h } = x at hr
        cases x with
        | none => cases hr
        | some y =>
          obtain ⟨L, h1, h2⟩ := exec_fin _ _ _ _ _ _ hx
          obtain ⟨e, s⟩ := y
          have fin : ∀ v0, (leave K fn.results n v0 s).map (fun (x : Res × AHeap) => (x.1, s.u, x.2)) = some r → ∃ M, Agree M K ∧ ∀ K' n', n ≤ n' → Agree M K' → (leave K' fn.results n' v0 s).map (fun (x : Res × AHeap) => (x.1, s.u, x.2)) = some r := fun v0 hm => by
            cases hl : leave K fn.results n v0 s with
            | none => rw [hl] at hm; cases hm
            | some z =>
              obtain ⟨M, h3, h4⟩ := leave_fin n hl
              exact ⟨M, h3, fun K' n' hn hL => by rw [h4 K' n' hn hL, ← hl]; exact hm⟩
          cases e with
          | norm =>
            obtain ⟨M, h3, h4⟩ := fin .returning hr
            refine ⟨L ++ M, h1.append h3, fun K' n' hn hL => ?_⟩
            have g1 := h2 K' n' hn hL.left
            simp only [] at g1
            simp only [callS]; rw [hf]; simp only []; rw [if_pos hlen, g1]; exact h4 K' n' hn hL.right
          | ret =>
            obtain ⟨M, h3, h4⟩ := fin .returning hr
            refine ⟨L ++ M, h1.append h3, fun K' n' hn hL => ?_⟩
            have g1 := h2 K' n' hn hL.left
            simp only [] at g1
            simp only [callS]; rw [hf]; simp only []; rw [if_pos hlen, g1]; exact h4 K' n' hn hL.right
          | pan v =>
            obtain ⟨M, h3, h4⟩ := fin (.panicking v) hr
            refine ⟨L ++ M, h1.append h3, fun K' n' hn hL => ?_⟩
            have g1 := h2 K' n' hn hL.left
            simp only [] at g1
            simp only [callS]; rw [hf]; simp only []; rw [if_pos hlen, g1]; exact h4 K' n' hn hL.right
          | exit id => cases hr
      · cases hr
  | round l =>
    simp only [callS] at hr
    split at hr
    · rename_i rl hl
      obtain ⟨L, h1, h2⟩ := roundA_fin hr
      exact ⟨L, h1, fun K' n' hn hL => by simp only [callS]; rw [hl]; exact h2 K' n' hn hL⟩
    · cases hr

end
end Go.Proofs.YtbejfgpeledcjaaGreat.A
namespace Go.Proofs.YtbejfgpeledcjaaGreat.A
noncomputable section
open Go

def Mono {α : Type} (f : Nat → Option α) : Prop := ∀ n m r, n ≤ m → f n = some r → f m = some r

open Classical in
def lim {α : Type} (f : Nat → Option α) : Option α := if h : ∃ r, ∃ n, f n = some r then some h.choose else none

theorem lim_iff {α : Type} {f : Nat → Option α} (hm : Mono f) {r : α} : lim f = some r ↔ ∃ n, f n = some r := by
  unfold lim
  split
  · rename_i h
    obtain ⟨n, hn⟩ := h.choose_spec
    constructor
    · intro he; rw [Option.some.inj he] at hn; exact ⟨n, hn⟩
    · rintro ⟨m, hmr⟩
      have h1 := hm n (max n m) _ (Nat.le_max_left ..) hn
      have h2 := hm m (max n m) _ (Nat.le_max_right ..) hmr
      rw [h1] at h2
      rw [Option.some.inj h2]
  · rename_i h
    constructor
    · intro he; cases he
    · rintro ⟨n, hn⟩; exact absurd ⟨r, n, hn⟩ h

variable {S : ASys} {T : Tr (List Ent)}

theorem callH_mono {n m : Nat} (hn : n ≤ m) : ∀ {c args u h r}, callH S T n c args u h = some r → callH S T m c args u h = some r := by
  induction n generalizing m with
  | zero => intro c args u h r hr; cases hr
  | succ n ih =>
    intro c args u h r hr
    obtain ⟨m, rfl⟩ : ∃ k, m = k + 1 := ⟨m - 1, by omega⟩
    have key : ∀ {c args u h r}, callS S n (callH S T n) c args u h = some r → callS S m (callH S T m) c args u h = some r := fun hr => by
      obtain ⟨L, h1, h2⟩ := callS_fin hr
      exact h2 _ m (by omega) fun q hq => ih (by omega) (h1 q hq)
    simp only [callH] at hr ⊢
    unfold tabH at hr ⊢
    split at hr
    · rename_i f
      split at hr
      · rename_i l hl
        split at hr
        · exact hr
        · exact key hr
      · exact key hr
    · exact key hr

variable (S T) in
def callR : CallFn := fun c args u h => lim fun n => callH S T n c args u h

theorem callR_iff {c args u h r} : callR S T c args u h = some r ↔ ∃ n, callH S T n c args u h = some r :=
  lim_iff (fun _ _ _ hn hr => callH_mono hn hr)

theorem agree_callR {L : List Qu} (hL : Agree L (callR S T)) : ∃ n, Agree L (callH S T n) := by
  induction L with
  | nil => exact ⟨0, Agree.nil⟩
  | cons q L ih =>
    obtain ⟨n, hn⟩ := ih fun x hx => hL x (List.mem_cons_of_mem _ hx)
    obtain ⟨m, hm⟩ := callR_iff.1 (hL q (List.mem_cons_self ..))
    exact ⟨max n m, fun x hx => (List.mem_cons.1 hx).elim (fun e => by subst e; exact callH_mono (Nat.le_max_right ..) hm) (fun hx => callH_mono (Nat.le_max_left ..) (hn x hx))⟩

theorem callH_agree {L : List Qu} {n : Nat} (hL : Agree L (callH S T n)) : Agree L (callR S T) := fun q hq => callR_iff.2 ⟨n, hL q hq⟩

variable (S T) in
def execR (ro : Option Nat) (c : ACode) (s : St) : Option (Ex × St) := lim fun n => exec (callR S T) n ro c s
variable (S T) in
def leaveR (rs : List ARes) (u : Rec) (s : St) : Option (Res × AHeap) := lim fun n => leave (callR S T) rs n u s

theorem execR_iff {ro c s r} : execR S T ro c s = some r ↔ ∃ n, exec (callR S T) n ro c s = some r :=
  lim_iff (fun n m r hn hr => let ⟨_, h1, h2⟩ := exec_fin ro c _ n s r hr; h2 _ m hn h1)
theorem leaveR_iff {rs u s r} : leaveR S T rs u s = some r ↔ ∃ n, leave (callR S T) rs n u s = some r :=
  lim_iff (fun n m r hn hr => let ⟨_, h1, h2⟩ := leave_fin n hr; h2 _ m hn h1)

theorem exec_up {ro c s r} {n m : Nat} (hn : n ≤ m) (hr : exec (callR S T) n ro c s = some r) : exec (callR S T) m ro c s = some r :=
  let ⟨_, h1, h2⟩ := exec_fin ro c _ n s r hr; h2 _ m hn h1

section
variable {ro : Option Nat} {s : St}

theorem ext_some {α : Type} {a b : Option α} (h1 : ∀ r, a = some r → b = some r) (h2 : ∀ r, b = some r → a = some r) : a = b := by
  cases ha : a with
  | some x => rw [← h1 x ha]
  | none => cases hb : b with
    | none => rfl
    | some y => have := h2 y hb; rw [ha] at this; exact this

theorem execR_skip : execR S T ro .skip s = some (.norm, s) := execR_iff.2 ⟨0, rfl⟩
theorem execR_exit {id : Nat} : execR S T ro (.exit id) s = some (.exit id, s) := execR_iff.2 ⟨0, rfl⟩
theorem execR_ret : execR S T ro .ret s = some (.ret, s) := execR_iff.2 ⟨0, rfl⟩
theorem execR_region {ops : List AOper} : execR S T ro (.region ops) s = opsRun (callR S T) ops s :=
  ext_some (fun r h => by obtain ⟨n, hn⟩ := execR_iff.1 h; exact hn) (fun r h => execR_iff.2 ⟨0, h⟩)
theorem execR_drawn {ops : List AOper} : execR S T ro (.drawn ops) s = drawnRun (callR S T) ops ops 0 s [] [] :=
  ext_some (fun r h => by obtain ⟨n, hn⟩ := execR_iff.1 h; exact hn) (fun r h => execR_iff.2 ⟨0, h⟩)

/-- What comes behind. -/
def thenR (x : Option (Ex × St)) (f : St → Option (Ex × St)) : Option (Ex × St) :=
  match x with
  | some (.norm, s') => f s'
  | r => r

theorem thenR_norm {s : St} {f : St → Option (Ex × St)} : thenR (some (.norm, s)) f = f s := rfl
theorem thenR_ret {s : St} {f : St → Option (Ex × St)} : thenR (some (.ret, s)) f = some (.ret, s) := rfl
theorem thenR_exit {id : Nat} {s : St} {f : St → Option (Ex × St)} : thenR (some (.exit id, s)) f = some (.exit id, s) := rfl
theorem thenR_pan {v : Value} {s : St} {f : St → Option (Ex × St)} : thenR (some (.pan v, s)) f = some (.pan v, s) := rfl

theorem execR_seq {a b : ACode} : execR S T ro (.seq a b) s = thenR (execR S T ro a s) (execR S T ro b) := by
  refine ext_some (fun r h => ?_) (fun r h => ?_)
  · obtain ⟨n, hn⟩ := execR_iff.1 h
    simp only [exec] at hn
    cases ha : exec (callR S T) n ro a s with
    | none => rw [ha] at hn; cases hn
    | some x =>
      rw [execR_iff.2 ⟨n, ha⟩]
      rw [ha] at hn
      obtain ⟨e, s'⟩ := x
      cases e with
      | norm => exact execR_iff.2 ⟨n, hn⟩
      | _ => exact hn
  · cases ha : execR S T ro a s with
    | none => rw [ha] at h; cases h
    | some x =>
      obtain ⟨n, hn⟩ := execR_iff.1 ha
      rw [ha] at h
      obtain ⟨e, s'⟩ := x
      cases e with
      | norm =>
        obtain ⟨m, hm⟩ := execR_iff.1 h
        refine execR_iff.2 ⟨max n m, ?_⟩
        simp only [exec]; rw [exec_up (Nat.le_max_left n m) hn]; exact exec_up (Nat.le_max_right n m) hm
      | _ => refine execR_iff.2 ⟨n, ?_⟩; simp only [exec]; rw [hn]; exact h

theorem execR_cond {c : Operand} {a b : ACode} {x : Bool} (hc : ev s.t c = .bool x) : execR S T ro (.cond c a b) s = if x = true then execR S T ro a s else execR S T ro b s := by
  cases x with
  | true =>
    rw [if_pos rfl]
    refine ext_some (fun r h => ?_) (fun r h => ?_)
    · obtain ⟨n, hn⟩ := execR_iff.1 h; simp only [exec, hc] at hn; exact execR_iff.2 ⟨n, hn⟩
    · obtain ⟨n, hn⟩ := execR_iff.1 h; exact execR_iff.2 ⟨n, by simp only [exec, hc]; exact hn⟩
  | false =>
    rw [if_neg (by decide)]
    refine ext_some (fun r h => ?_) (fun r h => ?_)
    · obtain ⟨n, hn⟩ := execR_iff.1 h; simp only [exec, hc] at hn; exact execR_iff.2 ⟨n, hn⟩
    · obtain ⟨n, hn⟩ := execR_iff.1 h; exact execR_iff.2 ⟨n, by simp only [exec, hc]; exact hn⟩

/-- A block is left. -/
def blockR (id : Nat) (x : Option (Ex × St)) : Option (Ex × St) :=
  match x with
  | some (.exit i, s') => if i = id then some (.norm, s') else some (.exit i, s')
  | r => r

theorem blockR_norm {id : Nat} {s : St} : blockR id (some (.norm, s)) = some (.norm, s) := rfl
theorem blockR_ret {id : Nat} {s : St} : blockR id (some (.ret, s)) = some (.ret, s) := rfl
theorem blockR_pan {id : Nat} {v : Value} {s : St} : blockR id (some (.pan v, s)) = some (.pan v, s) := rfl
theorem blockR_exit {id i : Nat} {s : St} : blockR id (some (.exit i, s)) = if i = id then some (.norm, s) else some (.exit i, s) := rfl

theorem execR_block {id : Nat} {b : ACode} : execR S T ro (.block id b) s = blockR id (execR S T ro b s) := by
  refine ext_some (fun r h => ?_) (fun r h => ?_)
  · obtain ⟨n, hn⟩ := execR_iff.1 h
    simp only [exec] at hn
    cases hb : exec (callR S T) n ro b s with
    | none => rw [hb] at hn; cases hn
    | some x => rw [execR_iff.2 ⟨n, hb⟩]; rw [hb] at hn; exact hn
  · cases hb : execR S T ro b s with
    | none => rw [hb] at h; cases h
    | some x =>
      obtain ⟨n, hn⟩ := execR_iff.1 hb
      rw [hb] at h
      refine execR_iff.2 ⟨n, ?_⟩
      simp only [exec]; rw [hn]; exact h

theorem loopN_up {b : ACode} {n m k l : Nat} {r : Ex × St} (h1 : n ≤ m) (h2 : k ≤ l) {s : St} (hr : loopN (exec (callR S T) n ro b) k s = some r) : loopN (exec (callR S T) m ro b) l s = some r := by
  obtain ⟨L, h3, h4⟩ := loopN_fin (F := fun K n => exec K n ro b) (fun K n s r => exec_fin ro b K n s r) k hr
  exact h4 _ m l h1 h2 h3

theorem execR_loop {b : ACode} : execR S T ro (.loop b) s = thenR (execR S T ro b s) (execR S T ro (.loop b)) := by
  refine ext_some (fun r h => ?_) (fun r h => ?_)
  · obtain ⟨n, hn⟩ := execR_iff.1 h
    simp only [exec] at hn
    cases n with
    | zero => cases hn
    | succ n =>
      unfold loopN at hn
      cases hb : exec (callR S T) (n + 1) ro b s with
      | none => rw [hb] at hn; cases hn
      | some x =>
        rw [execR_iff.2 ⟨_, hb⟩]
        rw [hb] at hn
        obtain ⟨e, s'⟩ := x
        cases e with
        | norm => exact execR_iff.2 ⟨n + 1, by simp only [exec]; exact loopN_up (Nat.le_refl _) (Nat.le_succ n) hn⟩
        | _ => exact hn
  · cases hb : execR S T ro b s with
    | none => rw [hb] at h; cases h
    | some x =>
      obtain ⟨n, hn⟩ := execR_iff.1 hb
      rw [hb] at h
      obtain ⟨e, s'⟩ := x
      cases e with
      | norm =>
        obtain ⟨m, hm⟩ := execR_iff.1 h
        refine execR_iff.2 ⟨max n m + 1, ?_⟩
        simp only [exec] at hm ⊢
        unfold loopN
        rw [exec_up (by omega) hn]
        exact loopN_up (by omega) (Nat.le_max_right n m) hm
      | _ =>
        refine execR_iff.2 ⟨n + 1, ?_⟩
        simp only [exec]
        unfold loopN
        rw [exec_up (Nat.le_succ n) hn]; exact h

/-- What a range over a function goes on with. -/
def behindRange (s : St) (l : Nat) (ds : List ADef) (x : Option (Res × Rec × AHeap)) : Option (Ex × St) :=
  match x with
  | some (.ret _, _, h') =>
    match loopOf h' l with
    | some r => if r.st.isBusy then none else some (jumpA r.pend, { s with h := h'.put l (.loop { r with st := .over }), ds := ds })
    | none => none
  | some (.pan v, _, h') => some (.pan v, { s with h := h', ds := ds })
  | none => none

theorem execR_range {f : Operand} {params : List Tmp} {assign body : ACode} {g : FuncId} {first captured : Array Value} {l : Nat} {ds : List ADef} {h : AHeap}
    (hf : ev s.t f = .func (.func g) first captured) (he : enterA ro s params assign body = some (l, ds, h)) :
    execR S T ro (.rangeFunc f params assign body) s = behindRange s l ds (callR S T (.fn g) (first.toList ++ [.func (.yield l) #[] #[]] ++ captured.toList) .no h) := by
  have key : ∀ n, exec (callR S T) n ro (.rangeFunc f params assign body) s = behindRange s l ds (callR S T (.fn g) (first.toList ++ [.func (.yield l) #[] #[]] ++ captured.toList) .no h) := fun n => by
    simp only [exec, hf, he]; rfl
  exact ext_some (fun r h => by obtain ⟨n, hn⟩ := execR_iff.1 h; rw [key] at hn; exact hn) (fun r h => execR_iff.2 ⟨0, by rw [key]; exact h⟩)

theorem leaveR_ret {rs : List ARes} (hd : s.ds = []) : leaveR S T rs .returning s = (results s rs).map fun v => (.ret v, s.h) :=
  ext_some (fun r h => by
    obtain ⟨n, hn⟩ := leaveR_iff.1 h
    cases n with
    | zero => cases hn
    | succ n => unfold leave at hn; rw [hd] at hn; exact hn) (fun r h => leaveR_iff.2 ⟨1, by unfold leave; rw [hd]; exact h⟩)
theorem leaveR_pan {rs : List ARes} {v : Value} (hd : s.ds = []) : leaveR S T rs (.panicking v) s = some (.pan v, s.h) :=
  leaveR_iff.2 ⟨1, by unfold leave; rw [hd]⟩
theorem leaveR_coll {rs : List ARes} {u : Rec} {r : Nat} {ds : List ADef} (hd : s.ds = .coll r :: ds) (hr : s.h.get r = some (.defers false)) : leaveR S T rs u s = leaveR S T rs u { s with ds := ds, h := s.h.put r (.defers true) } :=
  ext_some (fun x h => by
    obtain ⟨n, hn⟩ := leaveR_iff.1 h
    cases n with
    | zero => cases hn
    | succ n => unfold leave at hn; rw [hd] at hn; simp only [] at hn; rw [hr] at hn; exact leaveR_iff.2 ⟨n, hn⟩) (fun x h => by
    obtain ⟨n, hn⟩ := leaveR_iff.1 h
    exact leaveR_iff.2 ⟨n + 1, by unfold leave; rw [hd]; simp only []; rw [hr]; exact hn⟩)
theorem leaveR_fn {rs : List ARes} {u u' u2 : Rec} {f : FuncId} {args : List Value} {ds : List ADef} {v : Value} {h' : AHeap} (hd : s.ds = .fn f args :: ds) (hc : callR S T (.fn f) args u s.h = some (.ret v, u', h'))
    (hu : u2 = match u' with | .recovered _ => .returning | u' => u') : leaveR S T rs u s = leaveR S T rs u2 { s with ds := ds, h := h' } := by
  subst hu
  refine ext_some (fun x h => ?_) (fun x h => ?_)
  · obtain ⟨n, hn⟩ := leaveR_iff.1 h
    cases n with
    | zero => cases hn
    | succ n =>
      unfold leave at hn; rw [hd] at hn; simp only [hc] at hn
      refine leaveR_iff.2 ⟨n, ?_⟩
      cases u' <;> exact hn
  · obtain ⟨n, hn⟩ := leaveR_iff.1 h
    refine leaveR_iff.2 ⟨n + 1, ?_⟩
    unfold leave; rw [hd]; simp only [hc]
    cases u' <;> exact hn
end

variable (S T) in
/-- How a function ends. -/
def endR (rs : List ARes) (x : Option (Ex × St)) : Option (Res × Rec × AHeap) :=
  match x with
  | some (.norm, s) => (leaveR S T rs .returning s).map fun (x : Res × AHeap) => (x.1, s.u, x.2)
  | some (.ret, s) => (leaveR S T rs .returning s).map fun (x : Res × AHeap) => (x.1, s.u, x.2)
  | some (.pan v, s) => (leaveR S T rs (.panicking v) s).map fun (x : Res × AHeap) => (x.1, s.u, x.2)
  | _ => none

theorem leave_up {rs u s r} {n m : Nat} (hn : n ≤ m) (hr : leave (callR S T) rs n u s = some r) : leave (callR S T) rs m u s = some r :=
  let ⟨_, h1, h2⟩ := leave_fin n hr; h2 _ m hn h1

theorem callS_fn {K : CallFn} {n : Nat} {f : FuncId} {fn : AFn} {args : List Value} {u : Rec} {h : AHeap} (hf : S.fns.get f = some fn) (hl : args.length = fn.nparams) : callS S n K (.fn f) args u h =
    match exec K n none fn.body { t := initT 0 args, ds := [], u := u, rd := false, h := h } with
    | some (.norm, s) => (leave K fn.results n .returning s).map fun (x : Res × AHeap) => (x.1, s.u, x.2)
    | some (.ret, s) => (leave K fn.results n .returning s).map fun (x : Res × AHeap) => (x.1, s.u, x.2)
    | some (.pan v, s) => (leave K fn.results n (.panicking v) s).map fun (x : Res × AHeap) => (x.1, s.u, x.2)
    | _ => none := by
  simp only [callS, hf, if_pos hl]; rfl

theorem callR_S {c : Cal} {args : List Value} {u : Rec} {h : AHeap} (ht : ∀ n, callH S T (n + 1) c args u h = callS S n (callH S T n) c args u h) {r : Res × Rec × AHeap} : callR S T c args u h = some r ↔ ∃ n, callS S n (callR S T) c args u h = some r := by
  constructor
  · intro hr
    obtain ⟨n, hn⟩ := callR_iff.1 hr
    cases n with
    | zero => cases hn
    | succ n =>
      rw [ht] at hn
      obtain ⟨L, h1, h2⟩ := callS_fin hn
      exact ⟨n, h2 _ n (Nat.le_refl _) (callH_agree h1)⟩
  · rintro ⟨n, hn⟩
    obtain ⟨L, h1, h2⟩ := callS_fin hn
    obtain ⟨m, hm⟩ := agree_callR h1
    refine callR_iff.2 ⟨max n m + 1, ?_⟩
    rw [ht]
    exact h2 _ _ (Nat.le_max_left ..) fun q hq => callH_mono (Nat.le_max_right ..) (hm q hq)

theorem callH_fn {f : FuncId} {args : List Value} {u : Rec} {h : AHeap} (ht : T.get f = none) (n : Nat) : callH S T (n + 1) (.fn f) args u h = callS S n (callH S T n) (.fn f) args u h := by
  simp only [callH]
  unfold tabH
  cases u <;> simp only [ht]
theorem callH_round {l : Nat} {args : List Value} {u : Rec} {h : AHeap} (n : Nat) : callH S T (n + 1) (.round l) args u h = callS S n (callH S T n) (.round l) args u h := by
  simp only [callH]
  unfold tabH
  cases u <;> rfl

/-- **A call is its body.** -/
theorem callR_fn {f : FuncId} {fn : AFn} {args : List Value} {u : Rec} {h : AHeap} (ht : T.get f = none) (hf : S.fns.get f = some fn) (hl : args.length = fn.nparams) :
    callR S T (.fn f) args u h = endR S T fn.results (execR S T none fn.body { t := initT 0 args, ds := [], u := u, rd := false, h := h }) := by
  refine ext_some (fun r hr => ?_) (fun r hr => ?_)
  · obtain ⟨n, hn⟩ := (callR_S (callH_fn ht)).1 hr
    rw [callS_fn hf hl] at hn
    split at hn
    · rename_i s hx
      rw [execR_iff.2 ⟨n, hx⟩]
      obtain ⟨y, hy, rfl⟩ := Option.map_eq_some_iff.1 hn
      simp only [endR]; rw [leaveR_iff.2 ⟨n, hy⟩]; rfl
    · rename_i s hx
      rw [execR_iff.2 ⟨n, hx⟩]
      obtain ⟨y, hy, rfl⟩ := Option.map_eq_some_iff.1 hn
      simp only [endR]; rw [leaveR_iff.2 ⟨n, hy⟩]; rfl
    · rename_i v s hx
      rw [execR_iff.2 ⟨n, hx⟩]
      obtain ⟨y, hy, rfl⟩ := Option.map_eq_some_iff.1 hn
      simp only [endR]; rw [leaveR_iff.2 ⟨n, hy⟩]; rfl
    · cases hn
  · refine (callR_S (callH_fn ht)).2 ?_
    unfold endR at hr
    split at hr
    · rename_i s hx
      obtain ⟨n, hn⟩ := execR_iff.1 hx
      obtain ⟨y, hy, rfl⟩ := Option.map_eq_some_iff.1 hr
      obtain ⟨m, hm⟩ := leaveR_iff.1 hy
      exact ⟨max n m, by rw [callS_fn hf hl, exec_up (Nat.le_max_left n m) hn]; simp only []; rw [leave_up (Nat.le_max_right n m) hm]; rfl⟩
    · rename_i s hx
      obtain ⟨n, hn⟩ := execR_iff.1 hx
      obtain ⟨y, hy, rfl⟩ := Option.map_eq_some_iff.1 hr
      obtain ⟨m, hm⟩ := leaveR_iff.1 hy
      exact ⟨max n m, by rw [callS_fn hf hl, exec_up (Nat.le_max_left n m) hn]; simp only []; rw [leave_up (Nat.le_max_right n m) hm]; rfl⟩
    · rename_i v s hx
      obtain ⟨n, hn⟩ := execR_iff.1 hx
      obtain ⟨y, hy, rfl⟩ := Option.map_eq_some_iff.1 hr
      obtain ⟨m, hm⟩ := leaveR_iff.1 hy
      exact ⟨max n m, by rw [callS_fn hf hl, exec_up (Nat.le_max_left n m) hn]; simp only []; rw [leave_up (Nat.le_max_right n m) hm]; rfl⟩
    · cases hr

theorem callR_tab {f : FuncId} {l : List Ent} {args : List Value} {h : AHeap} {v : Value} (ht : T.get f = some l) (he : findEnt args h l = some v) : callR S T (.fn f) args .no h = some (.ret v, .no, h) :=
  callR_iff.2 ⟨1, by simp only [callH, tabH, ht, he]⟩

theorem callR_sim {P : Program} (hm : P.follows .mixedOrders = true) (hS : ∀ f af, S.fns.get f = some af → cFn P f = some af) (hT : TabOk P T) : KSim P (callR S T) := by
  intro c args u h res u1 h1 hs
  obtain ⟨n, hn⟩ := callR_iff.1 hs
  exact callH_sim hm hS hT n _ _ _ _ _ _ _ hn

end
end Go.Proofs.YtbejfgpeledcjaaGreat.A
namespace Go.Proofs.YtbejfgpeledcjaaGreat.A
noncomputable section
open Go

/-- What comes behind an operation. -/
def afterCall (K : CallFn) (rest : List AOper) (d : Option Nat) (t : Tr Value) (ds : List ADef) (u : Rec) (rd : Bool) (x : Option (Res × Rec × AHeap)) : Option (Ex × St) :=
  match x with
  | some (.ret v, _, h) => opsRun K rest ⟨putT t d v, ds, u, rd, h⟩
  | some (.pan v, _, h) => some (.pan v, ⟨t, ds, u, rd, h⟩)
  | none => none

def afterOp (K : CallFn) (rest : List AOper) (d : Option Nat) (t : Tr Value) (ds : List ADef) (u : Rec) (rd : Bool) (h : AHeap) (x : Option R) : Option (Ex × St) :=
  match x with
  | none => none
  | some (.val v h') => opsRun K rest ⟨putT t d v, ds, u, rd, h'⟩
  | some (.call c args) => afterCall K rest d t ds u rd (K c args .no h)
  | some (.dfr x) => if rd then none else opsRun K rest ⟨putT t d blank, x :: ds, u, rd, h⟩
  | some (.pan v) => some (.pan v, ⟨t, ds, u, rd, h⟩)
  | some .rcv =>
    match u with
    | .panicking v => opsRun K rest ⟨putT t d v, ds, .recovered v, rd, h⟩
    | .returning => opsRun K rest ⟨putT t d .nilIface, ds, u, rd, h⟩
    | .recovered _ => opsRun K rest ⟨putT t d .nilIface, ds, u, rd, h⟩
    | .no => none

section
variable {K : CallFn} {rest : List AOper} {d : Option Nat} {t : Tr Value} {ds : List ADef} {u : Rec} {rd : Bool} {h h' : AHeap} {op : AOp} {lo hi : Nat} {al : Bool} {v : Value} {c : Cal} {args : List Value} {x : ADef}

theorem run_nil : opsRun K [] ⟨t, ds, u, rd, h⟩ = some (.norm, ⟨t, ds, u, rd, h⟩) := rfl

theorem run_op : opsRun K (⟨d, op, none, lo, hi, al⟩ :: rest) ⟨t, ds, u, rd, h⟩ = afterOp K rest d t ds u rd h (aop op t h) := by
  simp only [opsRun, wantedA, opStep, afterOp]
  cases ha : aop op t h with
  | none => simp only
  | some r =>
    cases r with
    | val v h1 => simp only
    | call c args =>
      simp only [afterCall]
      cases hk : K c args .no h with
      | none => simp only
      | some y => obtain ⟨res, u1, h1⟩ := y; cases res <;> simp only
    | dfr x => simp only; cases rd <;> simp
    | pan v => simp only
    | rcv => cases u <;> simp only

theorem run_guard {a : Nat} {want : Bool} : opsRun K (⟨d, op, some (a, want), lo, hi, al⟩ :: rest) ⟨t, ds, u, rd, h⟩ =
    match ev t (.tmp a) with
    | .bool b => if b = want then afterOp K rest d t ds u rd h (aop op t h) else opsRun K rest ⟨putT t d blank, ds, u, rd, h⟩
    | .chan none => none
    | _ => opsRun K rest ⟨putT t d blank, ds, u, rd, h⟩ := by
  have hg : wantedA t ⟨d, op, some (a, want), lo, hi, al⟩ = match ev t (.tmp a) with
    | .bool b => some (b == want) | .chan none => none | _ => some false := by
    simp only [wantedA, ev]
    cases t.get a with
    | none => rfl
    | some v => cases v with
      | chan x => cases x <;> rfl
      | _ => rfl
  have hr : ∀ b, wantedA t ⟨d, op, some (a, want), lo, hi, al⟩ = some b → opsRun K (⟨d, op, some (a, want), lo, hi, al⟩ :: rest) ⟨t, ds, u, rd, h⟩ = if b = true then afterOp K rest d t ds u rd h (aop op t h) else opsRun K rest ⟨putT t d blank, ds, u, rd, h⟩ := fun b hb => by
    rw [← run_op (lo := lo) (hi := hi) (al := al)]
    cases b with
    | false => simp only [opsRun, hb]; rfl
    | true =>
      have : wantedA t ⟨d, op, none, lo, hi, al⟩ = some true := rfl
      simp only [opsRun, hb, this, if_pos]; rfl
  cases hv : ev t (.tmp a) with
  | bool b =>
    rw [hv] at hg
    simp only at hg ⊢
    rw [hr _ hg]
    cases b <;> cases want <;> rfl
  | chan x =>
    cases x with
    | none => rw [hv] at hg; simp only at hg ⊢; simp only [opsRun, hg]
    | some y => rw [hv] at hg; simp only at hg ⊢; rw [hr _ hg]; rfl
  | _ => rw [hv] at hg; simp only at hg ⊢; rw [hr _ hg]; rfl

theorem run_guard_bool {a : Nat} {want b : Bool} (hb : ev t (.tmp a) = .bool b) : opsRun K (⟨d, op, some (a, want), lo, hi, al⟩ :: rest) ⟨t, ds, u, rd, h⟩ =
    if b = want then afterOp K rest d t ds u rd h (aop op t h) else opsRun K rest ⟨putT t d blank, ds, u, rd, h⟩ := by
  rw [run_guard, hb]

theorem run_guard_blank {a : Nat} {want : Bool} {x : Array Value} (hb : ev t (.tmp a) = .tuple x) : opsRun K (⟨d, op, some (a, want), lo, hi, al⟩ :: rest) ⟨t, ds, u, rd, h⟩ = opsRun K rest ⟨putT t d blank, ds, u, rd, h⟩ := by
  rw [run_guard, hb]

theorem after_val : afterOp K rest d t ds u rd h (some (.val v h')) = opsRun K rest ⟨putT t d v, ds, u, rd, h'⟩ := rfl
theorem after_call : afterOp K rest d t ds u rd h (some (.call c args)) = afterCall K rest d t ds u rd (K c args .no h) := rfl
theorem after_dfr : afterOp K rest d t ds u false h (some (.dfr x)) = opsRun K rest ⟨putT t d blank, x :: ds, u, false, h⟩ := rfl
theorem after_pan : afterOp K rest d t ds u rd h (some (.pan v)) = some (.pan v, ⟨t, ds, u, rd, h⟩) := rfl
theorem after_rcv_p : afterOp K rest d t ds (.panicking v) rd h (some .rcv) = opsRun K rest ⟨putT t d v, ds, .recovered v, rd, h⟩ := rfl
theorem after_rcv_r : afterOp K rest d t ds .returning rd h (some .rcv) = opsRun K rest ⟨putT t d .nilIface, ds, .returning, rd, h⟩ := rfl
theorem called_ret {u' : Rec} : afterCall K rest d t ds u rd (some (.ret v, u', h)) = opsRun K rest ⟨putT t d v, ds, u, rd, h⟩ := rfl
theorem called_pan {u' : Rec} : afterCall K rest d t ds u rd (some (.pan v, u', h)) = some (.pan v, ⟨t, ds, u, rd, h⟩) := rfl
end

section
variable {t : Tr Value} {i j : Nat} {v : Value}
theorem ev_put : ev (t.put i v) (.tmp j) = if j = i then v else ev t (.tmp j) := by
  simp only [ev, Tr.get_put]; split <;> rfl
theorem ev_const : ev t (.const v) = v := rfl
theorem ev_nil : ev Tr.nil (.tmp j) = blank := rfl
theorem ev_func {f : FuncId} : ev t (.func f) = .func (.func f) #[] #[] := rfl
theorem putT_some : putT t (some i) v = t.put i v := rfl
theorem putT_none : putT t none v = t := rfl
end

section
variable {S : ASys} {T : Tr (List Ent)} {ro : Option Nat} {t : Tr Value} {ds : List ADef} {u : Rec} {rd : Bool} {h : AHeap}
theorem cond_run {c : Operand} {a b : ACode} {x : Bool} (hc : ev t c = .bool x) : execR S T ro (.cond c a b) ⟨t, ds, u, rd, h⟩ = if x = true then execR S T ro a ⟨t, ds, u, rd, h⟩ else execR S T ro b ⟨t, ds, u, rd, h⟩ := execR_cond hc

theorem end_ret {rs : List ARes} : endR S T rs (some (.ret, ⟨t, [], u, rd, h⟩)) = (results ⟨t, [], u, rd, h⟩ rs).map fun v => (.ret v, u, h) := by
  simp only [endR]; rw [leaveR_ret rfl]; cases results ⟨t, [], u, rd, h⟩ rs <;> rfl
theorem end_norm {rs : List ARes} : endR S T rs (some (.norm, ⟨t, [], u, rd, h⟩)) = (results ⟨t, [], u, rd, h⟩ rs).map fun v => (.ret v, u, h) := by
  simp only [endR]; rw [leaveR_ret rfl]; cases results ⟨t, [], u, rd, h⟩ rs <;> rfl
theorem end_pan {rs : List ARes} {v : Value} : endR S T rs (some (.pan v, ⟨t, [], u, rd, h⟩)) = some (.pan v, u, h) := by
  simp only [endR]; rw [leaveR_pan rfl]; rfl
end

/-! Integers. -/
section
variable {k : IntKind} {a b : Int}
theorem bin_add : binVal .add (.int k a) (.int k b) = some (.int k (k.wrap (a + b))) := by simp [binVal, binInt]
theorem bin_sub : binVal .sub (.int k a) (.int k b) = some (.int k (k.wrap (a - b))) := by simp [binVal, binInt]
theorem bin_mul : binVal .mul (.int k a) (.int k b) = some (.int k (k.wrap (a * b))) := by simp [binVal, binInt]
theorem bin_quo (h : b ≠ 0) : binVal .quo (.int k a) (.int k b) = some (.int k (k.wrap (a.tdiv b))) := by simp [binVal, binInt, h]
theorem bin_rem (h : b ≠ 0) : binVal .rem (.int k a) (.int k b) = some (.int k (a.tmod b)) := by simp [binVal, binInt, h]
theorem bin_eql : binVal .eql (.int k a) (.int k b) = some (.bool (decide (a = b))) := by
  simp only [binVal, binInt, if_pos]; congr 2
theorem bin_neq : binVal .neq (.int k a) (.int k b) = some (.bool (!decide (a = b))) := by
  simp only [binVal, binInt, if_pos]; congr 2
theorem bin_lss : binVal .lss (.int k a) (.int k b) = some (.bool (decide (a < b))) := by simp [binVal, binInt]
theorem bin_leq : binVal .leq (.int k a) (.int k b) = some (.bool (decide (a ≤ b))) := by simp [binVal, binInt]
theorem bin_gtr : binVal .gtr (.int k a) (.int k b) = some (.bool (decide (b < a))) := by simp [binVal, binInt]
theorem bin_geq : binVal .geq (.int k a) (.int k b) = some (.bool (decide (b ≤ a))) := by simp [binVal, binInt]
theorem un_neg : unVal .neg (.int k a) = some (.int k (k.wrap (0 - a))) := rfl
theorem un_not {x : Bool} : unVal .not (.bool x) = some (.bool !x) := rfl
end

theorem wrap_i64 {x : Int} (h1 : -9223372036854775808 ≤ x) (h2 : x ≤ 9223372036854775807) : IntKind.i64.wrap x = x := by
  exact IntWalk.i64_in x ⟨h1, h2⟩

attribute [simp] run_nil run_op run_guard_bool run_guard_blank after_val after_call after_dfr after_pan after_rcv_p after_rcv_r called_ret called_pan ev_put ev_const ev_nil ev_func putT_some putT_none
attribute [simp] cond_run end_ret end_norm end_pan bin_add bin_sub bin_mul bin_quo bin_rem bin_eql bin_neq bin_lss bin_leq bin_gtr bin_geq un_neg un_not
attribute [simp] execR_skip execR_exit execR_ret execR_region execR_seq execR_block thenR_norm thenR_ret thenR_exit thenR_pan blockR_norm blockR_ret blockR_pan blockR_exit
attribute [simp] wrap_i64 aop k_mv k_pick k_bin k_un k_max2 k_min2 k_extract k_callF k_eqBool results result1 initT
end
end Go.Proofs.YtbejfgpeledcjaaGreat.A
