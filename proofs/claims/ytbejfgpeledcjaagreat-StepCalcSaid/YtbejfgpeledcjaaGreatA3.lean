/- The relation between heaps and worlds lives through what operations do (3). -/
import Derived.Test.YtbejfgpeledcjaaGreatA2
set_option linter.unusedVariables false
set_option linter.unusedSimpArgs false
namespace Go.Proofs.YtbejfgpeledcjaaGreat.A
noncomputable section
open Go

variable {P : Program} {ρ : Ren} {h h1 : AHeap} {G : Bes} {w : World} {t : Tr Value} {a : Act} {v : Value}

/-- What is said of an operation that makes a block. -/
def AllocS (P : Program) (ρ : Ren) (t : Tr Value) (a : Act) (o : Oper) (op : AOp) : Prop :=
  ∀ h h1 v, aop op t h = some (.val v h1) → ∃ ob : AObj, h1 = h.push ob ∧ ∃ (obj : Obj) (room sz : Nat), ∀ w, ∃ v', (execOp a.eval o).run P w = .ok (.value v') (w.alloc obj) ∧
    ∀ σ : Ren, ρ.le σ → σ h.next = some ⟨w.heap.size, 0, room, sz⟩ → VRel σ v v' ∧ ORel P σ ob ⟨w.heap.size, 0, room, sz⟩ (w.alloc obj)

theorem orel_fresh {cs : List Value} {c : Array Value} (hl : LRel ρ cs c.toList) (h1 : ∀ x ∈ c.toList, x.oneCell' = true) (sz : Nat) (ty : TypeId) (w : World) :
    ORel P ρ (.cells cs sz false) ⟨w.heap.size, 0, c.size, sz⟩ (w.alloc (.cells c ty)) := by
  have hlen : cs.length = c.size := by have := hl.1; simpa using this
  refine ⟨rfl, by simp [hlen], fun i v hi => ?_, fun _ i hi => ⟨?_, ?_⟩, by simp⟩
  · obtain ⟨v', g1, g2⟩ := hl.get hi
    refine ⟨v', ?_, g2, h1 v' (List.mem_of_getElem? g1)⟩
    simp only [Emb.at, Nat.zero_add]
    rw [World.cell?_alloc_new]; simpa using g1
  · simp only [Emb.at, Nat.zero_add]
    rw [World.cell?_alloc_new]; simp at hi; simp [hi]
  · simp only [Emb.at, Nat.zero_add]
    rw [World.frozen?_alloc_new]

theorem vrel_new {σ : Ren} {b n : Nat} {room sz : Nat} (h : σ b = some ⟨n, 0, room, sz⟩) : VRel σ (.pointer (some ⟨b, 0, none⟩)) (.pointer (some ⟨n, 0, none⟩)) :=
  .ptr b 0 _ h

theorem alloc_alloc {o : Oper} {ty : TypeId} {z : List Value} (hc : o.op = .alloc ty) (hz : zeroCellsT P ty = some z) (hzo : z.all scalarOk = true) : AllocS P ρ t a o (.alloc z) := by
  intro h h1 v hv
  simp only [aop, k_alloc, Option.some.injEq, R.val.injEq] at hv
  obtain ⟨rfl, rfl⟩ := hv
  obtain ⟨zv, hz1, hz2⟩ := zeroCells_inv hz
  refine ⟨_, rfl, .cells zv.cells ty, zv.cells.size, 0, fun w => ⟨.pointer (some ⟨w.heap.size, 0, none⟩), ?_, fun σ hs he => ⟨vrel_new he, orel_fresh (by rw [hz2]; exact LRel.scalars hzo) (by rw [hz2]; exact fun x hx => scalar_one (List.all_eq_true.1 hzo x hx)) 0 ty w⟩⟩⟩
  simp [execOp, hc, Instr.alloc, run_zero hz1, newVar, newRow]

theorem alloc_box {o : Oper} {ty : TypeId} {x : Operand} (hc : o.op = .box ty x) (ho : ORd ρ t a [x]) : AllocS P ρ t a o (.box x) := by
  intro h h1 v hv
  have hx := ho x (by simp)
  simp only [aop, k_box] at hv
  split at hv
  · rename_i cs hcs
    simp only [Option.some.injEq, R.val.injEq] at hv
    obtain ⟨rfl, rfl⟩ := hv
    obtain ⟨g1, g2⟩ := cells_rel hcs hx
    refine ⟨_, rfl, .cells (a.eval x).cells ty, (a.eval x).cells.size, 0, fun w => ⟨.pointer (some ⟨w.heap.size, 0, none⟩), ?_, fun σ hs he => ⟨vrel_new he, orel_fresh (g1.mono hs) g2 0 ty w⟩⟩⟩
    simp [execOp, hc, Instr.box, newVar, newRow]
  · cases hv

theorem flat_get {z : List Value} : ∀ (k i : Nat), i < k * z.length → ((List.replicate k z).flatten)[i]? = z[i % z.length]?
  | 0, i, h => by simp at h
  | k + 1, i, h => by
    rw [List.replicate_succ, List.flatten_cons]
    by_cases hi : i < z.length
    · rw [List.getElem?_append_left hi, Nat.mod_eq_of_lt hi]
    · rw [List.getElem?_append_right (by omega), flat_get k (i - z.length) (by rw [Nat.add_mul] at h; omega)]
      congr 1
      conv => rhs; rw [show i = (i - z.length) + z.length by omega, Nat.add_mod_right]

theorem range_zero (zero : Array Value) (k : Nat) : ((Array.range (k * zero.size)).map (zero[· % zero.size]!)).toList = (List.replicate k zero.toList).flatten := by
  apply List.ext_getElem?
  intro i
  by_cases hi : i < k * zero.size
  · rw [flat_get k i (by simpa using hi)]
    have hz : 0 < zero.size := by
      rcases Nat.eq_zero_or_pos zero.size with h | h
      · rw [h] at hi; simp at hi
      · exact h
    have hm : i % zero.size < zero.size := Nat.mod_lt _ hz
    simp [hi, hm, getElem!_pos]
  · have h1 : ((List.replicate k zero.toList).flatten).length = k * zero.size := by simp
    rw [List.getElem?_eq_none (by simp; omega), List.getElem?_eq_none (by omega)]

theorem sumZero_len (z : List Value) (k : Nat) : (sumZero z k).length = k * z.length := by simp [sumZero]

theorem sumZero_ok {z : List Value} (h : z.all scalarOk = true) (k : Nat) : (sumZero z k).all scalarOk = true := by
  simp only [sumZero, List.all_eq_true] at *
  intro x hx
  simp at hx
  obtain ⟨l, ⟨_, rfl⟩, hx⟩ := hx
  exact h x hx

/-- The row of zeroes that a new slice begins with. -/
theorem zero_row {el : TypeId} {z : List Value} {n : Nat} (hz : zeroCellsT P el = some z) (hl : z.length = n) (k : Nat) :
    ∃ zero : Array Value, (k * n = 0 ∧ zero = #[] ∨ ¬ k * n = 0 ∧ ∃ zv, zeroT P el = some zv ∧ zero = zv.cells) ∧ ((Array.range (k * n)).map (zero[· % zero.size]!)).toList = sumZero z k := by
  obtain ⟨zv, hz1, hz2⟩ := zeroCells_inv hz
  by_cases h0 : k * n = 0
  · refine ⟨#[], .inl ⟨h0, rfl⟩, ?_⟩
    have : sumZero z k = [] := List.eq_nil_of_length_eq_zero (by rw [sumZero_len, hl]; exact h0)
    rw [this]; simp [h0]
  · refine ⟨zv.cells, .inr ⟨h0, zv, hz1, rfl⟩, ?_⟩
    have hsz : zv.cells.size = n := by rw [← hl, ← hz2]; simp
    have := range_zero zv.cells k
    rw [hsz] at this ⊢
    rw [this, hz2, sumZero]

theorem alloc_buildSlice {o : Oper} {ty el : TypeId} {len n : Nat} {ps : Array (Nat × Operand)} {z : List Value} (hc : o.op = .buildSlice ty len ps) (hu : P.underlying ty = some (.slice el)) (hz : zeroCellsT P el = some z) (hn : sizeT P el = some n)
    (hl : z.length = n) (hsm : len * n ≤ 65536) (hzo : z.all scalarOk = true) (ho : ORd ρ t a (ps.toList.map (·.2))) :
    AllocS P ρ t a o (.buildSlice (sumZero z len) len n (ps.toList.map fun (i, x) => (i * n, n, x))) := by
  intro h h1 v hv
  simp only [aop, k_buildSlice] at hv
  split at hv
  · rename_i cs hcs
    split at hv
    · rename_i hlen
      simp only [Option.some.injEq, R.val.injEq] at hv
      obtain ⟨rfl, rfl⟩ := hv
      obtain ⟨zero, r1, r2⟩ := zero_row (P := P) hz hl len
      have hinit : LRel ρ (sumZero z len) ((Array.range (len * n)).map (zero[· % zero.size]!)).toList := by rw [r2]; exact LRel.scalars (sumZero_ok hzo len)
      obtain ⟨r', f1, f2, f3⟩ := fill_both (place := fun i => some (i * n, n)) hinit (by rw [r2]; exact fun x hx => scalar_one (List.all_eq_true.1 (sumZero_ok hzo len) x hx)) hcs (Nat.eq_of_beq_eq_true hlen) (idxParts_rel ho)
      have hlen2 : cs.length = len * n := by rw [Nat.eq_of_beq_eq_true hlen, sumZero_len, hl]
      have hr' : r'.size = len * n := by have := f2.1; simp at this; omega
      refine ⟨_, rfl, .cells r' el, r'.size, n, fun w => ⟨.slice (some ⟨w.heap.size, 0, none⟩) len len, ?_, fun σ hs he => ⟨?_, orel_fresh (f2.mono hs) f3 n el w⟩⟩⟩
      · have hnot : ¬ len * n > 2 ^ 24 := by omega
        simp only [execOp, hc, Instr.buildSlice, Sem.run_bind, run_und hu, Result.andThen_ok, run_size hn, if_neg hnot, Sem.run_pure]
        have f1' : Instr.fill (fun i => some (i * n, n)) ((Array.range (len * n)).map (zero[· % zero.size]!)) (ps.map fun x => (x.1, a.eval x.2)).toList = some r' := by simpa using f1
        rcases r1 with ⟨q1, q2⟩ | ⟨q1, zv, q2, q3⟩
        · subst q2
          rw [if_pos q1]
          simp only [Sem.run_bind, Sem.run_pure, Result.andThen_ok]
          rw [f1']
          simp [newRow]
        · subst q3
          rw [if_neg q1]
          simp only [Sem.run_bind, Sem.run_pure, Result.andThen_ok, run_zero q2]
          rw [f1']
          simp [newRow]
      · refine .slice _ _ _ _ _ _ (Nat.le_refl _) (fun h => h) (fun hpos => ⟨_, he, rfl, .inr ?_⟩)
        simp [hr']
    · cases hv
  · cases hv

theorem alloc_mkMap {o : Oper} {ty : TypeId} (hc : o.op = .makeMap ty none) : AllocS P ρ t a o .mkMap := by
  intro h h1 v hv
  simp only [aop, k_mkMap, Option.some.injEq, R.val.injEq] at hv
  obtain ⟨rfl, rfl⟩ := hv
  refine ⟨_, rfl, .map #[] 0, 1, 0, fun w => ⟨.map (some w.heap.size), ?_, fun σ hs he => ⟨.map _ _ he, rfl, rfl, #[], 0, ?_, rfl, fun i k v m hi => by simp at hi⟩⟩⟩
  · simp [execOp, hc, Instr.makeMap]
  · exact (Array.getElem?_push_size).trans rfl

theorem wrap_small {n : Int} (h0 : 0 ≤ n) (h1 : n ≤ 2 ^ 31) : IntKind.i64.wrap n = n := by
  show (if (true && decide (n % (2 ^ 64 : Int) ≥ (2 ^ (64 - 1) : Int))) = true then n % (2 ^ 64 : Int) - (2 ^ 64 : Int) else n % (2 ^ 64 : Int)) = n
  have e1 : n % (2 ^ 64 : Int) = n := Int.emod_eq_of_lt h0 (by omega)
  rw [e1, if_neg]
  simp
  omega

theorem alloc_mkSlice {o : Oper} {ty el : TypeId} {n bytes : Nat} {x y : Operand} {z : List Value} (hc : o.op = .makeSlice ty x y) (hu : P.underlying ty = some (.slice el)) (hz : zeroCellsT P el = some z) (hn : sizeT P el = some n) (hb : bytesT P el = some bytes)
    (hl : z.length = n) (hzo : z.all scalarOk = true) (ho : ORd ρ t a [x, y]) : AllocS P ρ t a o (.mkSlice z bytes x y) := by
  intro h h1 v hv
  have hx := ho x (by simp)
  have hy := ho y (by simp)
  simp only [aop, k_mkSlice] at hv
  split at hv
  · rename_i k1 l k2 c e1 e2
    split at hv
    · rename_i hcnd
      obtain ⟨c1, c2, c3, c4⟩ := hcnd
      rw [e1] at hx; rw [e2] at hy
      simp only [Option.some.injEq, R.val.injEq] at hv
      obtain ⟨rfl, rfl⟩ := hv
      have hmost : (most : Int) = 2 ^ 30 := rfl
      obtain ⟨zero, r1, r2⟩ := zero_row (P := P) hz hl c.toNat
      have hsize : ((Array.range (c.toNat * n)).map (zero[· % zero.size]!)).size = c.toNat * n := by simp
      refine ⟨_, rfl, .cells ((Array.range (c.toNat * n)).map (zero[· % zero.size]!)) el, c.toNat * n, z.length, fun w => ⟨.slice (some ⟨w.heap.size, 0, none⟩) l.toNat c.toNat, ?_, fun σ hs he => ⟨?_, ?_⟩⟩⟩
      · have w1 : IntKind.i64.wrap l = l := wrap_small c1 (by omega)
        have w2 : IntKind.i64.wrap c = c := wrap_small (by omega) (by omega)
        obtain ⟨ti, hti, hbi⟩ := isSomeMap hb
        have hbytes : ¬ ((decide (c < 0) || decide ((bytes : Int) * c > 2 ^ 48)) = true) := by
          have : (bytes : Int) * c ≤ 65536 * 2 ^ 30 := Int.mul_le_mul (by omega) (by omega) (by omega) (by omega)
          simp; omega
        simp only [execOp, hc, hx.int_inv, hy.int_inv, Instr.makeSlice, Sem.run_bind, run_und hu, Result.andThen_ok, asInt, asIntOf, Sem.run_pure, run_tyinfo hti, hbi, w1, w2]
        rw [if_neg (by simp at hbytes ⊢; omega)]
        simp only [Sem.run_bind, run_askRoom, Result.andThen_ok, run_size hn]
        rcases r1 with ⟨q1, q2⟩ | ⟨q1, zv, q2, q3⟩
        · subst q2
          rw [if_pos q1]
          simp [newRow]
        · subst q3
          rw [if_neg q1]
          simp [newRow, run_zero q2]
      · refine .slice _ _ _ _ _ _ (by omega) (fun h => h) (fun hpos => ⟨_, he, rfl, .inr ?_⟩)
        simp [hl]
      · have hcells : LRel σ ((List.replicate c.toNat z).flatten) ((Array.range (c.toNat * n)).map (zero[· % zero.size]!)).toList := by rw [r2]; exact LRel.scalars (sumZero_ok hzo _)
        have := orel_fresh (P := P) (ρ := σ) hcells (by rw [r2]; exact fun x hx => scalar_one (List.all_eq_true.1 (sumZero_ok hzo _) x hx)) z.length el w
        rw [hsize] at this
        exact this
    · cases hv
  · cases hv

end
end Go.Proofs.YtbejfgpeledcjaaGreat.A
namespace Go.Proofs.YtbejfgpeledcjaaGreat.A
noncomputable section
open Go

variable {P : Program} {ρ : Ren} {h h1 : AHeap} {G : Bes} {w : World} {t : Tr Value} {a : Act} {v : Value}

/-- What is said of an operation that writes. -/
def WriteS (P : Program) (ρ : Ren) (t : Tr Value) (a : Act) (o : Oper) (op : AOp) : Prop :=
  ∀ h G w, SR P ρ h G w → ∀ h1 v, aop op t h = some (.val v h1) → Beside G h1.next →
    ∃ nx w1 ρ1, (execOp a.eval o).run P w = .ok nx w1 ∧ ((∃ v', nx = .value v' ∧ VRel ρ1 v v') ∨ nx = .skip ∧ v = blank) ∧ ρ.le ρ1 ∧ SR P ρ1 h1 G w1

theorem run_storeCells (s : SR P ρ h G w) {b off sz : Nat} {cs : List Value} {e : Emb} (hb : h.get b = some (.cells cs sz false)) (he : ρ b = some e) {vs : List Value} (hle : off + vs.length ≤ e.room) (h1 : ∀ v ∈ vs, v.oneCell' = true) :
    (storeCells (e.at off) vs).run P w = .ok () (w.setCells e.cb (e.off + off) vs) := by
  have hob := s.obj hb he
  exact run_storeCells_cells (P := P) e.cb (e.off + off) vs 0 w
    (fun j hj => by have := (hob.2.2.2.1 rfl (off + j) (by omega)).1; simpa [Nat.add_assoc] using this)
    (fun j hj => by have := (hob.2.2.2.1 rfl (off + j) (by omega)).2; simpa [Nat.add_assoc] using this) h1

theorem write_store {o : Oper} {ty : TypeId} {x y : Operand} {n : Nat} (hc : o.op = .store ty x y) (hn : sizeT P ty = some n) (ho : ORd ρ t a [x, y]) : WriteS P ρ t a o (.store n x y) := by
  intro h G w s h1 v hv _
  have hx := ho x (by simp)
  have hy := ho y (by simp)
  simp only [aop, k_store] at hv
  split at hv
  · rename_i b off new he1 he2
    split at hv
    · rename_i cs sz hb
      split at hv
      · rename_i hcnd
        obtain ⟨c1, c2⟩ := hcnd
        simp only [Option.some.injEq, R.val.injEq] at hv
        obtain ⟨rfl, rfl⟩ := hv
        rw [he1] at hx
        obtain ⟨e, g1, g2⟩ := hx.ptr_inv
        obtain ⟨q1, q2⟩ := cells_rel he2 hy
        have hlen : (a.eval y).cells.size = n := by have := q1.1; simp at this; omega
        have hroom : cs.length ≤ e.room := (s.obj hb g1).2.1
        refine ⟨.skip, _, ρ, ?_, .inr ⟨rfl, rfl⟩, .refl _, s.store hb g1 (by omega) q1 q2⟩
        have hst := run_storeCells s hb g1 (off := off) (vs := (a.eval y).cells.toList) (by simp; omega) q2
        simp only [execOp, hc, g2, Instr.storeAt, Instr.sureAddr, Sem.run_bind, Sem.run_pure, Result.andThen_ok, storeVar, run_size hn, hlen, ne_eq, not_true, if_false, hst]
      · cases hv
    · cases hv
  · cases hv

theorem eqK_true {sk : Sk} {k x : Value} (h : eqK sk k x = some true) : x = k := by
  unfold eqK at h
  split at h
  · simp at h; rw [h]
  · split at h
    · rename_i hk; simp at h; rw [hk, h]
    · cases h
  · simp at h
    rename_i p q
    cases p; cases q; simp at h; rw [h]
  · cases h

theorem sameBits_refl {sk : Sk} {k : Value} (h : keyOk sk k = true) (n : Nat) : Instr.sameBits n k k = true := by
  cases sk <;> cases k <;> simp [keyOk] at h <;> simp [Instr.sameBits, beq_toListBytes]

theorem setL_rel {td : TypeDesc} {sk : Sk} {k v v' : Value} (hk : sk.fits td = true) (hvr : VRel ρ v v') : ∀ {es es1 : List (Value × Value)} {es' : List MapEntry} (n : Nat), ERel ρ es es' → setL sk k v es = some es1 →
    (Instr.findNow td k es' n = some none ∧ ∀ clk, ERel ρ es1 (es' ++ [⟨k, v', clk⟩])) ∨
    (∃ i u, Instr.findNow td k es' n = some (some (n + i, u)) ∧ i < es'.length ∧ (es'[i]?).map (·.key) = some k ∧ ERel ρ es1 (es'.modify i fun e => { e with key := k, val := v' }))
  | [], es1, [], n, _, hs => by
    simp [setL] at hs; subst hs
    refine .inl ⟨rfl, fun clk => ⟨by simp, fun i k2 u m h1 h2 => ?_⟩⟩
    cases i with
    | zero => simp at h1 h2; obtain ⟨rfl, rfl⟩ := h1; subst h2; exact ⟨rfl, hvr⟩
    | succ i => simp at h1
  | (x, y) :: es, es1, m :: es', n, he, hs => by
    obtain ⟨e1, e2⟩ := he.head
    unfold setL at hs
    split at hs
    · rename_i hq
      cases hs
      have hx := eqK_true hq
      subst hx
      refine .inr ⟨0, m.val, by simp [Instr.findNow, e1, sameNow_eq hq hk], by simp, by simp [e1], by simpa using he.1, fun i k2 u m2 h1 h2 => ?_⟩
      cases i with
      | zero => simp at h1 h2; obtain ⟨rfl, rfl⟩ := h1; subst h2; exact ⟨rfl, hvr⟩
      | succ i => exact he.2 (i + 1) k2 u m2 (by simpa using h1) (by simpa using h2)
    · rename_i hq
      obtain ⟨es2, hs2, rfl⟩ := isSomeMap hs
      have step : Instr.findNow td k (m :: es') n = Instr.findNow td k es' (n + 1) := by simp [Instr.findNow, e1, sameNow_eq hq hk]
      have cons : ∀ {l : List MapEntry}, ERel ρ es2 l → ERel ρ ((x, y) :: es2) (m :: l) := fun hl => ⟨by simp [hl.1], fun i k2 u m2 h1 h2 => by
        cases i with
        | zero => simp at h1 h2; obtain ⟨rfl, rfl⟩ := h1; subst h2; exact ⟨e1, e2⟩
        | succ i => exact hl.2 i k2 u m2 (by simpa using h1) (by simpa using h2)⟩
      rcases setL_rel hk hvr (n + 1) he.tail hs2 with ⟨j1, j2⟩ | ⟨i, u, j1, j2, j3, j4⟩
      · exact .inl ⟨by rw [step, j1], fun clk => cons (j2 clk)⟩
      · refine .inr ⟨i + 1, u, by rw [step, j1, show n + 1 + i = n + (i + 1) by omega], by simp; omega, by simpa using j3, ?_⟩
        simpa using cons j4
    · cases hs
  | [], _, _ :: _, _, he, _ => by have := he.1; simp at this
  | _ :: _, _, [], _, he, _ => by have := he.1; simp at this

theorem run_setObj {r : Nat} {ob ob' : Obj} (hr : w.heap[r]? = some ob) (hn : noCells ob = true) : (setObj r ob').run P w = .ok () (w.putObj r ob') := by
  cases ob <;> simp [noCells] at hn <;> simp [setObj, Sem.run, hr, World.putObj]

theorem heap_put {r : Nat} {ob ob' : Obj} (hr : w.heap[r]? = some ob) : (w.putObj r ob').heap[r]? = some ob' :=
  World.putObj_heap_same (Array.getElem?_eq_some_iff.1 hr).1

theorem orel_map {es : List (Value × Value)} {es' : Array MapEntry} {e : Emb} {clk : Nat} (h0 : e.off = 0) (h1 : e.room = 1) (hh : w.heap[e.cb]? = some (.map es' clk)) (he : ERel ρ es es'.toList) : ORel P ρ (.map es) e w :=
  ⟨h0, h1, es', clk, hh, by simpa using he.1, fun i k v m a b => he.2 i k v m a (by simpa using b)⟩

theorem write_mapSet {o : Oper} {ty : TypeId} {x y z : Operand} {sk : Sk} (hc : o.op = .insert ty x y z ∨ o.op = .mapUpdate ty x y z) (hsk : keySk P ty = some sk) (ho : ORd ρ t a [x, y, z]) : WriteS P ρ t a o (.mapSet sk x y z) := by
  intro h G w s h1 v hv _
  have hx := ho x (by simp)
  have hy := ho y (by simp)
  have hz := ho z (by simp)
  obtain ⟨k', e', td, g1, g2, g3⟩ := keySk_inv hsk
  simp only [aop, k_mapSet] at hv
  split at hv
  · rename_i r he
    rw [he] at hx
    obtain ⟨em, q1, q2⟩ := hx.map_inv
    split at hv
    · rename_i es hes
      split at hv
      · rename_i hkey
        have hy' := keyOk_rel hkey hy
        split at hv
        · rename_i es1 hs1
          simp only [Option.some.injEq, R.val.injEq] at hv
          obtain ⟨rfl, rfl⟩ := hv
          obtain ⟨o1, o2, es', clk, q3, q4, q5⟩ := s.obj hes q1
          have her : ERel ρ es es'.toList := ⟨by simpa using q4, fun i k v m a b => q5 i k v m a (by simpa using b)⟩
          have hexec : (execOp a.eval o).run P w = ((Instr.mapUpdate ty (a.eval x) (a.eval y) (a.eval z)).run P w).andThen fun _ w' => .ok .skip w' := by
            rcases hc with hc | hc <;> simp [execOp, hc]
          rcases setL_rel g3 hz 0 her hs1 with ⟨j1, j2⟩ | ⟨i, u, j1, j2, j3, j4⟩
          · refine ⟨.skip, w.putObj em.cb (.map (es'.push { key := ev t y, val := a.eval z, born := clk }) (clk + 1)), ρ, ?_, .inr ⟨rfl, rfl⟩, .refl _, ?_⟩
            · rw [hexec]
              simp only [Instr.mapUpdate, Sem.run_bind, run_und g1, Result.andThen_ok, q2, hy', run_getObj q3 rfl, run_checkKey g2 g3, run_findKey g2 j1, run_setObj q3 rfl]
            · exact s.putObj hes q1 rfl rfl q3 rfl o1 o2 rfl (orel_map o1 o2 (heap_put q3) (by simpa using j2 clk))
          · refine ⟨.skip, w.putObj em.cb (.map (es'.modify i fun e => { e with key := ev t y, val := a.eval z }) clk), ρ, ?_, .inr ⟨rfl, rfl⟩, .refl _, ?_⟩
            · rw [hexec]
              have hkey0 : ((es'[i]?).map (·.key)).getD (ev t y) = ev t y := by
                have : (es'[i]?).map (·.key) = some (ev t y) := by simpa using j3
                rw [this]; rfl
              have hfk := run_findKey (P := P) g2 j1 w
              rw [Nat.zero_add] at hfk
              simp only [Instr.mapUpdate, Sem.run_bind, run_und g1, Result.andThen_ok, q2, hy', run_getObj q3 rfl, run_checkKey g2 g3, hfk, hkey0, Instr.keyThatStays, sameBits_refl hkey, if_true, Sem.run_pure, run_setObj q3 rfl]
            · exact s.putObj hes q1 rfl rfl q3 rfl o1 o2 rfl (orel_map o1 o2 (heap_put q3) (by simpa using j4))
        · cases hv
      · cases hv
    · cases hv
  · cases hv

theorem write_rangeStr {o : Oper} {ty : TypeId} {x : Operand} (hc : o.op = .range ty x) (hu : P.underlying ty = some .string) (ho : ORd ρ t a [x]) : WriteS P ρ t a o (.rangeStr x) := by
  intro h G w s h1 v hv hG
  have hx := ho x (by simp)
  simp only [aop, k_rangeStr] at hv
  split at hv
  · rename_i st he
    simp only [Option.some.injEq, R.val.injEq] at hv
    obtain ⟨rfl, rfl⟩ := hv
    rw [he] at hx
    obtain ⟨l1, l2⟩ := s.alloc (n := h.next + 1) hG (by omega) (o := .siter st 0) (e := ⟨w.heap.size, 0, 1, 0⟩) rfl (ob := .stringIter st 0) ⟨rfl, rfl, Array.getElem?_push_size⟩
    refine ⟨.value (.pointer (some ⟨w.heap.size, 0, none⟩)), _, _, ?_, .inl ⟨_, rfl, vrel_new (Ren.add_same _ _ _)⟩, l1, l2⟩
    simp only [execOp, hc, hx.str_inv, Instr.range, Sem.run_bind, run_und hu, Result.andThen_ok, Sem.run_pure]
    simp
  · cases hv

theorem write_nextStr {o : Oper} {x : Operand} (hc : o.op = .next x true) (ho : ORd ρ t a [x]) : WriteS P ρ t a o (.nextStr x) := by
  intro h G w s h1 v hv _
  have hx := ho x (by simp)
  simp only [aop, k_nextStr] at hv
  split at hv
  · rename_i r he
    rw [he] at hx
    obtain ⟨e, g1, g2⟩ := hx.ptr_inv
    split at hv
    · rename_i st pos hr
      obtain ⟨o1, o2, o3⟩ := s.obj hr g1
      have g2' : a.eval x = .pointer (some ⟨e.cb, 0, none⟩) := by rw [g2]; simp [Emb.at, o1]
      split at hv
      · rename_i hlt
        simp only [Option.some.injEq, R.val.injEq] at hv
        obtain ⟨rfl, rfl⟩ := hv
        refine ⟨.value (.tuple #[.bool true, .int .i64 pos, .int .i32 (Utf8.decode st pos).1]), w.putObj e.cb (.stringIter st (pos + (Utf8.decode st pos).2)), ρ, ?_, .inl ⟨_, rfl, ?_⟩, .refl _, ?_⟩
        · simp only [execOp, hc, g2', Instr.next, Sem.run_bind, run_getObj o3 rfl, Result.andThen_ok, if_pos hlt, run_setObj o3 rfl, Sem.run_pure, goInt]
        · exact VRel.tuple' (.cons (.bool _) (.cons (.int _ _) (.cons (.int _ _) (LRel.nil ρ))))
        · exact s.putObj hr g1 rfl rfl o3 rfl o1 o2 rfl ⟨o1, o2, heap_put o3⟩
      · rename_i hlt
        simp only [Option.some.injEq, R.val.injEq] at hv
        obtain ⟨rfl, rfl⟩ := hv
        refine ⟨.value (.tuple #[.bool false]), w, ρ, ?_, .inl ⟨_, rfl, VRel.tuple' (.cons (.bool _) (LRel.nil ρ))⟩, .refl _, s⟩
        simp only [execOp, hc, g2', Instr.next, Sem.run_bind, run_getObj o3 rfl, Result.andThen_ok, if_neg hlt, Sem.run_pure]
    · cases hv
  · cases hv

end
end Go.Proofs.YtbejfgpeledcjaaGreat.A
namespace Go.Proofs.YtbejfgpeledcjaaGreat.A
noncomputable section
open Go

variable {P : Program} {ρ : Ren} {h h1 : AHeap} {G : Bes} {w : World} {t : Tr Value} {a : Act} {v : Value}

theorem growBy_le : ∀ (r newLen c : Nat), c ≤ newLen → Builtin.growBy newLen r c ≤ newLen + newLen / 4 + 192
  | 0, n, c, h => by simp [Builtin.growBy]; omega
  | r + 1, n, c, h => by
    unfold Builtin.growBy
    split
    · omega
    · rename_i hlt
      by_cases h2 : c + (c + 768) / 4 ≤ n
      · exact growBy_le r n _ h2
      · cases r with
        | zero => simp [Builtin.growBy]; omega
        | succ r =>
          unfold Builtin.growBy
          rw [if_pos (by omega)]; omega

theorem nextcap_le {need cap : Nat} (h : cap < need) : Builtin.nextslicecap need cap ≤ 2 * need + 192 := by
  unfold Builtin.nextslicecap
  split
  · omega
  · split
    · omega
    · have := growBy_le 4 need cap (by omega); omega

theorem run_appendCap (need old : Nat) (el : TypeId) (w : World) : ∃ cap, need ≤ cap ∧ (choose (.appendCap need old el)).run P w = .ok cap w.drew := by
  refine ⟨(Question.appendCap need old el).cut (w.tape w.drawn (.appendCap need old el)), ?_, ?_⟩
  · simp [Question.cut]
  · simp [Question.forced]

theorem zeroCells_one {z : Array Value} (hz : ∀ x ∈ z.toList, x.oneCell' = true) (n : Nat) : ∀ x ∈ (Builtin.zeroCells z n).toList, x.oneCell' = true := by
  intro x hx
  simp only [Builtin.zeroCells] at hx
  rw [Array.toList_map] at hx
  obtain ⟨i, hi, rfl⟩ := List.mem_map.1 hx
  simp at hi
  have hpos : 0 < z.size := by
    rcases Nat.eq_zero_or_pos z.size with h | h
    · rw [h] at hi; simp at hi
    · exact h
  have hm : i % z.size < z.size := Nat.mod_lt _ hpos
  rw [getElem!_pos z _ hm]
  exact hz _ (by simp)

theorem size_zeroCells' (z : Array Value) (n : Nat) : (Builtin.zeroCells z n).size = n * z.size := by simp [Builtin.zeroCells]

/-- What an append reads of its second part. -/
theorem append_run {tid t' : TypeId} {el : TypeId} {ty : TypeId} {z : List Value} {size bytes : Nat} (hu : P.underlying tid = some (.slice el)) (hu' : ∀ k, P.underlying t' ≠ some (.int k)) {d' : TypeDesc} (hd' : P.underlying t' = some d')
    (hz : zeroCellsT P el = some z) (hsz : sizeT P el = some size) (hb : bytesT P el = some bytes) (hl : z.length = size) (hby : bytes ≤ 65536)
    {base : Option Addr} {len cap n : Nat} {x : Value} {new : Array Value} (hlen : Builtin.lenOf x = pure n) (hm : len + n ≤ 2 ^ 30)
    (w : World) (hn1 : (Builtin.firstCells size n x).run P w = .ok new w) (hn2 : (Builtin.firstCells size n x).run P w.drew = .ok new w.drew) :
    (len + n ≤ cap → ∀ w1, (∀ ad, base = some ad → (storeCells (ad.add (len * size)) new.toList).run P w = .ok () w1) → (base = none → w1 = w) →
      (Builtin.append_ #[tid, t'] ty #[.slice base len cap, x]).run P w = .ok (.slice base (len + n) cap) w1) ∧
    (cap < len + n → ∀ old : Array Value, (Builtin.firstCells size len (.slice base len cap)).run P w.drew = .ok old w.drew →
      ∃ (newCap : Nat) (zv : Value), len + n ≤ newCap ∧ zv.cells.toList = z ∧ (Builtin.append_ #[tid, t'] ty #[.slice base len cap, x]).run P w =
        .ok (.slice (some ⟨w.heap.size, 0, none⟩) (len + n) newCap) (w.drew.alloc (.cells (old ++ new ++ Builtin.zeroCells zv.cells (newCap - (len + n))) el))) := by
  obtain ⟨ti, hti, hbi⟩ := isSomeMap hb
  obtain ⟨zv, hz1, hz2⟩ := zeroCells_inv hz
  have hzeros : (match d' with | .int _ => true | _ => false) = false := by cases d' <;> first | rfl | exact absurd hd' (hu' _)
  constructor
  · intro hle w1 hst hnone
    unfold Builtin.append_
    simp only [List.getElem?_toArray, List.getElem?_cons_zero, List.getElem?_cons_succ, Sem.run_bind, run_und hu, Result.andThen_ok, run_size hsz, run_und hd', Sem.run_pure]
    cases base with
    | none =>
      obtain rfl := hnone rfl
      cases d' <;> first | (exact absurd hd' (hu' _)) | simp [hlen, hle, hn1]
    | some ad =>
      have := hst ad rfl
      cases d' <;> first | (exact absurd hd' (hu' _)) | simp [hlen, hle, hn1, this]
  · intro hlt old hold
    obtain ⟨newCap, c1, c2⟩ := run_appendCap (P := P) (len + n) cap el w
    refine ⟨newCap, zv, c1, hz2, ?_⟩
    have hnot : ¬ len + n ≤ cap := by omega
    have hno1 : ¬ (((len + n : Nat) : Int) > IntKind.i64.max) := by
      have : IntKind.i64.max = 9223372036854775807 := rfl
      rw [this]; omega
    have hno2 : ¬ (Builtin.nextslicecap (len + n) cap * bytes > 2 ^ 48) := by
      have h1 := nextcap_le hlt
      have h2 : Builtin.nextslicecap (len + n) cap * bytes ≤ (2 * (len + n) + 192) * 65536 := Nat.mul_le_mul h1 hby
      omega
    unfold Builtin.append_
    simp only [List.getElem?_toArray, List.getElem?_cons_zero, List.getElem?_cons_succ, Sem.run_bind, run_und hu, Result.andThen_ok, run_size hsz, run_und hd', Sem.run_pure]
    cases d' <;> first | (exact absurd hd' (hu' _)) | skip
    all_goals
      simp only [hlen, pure_bind, Sem.run_bind, Result.andThen_ok, if_neg hnot, Bool.false_eq_true, if_false, run_tyinfo hti, hbi]
      rw [if_neg (fun h => hno1 h.1)]
      simp only [Sem.run_bind, run_tyinfo hti, hbi, Result.andThen_ok]
      rw [if_neg hno2]
      simp only [Sem.run_bind, c2, Result.andThen_ok, run_tyinfo hti, run_askRoom, hold, Bool.not_false, if_true, hn2, run_zero hz1, newRow, run_newObj, Sem.run_pure]
      rfl

theorem cell_drew_rel {l : List Value} {b o : Nat} (h : ∀ (j : Nat) (v : Value), l[j]? = some v → w.cell? ⟨b, o + j, none⟩ = some v) : ∀ (j : Nat) (v : Value), l[j]? = some v → w.drew.cell? ⟨b, o + j, none⟩ = some v := h

theorem firstCells_slice {el : Nat} {n : Nat} {e : Emb} {off : Nat} {cs' : List Value} (m cap : Nat) (hc : ∀ (j : Nat) (v : Value), cs'[j]? = some v → w.cell? (e.at (off + j)) = some v) (hl : cs'.length = n * el) :
    (Builtin.firstCells el n (.slice (some (e.at off)) m cap)).run P w = .ok ⟨cs'⟩ w := by
  unfold Builtin.firstCells
  exact run_cells (P := P) (w := w) e.cb (e.off + off) (n * el) (fun j v hj => by rw [Nat.add_assoc]; exact hc j v hj) hl

/-- The last part of an append: what is held of the slice that grows. -/
theorem append_to {o : Oper} {c : Call} {tid t' el : TypeId} {d' : TypeDesc} {size bytes : Nat} {z : List Value} {x y : Operand} {str : Bool}
    (hc : o.op = .call c) (hb : c.callee = .builtin .append) (hat : c.argTypes.toList = [tid, t']) (hag : c.args.toList = [x, y])
    (hu : P.underlying tid = some (.slice el)) (hu' : ∀ k, P.underlying t' ≠ some (.int k)) (hd' : P.underlying t' = some d')
    (hz : zeroCellsT P el = some z) (hsz : sizeT P el = some size) (hby : bytesT P el = some bytes) (hl : z.length = size) (hbm : bytes ≤ 65536) (hzo : z.all scalarOk = true)
    (s : SR P ρ h G w) {n len : Nat} {new new' : List Value} (hlen : Builtin.lenOf (a.eval y) = pure n) (hm : len + n ≤ most) (hnl : new.length = n * size) (hnr : LRel ρ new new') (hno : ∀ v ∈ new', v.oneCell' = true)
    (hn1 : (Builtin.firstCells size n (a.eval y)).run P w = .ok ⟨new'⟩ w) (hn2 : (Builtin.firstCells size n (a.eval y)).run P w.drew = .ok ⟨new'⟩ w.drew)
    {sv : Value} (hsv : VRel ρ sv (a.eval x)) (hsl : ∃ ad cap, sv = .slice ad len cap) (hap : appendTo h size sv new n = some (.val v h1)) (hG : Beside G h1.next) :
    ∃ nx w1 ρ1, (execOp a.eval o).run P w = .ok nx w1 ∧ ((∃ v', nx = .value v' ∧ VRel ρ1 v v') ∨ nx = .skip ∧ v = blank) ∧ ρ.le ρ1 ∧ SR P ρ1 h1 G w1 := by
  have e1 : c.argTypes = #[tid, t'] := by apply Array.ext'; simp [hat]
  have e2 : c.args = #[x, y] := by apply Array.ext'; simp [hag]
  have hexec : ∀ {u w1}, (Builtin.append_ #[tid, t'] o.type #[a.eval x, a.eval y]).run P w = .ok u w1 → (execOp a.eval o).run P w = .ok (.value u) w1 := by
    intro u w1 hr
    simp only [execOp, hc, resolve, hb, e1, e2, Sem.run_bind, Sem.run_pure, Result.andThen_ok, invoke, builtin]
    simp [hr]
  have hmost : most = 2 ^ 30 := rfl
  have hnl' : new'.length = n * size := by rw [← hnr.1, hnl]
  obtain ⟨ad, cap, rfl⟩ := hsl
  -- the concrete slice
  obtain ⟨ad', cap', hx, hlc⟩ : ∃ ad' cap', a.eval x = .slice ad' len cap' ∧ len ≤ cap' := by
    cases hy : a.eval x <;> rw [hy] at hsv <;> cases hsv
    · exact ⟨_, _, rfl, Nat.le_refl _⟩
    · exact ⟨_, _, rfl, by assumption⟩
  rw [hx] at hsv hexec
  have RA := append_run (P := P) (tid := tid) (t' := t') (ty := o.type) hu hu' hd' hz hsz hby hl hbm (base := ad') (len := len) (cap := cap') (n := n) (x := a.eval y) (new := ⟨new'⟩) hlen (by omega) w hn1 hn2
  -- a new row, out of the old cells and the new ones
  have realloc : ∀ {h0 : AHeap} {old old' : List Value}, SR P ρ h0 G w → h0.next = h.next → LRel ρ old old' → (∀ v ∈ old', v.oneCell' = true) → old.length = len * size → cap' < len + n →
      (Builtin.firstCells size len (.slice ad' len cap')).run P w.drew = .ok ⟨old'⟩ w.drew → Beside G (h0.next + 1) →
      ∃ nx w1 ρ1, (execOp a.eval o).run P w = .ok nx w1 ∧ ((∃ v', nx = .value v' ∧ VRel ρ1 (.slice (some ⟨h0.next, 0, none⟩) (len + n) (len + n)) v') ∨ nx = .skip ∧ (.slice (some ⟨h0.next, 0, none⟩) (len + n) (len + n)) = blank) ∧ ρ.le ρ1 ∧ SR P ρ1 (h0.push (.cells (old ++ new) size false)) G w1 := by
    intro h0 old old' s0 hnx holr hold1 holl hlt hold hG0
    obtain ⟨newCap, zv, c1, c2, c3⟩ := RA.2 hlt ⟨old'⟩ hold
    have hzs : zv.cells.size = size := by rw [← hl, ← c2]; simp
    have hold' : old'.length = len * size := by rw [← holr.1, holl]
    have hrow : ((⟨old'⟩ ++ ⟨new'⟩ ++ Builtin.zeroCells zv.cells (newCap - (len + n)) : Array Value)).toList = old' ++ new' ++ (Builtin.zeroCells zv.cells (newCap - (len + n))).toList := by simp
    have hsize : ((⟨old'⟩ ++ ⟨new'⟩ ++ Builtin.zeroCells zv.cells (newCap - (len + n)) : Array Value)).size = newCap * size := by
      simp only [Array.size_append, List.size_toArray, size_zeroCells', hold', hnl', hzs]
      rw [Nat.sub_mul, Nat.add_mul]
      have : (len + n) * size ≤ newCap * size := Nat.mul_le_mul_right _ c1
      rw [Nat.add_mul] at this
      omega
    have ho : ∀ σ : Ren, ρ.le σ → ORel P σ (.cells (old ++ new) size false) ⟨w.heap.size, 0, newCap * size, size⟩ (w.drew.alloc (.cells (⟨old'⟩ ++ ⟨new'⟩ ++ Builtin.zeroCells zv.cells (newCap - (len + n))) el)) := by
      intro σ hs
      have hpre : LRel σ (old ++ new) (old' ++ new') := (holr.append hnr).mono hs
      refine ⟨rfl, ?_, fun i u hi => ?_, fun _ i hi => ⟨?_, ?_⟩, by simp⟩
      · simp only [List.length_append, holl, hnl]
        have : (len + n) * size ≤ newCap * size := Nat.mul_le_mul_right _ c1
        rw [Nat.add_mul] at this; exact this
      · obtain ⟨u', g1, g2⟩ := hpre.get hi
        have hlt2 : i < (old' ++ new').length := (List.getElem?_eq_some_iff.1 g1).1
        refine ⟨u', ?_, g2, ?_⟩
        · simp only [Emb.at, Nat.zero_add]
          have := World.cell?_alloc_new w.drew (⟨old'⟩ ++ ⟨new'⟩ ++ Builtin.zeroCells zv.cells (newCap - (len + n))) el i
          rw [World.size_drew] at this
          rw [this, ← Array.getElem?_toList, hrow, List.getElem?_append_left hlt2, g1]
        · have := List.mem_of_getElem? g1
          rcases List.mem_append.1 this with h | h
          · exact hold1 _ h
          · exact hno _ h
      · simp only [Emb.at, Nat.zero_add]
        have := World.cell?_alloc_new w.drew (⟨old'⟩ ++ ⟨new'⟩ ++ Builtin.zeroCells zv.cells (newCap - (len + n))) el i
        rw [World.size_drew] at this
        rw [this]
        simp only at hi
        rw [← hsize] at hi
        rw [Array.getElem?_eq_getElem hi]; rfl
      · simp only [Emb.at, Nat.zero_add]
        have := World.frozen?_alloc_new w.drew (⟨old'⟩ ++ ⟨new'⟩ ++ Builtin.zeroCells zv.cells (newCap - (len + n))) el i
        rw [World.size_drew] at this
        exact this
    have hfr := s0.drew.fresh hG0 (by omega)
    obtain ⟨l1, l2⟩ := s0.drew.alloc hG0 (by omega) (o := .cells (old ++ new) size false) (e := ⟨w.heap.size, 0, newCap * size, size⟩) rfl (ho _ (Ren.le_add _ hfr))
    refine ⟨_, _, _, hexec c3, .inl ⟨_, rfl, ?_⟩, l1, l2⟩
    exact .slice _ _ _ _ _ _ c1 (fun hz => by omega) (fun _ => ⟨_, Ren.add_same _ _ _, rfl, .inr (by simp)⟩)
  simp only [appendTo] at hap
  split at hap
  · -- nothing is added
    rename_i hn0
    subst hn0
    simp only [Option.some.injEq, R.val.injEq] at hap
    obtain ⟨rfl, rfl⟩ := hap
    have hnew0 : new' = [] := List.eq_nil_of_length_eq_zero (by simpa using hnl')
    subst hnew0
    have := RA.1 hlc w (fun ad _ => by simp [storeCells]) (fun _ => rfl)
    exact ⟨_, w, ρ, hexec this, .inl ⟨_, rfl, by simpa using hsv⟩, .refl _, s⟩
  · rename_i hn0
    split at hap
    · -- a nil slice
      split at hap
      · rename_i hlc0
        obtain ⟨rfl, rfl⟩ := hlc0
        simp only [Option.some.injEq, R.val.injEq] at hap
        obtain ⟨rfl, rfl⟩ := hap
        cases hsv
        have := realloc (h0 := h) (old := []) (old' := []) s rfl (LRel.nil ρ) (by simp) (by simp) (by omega) (by simp [Builtin.firstCells]) hG
        simpa using this
      · cases hap
    · rename_i ad0
      split at hap
      · rename_i hcap
        split at hap
        · rename_i hlen0
          subst hcap hlen0
          simp only [Option.some.injEq, R.val.injEq] at hap
          obtain ⟨rfl, rfl⟩ := hap
          cases hsv with
          | slice b off _ _ ax _ v1 v2 v3 =>
            have hc0 := v2 rfl
            subst hc0
            have hld : (loadCells ax 0).run P w.drew = .ok #[] w.drew := by simpa using run_loadCells_list (P := P) w.drew ax [] (by simp)
            have := realloc (h0 := h) (old := []) (old' := []) s rfl (LRel.nil ρ) (by simp) (by simp) (by omega) (by simp [Builtin.firstCells, hld]) hG
            simpa using this
        · cases hap
      · rename_i hcap
        split at hap
        · rename_i cs sz hbk
          split at hap
          · rename_i hcnd
            obtain ⟨c1, c2, c3⟩ := hcnd
            obtain ⟨b, off, sp⟩ := ad0
            simp only at c2 hbk c1
            subst c2 c3
            simp only [Option.some.injEq, R.val.injEq] at hap
            obtain ⟨rfl, rfl⟩ := hap
            cases hsv with
            | slice _ _ _ _ ax _ v1 v2 v3 =>
              have hkill := s.kill hbk
              by_cases hroom : len + n ≤ cap'
              · -- there is room
                have hpos : 0 < cap' := Nat.lt_of_lt_of_le (Nat.add_pos_right len (Nat.pos_of_ne_zero hn0)) hroom
                obtain ⟨e, g1, g2, g3⟩ := v3 hpos
                subst g2
                have hob := s.obj hbk g1
                have hesz : e.sz = sz := hob.1
                have hcl : cs.length ≤ e.room := hob.2.1
                have hrm : off + len * sz + new.length ≤ e.room := by
                  rw [hnl]
                  rcases g3 with g3 | g3
                  · rw [hesz] at g3; subst g3; simp; omega
                  · rw [hesz] at g3
                    have : (len + n) * sz ≤ cap' * sz := Nat.mul_le_mul_right _ hroom
                    rw [Nat.add_mul] at this; omega
                have hst := run_storeCells s hbk g1 (off := off + len * sz) (vs := new') (by rw [← hnr.1]; exact hrm) hno
                have := RA.1 hroom (w.setCells e.cb (e.off + (off + len * sz)) new') (fun ad had => by cases had; rw [addr_add]; exact hst) (fun h => by cases h)
                obtain ⟨l1, l2⟩ := s.grow hG (Nat.lt_succ_self _) hbk g1 c1 hrm hnr hno
                refine ⟨_, _, _, hexec this, .inl ⟨_, rfl, ?_⟩, l1, by rw [← Nat.add_assoc]; exact l2⟩
                refine .slice _ _ _ _ _ _ hroom (fun hz => by omega) (fun _ => ⟨_, Ren.add_same _ _ _, rfl, ?_⟩)
                rcases g3 with g3 | g3
                · left; simpa [hesz] using g3
                · right; simp only [Nat.zero_add]; rw [hesz] at g3; omega
              · -- a new row
                have hcells : ∃ old', LRel ρ ((cs.drop off).take (len * sz)) old' ∧ (∀ v ∈ old', v.oneCell' = true) ∧ (Builtin.firstCells sz len (.slice (some ax) len cap')).run P w.drew = .ok ⟨old'⟩ w.drew := by
                  by_cases hc0 : 0 < cap'
                  · obtain ⟨e, g1, g2, g3⟩ := v3 hc0
                    subst g2
                    have hrd : readN h b off (len * sz) = some ((cs.drop off).take (len * sz)) := by simp [readN, hbk, c1]
                    obtain ⟨old', q1, q2, q3⟩ := readN_rel s hrd g1
                    refine ⟨old', q1, fun v hv => ?_, ?_⟩
                    · obtain ⟨j, hj⟩ := List.getElem?_of_mem hv; exact (q2 j v hj).2
                    · exact firstCells_slice (w := w.drew) len cap' (fun j v hj => (q2 j v hj).1) q3
                  · have hl0 : len = 0 := by omega
                    subst hl0
                    have hld : (loadCells ax 0).run P w.drew = .ok #[] w.drew := by simpa using run_loadCells_list (P := P) w.drew ax [] (by simp)
                    refine ⟨[], by simpa using LRel.nil ρ, by simp, by simp [Builtin.firstCells, hld]⟩
                obtain ⟨old', q1, q2, q3⟩ := hcells
                exact realloc (h0 := h.put b .dead) hkill rfl q1 q2 (by simp; omega) (by omega) q3 hG
          · cases hap
        · cases hap

end
end Go.Proofs.YtbejfgpeledcjaaGreat.A
namespace Go.Proofs.YtbejfgpeledcjaaGreat.A
noncomputable section
open Go

variable {P : Program} {ρ : Ren} {h h1 : AHeap} {G : Bes} {w : World} {t : Tr Value} {a : Act} {v : Value}

theorem run_first0 (size : Nat) (ad : Option Addr) (m c : Nat) (w : World) : (Builtin.firstCells size 0 (.slice ad m c)).run P w = .ok #[] w := by
  cases ad with
  | none => simp [Builtin.firstCells]
  | some x =>
    have : (loadCells x 0).run P w = .ok #[] w := by simpa using run_loadCells_list (P := P) w x [] (by simp)
    simp [Builtin.firstCells, this]

theorem write_append {o : Oper} {c : Call} {tid t' el : TypeId} {d' : TypeDesc} {size bytes : Nat} {z : List Value} {x y : Operand} {str : Bool}
    (hc : o.op = .call c) (hb : c.callee = .builtin .append) (hat : c.argTypes.toList = [tid, t']) (hag : c.args.toList = [x, y])
    (hu : P.underlying tid = some (.slice el)) (hu' : ∀ k, P.underlying t' ≠ some (.int k)) (hd' : P.underlying t' = some d')
    (hz : zeroCellsT P el = some z) (hsz : sizeT P el = some size) (hby : bytesT P el = some bytes) (hl : z.length = size) (hs1 : str = true → size = 1) (hzo : z.all scalarOk = true)
    (ho : ORd ρ t a [x, y]) : WriteS P ρ t a o (.append z bytes str x y) := by
  intro h G w s h1 v hv hG
  have hx := ho x (by simp)
  have hy := ho y (by simp)
  simp only [aop, k_append, hl] at hv
  split at hv
  · rename_i hbm
    split at hv
    · rename_i ad len cap he
      have hsl : ∃ ad' cap', ev t x = .slice ad' len cap' := ⟨_, _, he⟩
      have zero : ∀ {m cc : Nat} {ad'}, a.eval y = .slice ad' m cc → Builtin.lenOf (a.eval y) = pure 0 → len ≤ most → appendTo h size (ev t x) [] 0 = some (.val v h1) →
          ∃ nx w1 ρ1, (execOp a.eval o).run P w = .ok nx w1 ∧ ((∃ v', nx = .value v' ∧ VRel ρ1 v v') ∨ nx = .skip ∧ v = blank) ∧ ρ.le ρ1 ∧ SR P ρ1 h1 G w1 := by
        intro m cc ad' hya hlen hm hap
        exact append_to (str := str) hc hb hat hag hu hu' hd' hz hsz hby hl hbm.1 hzo s hlen hm (new := []) (new' := []) (by simp) (LRel.nil ρ) (by simp) (by rw [hya]; exact run_first0 _ _ _ _ _) (by rw [hya]; exact run_first0 _ _ _ _ _) hx hsl hap hG
      split at hv
      · rename_i n cp hy0
        rw [hy0] at hy
        split at hv
        · rename_i hcnd
          obtain ⟨c1, _⟩ := hcnd
          subst c1
          cases hya : a.eval y <;> rw [hya] at hy <;> cases hy
          split at hv
          · rename_i hm; exact zero hya (by rw [hya]; rfl) hm hv
          · cases hv
        · cases hv
      · rename_i ay n cp hy0
        split at hv
        · rename_i hcnd
          obtain ⟨c1, c2, _⟩ := hcnd
          obtain ⟨b, off, sp⟩ := ay
          simp only at c2
          subst c2
          rw [hy0] at hy
          split at hv
          · rename_i hn0
            subst hn0
            obtain ⟨ad', cc, hya⟩ : ∃ ad' cc, a.eval y = .slice (some ad') 0 cc := by
              cases hya : a.eval y <;> rw [hya] at hy <;> cases hy; exact ⟨_, _, rfl⟩
            exact zero hya (by rw [hya]; rfl) (by omega) hv
          · rename_i hn0
            split at hv
            · rename_i new hnew
              obtain ⟨e, cap', g1, g2, g3, _⟩ := hy.slice_inv (by omega)
              obtain ⟨new', q1, q2, q3⟩ := readN_rel s hnew g1
              have hnl : new.length = n * size := by rw [q1.1, q3]
              have f1 := firstCells_slice (P := P) (w := w) (el := size) (n := n) (e := e) (off := off) (cs' := new') n cap' (fun j v hj => (q2 j v hj).1) q3
              have f2 := firstCells_slice (P := P) (w := w.drew) (el := size) (n := n) (e := e) (off := off) (cs' := new') n cap' (fun j v hj => (q2 j v hj).1) q3
              exact append_to (str := str) hc hb hat hag hu hu' hd' hz hsz hby hl hbm.1 hzo s (by rw [g2]; rfl) c1 hnl q1 (fun v hv => by obtain ⟨j, hj⟩ := List.getElem?_of_mem hv; exact (q2 j v hj).2) (by rw [g2]; exact f1) (by rw [g2]; exact f2) hx hsl hv hG
            · cases hv
        · cases hv
      · rename_i st hy0
        rw [hy0] at hy
        have hya := hy.str_inv
        split at hv
        · rename_i hcnd
          have h1s := hs1 hcnd.2
          subst h1s
          have hbytes : ∀ w, (Builtin.firstCells 1 st.size (.string st)).run P w = .ok ⟨st.data.toList.map fun b => .int .u8 b.toNat⟩ w := fun w => by
            simp only [Builtin.firstCells, Sem.run_pure]
            congr 1
            apply Array.ext'
            have : (st.extract 0 st.size) = st := by simp
            rw [this]; simp
          exact append_to (str := str) hc hb hat hag hu hu' hd' hz hsz hby hl hbm.1 hzo s (n := st.size) (by rw [hya]; rfl) hcnd.1 (new := st.data.toList.map fun b => .int .u8 b.toNat) (new' := st.data.toList.map fun b => .int .u8 b.toNat)
            (by simp) ⟨rfl, fun i x y hx hy => by rw [hx] at hy; cases hy; simp at hx; obtain ⟨b, _, rfl⟩ := hx; exact .int _ _⟩ (fun v hv => by simp at hv; obtain ⟨b, _, rfl⟩ := hv; rfl)
            (by rw [hya]; exact hbytes w) (by rw [hya]; exact hbytes w.drew) hx hsl hv hG
        · cases hv
      · cases hv
    · cases hv
  · cases hv

theorem write_copy {o : Oper} {c : Call} {tid t' el : TypeId} {size : Nat} {x y : Operand}
    (hc : o.op = .call c) (hb : c.callee = .builtin .copy) (hat : c.argTypes.toList = [tid, t']) (hag : c.args.toList = [x, y])
    (hu : P.underlying tid = some (.slice el)) (hsz : sizeT P el = some size) (ho : ORd ρ t a [x, y]) : WriteS P ρ t a o (.copy size x y) := by
  intro h G w s h1 v hv hG
  have hx := ho x (by simp)
  have hy := ho y (by simp)
  have e1 : c.argTypes = #[tid, t'] := by apply Array.ext'; simp [hat]
  have e2 : c.args = #[x, y] := by apply Array.ext'; simp [hag]
  have hexec : ∀ {u w1}, (Builtin.copy_ #[tid, t'] o.type #[a.eval x, a.eval y]).run P w = .ok u w1 → (execOp a.eval o).run P w = .ok (.value u) w1 := by
    intro u w1 hr
    simp only [execOp, hc, resolve, hb, e1, e2, Sem.run_bind, Sem.run_pure, Result.andThen_ok, invoke, builtin]
    simp [hr]
  simp only [aop, k_copy] at hv
  split at hv
  · rename_i ax m cx bx n cy he1 he2
    rw [he1] at hx; rw [he2] at hy
    obtain ⟨ad', cx', hxa⟩ : ∃ ad' cx', a.eval x = .slice ad' m cx' := by
      cases hxa : a.eval x <;> rw [hxa] at hx <;> cases hx; exact ⟨_, _, rfl⟩
    obtain ⟨bd', cy', hya⟩ : ∃ bd' cy', a.eval y = .slice bd' n cy' := by
      cases hya : a.eval y <;> rw [hya] at hy <;> cases hy
      · exact ⟨_, _, rfl⟩
      · exact ⟨_, _, rfl⟩
    split at hv
    · rename_i hk
      simp only [Option.some.injEq, R.val.injEq] at hv
      obtain ⟨rfl, rfl⟩ := hv
      refine ⟨_, w, ρ, hexec (u := .int .i64 0) ?_, .inl ⟨_, rfl, .int _ _⟩, .refl _, s⟩
      have hf := run_first0 (P := P) size bd' n cy' w
      rw [hxa, hya]
      cases ad' <;> simp [Builtin.copy_, run_und hu, Builtin.lenOf, hk, run_size hsz, hf, storeCells, goInt]
    · rename_i hk
      split at hv
      · rename_i bb
        split at hv
        · rename_i new cs sz hnew hbk
          split at hv
          · rename_i hcnd
            obtain ⟨c1, c2, c3⟩ := hcnd
            obtain ⟨b1, off1, sp1⟩ := ax
            obtain ⟨b2, off2, sp2⟩ := bb
            simp only at c1 c2 hnew hbk c3
            subst c1 c2
            simp only [Option.some.injEq, R.val.injEq] at hv
            obtain ⟨rfl, rfl⟩ := hv
            have hmn : Nat.min n m ≤ n ∧ Nat.min n m ≤ m := ⟨Nat.min_le_left _ _, Nat.min_le_right _ _⟩
            rw [hxa] at hx; rw [hya] at hy
            obtain ⟨e, cxx, g1, g2, _, _⟩ := hx.slice_inv (by omega)
            obtain ⟨f, cyy, g3, g4, _, _⟩ := hy.slice_inv (by omega)
            cases g2; cases g4
            obtain ⟨new', q1, q2, q3⟩ := readN_rel s hnew g3
            have f1 := firstCells_slice (P := P) (w := w) (el := size) (n := Nat.min n m) (e := f) (off := off2) (cs' := new') n cy' (fun j v hj => (q2 j v hj).1) q3
            have hq2 : ∀ v ∈ new', v.oneCell' = true := fun v hv => by obtain ⟨j, hj⟩ := List.getElem?_of_mem hv; exact (q2 j v hj).2
            have hcl : cs.length ≤ e.room := (s.obj hbk g1).2.1
            have hst := run_storeCells s hbk g1 (off := off1) (vs := new') (by omega) hq2
            refine ⟨_, _, ρ, hexec (u := .int .i64 (Nat.min n m)) (w1 := w.setCells e.cb (e.off + off1) new') ?_, .inl ⟨_, rfl, .int _ _⟩, .refl _, s.store hbk g1 (by rw [q1.1]; omega) q1 hq2⟩
            rw [hxa, hya]
            simp only [Builtin.copy_, List.getElem?_toArray, List.getElem?_cons_zero, List.getElem?_cons_succ, Sem.run_bind, run_und hu, Result.andThen_ok, Builtin.lenOf, Sem.run_pure, run_size hsz, f1]
            simp [hst, goInt]
          · cases hv
        · cases hv
      · cases hv
  · cases hv

end
end Go.Proofs.YtbejfgpeledcjaaGreat.A
namespace Go.Proofs.YtbejfgpeledcjaaGreat.A
noncomputable section
open Go

variable {P : Program} {ρ : Ren} {h h1 : AHeap} {G : Bes} {w : World} {t : Tr Value} {a : Act} {v : Value}

theorem freeze_new (w : World) (c : Array Value) (ty : TypeId) : (w.alloc (.cells c ty)).freeze ⟨w.heap.size, c.size, none⟩ 1 = w.alloc (.cells c ty (c.size, c.size + 1)) := by
  unfold World.freeze World.alloc
  simp only [Nat.one_ne_zero, if_false]
  congr 1
  apply Array.ext
  · simp
  · intro i h1 h2
    simp only [Array.getElem_modify, Array.getElem_push]
    by_cases hi : i < w.heap.size
    · rw [if_neg (by omega)]; simp [hi]
    · have : i = w.heap.size := by simp at h1; omega
      subst this
      simp

theorem cell_new (w : World) (c : Array Value) (ty : TypeId) (fr : Nat × Nat) (i : Nat) : (w.alloc (.cells c ty fr)).cell? ⟨w.heap.size, i, none⟩ = c[i]? := by
  simp only [World.alloc, World.cell?, Array.getElem?_push_size]; rfl

theorem frozen_new (w : World) (c : Array Value) (ty : TypeId) (lo hi i : Nat) (h : i < lo) : (w.alloc (.cells c ty (lo, hi))).frozen? ⟨w.heap.size, i, none⟩ = false := by
  simp only [World.alloc, World.frozen?, Array.getElem?_push_size]
  simp; omega

theorem shape_new (w : World) (c : Array Value) (ty : TypeId) : (w.alloc (.cells c ty)).shape? w.heap.size = some (ty, c.size) := by
  simp only [World.alloc, World.shape?, Array.getElem?_push_size]

theorem write_strToBytes {o : Oper} {sT d el : TypeId} {x : Operand} (hc : o.op = .convert sT d x) (hs : P.underlying sT = some .string) (hd : P.underlying d = some (.slice el)) (he' : P.underlying el = some (.int .u8)) (ho : ORd ρ t a [x]) : WriteS P ρ t a o (.strToBytes x) := by
  intro h G w s h1 v hv hG
  have hx := ho x (by simp)
  simp only [aop, k_strToBytes] at hv
  split at hv
  · rename_i st he
    simp only [Option.some.injEq, R.val.injEq] at hv
    obtain ⟨rfl, rfl⟩ := hv
    rw [he] at hx
    obtain ⟨cap, c1, c2⟩ := run_appendCap (P := P) st.size 0 el w
    obtain ⟨row, hrow⟩ : ∃ row : Array Value, row = (st.data.map fun b => Value.int .u8 b.toNat) ++ Array.replicate (cap - st.size) (.int .u8 0) := ⟨_, rfl⟩
    have hsz : row.size = cap := by
      rw [hrow]; simp
      have : st.data.size = st.size := rfl
      omega
    have ho : ∀ σ : Ren, ORel P σ (.cells (st.data.toList.map fun b => .int .u8 b.toNat) 1 false) ⟨w.heap.size, 0, cap, 1⟩ (w.drew.alloc (.cells row el (row.size, row.size + 1))) := by
      intro σ
      have hcell : ∀ i, (w.drew.alloc (.cells row el (row.size, row.size + 1))).cell? ⟨w.heap.size, i, none⟩ = row[i]? := fun i => by
        exact cell_new w.drew row el _ i
      refine ⟨rfl, ?_, fun i u hi => ?_, fun _ i hi => ⟨?_, ?_⟩, by simp⟩
      · simp only [List.length_map]
        have : st.data.toList.length = st.size := by simp
        omega
      · refine ⟨u, ?_, ?_, ?_⟩
        · simp only [Emb.at, Nat.zero_add]
          rw [hcell, hrow]
          have hlt : i < (st.data.map fun b => Value.int .u8 b.toNat).size := by have := (List.getElem?_eq_some_iff.1 hi).1; simpa using this
          rw [Array.getElem?_append_left hlt, ← hi, ← Array.getElem?_toList]; simp
        · simp at hi; obtain ⟨b, _, rfl⟩ := hi; exact .int _ _
        · simp at hi; obtain ⟨b, _, rfl⟩ := hi; rfl
      · simp only [Emb.at, Nat.zero_add]
        rw [hcell]; simp only at hi; rw [← hsz] at hi; simp [hi]
      · simp only [Emb.at, Nat.zero_add]
        simp only at hi
        exact frozen_new w.drew row el _ _ i (by omega)
    obtain ⟨l1, l2⟩ := s.drew.alloc hG (Nat.lt_succ_self _) (o := .cells (st.data.toList.map fun b => .int .u8 b.toNat) 1 false) (e := ⟨w.heap.size, 0, cap, 1⟩) rfl (ho _)
    refine ⟨.value (.slice (some ⟨w.heap.size, 0, none⟩) st.size cap), _, _, ?_, .inl ⟨_, rfl, ?_⟩, l1, l2⟩
    · simp only [execOp, hc, hx.str_inv, convert, Sem.run_bind, run_und hs, run_und hd, Result.andThen_ok, run_und he', Conv.stringToBytes, c2, ← hrow, newRow, run_newObj, Sem.run_pure]
      have hsh : (w.drew.alloc (.cells row el)).shape? w.heap.size = some (el, row.size) := by
        exact shape_new w.drew row el
      simp only [World.alloc_eq, World.size_drew, markStringish, Sem.run_bind, run_shape, Result.andThen_ok, hsh, run_freeze]
      have hfz := freeze_new w.drew row el
      rw [World.size_drew] at hfz
      simp only [hfz]
    · exact .slice _ _ _ _ _ _ c1 (fun hz => by omega) (fun _ => ⟨_, Ren.add_same _ _ _, rfl, .inr (by simp)⟩)
  · cases hv

/-- The next thing to do, if a call is what an operation comes to. -/
def CallS (P : Program) (ρ : Ren) (t : Tr Value) (a : Act) (o : Oper) (op : AOp) : Prop :=
  ∀ h w c args, aop op t h = some (.call c args) → ∃ args' : Array Value, LRel ρ args args'.toList ∧
    match c with
    | .fn f => (execOp a.eval o).run P w = .ok (.enter f args') w
    | .round l => ∃ e, ρ l = some e ∧ (execOp a.eval o).run P w = (Instr.yield e.cb args').run P w

theorem run_callFunc {f : FuncId} (hf : goodFn P f = true) (args : Array Value) (w : World) : (callFunc f args).run P w = .ok (.enter f args) w := by
  unfold goodFn at hf
  split at hf
  · rename_i fn hfn
    simp only [Bool.and_eq_true, bne_iff_ne, ne_eq] at hf
    have hb : fn.body.isNone = false := by cases hx : fn.body <;> simp_all
    simp only [callFunc, Sem.run_bind, run_program, Result.andThen_ok, hfn]
    simp [hf.1, hb]
  · cases hf

theorem evals_eq (l : Array Operand) (a : Act) : (l.map a.eval).toList = l.toList.map a.eval := by simp

theorem call_callF {o : Oper} {c : Call} {f : FuncId} (hc : o.op = .call c) (hv : c.callee = .value (.func f)) (hf : goodFn P f = true) (ho : ORd ρ t a c.args.toList) : CallS P ρ t a o (.callF f c.args.toList) := by
  intro h w cl args ha
  simp only [aop, k_callF, Option.some.injEq, R.call.injEq] at ha
  obtain ⟨rfl, rfl⟩ := ha
  refine ⟨c.args.map a.eval, ?_, ?_⟩
  · rw [evals_eq]; exact ho.lrel
  · simp only [execOp, hc, resolve, hv, Act.eval, Deferred.ofValue, Sem.run_bind, Sem.run_pure, Result.andThen_ok, invoke]
    simp [run_callFunc hf]

/-- All functions are good: what a function value may lead to. -/
def AllGood (P : Program) (S : ASys) : Prop := ∀ f fn, S.fns.get f = some fn → goodFn P f = true

theorem callee_rel {fv fv' : Value} (hv : VRel ρ fv fv') {l l' : List Value} (hl : LRel ρ l l') {c : Cal} {args : List Value} (hc : callee fv l = some (c, args)) :
    ∃ args' : Array Value, LRel ρ args args'.toList ∧ ∃ d : Deferred, (∀ w, (Deferred.ofValue fv' ⟨l'⟩).run P w = .ok d w) ∧
      match c with
      | .fn f => ∃ cap, d.target = .fn (.func f) cap ∧ d.args ++ cap = args'
      | .round b => ∃ e, ρ b = some e ∧ d.target = .fn (.yield e.cb) #[] ∧ d.args = args' := by
  unfold callee at hc
  split at hc
  · rename_i g first cap
    cases hc
    cases hv with
    | func f a b c d h1 h2 h3 h4 =>
      refine ⟨⟨c ++ l' ++ d⟩, ((LRel.append ⟨h1, h3⟩ hl).append ⟨h2, h4⟩), { target := .fn (.func g) ⟨d⟩, args := ⟨c⟩ ++ ⟨l'⟩ }, fun w => rfl, ⟨d⟩, rfl, ?_⟩
      simp
  · rename_i b first cap
    cases hc
    cases hv with
    | yield b e he =>
      refine ⟨⟨l'⟩, by simpa using hl, { target := .fn (.yield e.cb) #[], args := #[] ++ ⟨l'⟩ }, fun w => rfl, e, he, rfl, by simp⟩
  · cases hc

theorem call_callV {o : Oper} {c : Call} {f : Operand} (hc : o.op = .call c) (hv : c.callee = .value f) (ho : ORd ρ t a (f :: c.args.toList)) {g : FuncId} (hgood : ∀ h args, aop (.callV f c.args.toList) t h = some (.call (.fn g) args) → goodFn P g = true) :
    ∀ h w args, aop (.callV f c.args.toList) t h = some (.call (.fn g) args) → ∃ args' : Array Value, LRel ρ args args'.toList ∧ (execOp a.eval o).run P w = .ok (.enter g args') w := by
  intro h w args ha
  have hg := hgood h args ha
  simp only [aop, k_callV] at ha
  split at ha
  · rename_i cc l hcal
    simp only [Option.some.injEq, R.call.injEq] at ha
    obtain ⟨rfl, rfl⟩ := ha
    have hl : LRel ρ (c.args.toList.map (ev t)) (c.args.toList.map a.eval) := ORd.lrel (fun z hz => ho z (by simp at hz ⊢; exact .inr hz))
    obtain ⟨args', h1, d, h2, cap, h3, h4⟩ := callee_rel (P := P) (ho f (by simp)) hl hcal
    refine ⟨args', h1, ?_⟩
    have hargs : c.args.map a.eval = ⟨c.args.toList.map a.eval⟩ := by apply Array.ext'; simp
    simp only [execOp, hc, resolve, hv, hargs, Sem.run_bind, h2, Result.andThen_ok, h3, invoke, h4, run_callFunc hg]
  · cases ha

theorem call_round {o : Oper} {c : Call} {f : Operand} (hc : o.op = .call c) (hv : c.callee = .value f) (ho : ORd ρ t a (f :: c.args.toList)) {b : Nat} :
    ∀ h w args, aop (.callV f c.args.toList) t h = some (.call (.round b) args) → ∃ args' : Array Value, LRel ρ args args'.toList ∧ ∃ e, ρ b = some e ∧ (execOp a.eval o).run P w = (Instr.yield e.cb args').run P w := by
  intro h w args ha
  simp only [aop, k_callV] at ha
  split at ha
  · rename_i cc l hcal
    simp only [Option.some.injEq, R.call.injEq] at ha
    obtain ⟨rfl, rfl⟩ := ha
    have hl : LRel ρ (c.args.toList.map (ev t)) (c.args.toList.map a.eval) := ORd.lrel (fun z hz => ho z (by simp at hz ⊢; exact .inr hz))
    obtain ⟨args', h1, d, h2, e, h3, h4, h5⟩ := callee_rel (P := P) (ho f (by simp)) hl hcal
    refine ⟨args', h1, e, h3, ?_⟩
    have hargs : c.args.map a.eval = ⟨c.args.toList.map a.eval⟩ := by apply Array.ext'; simp
    simp only [execOp, hc, resolve, hv, hargs, Sem.run_bind, h2, Result.andThen_ok, h4, invoke, h5]
  · cases ha

end
end Go.Proofs.YtbejfgpeledcjaaGreat.A
