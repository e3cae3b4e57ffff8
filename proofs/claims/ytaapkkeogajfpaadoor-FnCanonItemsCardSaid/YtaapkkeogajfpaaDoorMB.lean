/- The abstract machine, part MB. -/
import Derived.Test.YtaapkkeogajfpaaDoorMA
import Derived.Laws.BytesArg
import Derived.Great.BuildSlice
import Derived.Laws.MakeOwn
import Derived.Laws.AppendOwn
import Derived.Lib.ConvBytes
/- The abstract machine and the memory: operators, cuts, literals. -/
set_option linter.unusedVariables false
set_option linter.unusedSimpArgs false
namespace Go.Proofs.YtaapkkeogajfpaaDoor.VM
open Go.RowKit

section
variable {P : Program} {T : TT} {U : Nat → Prop} {w0 w : World} {F0 : Fr} {σ : St} {a : Act} {ow : Own} {R : Type} {r : R}
variable {o : Oper} {d : Nat} {K : V → Ob → List (Nat × Option Nat) → Option R}

theorem aInt_ok {op : BinOp} {k : IntKind} {x y : Int} {K : Value → Option R} (h : aInt op k x y K = some r) : ∃ u, K u = some r ∧ u.oneCell' = true ∧ ∀ t, (binOp op t (.int k x) (.int k y)).run P w = .ok u w := by
  cases op <;> simp only [aInt] at h
  all_goals first
    | (cases h; done)
    | exact ⟨_, h, rfl, fun t => by simp [binOp, Op.intArith, Op.intBits, Op.intCmp]⟩
    | (obtain ⟨h0, h⟩ := chk_some h
       simp at h0
       exact ⟨_, h, rfl, fun t => by simp [binOp, Op.intDiv, h0]⟩)
    | (refine ⟨_, h, rfl, fun t => ?_⟩
       simp [binOp, Op.intArith, Op.intBits, Op.intCmp, bne])

theorem aStr_ok {op : BinOp} {x y : ByteArray} {K : Value → Option R} (h : aStr op x y K = some r) : ∃ u, K u = some r ∧ u.oneCell' = true ∧ ∀ t, (binOp op t (.string x) (.string y)).run P w = .ok u w := by
  cases op <;> simp only [aStr] at h
  all_goals first
    | (cases h; done)
    | exact ⟨_, h, rfl, fun t => by simp [binOp, Op.stringOp]⟩
    | (obtain ⟨h0, h⟩ := chk_some h
       simp only [decide_eq_true_eq] at h0
       refine ⟨_, h, rfl, fun t => ?_⟩
       have : ¬ (IntKind.i64.max < ((x.size + y.size : Nat) : Int)) := by
         have : IntKind.i64.max = 9223372036854775807 := by decide
         omega
       simp only [binOp, Op.stringOp, gt_iff_lt, if_neg this, Sem.run_pure])

theorem guard_plain {op : BinOp} {t : TypeId} {x y : Operand} {u v : Value} (h1 : u ≠ .nilIface) (h2 : ∀ xs, u ≠ .agg xs) : (eqGuard op t x y u v).run P w = .ok () w := by
  unfold eqGuard
  cases op <;> simp <;> (split <;> first | exact absurd rfl h1 | exact absurd rfl (h2 _) | simp_all)

theorem equal_bool (hT : TOk P T) {t : TypeId} (ht : T.ty t = .c .b) (x y : Bool) : (Op.equal t (.bool x) (.bool y)).run P w = .ok (x == y) w := by
  obtain ⟨dd, i, h1, _, _, _, h2⟩ := hT.tyc t _ ht
  have h2 : dd = .bool := h2
  subst h2
  show (Op.equalIn _ t (.bool x) (.bool y)).run P w = _
  unfold Op.maxDepth Op.equalIn
  simp [run_underlying h1]

theorem aBin_ok (hT : TOk P T) (h : Sim T.globL U w0 F0 σ a w ow) {op : BinOp} {t t' : TypeId} {x y : Operand} (ho : o.op = .binOp op t x y t')
    (hk : aBin (T.ty t) op (val T σ x) (val T σ y) (fun u => K (.sc u) .none []) = some r) : Good P T U w0 F0 σ a w o d K r := by
  have fin : ∀ u u1 u2, K (.sc u) .none [] = some r → u.oneCell' = true → a.eval x = u1 → a.eval y = u2 → (u1 ≠ .nilIface ∧ ∀ xs, u1 ≠ .agg xs) → (binOp op t u1 u2).run P w = .ok u w → Good P T U w0 F0 σ a w o d K r :=
    fun u u1 u2 hK h1 e1 e2 hg hr => ⟨_, .none, [], hK, fun _ => done_plain h (exec_binOp ho ⟨by rw [e1, e2]; exact guard_plain hg.1 hg.2, by rw [e1, e2]; exact hr⟩) (FR.sc h1 : FR w (Fz U w ow σ.ob) [u] (.sc u))⟩
  unfold aBin at hk
  split at hk
  · rename_i k n k' m hx hy
    obtain ⟨hx', _⟩ := val_sc h hx
    obtain ⟨hy', _⟩ := val_sc h hy
    split at hk
    · obtain ⟨h0, hk⟩ := chk_some hk
      simp at h0
      exact fin _ _ _ hk rfl hx' hy' (by simp) (by simp [binOp, Op.shift, show ¬ m < 0 by omega])
    · obtain ⟨h0, hk⟩ := chk_some hk
      simp at h0
      exact fin _ _ _ hk rfl hx' hy' (by simp) (by simp [binOp, Op.shift, show ¬ m < 0 by omega])
    · obtain ⟨h0, hk2⟩ := bif_some hk
      simp at h0
      subst h0
      obtain ⟨u, hK, h1, hr⟩ := aInt_ok (P := P) (w := w) hk2
      exact fin _ _ _ hK h1 hx' hy' (by simp) (hr t)
  · rename_i n m hx hy
    obtain ⟨hx', _⟩ := val_sc h hx
    obtain ⟨hy', _⟩ := val_sc h hy
    obtain ⟨u, hK, h1, hr⟩ := aStr_ok (P := P) (w := w) hk
    exact fin _ _ _ hK h1 hx' hy' (by simp) (hr t)
  · rename_i n m hx hy
    obtain ⟨hx', _⟩ := val_sc h hx
    obtain ⟨hy', _⟩ := val_sc h hy
    obtain ⟨h0, hk2⟩ := bif_some hk
    have ht : T.ty t = .c .b := by
      unfold isBoolTy at h0
      split at h0
      · assumption
      · cases h0
    have he := equal_bool (w := w) hT ht n m
    split at hk2
    · exact fin _ _ _ hk2 rfl hx' hy' (by simp) (by simp [binOp, he])
    · exact fin _ _ _ hk2 rfl hx' hy' (by simp) (by simp [binOp, he])
    · cases hk2
  · cases hk

theorem aUn_ok (h : Sim T.globL U w0 F0 σ a w ow) {op : UnOp} {t : TypeId} {x : Operand} (ho : o.op = .unOp op t x)
    (hk : aUn op (val T σ x) (fun u => K (.sc u) .none []) = some r) : Good P T U w0 F0 σ a w o d K r := by
  have fin : ∀ u u1, K (.sc u) .none [] = some r → u.oneCell' = true → a.eval x = u1 → (Op.unary op u1).run P w = .ok u w → Good P T U w0 F0 σ a w o d K r :=
    fun u u1 hK h1 e1 hr => ⟨_, .none, [], hK, fun _ => done_plain h (exec_unOp ho (by rw [e1]; exact hr)) (FR.sc h1 : FR w (Fz U w ow σ.ob) [u] (.sc u))⟩
  unfold aUn at hk
  split at hk
  · rename_i k n hx
    exact fin _ _ hk rfl (val_sc h hx).1 (by simp [Op.unary, Op.intArith])
  · rename_i k n hx
    exact fin _ _ hk rfl (val_sc h hx).1 (by simp [Op.unary, Op.intBits])
  · rename_i b hx
    exact fin _ _ hk rfl (val_sc h hx).1 (by simp [Op.unary])
  · cases hk

/-! ### cuts -/
theorem bound_ok {k : IntKind} {i : Int} {y : Nat} {code : BoundsCode} (h0 : 0 ≤ i) (h1 : i ≤ y) : (Instr.sliceBound (.int k i) y code).run P w = .ok i.toNat w := by simp [Instr.sliceBound, asIntOf, h0, h1]

theorem FR.cut {A : Nat → Prop} {b : Option Addr} {n c z : Nat} {xs : List V} (h : FR w A [.slice b n c] (.sl z xs)) {l hh : Nat} (h1 : l ≤ hh) (h2 : hh ≤ n) {b' : Option Addr} (hb : l < c → b' = b.map (·.add (l * z))) :
    FR w A [.slice b' (hh - l) (c - l)] (.sl z ((xs.take hh).drop l)) := by
  cases h with
  | sl bb o ec hn hc ha hl hx =>
    refine .sl bb (o + l * z) (fun i => ec (l + i)) (by simp; omega) (by omega) (fun h0 => ?_) (fun i hi => ?_) (fun i x hx' => ?_)
    · obtain ⟨rfl, hA⟩ := ha (by omega)
      exact ⟨by rw [hb (by omega)]; simp [add_addr], hA⟩
    · have := hl (l + i) (by omega)
      refine ⟨this.1, ?_⟩
      rw [Nat.add_assoc, ← Nat.add_mul]; exact this.2
    · rw [List.getElem?_drop, List.getElem?_take] at hx'
      split at hx'
      · exact hx _ _ hx'
      · cases hx'

theorem FR.len {A : Nat → Prop} {u : Value} {z : Nat} {xs : List V} (h : FR w A [u] (.sl z xs)) : ∃ b c, u = .slice b xs.length c ∧ xs.length ≤ c := by
  cases h with
  | sl bb o ec hn hc => exact ⟨_, _, by rw [hn], by omega⟩

theorem run_cut (hT : TOk P T) {t e : TypeId} {z : Nat} (ht : T.el t = some (e, z)) (b : Option Addr) (n c : Nat) (lo hi mx : Option Value) (l h m : Nat)
    (hb : (Instr.sliceBounds true n c lo hi mx).run P w = .ok (l, h, m) w) :
    (Instr.sliceAt t (.slice b n c) lo hi mx).run P w = .ok (.slice (if m = l then b else b.map (·.add (l * z))) (h - l) (m - l)) w := by
  obtain ⟨i, h1, h2, h3, h4⟩ := hT.el t e z ht
  simp [Instr.sliceAt, Instr.slice, run_underlying h1, hb, sizeOf, typeInfo, h2, h3]
theorem run_cutS (hT : TOk P T) {t : TypeId} (ht : T.ty t = .c .tx) (s : ByteArray) (lo hi : Option Value) (l h m : Nat)
    (hb : (Instr.sliceBounds false s.size s.size lo hi none).run P w = .ok (l, h, m) w) :
    (Instr.sliceAt t (.string s) lo hi none).run P w = .ok (.string (s.extract l h)) w := by
  obtain ⟨dd, i, h1, _, _, _, h2⟩ := hT.tyc t _ ht
  have h2 : dd = .string := h2
  subst h2
  simp [Instr.sliceAt, Instr.slice, run_underlying h1, hb]

theorem bounds_h {s : Bool} {k : IntKind} {h : Int} {n c : Nat} (h0 : 0 ≤ h) (h1 : h ≤ c) : (Instr.sliceBounds s n c none (some (.int k h)) none).run P w = .ok (0, h.toNat, c) w := by
  simp [Instr.sliceBounds, bound_ok h0 h1]
theorem bounds_l {s : Bool} {k : IntKind} {l : Int} {n c : Nat} (h0 : 0 ≤ l) (h1 : l ≤ n) : (Instr.sliceBounds s n c (some (.int k l)) none none).run P w = .ok (l.toNat, n, c) w := by
  simp [Instr.sliceBounds, bound_ok h0 h1]
theorem bounds_lh {s : Bool} {k k' : IntKind} {l h : Int} {n c : Nat} (h0 : 0 ≤ l) (h1 : l ≤ h) (h2 : h ≤ c) : (Instr.sliceBounds s n c (some (.int k l)) (some (.int k' h)) none).run P w = .ok (l.toNat, h.toNat, c) w := by
  have e1 : (Instr.sliceBound (.int k' h) c (if s then .sliceAcap else .sliceAlen)).run P w = .ok h.toNat w := bound_ok (by omega) h2
  have e2 : (Instr.sliceBound (.int k l) h.toNat .sliceB).run P w = .ok l.toNat w := bound_ok h0 (by omega)
  simp [Instr.sliceBounds, e1, e2]
theorem bounds_hm {s : Bool} {k k' : IntKind} {h m : Int} {n c : Nat} (h0 : 0 ≤ h) (h1 : h ≤ m) (h2 : m ≤ c) : (Instr.sliceBounds s n c none (some (.int k h)) (some (.int k' m))).run P w = .ok (0, h.toNat, m.toNat) w := by
  have e1 : (Instr.sliceBound (.int k' m) c (if s then .slice3Acap else .slice3Alen)).run P w = .ok m.toNat w := bound_ok (by omega) h2
  have e2 : (Instr.sliceBound (.int k h) m.toNat .slice3B).run P w = .ok h.toNat w := bound_ok h0 (by omega)
  simp [Instr.sliceBounds, e1, e2]

theorem sliceOk_some {t : TypeId} {x : V} : (∃ s, sliceOk T t x = .sc (.string s) ∧ x = .sc (.string s) ∧ T.ty t = .c .tx) ∨ (∃ z xs e, sliceOk T t x = .sl z xs ∧ x = .sl z xs ∧ T.el t = some (e, z)) ∨
    (∃ k c m e z, sliceOk T t x = .ref k c m ∧ x = .ref k c m ∧ T.el t = some (e, z)) ∨ (∃ e z, sliceOk T t x = .nil ∧ x = .nil ∧ T.el t = some (e, z)) ∨
    (∃ k c m e z, sliceOk T t x = .sg k c m ∧ x = .sg k c m ∧ T.el t = some (e, z)) ∨ sliceOk T t x = .dead := by
  unfold sliceOk
  split
  · by_cases h : isStrTy (T.ty t) = true
    · rw [h]
      refine .inl ⟨_, rfl, rfl, ?_⟩
      unfold isStrTy at h
      split at h
      · assumption
      · cases h
    · rw [Bool.eq_false_iff.2 h]; exact .inr (.inr (.inr (.inr (.inr rfl))))
  · split
    · rename_i z xs _ e z' he
      by_cases h : Nat.beq z z' = true
      · rw [h]
        have := beq_nat.1 h
        subst this
        exact .inr (.inl ⟨_, _, e, rfl, rfl, he⟩)
      · rw [Bool.eq_false_iff.2 h]; exact .inr (.inr (.inr (.inr (.inr rfl))))
    · exact .inr (.inr (.inr (.inr (.inr rfl))))
  · split
    · rename_i q he
      exact .inr (.inr (.inl ⟨_, _, _, q.1, q.2, rfl, rfl, he⟩))
    · exact .inr (.inr (.inr (.inr (.inr rfl))))
  · split
    · rename_i q he
      exact .inr (.inr (.inr (.inr (.inl ⟨_, _, _, q.1, q.2, rfl, rfl, he⟩))))
    · exact .inr (.inr (.inr (.inr (.inr rfl))))
  · split
    · rename_i q he
      exact .inr (.inr (.inr (.inl ⟨q.1, q.2, rfl, rfl, he⟩)))
    · exact .inr (.inr (.inr (.inr (.inr rfl))))
  · exact .inr (.inr (.inr (.inr (.inr rfl))))
theorem exN_of {R : Type} {r : R} {xs : List V} {n : Nat} {K : V → Option R} (h : exN xs n K = some r) : ∃ x, xs[n]? = some x ∧ K x = some r := exN_some h
theorem sgEl_some {R : Type} {r : R} {σ : St} {k c i : Nat} {K : V → Option R} (h : sgEl (lkE σ) k c i K = some r) : ∃ l xs x, segAt (fun k => σ.ob.getD k .none) k c = some (l, xs) ∧ xs[i]? = some x ∧ K x = some r := by
  unfold sgEl at h
  split at h
  · rename_i l xs hs
    obtain ⟨x, hx, hK⟩ := exN_some h
    exact ⟨l, xs, x, segAt_eO hs, hx, hK⟩
  · cases h
theorem elL_some {R : Type} {r : R} {x : V} {K : List V → Option R} (h : elL x K = some r) : (x = .nil ∧ K [] = some r) ∨ ∃ ys, x = .own true 1 ys ∧ K ys = some r := by
  unfold elL at h
  split at h
  · exact .inr ⟨_, rfl, h⟩
  · exact .inl ⟨rfl, h⟩
  · cases h
theorem elO_some {R : Type} {r : R} {x : V} {K : List V → Option R} (h : elO x K = some r) : ∃ ys, x = .own true 1 ys ∧ K ys = some r := by
  unfold elO at h
  split at h
  · exact ⟨_, rfl, h⟩
  · cases h

theorem q_slice (hT : TOk P T) (h : Sim T.globL U w0 F0 σ a w ow) {t : TypeId} {p : Operand} {lo hi mx : Option Operand} (ho : o.op = .slice t p lo hi mx)
    (hk : (match sliceOk T t (val T σ p), lo.map (val T σ), hi.map (val T σ) with
    | .sc (.string s), none, some h => asI h fun h => chk (mx.isNone && decide (0 ≤ h) && decide (h ≤ s.size)) (K (.sc (.string (s.extract 0 h.toNat))) .none [])
    | .sc (.string s), some l, none => asI l fun l => chk (mx.isNone && decide (0 ≤ l) && decide (l ≤ s.size)) (K (.sc (.string (s.extract l.toNat s.size))) .none [])
    | .sc (.string s), some l, some h => asI l fun l => asI h fun h => chk (mx.isNone && decide (0 ≤ l) && decide (l ≤ h) && decide (h ≤ s.size)) (K (.sc (.string (s.extract l.toNat h.toNat))) .none [])
    | .sl z xs, none, some h => asI h fun h => chk (mx.isNone && decide (0 ≤ h) && decide (h ≤ xs.length)) (K (.sl z (xs.take h.toNat)) .none [])
    | .sl z xs, some l, none => asI l fun l => chk (mx.isNone && decide (0 ≤ l) && decide (l ≤ xs.length)) (K (.sl z (xs.drop l.toNat)) .none [])
    | .sl z xs, some l, some h => asI l fun l => asI h fun h => chk (mx.isNone && decide (0 ≤ l) && decide (l ≤ h) && decide (h ≤ xs.length)) (K (.sl z ((xs.take h.toNat).drop l.toNat)) .none [])
    | .ref k c m, none, some h => match obRow (lkE σ) k c with
      | some (_, _, xs) => asI h fun h => match mx.map (val T σ) with
        | none => chk (decide (0 ≤ h) && decide (h ≤ cutLen xs m)) (K (.ref k c (some h.toNat)) .none [])
        | some x => asI x fun x => chk (decide (x = h) && decide (0 ≤ h) && decide (h ≤ cutLen xs m)) (K (.ref k c (some h.toNat)) .none [])
      | none => none
    | .ref k c m, some l, none => match obRow (lkE σ) k c with
      | some (_, z, xs) => bif (match T.el t with | some (_, z') => Nat.beq z z' | none => false) then asI l fun l => chk (mx.isNone && decide (0 ≤ l) && decide (l ≤ cutLen xs m)) (K (.sl z ((cut xs m).drop l.toNat)) .none [(k, c)]) else none
      | none => none
    | .nil, none, some h => asI h fun h => chk (mx.isNone && decide (h = 0)) (K .nil .none [])
    | .sg k c (.el i), some l, none => bif (match T.el t with | some (_, z') => Nat.beq 1 z' | none => false) then sgEl (lkE σ) k c i fun x => elO x fun ys => asI l fun l => chk (mx.isNone && decide (0 ≤ l) && decide (l ≤ ys.length)) (K (.sg k c (.sub i l.toNat)) .none []) else none
    | _, _, _ => none) = some r) : Good P T U w0 F0 σ a w o d K r := by
  have arg : ∀ {q : Operand} {k n}, val T σ q = .sc (.int k n) → a.eval q = .int k n := fun hq => (val_sc h hq).1
  have finS : ∀ (s : ByteArray) (l hh m : Nat), sliceOk T t (val T σ p) = .sc (.string s) → mx = none → (Instr.sliceBounds false s.size s.size (lo.map a.eval) (hi.map a.eval) none).run P w = .ok (l, hh, m) w →
      K (.sc (.string (s.extract l hh))) .none [] = some r → Good P T U w0 F0 σ a w o d K r := fun s l hh m hs hm hb hK => by
    subst hm
    rcases @sliceOk_some T t (val T σ p) with ⟨s', e1, e2, e3⟩ | ⟨z, xs, e, e1, _⟩ | ⟨k, c, m, e, z, e1, _⟩ | ⟨e, z, e1, _⟩ | ⟨_, _, _, _, _, e1, _⟩ | e1 <;> rw [hs] at e1 <;> cases e1
    exact ⟨_, .none, [], hK, fun _ => done_plain h (exec_slice ho (by rw [(val_sc h e2).1]; exact run_cutS hT e3 s _ _ l hh m hb)) (FR.sc rfl : FR w (Fz U w ow σ.ob) [.string (s.extract l hh)] (.sc (.string (s.extract l hh))))⟩
  have finL : ∀ (z : Nat) (xs : List V) (f : Nat → Nat × Nat × Nat), sliceOk T t (val T σ p) = .sl z xs → mx = none →
      (∀ c, xs.length ≤ c → (Instr.sliceBounds true xs.length c (lo.map a.eval) (hi.map a.eval) none).run P w = .ok (f c) w ∧ (f c).2.2 = c) → (∀ c, xs.length ≤ c → (f c).1 ≤ (f c).2.1 ∧ (f c).2.1 ≤ xs.length ∧ f c = ((f xs.length).1, (f xs.length).2.1, c)) →
      K (.sl z ((xs.take (f xs.length).2.1).drop (f xs.length).1)) .none [] = some r → Good P T U w0 F0 σ a w o d K r := fun z xs f hs hm hb hf hK => by
    subst hm
    rcases @sliceOk_some T t (val T σ p) with ⟨s', e1, e2, e3⟩ | ⟨z', xs', e, e1, e2, e3⟩ | ⟨k, c, m, e, z, e1, _⟩ | ⟨e, z, e1, _⟩ | ⟨_, _, _, _, _, e1, _⟩ | e1 <;> rw [hs] at e1 <;> cases e1
    have hv := val_sr h p
    rw [e2] at hv
    have hv' : FR w (Fz U w ow σ.ob) [a.eval p] (.sl z xs) := hv
    obtain ⟨b, c, hu, hc⟩ := hv'.len
    rw [hu] at hv'
    obtain ⟨hb1, hb2⟩ := hb c hc
    obtain ⟨g1, g2, g3⟩ := hf c hc
    rw [g3] at hb1 g1 g2
    refine ⟨_, .none, [], hK, fun _ => done_plain h (exec_slice ho (by rw [hu]; exact run_cut hT e3 b _ c _ _ none _ _ _ hb1)) ?_⟩
    exact hv'.cut g1 g2 (fun hlt => by rw [if_neg (by omega)])
  split at hk
  · rename_i s x hs hlo hhi
    obtain ⟨k, n, hx, hk2⟩ := asI_some hk
    obtain ⟨hc, hK⟩ := chk_some hk2
    simp only [Bool.and_eq_true, decide_eq_true_eq, Option.isNone_iff_eq_none] at hc
    obtain ⟨q, hq, rfl⟩ := Option.map_eq_some_iff.1 hhi
    have hlo' := Option.map_eq_none_iff.1 hlo
    exact finS s 0 n.toNat _ hs hc.1.1 (by rw [hlo', hq]; simp only [Option.map_some, Option.map_none, arg hx]; exact bounds_h hc.1.2 hc.2) hK
  · rename_i s x hs hlo hhi
    obtain ⟨k, n, hx, hk2⟩ := asI_some hk
    obtain ⟨hc, hK⟩ := chk_some hk2
    simp only [Bool.and_eq_true, decide_eq_true_eq, Option.isNone_iff_eq_none] at hc
    obtain ⟨q, hq, rfl⟩ := Option.map_eq_some_iff.1 hlo
    have hhi' := Option.map_eq_none_iff.1 hhi
    exact finS s n.toNat s.size _ hs hc.1.1 (by rw [hhi', hq]; simp only [Option.map_some, Option.map_none, arg hx]; exact bounds_l hc.1.2 hc.2) hK
  · rename_i s x y hs hlo hhi
    obtain ⟨k, n, hx, hk2⟩ := asI_some hk
    obtain ⟨k', n', hy, hk3⟩ := asI_some hk2
    obtain ⟨hc, hK⟩ := chk_some hk3
    simp only [Bool.and_eq_true, decide_eq_true_eq, Option.isNone_iff_eq_none] at hc
    obtain ⟨q, hq, rfl⟩ := Option.map_eq_some_iff.1 hlo
    obtain ⟨q', hq', rfl⟩ := Option.map_eq_some_iff.1 hhi
    exact finS s n.toNat n'.toNat _ hs hc.1.1.1 (by rw [hq', hq]; simp only [Option.map_some, arg hx, arg hy]; exact bounds_lh hc.1.1.2 hc.1.2 hc.2) hK
  · rename_i z xs x hs hlo hhi
    obtain ⟨k, n, hx, hk2⟩ := asI_some hk
    obtain ⟨hc, hK⟩ := chk_some hk2
    simp only [Bool.and_eq_true, decide_eq_true_eq, Option.isNone_iff_eq_none] at hc
    obtain ⟨q, hq, rfl⟩ := Option.map_eq_some_iff.1 hhi
    have hlo' := Option.map_eq_none_iff.1 hlo
    exact finL z xs (fun c => (0, n.toNat, c)) hs hc.1.1 (fun c hcc => ⟨by rw [hlo', hq]; simp only [Option.map_some, Option.map_none, arg hx]; exact bounds_h hc.1.2 (by omega), rfl⟩) (fun c hcc => ⟨Nat.zero_le _, by simp only; omega, rfl⟩) (by simpa using hK)
  · rename_i z xs x hs hlo hhi
    obtain ⟨k, n, hx, hk2⟩ := asI_some hk
    obtain ⟨hc, hK⟩ := chk_some hk2
    simp only [Bool.and_eq_true, decide_eq_true_eq, Option.isNone_iff_eq_none] at hc
    obtain ⟨q, hq, rfl⟩ := Option.map_eq_some_iff.1 hlo
    have hhi' := Option.map_eq_none_iff.1 hhi
    exact finL z xs (fun c => (n.toNat, xs.length, c)) hs hc.1.1 (fun c hcc => ⟨by rw [hhi', hq]; simp only [Option.map_some, Option.map_none, arg hx]; exact bounds_l hc.1.2 hc.2, rfl⟩) (fun c hcc => ⟨by simp only; omega, Nat.le_refl _, rfl⟩) (by simpa using hK)
  · rename_i z xs x y hs hlo hhi
    obtain ⟨k, n, hx, hk2⟩ := asI_some hk
    obtain ⟨k', n', hy, hk3⟩ := asI_some hk2
    obtain ⟨hc, hK⟩ := chk_some hk3
    simp only [Bool.and_eq_true, decide_eq_true_eq, Option.isNone_iff_eq_none] at hc
    obtain ⟨q, hq, rfl⟩ := Option.map_eq_some_iff.1 hlo
    obtain ⟨q', hq', rfl⟩ := Option.map_eq_some_iff.1 hhi
    exact finL z xs (fun c => (n.toNat, n'.toNat, c)) hs hc.1.1.1 (fun c hcc => ⟨by rw [hq', hq]; simp only [Option.map_some, arg hx, arg hy]; exact bounds_lh hc.1.1.2 hc.1.2 (by omega), rfl⟩) (fun c hcc => ⟨by simp only; omega, by simp only; omega, rfl⟩) hK
  · rename_i k c m x hs hlo hhi
    split at hk
    · rename_i oo z xs hr
      obtain ⟨o', hr'⟩ := obRow_eO hr
      have hr'' : obRow (fun k => σ.ob.getD k .none) k c = some (o', z, xs) := hr'
      obtain ⟨ik, n, hx, hk2⟩ := asI_some hk
      obtain ⟨q, hq, rfl⟩ := Option.map_eq_some_iff.1 hhi
      have hlo' := Option.map_eq_none_iff.1 hlo
      rcases @sliceOk_some T t (val T σ p) with ⟨s', e1, e2, e3⟩ | ⟨z', xs', e, e1, e2, e3⟩ | ⟨k', c', m', e, ze, e1, e2, e3⟩ | ⟨e, z, e1, _⟩ | ⟨_, _, _, _, _, e1, _⟩ | e1 <;> rw [hs] at e1 <;> cases e1
      have hv := val_sr h p
      rw [e2] at hv
      obtain ⟨o3, z3, xs3, cp, f1, f2, f3, f4, f5⟩ := hv
      rw [hr''] at f1
      cases f1
      split at hk2
      · rename_i hmx
        have hmx' := Option.map_eq_none_iff.1 hmx
        obtain ⟨hc, hK⟩ := chk_some hk2
        simp only [Bool.and_eq_true, decide_eq_true_eq] at hc
        refine ⟨_, .none, [], hK, fun _ => done_plain h (exec_slice ho (by rw [f2, hlo', hq, hmx']; simp only [Option.map_some, Option.map_none, arg hx]; exact run_cut hT e3 _ _ _ _ _ _ _ _ _ (bounds_h hc.1 (by omega)))) ?_⟩
        refine ⟨o', z, xs, cp, hr'', ?_, by show n.toNat ≤ _; omega, by show n.toNat ≤ _; omega, f5⟩
        show Value.slice _ _ _ = .slice _ _ _
        simp [cutLen, add_addr]
      · rename_i y hmx
        obtain ⟨qm, hqm, rfl⟩ := Option.map_eq_some_iff.1 hmx
        obtain ⟨ik', n', hy, hk3⟩ := asI_some hk2
        obtain ⟨hc, hK⟩ := chk_some hk3
        simp only [Bool.and_eq_true, decide_eq_true_eq] at hc
        refine ⟨_, .none, [], hK, fun _ => done_plain h (exec_slice ho (by rw [f2, hlo', hq, hqm]; simp only [Option.map_some, Option.map_none, arg hx, arg hy]; exact run_cut hT e3 _ _ _ _ _ _ _ _ _ (bounds_hm hc.1.2 (by omega) (by omega)))) ?_⟩
        refine ⟨o', z, xs, n'.toNat, hr'', ?_, by show n.toNat ≤ _; omega, by show n.toNat ≤ n'.toNat; omega, fun j hj => f5 j (Nat.lt_of_lt_of_le hj (Nat.mul_le_mul_right _ (by omega)))⟩
        show Value.slice _ _ _ = .slice _ _ _
        simp [cutLen, add_addr]
    · cases hk
  · rename_i k c m x hs hlo hhi
    split at hk
    · rename_i oo z xs hr
      obtain ⟨o', hr'⟩ := obRow_eO hr
      have hr'' : obRow (fun k => σ.ob.getD k .none) k c = some (o', z, xs) := hr'
      obtain ⟨hz, hk1⟩ := bif_some hk
      obtain ⟨ik, n, hx, hk2⟩ := asI_some hk1
      obtain ⟨q, hq, rfl⟩ := Option.map_eq_some_iff.1 hlo
      have hhi' := Option.map_eq_none_iff.1 hhi
      rcases @sliceOk_some T t (val T σ p) with ⟨s', e1, e2, e3⟩ | ⟨z', xs', e, e1, e2, e3⟩ | ⟨k', c', m', e, ze, e1, e2, e3⟩ | ⟨e, z, e1, _⟩ | ⟨_, _, _, _, _, e1, _⟩ | e1 <;> rw [hs] at e1 <;> cases e1
      rw [e3] at hz
      have hz := beq_nat.1 hz
      subst hz
      have hv := val_sr h p
      rw [e2] at hv
      have hsl := SC.sealed h.ho (s := [(k, c)]) hv hr'' (by simp)
      obtain ⟨o3, z3, xs3, cp, f1, f2, f3, f4, f5⟩ := hv
      rw [hr''] at f1
      cases f1
      obtain ⟨hc, hK⟩ := chk_some hk2
      simp only [Bool.and_eq_true, decide_eq_true_eq, Option.isNone_iff_eq_none] at hc
      rw [f2] at hsl
      have hrun := run_cut (w := w) hT e3 (some ⟨ow k c, 0, none⟩) (cutLen xs m) cp (some (.int ik n)) none none _ _ _ (bounds_l hc.1.2 hc.2)
      refine ⟨_, .none, [(k, c)], hK, fun _ => ⟨_, w, ow, exec_slice ho (by rw [f2, hhi', hq, hc.1.1]; simp only [Option.map_some, Option.map_none, arg hx]; exact hrun), (h.freeze [(k, c)]).put d fun _ => ?_⟩⟩
      have hcut := hsl.cut (l := n.toNat) (hh := cutLen xs m) (by omega) (Nat.le_refl _) (b' := if cp = n.toNat then some ⟨ow k c, 0, none⟩ else (some ⟨ow k c, 0, none⟩ : Option Addr).map (·.add (n.toNat * z))) (fun hlt => by rw [if_neg (by omega)])
      rw [List.take_of_length_le (by rw [length_cut f3]; exact Nat.le_refl _)] at hcut
      exact hcut
    · cases hk
  · rename_i x hs hlo hhi
    obtain ⟨ik, n, hx, hk2⟩ := asI_some hk
    obtain ⟨hc, hK⟩ := chk_some hk2
    simp only [Bool.and_eq_true, decide_eq_true_eq, Option.isNone_iff_eq_none] at hc
    obtain ⟨q, hq, rfl⟩ := Option.map_eq_some_iff.1 hhi
    have hlo' := Option.map_eq_none_iff.1 hlo
    rcases @sliceOk_some T t (val T σ p) with ⟨s', e1, e2, e3⟩ | ⟨z', xs', e, e1, e2, e3⟩ | ⟨k', c', m', e, ze, e1, e2, e3⟩ | ⟨e, z, e1, e2, e3⟩ | ⟨_, _, _, _, _, e1, _⟩ | e1 <;> rw [hs] at e1 <;> cases e1
    have hv := val_sr h p
    rw [e2] at hv
    have hv' : FR w (Fz U w ow σ.ob) [a.eval p] .nil := hv
    generalize hu : a.eval p = u at hv'
    cases hv' with
    | nil =>
      have hrun := run_cut (w := w) hT e3 none 0 0 none (some (.int ik n)) none 0 n.toNat 0 (bounds_h (by omega) (by omega))
      have : n.toNat = 0 := by omega
      rw [this] at hrun
      refine ⟨_, .none, [], hK, fun _ => done_plain h (exec_slice ho (by rw [hu, hlo', hq, hc.1]; simp only [Option.map_some, Option.map_none, arg hx]; exact hrun)) ?_⟩
      show FR _ _ [_] .nil
      exact .nil
  · rename_i k c i x hs hlo hhi
    obtain ⟨hz, hk⟩ := bif_some hk
    obtain ⟨l, xs, e, h1, h2, hk⟩ := sgEl_some hk
    obtain ⟨ys, rfl, hk⟩ := elO_some hk
    obtain ⟨ik, n, hx, hk⟩ := asI_some hk
    obtain ⟨hc, hK⟩ := chk_some hk
    simp only [Bool.and_eq_true, decide_eq_true_eq, Option.isNone_iff_eq_none] at hc
    obtain ⟨q, hq, rfl⟩ := Option.map_eq_some_iff.1 hlo
    have hhi' := Option.map_eq_none_iff.1 hhi
    rcases @sliceOk_some T t (val T σ p) with ⟨s', e1, e2, e3⟩ | ⟨z', xs', e, e1, e2, e3⟩ | ⟨k', c', m', e, ze, e1, e2, e3⟩ | ⟨e, z, e1, e2, e3⟩ | ⟨k', c', m', e, ze, e1, e2, e3⟩ | e1 <;> rw [hs] at e1 <;> cases e1
    rw [e3] at hz
    have hz := beq_nat.1 hz
    subst hz
    have hv := val_sr h p
    rw [e2] at hv
    obtain ⟨h64, l', xs', x', g1, g2, g3⟩ := hv
    rw [h1] at g1
    cases g1
    rw [h2] at g2
    cases g2
    rcases g3 with ⟨g3, _⟩ | ⟨ys', cp, g0, g3, g4, g5⟩
    · cases g3
    cases g0
    have hrun := run_cut (w := w) hT e3 (some ⟨ow k (some (enc c i)), 0, none⟩) ys.length cp (some (.int ik n)) none none _ _ _ (bounds_l hc.1.2 hc.2)
    refine ⟨_, .none, [], hK, fun _ => done_plain h (exec_slice ho (by rw [g3, hhi', hq, hc.1.1]; simp only [Option.map_some, Option.map_none, arg hx]; exact hrun)) ?_⟩
    by_cases hcn : cp = n.toNat
    · refine ⟨h64, l, xs, ys, cp - n.toNat, h1, h2, by omega, 0, by rw [if_pos hcn], fun hlt => by omega⟩
    · refine ⟨h64, l, xs, ys, cp - n.toNat, h1, h2, by omega, n.toNat, by rw [if_neg hcn]; simp [add_addr], fun _ => rfl⟩
  · cases hk
end
end Go.Proofs.YtaapkkeogajfpaaDoor.VM

/- The abstract machine and the memory: conversions, literals, new rows, function values, builtins. -/
set_option linter.unusedVariables false
set_option linter.unusedSimpArgs false
namespace Go.Proofs.YtaapkkeogajfpaaDoor.VM
open Go.RowKit

section
variable {P : Program} {T : TT} {U : Nat → Prop} {w0 w : World} {F0 : Fr} {σ : St} {a : Act} {ow : Own} {R : Type} {r : R}
variable {o : Oper} {d : Nat} {K : V → Ob → List (Nat × Option Nat) → Option R}

theorem intTy_some {t : Ty} {k : IntKind} (h : intTy t = some k) : t = .c (.i k) := by
  unfold intTy at h
  split at h
  · cases h; rfl
  · cases h
theorem tyInt (hT : TOk P T) {t : TypeId} {k : IntKind} (h : intTy (T.ty t) = some k) : P.underlying t = some (.int k) := by
  obtain ⟨dd, i, h1, _, _, _, h2⟩ := hT.tyc t _ (intTy_some h)
  have h2 : dd = .int k := h2
  rw [h1, h2]
theorem isStr_some {t : Ty} (h : isStrTy t = true) : t = .c .tx := by
  unfold isStrTy at h
  split at h
  · rfl
  · cases h

theorem unBytes_some : ∀ {xs : List V} {K : List UInt8 → Option R}, unBytes xs K = some r → ∃ ns : List Int, xs = ns.map (fun n => .sc (.int .u8 n)) ∧ K (ns.map fun n => UInt8.ofNat n.toNat) = some r
  | [], K, h => ⟨[], rfl, h⟩
  | x :: xs, K, h => by
    unfold unBytes at h
    obtain ⟨m, rfl, h1⟩ := unI_some h
    obtain ⟨ns, rfl, h2⟩ := unBytes_some h1
    exact ⟨m :: ns, rfl, h2⟩

theorem FR.sc_inv {A : Nat → Prop} {cs : List Value} {u : Value} (h : FR w A cs (.sc u)) : cs = [u] := by
  cases h; rfl

theorem FR.bytes {A : Nat → Prop} {u : Value} {ns : List Int} (h : FR w A [u] (.sl 1 (ns.map fun n => .sc (.int .u8 n)))) :
    ∃ b c, u = .slice b ns.length c ∧ ((b = none ∧ ns = []) ∨ ns = [] ∨ ∃ bb off, b = some ⟨bb, off, none⟩ ∧ ∀ i, i < ns.length → w.cell? ⟨bb, off + i, none⟩ = some (.int .u8 (ns.getD i 0))) := by
  cases h with
  | sl bb off ec hn hc ha hl hx =>
    simp only [List.length_map] at hn
    subst hn
    refine ⟨_, _, rfl, ?_⟩
    rcases Nat.eq_zero_or_pos ns.length with h0 | h0
    · exact .inr (.inl (List.eq_nil_of_length_eq_zero h0))
    · refine .inr (.inr ⟨bb, off, (ha h0).1, fun i hi => ?_⟩)
      obtain ⟨h1, h2⟩ := hl i hi
      have hx' := hx i (.sc (.int .u8 (ns.getD i 0))) (by simp [List.getElem?_map, List.getD_eq_getElem?_getD, List.getElem?_eq_getElem hi])
      rw [hx'.sc_inv] at h2
      have := h2 0 _ rfl
      simpa using this

/-- bytes of a text, in a row of their own -/
theorem q_bytes (hT : TOk P T) (h : Sim T.globL U w0 F0 σ a w ow) {s t : TypeId} {x : Operand} (ho : o.op = .convert s t x) (h1 : isStrTy (T.ty s) = true) (h2 : memN T.u8L t = true)
    {b : ByteArray} (hx : val T σ x = .sc (.string b)) (hK : K (.ref d none none) (.row true 1 (bytesV b)) [] = some r) : Good P T U w0 F0 σ a w o d K r := by
  obtain ⟨e, hd, he⟩ := hT.u8 t h2
  obtain ⟨dd, ii, hs, _⟩ := hT.tyc s _ (isStr_some h1)
  refine ⟨_, _, _, hK, fun hd0 => ?_⟩
  have hd2 : σ.ob.getD d .none = .none ∧ F0.pn d = none := by rcases hd0 with hd0 | hd0; cases hd0; exact hd0
  have hrun := Lib.run_convert_string_bytes (P := P) w s t e b hs hd he
  have hcap : b.size ≤ grownCap w b.size 0 e := grownCap_ge w b.size 0 e
  have hlen : (bytesV b).length = b.size := by unfold bytesV; rw [List.length_map]; rfl
  refine ⟨_, _, upd ow d (fun _ => w.heap.size), exec_convert ho (by rw [(val_sc h hx).1]; exact hrun), ?_⟩
  have hext : Ext w (Lib.bytesWorld w e b) (fun _ => False) := ⟨rfl, rfl, rfl, by rw [Lib.bytesWorld_size]; omega, fun k hk _ => Lib.bytesWorld_at_old w e b k hk⟩
  have hsz : (Lib.bytesCells w e b).size = grownCap w b.size 0 e := by
    unfold Lib.bytesCells
    rw [Array.size_append, Array.size_map, Array.size_replicate]
    show b.size + _ = _
    omega
  have hth : Th (Lib.bytesWorld w e b) w.heap.size (grownCap w b.size 0 e) := fun j hj => by
    have hb := Lib.bytesWorld_at_new w e b
    rw [Nat.zero_add]
    constructor
    · simp only [World.cell?, hb]
      rw [Array.getElem?_eq_getElem (by omega)]; rfl
    · simp only [World.frozen?, hb]
      rw [decide_eq_false (show ¬ (Lib.bytesCells w e b).size ≤ j by omega)]; rfl
  have hnr := h.newRowW d hd2.1 hd2.2 hext (by rw [Lib.bytesWorld_size]; omega) 1 (grownCap w b.size 0 e) (bytesV b) (by rw [hlen]; exact hcap) (by rw [Nat.mul_one]; exact hth) (fun i v hv => by
    have hi : i < b.size := by rw [← hlen]; exact (List.getElem?_eq_some_iff.1 hv).1
    have hv2 : v = .sc (.int .u8 ((b.data.toList.getD i 0).toNat : Int)) := by
      unfold bytesV at hv
      rw [List.getElem?_map, List.getElem?_eq_getElem (show i < b.data.toList.length from hi)] at hv
      rw [List.getD_eq_getElem?_getD, List.getElem?_eq_getElem (show i < b.data.toList.length from hi)]
      exact (Option.some.inj hv).symm
    refine ⟨[.int .u8 ((b.data.toList.getD i 0).toNat : Int)], rfl, fun j u hj => ?_, by rw [hv2]; exact .sc rfl⟩
    cases j with
    | zero =>
      cases hj
      rw [Nat.mul_one]
      exact Lib.bytesWorld_cell w e b i hi
    | succ j => cases hj)
  rw [hlen] at hnr
  exact hnr
theorem q_convert (hT : TOk P T) (h : Sim T.globL U w0 F0 σ a w ow) {s t : TypeId} {x : Operand} (ho : o.op = .convert s t x)
    (hk : (match intTy (T.ty s), intTy (T.ty t) with
    | some _, some k => asI (val T σ x) fun n => K (.sc (.int k (k.wrap n))) .none []
    | _, _ => bif memN T.u8L s && isStrTy (T.ty t) then asBytes (lkE σ) (val T σ x) fun xs => unBytes xs fun l => K (.sc (.string ⟨l.toArray⟩)) .none [] else
      bif isStrTy (T.ty s) && memN T.u8L t then unS (val T σ x) fun b => K (.ref d none none) (.row true 1 (bytesV b)) [] else none) = some r) : Good P T U w0 F0 σ a w o d K r := by
  split at hk
  · rename_i k0 k hs ht
    obtain ⟨ik, n, hx, hK⟩ := asI_some hk
    refine ⟨_, .none, [], hK, fun _ => done_plain h (exec_convert ho (u := .int k (k.wrap n)) ?_) (FR.sc rfl : FR w (Fz U w ow σ.ob) [.int k (k.wrap n)] _)⟩
    rw [(val_sc h hx).1]
    simp [convert, run_underlying (tyInt hT hs), run_underlying (tyInt hT ht), Conv.intToInt]
  · cases hq0 : memN T.u8L s && isStrTy (T.ty t) with
    | false =>
      rw [hq0] at hk
      obtain ⟨h0, hk2⟩ := bif_some hk
      rw [Bool.and_eq_true] at h0
      obtain ⟨b, hx, hK⟩ := unS_some hk2
      exact q_bytes hT h ho h0.1 h0.2 hx hK
    | true =>
    rw [hq0] at hk
    have h0 := hq0
    have hk2 : asBytes (lkE σ) (val T σ x) (fun xs => unBytes xs fun l => K (.sc (.string ⟨l.toArray⟩)) .none []) = some r := hk
    simp only [Bool.and_eq_true] at h0
    obtain ⟨e, hs, he⟩ := hT.u8 s h0.1
    obtain ⟨dd, ii, hd, _, _, _, hd2⟩ := hT.tyc t _ (isStr_some h0.2)
    have hd2 : dd = .string := hd2
    subst hd2
    have hv := val_sr h x
    have fin : ∀ ns : List Int, K (.sc (.string ⟨(ns.map fun n => UInt8.ofNat n.toNat).toArray⟩)) .none [] = some r →
        (∃ b c, a.eval x = .slice b ns.length c ∧ ((b = none ∧ ns = []) ∨ ns = [] ∨ ∃ bb off, b = some ⟨bb, off, none⟩ ∧ ∀ i, i < ns.length → w.cell? ⟨bb, off + i, none⟩ = some (.int .u8 (ns.getD i 0)))) → Good P T U w0 F0 σ a w o d K r := by
      rintro ns hK ⟨b, c, hu, hcs⟩
      refine ⟨_, .none, [], hK, fun _ => done_plain h (exec_convert ho (u := .string ⟨(ns.map fun n : Int => UInt8.ofNat n.toNat).toArray⟩) ?_) (FR.sc rfl : FR w (Fz U w ow σ.ob) [.string ⟨(ns.map fun n => UInt8.ofNat n.toNat).toArray⟩] (.sc (.string ⟨(ns.map fun n => UInt8.ofNat n.toNat).toArray⟩)))⟩
      rw [hu]
      rcases hcs with ⟨rfl, rfl⟩ | rfl | ⟨bb, off, rfl, hc⟩
      · exact run_convert_bytes_nil w s e hs he 0 c t hd
      · rw [run_convert_bytes_string w s t e b _ c hs he hd]
        cases b with
        | none => simp [Conv.bytesToString]; rfl
        | some b => simp [Conv.bytesToString, loadCells]; rfl
      · exact run_convert_bytes_arg w s e hs he bb off _ c ns rfl hc t hd
    unfold asBytes at hk2
    split at hk2
    · rename_i k c i hx
      obtain ⟨l, xs, y, h1, h2, hk3⟩ := sgEl_some hk2
      rw [hx] at hv
      obtain ⟨h64, l', xs', y', e1, e2, e3⟩ := hv
      rw [h1] at e1
      cases e1
      rw [h2] at e2
      cases e2
      rcases elL_some hk3 with ⟨rfl, hk4⟩ | ⟨ys, rfl, hk4⟩
      · obtain ⟨ns, hns, hK⟩ := unBytes_some hk4
        have : ns = [] := by cases ns <;> first | rfl | cases hns
        subst this
        refine fin [] hK ?_
        rcases e3 with ⟨_, e3⟩ | ⟨_, _, e3, _⟩
        · exact ⟨none, 0, e3, .inl ⟨rfl, rfl⟩⟩
        · cases e3
      · obtain ⟨ns, rfl, hK⟩ := unBytes_some hk4
        rcases e3 with ⟨e3, _⟩ | ⟨ys', cp, e3, e4, _, _⟩
        · cases e3
        cases e3
        obtain ⟨v, _, hseg⟩ := h.seg h1
        rcases hseg.el i _ h2 with hn | ⟨ys', cc, hn, hrow⟩
        · cases hn
        cases hn
        refine fin ns hK ⟨_, cp, by rw [e4, List.length_map], .inr (.inr ⟨_, _, rfl, fun q hq => ?_⟩)⟩
        have hxq : (ns.map fun n => V.sc (.int .u8 n))[q]? = some (.sc (.int .u8 (ns.getD q 0))) := by
          rw [List.getElem?_map, List.getElem?_eq_getElem hq]
          simp [List.getD_eq_getElem?_getD, List.getElem?_eq_getElem hq]
        obtain ⟨ecs, g1, g2, g3⟩ := hrow.at_ q _ hxq
        cases g3 with
        | sc _ => have := g2 0 _ rfl; simpa using this
    unfold asList at hk2
    split at hk2
    · rename_i z xs hx
      obtain ⟨hz, hk3⟩ := bif_some hk2
      have := beq_nat.1 hz
      subst this
      obtain ⟨ns, rfl, hK⟩ := unBytes_some hk3
      rw [hx] at hv
      exact fin ns hK (FR.bytes hv)
    · rename_i hx
      rw [hx] at hv
      have hv' : FR w (Fz U w ow σ.ob) [a.eval x] .nil := hv
      obtain ⟨ns, hns, hK⟩ := unBytes_some hk2
      have : ns = [] := by cases ns <;> first | rfl | cases hns
      subst this
      refine fin [] hK ?_
      generalize a.eval x = u at hv'
      cases hv'
      exact ⟨none, 0, rfl, .inl ⟨rfl, rfl⟩⟩
    · rename_i k c m hx
      split at hk2
      · rename_i oo z xs hr
        obtain ⟨o', hr'⟩ := obRow_eO hr
        obtain ⟨hz, hk3⟩ := bif_some hk2
        have := beq_nat.1 hz
        subst this
        obtain ⟨ns, hns, hK⟩ := unBytes_some hk3
        rw [hx] at hv
        obtain ⟨o3, z3, xs3, cp, f1, f2, f3, f4, f5⟩ := hv
        have hr'' : obRow (fun k => σ.ob.getD k .none) k c = some (o', 1, xs) := hr'
        rw [hr''] at f1
        cases f1
        obtain ⟨cc, hrow⟩ := h.ho.row hr''
        have hlen : ns.length = cutLen xs m := by rw [← length_cut f3, hns, List.length_map]
        refine fin ns hK ⟨_, cp, by rw [f2, hlen], .inr (.inr ⟨_, _, rfl, fun i hi => ?_⟩)⟩
        have hxi : (cut xs m)[i]? = some (.sc (.int .u8 (ns.getD i 0))) := by
          rw [hns]; simp [List.getElem?_map, List.getD_eq_getElem?_getD, List.getElem?_eq_getElem hi]
        obtain ⟨ecs, g1, g2, g3⟩ := hrow.at_ i _ (getElem?_cut hxi)
        rw [g3.sc_inv] at g2
        have := g2 0 _ rfl
        simpa using this
      · cases hk2
    · cases hk2

theorem oneOr_fr {A : Nat → Prop} {ecs : List Value} {cs : List V} (hl : ecs.length = cs.length) (h : ∀ (j : Nat) v c, ecs[j]? = some v → cs[j]? = some c → FR w A [v] c) : FR w A ecs (oneOr cs) := by
  unfold oneOr
  split
  · match ecs, hl with
    | [v], _ => exact h 0 v _ rfl rfl
  · exact .st hl h

theorem zero_fr (hT : TOk P T) {A : Nat → Prop} {t : TypeId} {cs : List V} (hz : T.zero t = some cs) : ∃ i v, P.info? t = some i ∧ i.zero = some v ∧ v.cells.size = i.size ∧ i.size = cs.length ∧ FR w A v.cells.toList (oneOr cs) := by
  obtain ⟨i, v, h1, h2, h3, h4, h5⟩ := hT.zero t cs hz
  have hl : v.cells.toList.length = cs.length := by rw [← h3]; simp
  refine ⟨i, v, h1, h2, by rw [← Array.length_toList]; omega, h5, oneOr_fr hl fun j u c hu hc => ?_⟩
  rw [← h3, List.getElem?_map, hu] at hc
  have hc' : c = constC u := by simpa using hc.symm
  subst hc'
  exact (constC_fr u (h4 _ (by rw [← h3]; exact List.mem_map_of_mem (List.mem_of_getElem? hu)))).2

theorem madeCells_at {z : Array Value} {n i j : Nat} {v : Value} (hj : z.toList[j]? = some v) (hi : i * z.size + j < n) : (madeCells z n)[i * z.size + j]? = some v := by
  have hjl : j < z.size := by have := (List.getElem?_eq_some_iff.1 hj).1; simpa using this
  have hm : (i * z.size + j) % z.size = j := by rw [Nat.mul_comm, Nat.mul_add_mod]; exact Nat.mod_eq_of_lt hjl
  simp only [madeCells, Array.getElem?_map]
  rw [Array.getElem?_range, if_pos hi]
  simp only [Option.map_some, hm, Option.some.injEq]
  rw [Array.getElem?_toList] at hj
  simp [getElem!_def, hj]

theorem rows_made {A : Nat → Prop} {zc : Array Value} {n : Nat} {x : V} (hx : FR w A zc.toList x) (i : Nat) (y : V) (hy : (List.replicate n x)[i]? = some y) :
    ∃ ecs, ecs.length = zc.size ∧ (∀ (j : Nat) v, ecs[j]? = some v → (madeCells zc (n * zc.size))[i * zc.size + j]? = some v) ∧ FR w A ecs y := by
  have hi : i < n := by have := (List.getElem?_eq_some_iff.1 hy).1; simpa using this
  rw [List.getElem?_replicate, if_pos hi] at hy
  cases hy
  refine ⟨zc.toList, by simp, fun j v hj => madeCells_at hj ?_, hx⟩
  have hjl : j < zc.size := by have := (List.getElem?_eq_some_iff.1 hj).1; simpa using this
  have : i * zc.size + zc.size ≤ n * zc.size := by rw [← Nat.succ_mul]; exact Nat.mul_le_mul_right _ hi
  omega

theorem q_makeSlice (hT : TOk P T) (h : Sim T.globL U w0 F0 σ a w ow) {t : TypeId} {l c : Operand} (ho : o.op = .makeSlice t l c)
    (hk : (match T.el t with
    | some (e, z) => match T.zero e, T.esz e with
      | some zs, some by_ => asI (val T σ l) fun n => asI (val T σ c) fun m => chk (decide (0 ≤ n) && decide (n = m) && decide (n.toNat * by_ ≤ 140737488355328)) (K (.ref d none none) (.row true z (List.replicate n.toNat (oneOr zs))) [])
      | _, _ => none
    | none => none) = some r) : Good P T U w0 F0 σ a w o d K r := by
  split at hk
  · rename_i e z hel
    split at hk
    · rename_i zs by_ hz hb
      obtain ⟨k1, n, hl, hk2⟩ := asI_some hk
      obtain ⟨k2, m, hm, hk3⟩ := asI_some hk2
      obtain ⟨hc, hK⟩ := chk_some hk3
      simp only [Bool.and_eq_true, decide_eq_true_eq] at hc
      obtain ⟨⟨h0, rfl⟩, hle⟩ := hc
      obtain ⟨i1, g1, g2, g3, g4⟩ := hT.el t e z hel
      obtain ⟨i2, v, f1, f2, f3, f4, f5⟩ := zero_fr (w := w) (A := Fz U w ow σ.ob) hT hz
      obtain ⟨i3, b1, b2, b3⟩ := hT.esz e by_ hb
      rw [g2] at f1 b1
      cases f1; cases b1
      refine ⟨_, _, _, hK, fun hd => ?_⟩
      have hd2 : σ.ob.getD d .none = .none ∧ F0.pn d = none := by rcases hd with hd | hd; cases hd; exact hd
      have hd' := hd2.1
      obtain ⟨n', rfl⟩ : ∃ n' : Nat, n = n' := ⟨n.toNat, by omega⟩
      simp only [Int.toNat_natCast] at hle ⊢
      have hby : (i1.bytes : Int) * (n' : Int) ≤ 281474976710656 := by
        have : ((i1.bytes * n' : Nat) : Int) ≤ 281474976710656 := by
          rw [Nat.mul_comm, b2]; omega
        rwa [Int.natCast_mul] at this
      have h63 : (n' : Int) ≤ 9223372036854775807 := by
        have := Nat.le_mul_of_pos_right n' b3
        omega
      have hrun := run_make (P := P) w t e i1 v g1 g2 f2 k1 k2 n' n' (by omega) (by omega) hby h63
      simp only [Int.toNat_natCast] at hrun
      refine ⟨_, _, upd ow d (fun _ => w.heap.size), exec_makeSlice ho (by rw [(val_sc h hl).1, (val_sc h hm).1]; exact hrun), ?_⟩
      have hnr := h.newRow d hd' hd2.2 (madeCells v.cells (n' * i1.size)) e z n' (List.replicate n' (oneOr zs)) (by simp) (by rw [size_madeCells, g3]; exact Nat.le_refl _) (fun i x hx => by
        obtain ⟨ecs, q1, q2, q3⟩ := rows_made f5 i x hx
        rw [f3, g3] at q1 q2
        exact ⟨ecs, q1, by rw [g3]; exact q2, q3⟩)
      rw [List.length_replicate] at hnr
      exact hnr
    · cases hk
  · cases hk

/-! ### literals -/
theorem foldl_set (off : Nat) : ∀ (l : List Value) (j0 : Nat) (arr : Array Value), off + j0 + l.length ≤ arr.size →
    ((l.zipIdx j0).foldl (fun cs (p : Value × Nat) => cs.setIfInBounds (off + p.2) p.1) arr).size = arr.size ∧
    ∀ q, ((l.zipIdx j0).foldl (fun cs (p : Value × Nat) => cs.setIfInBounds (off + p.2) p.1) arr)[q]? = if off + j0 ≤ q ∧ q < off + j0 + l.length then l[q - (off + j0)]? else arr[q]?
  | [], j0, arr, _ => ⟨rfl, fun q => by rw [if_neg (by simp only [List.length_nil]; omega)]; rfl⟩
  | v :: l, j0, arr, h => by
    simp only [List.length_cons] at h
    simp only [List.zipIdx_cons, List.foldl_cons]
    obtain ⟨h1, h2⟩ := foldl_set off l (j0 + 1) (arr.setIfInBounds (off + j0) v) (by simp; omega)
    refine ⟨by rw [h1]; simp, fun q => ?_⟩
    rw [h2 q]
    simp only [List.length_cons]
    by_cases hq : off + (j0 + 1) ≤ q ∧ q < off + (j0 + 1) + l.length
    · rw [if_pos hq, if_pos (by omega), show q - (off + j0) = (q - (off + (j0 + 1))) + 1 by omega, List.getElem?_cons_succ]
    · rw [if_neg hq]
      by_cases hq0 : q = off + j0
      · subst hq0
        rw [if_pos (by omega), Nat.sub_self, List.getElem?_cons_zero]
        simp [show off + j0 < arr.size by omega]
      · rw [if_neg (by omega), Array.getElem?_setIfInBounds_ne (by omega)]

theorem setPart_get : ∀ (ps cs : List V) (off q : Nat), off + ps.length ≤ cs.length → (setPart cs off ps).length = cs.length ∧
    (setPart cs off ps)[q]? = if off ≤ q ∧ q < off + ps.length then ps[q - off]? else cs[q]?
  | [], cs, off, q, _ => ⟨rfl, by rw [if_neg (by simp only [List.length_nil]; omega)]; rfl⟩
  | p :: ps, cs, off, q, h => by
    simp only [List.length_cons] at h
    obtain ⟨h1, h2⟩ := setPart_get ps (cs.set off p) (off + 1) q (by simp; omega)
    refine ⟨by unfold setPart; rw [h1]; simp, ?_⟩
    unfold setPart
    rw [h2]
    simp only [List.length_cons]
    by_cases hq : off + 1 ≤ q ∧ q < off + 1 + ps.length
    · rw [if_pos hq, if_pos (by omega), show q - off = (q - (off + 1)) + 1 by omega, List.getElem?_cons_succ]
    · rw [if_neg hq, getElem?_set_V]
      by_cases hq0 : q = off
      · subst hq0
        rw [if_pos ⟨rfl, by omega⟩, if_pos (by omega), Nat.sub_self, List.getElem?_cons_zero]
      · rw [if_neg (fun hh => hq0 hh.1), if_neg (by omega)]

/-- the cells of a part -/
theorem partCs_some {A : Nat → Prop} {ob : List Ob} {u : Value} {v : V} (hu : SR w A ow ob u v) {K : List V → Option R} (h : partCs v K = some r) :
    ∃ ps, K ps = some r ∧ u.cells.size = ps.length ∧ ∀ (j : Nat) q c, u.cells[j]? = some q → ps[j]? = some c → SC w A ow ob q c := by
  have one : v ≠ .dead → SC w A ow ob u v → K [v] = some r → ∃ ps, K ps = some r ∧ u.cells.size = ps.length ∧ ∀ (j : Nat) q c, u.cells[j]? = some q → ps[j]? = some c → SC w A ow ob q c := fun hd hs hK => by
    have hc := cells_of_one (hs.one hd)
    refine ⟨[v], hK, by rw [hc]; rfl, fun j q c hq hcc => ?_⟩
    rw [hc] at hq
    cases j with
    | zero => simp at hq hcc; subst hq; subst hcc; exact hs
    | succ j => simp at hcc
  cases v with
  | st cs =>
    obtain ⟨arr, rfl, e2, e3⟩ := hu
    exact ⟨cs, h, e2, e3⟩
  | dt y => simp [partCs] at h
  | dead => simp [partCs] at h
  | tup vs => simp [partCs] at h
  | _ => exact one (by simp) hu h

theorem fill_ok {A : Nat → Prop} {ob : List Ob} (place : Nat → Option (Nat × Nat)) : ∀ (ps : List (Nat × Value)) (vs : List (Nat × V)) (arr : Array Value) (cs : List V) {K : List V → Option R},
    ps.length = vs.length → (∀ (i : Nat) p q, ps[i]? = some p → vs[i]? = some q → p.1 = q.1 ∧ SR w A ow ob p.2 q.2) →
    arr.size = cs.length → (∀ (j : Nat) u c, arr[j]? = some u → cs[j]? = some c → SC w A ow ob u c) → fillP place cs vs K = some r →
    ∃ arr' cs', Instr.fill place arr ps = some arr' ∧ K cs' = some r ∧ arr'.size = cs'.length ∧ ∀ (j : Nat) u c, arr'[j]? = some u → cs'[j]? = some c → SC w A ow ob u c
  | [], [], arr, cs, K, _, _, h2, h3, hk => ⟨arr, cs, rfl, hk, h2, h3⟩
  | [], _ :: _, _, _, _, h0, _, _, _, _ => by simp at h0
  | _ :: _, [], _, _, _, h0, _, _, _, _ => by simp at h0
  | (i, u) :: ps, (i', v) :: vs, arr, cs, K, h0, h1, h2, h3, hk => by
    obtain ⟨hii, hv⟩ := h1 0 _ _ rfl rfl
    have hii : i = i' := hii
    subst hii
    have hv2 : SR w A ow ob u v := hv
    simp only [fillP] at hk
    split at hk
    · rename_i off z hp
      obtain ⟨p, hk2, hsz, hps⟩ := partCs_some hv2 hk
      obtain ⟨hc, hk3⟩ := bif_some hk2
      simp only [Bool.and_eq_true] at hc
      have hz := beq_nat.1 hc.1
      have hle := Nat.le_of_ble_eq_true hc.2
      have hf := foldl_set off u.cells.toList 0 arr (by simp only [Array.length_toList]; omega)
      have hcells : u.cells.zipIdx.foldl (fun cs (p : Value × Nat) => cs.setIfInBounds (off + p.2) p.1) arr = (u.cells.toList.zipIdx 0).foldl (fun cs (p : Value × Nat) => cs.setIfInBounds (off + p.2) p.1) arr := by
        rw [← Array.foldl_toList, Array.toList_zipIdx]
      have hsp := fun q => setPart_get p cs off q (by omega)
      obtain ⟨arr', cs', g1, g2, g3, g4⟩ := fill_ok (A := A) (ob := ob) place ps vs _ (setPart cs off p) (by simpa using h0)
        (fun j p q hp hq => h1 (j + 1) p q (by simpa using hp) (by simpa using hq)) (by rw [hf.1, (hsp 0).1]; exact h2) (fun j q c hq hc => by
          rw [hf.2 j] at hq
          rw [(hsp j).2] at hc
          simp only [Array.length_toList, Nat.add_zero] at hq
          by_cases hj : off ≤ j ∧ j < off + p.length
          · rw [if_pos (by omega), Array.getElem?_toList] at hq
            rw [if_pos hj] at hc
            exact hps _ _ _ hq hc
          · rw [if_neg (by omega)] at hq
            rw [if_neg hj] at hc
            exact h3 j q c hq hc) hk3
      refine ⟨arr', cs', ?_, g2, g3, g4⟩
      simp only [Instr.fill, hp]
      rw [if_neg (by simp; omega)]
      rw [← hcells] at g1
      exact g1
    · cases hk

theorem q_build (hT : TOk P T) (h : Sim T.globL U w0 F0 σ a w ow) {t : TypeId} {ps : Array (Nat × Operand)} (ho : o.op = .build t ps)
    (hk : (match T.ty t, T.zero t, fnd T.offL t with
    | .agg _, some zs, some l => fillP (fun f => l[f]?) zs (ps.toList.map fun p => (p.1, val T σ p.2)) fun cs => K (.st cs) .none []
    | _, _, _ => none) = some r) : Good P T U w0 F0 σ a w o d K r := by
  split at hk
  · rename_i ss zs l hty hz hl
    obtain ⟨it, v, h1, h2, h3, h4, h5⟩ := hT.zero t zs hz
    obtain ⟨fs, g1, g2⟩ := hT.off t l hl
    obtain ⟨arr, cs, f1, f2, f3, f4⟩ := fill_ok (A := Fz U w ow σ.ob) (ob := σ.ob) (ow := ow) (w := w) (fun f => l[f]?) (ps.toList.map fun p => (p.1, a.eval p.2)) _ v.cells zs (by simp)
      (fun i p q hp hq => by
        simp only [List.getElem?_map] at hp hq
        cases hi : ps.toList[i]? with
        | none => rw [hi] at hp; cases hp
        | some y =>
          rw [hi] at hp hq
          simp only [Option.map_some, Option.some.injEq] at hp hq
          subst hp; subst hq
          exact ⟨rfl, val_sr h y.2⟩) (by rw [← h3]; simp) (fun j u c hu hc => by
        rw [← h3, List.getElem?_map, Array.getElem?_toList, hu] at hc
        simp only [Option.map_some, Option.some.injEq] at hc
        subst hc
        exact constC_sc u) hk
    have hb : P.built t ((ps.map fun (i, x) => (i, a.eval x)).toList) = some arr := by
      unfold Program.built
      simp only [h1, h2, g1, g2]
      rw [Array.toList_map]
      simpa using f1
    exact ⟨_, .none, [], f2, fun _ => done_plain h (exec_build ho (run_build w t _ arr hb)) ⟨arr, rfl, f3, f4⟩⟩
  · cases hk

/-- a slice literal -/
def Rows (w : World) (A : Nat → Prop) (z : Nat) (arr : Array Value) (xs : List V) : Prop :=
  ∀ (i : Nat) x, xs[i]? = some x → ∃ ecs, ecs.length = z ∧ (∀ (j : Nat) v, ecs[j]? = some v → arr[i * z + j]? = some v) ∧ FR w A ecs x

theorem row_apart {i j z p q : Nat} (h : i * z + p = j * z + q) (hp : p < z) (hq : q < z) : i = j ∧ p = q := by
  have h1 : (i * z + p) / z = i := by rw [Nat.mul_comm, Nat.mul_add_div (by omega)]; simp [Nat.div_eq_of_lt hp]
  have h2 : (j * z + q) / z = j := by rw [Nat.mul_comm, Nat.mul_add_div (by omega)]; simp [Nat.div_eq_of_lt hq]
  have : i = j := by rw [← h1, h, h2]
  subst this
  exact ⟨rfl, by omega⟩

theorem fillE_ok {A : Nat → Prop} {z n : Nat} : ∀ (ps : List (Nat × Value)) (vs : List (Nat × V)) (arr : Array Value) (xs : List V),
    ps.length = vs.length → (∀ (i : Nat) p q, ps[i]? = some p → vs[i]? = some q → p.1 = q.1 ∧ p.1 < n ∧ p.2.cells.size = z ∧ FR w A p.2.cells.toList q.2) →
    arr.size = n * z → xs.length = n → Rows w A z arr xs →
    ∃ arr', Instr.fill (fun i => some (i * z, z)) arr ps = some arr' ∧ arr'.size = n * z ∧ Rows w A z arr' (fillE xs vs) ∧ (fillE xs vs).length = n
  | [], [], arr, xs, _, _, h2, h3, h4 => ⟨arr, rfl, h2, h4, h3⟩
  | [], _ :: _, _, _, h0, _, _, _, _ => by simp at h0
  | _ :: _, [], _, _, h0, _, _, _, _ => by simp at h0
  | (i, u) :: ps, (i', v) :: vs, arr, xs, h0, h1, h2, h3, h4 => by
    obtain ⟨hii, hin, hsz, hfr⟩ := h1 0 _ _ rfl rfl
    have hii : i = i' := hii
    subst hii
    have hin : i < n := hin
    have hsz : u.cells.size = z := hsz
    have hfr : FR w A u.cells.toList v := hfr
    have hle : i * z + z ≤ n * z := by rw [← Nat.succ_mul]; exact Nat.mul_le_mul_right _ hin
    have hf := foldl_set (i * z) u.cells.toList 0 arr (by simp only [Array.length_toList]; omega)
    have hcells : u.cells.zipIdx.foldl (fun cs (p : Value × Nat) => cs.setIfInBounds (i * z + p.2) p.1) arr = (u.cells.toList.zipIdx 0).foldl (fun cs (p : Value × Nat) => cs.setIfInBounds (i * z + p.2) p.1) arr := by
      rw [← Array.foldl_toList, Array.toList_zipIdx]
    obtain ⟨arr', g1, g2, g3, g4⟩ := fillE_ok (A := A) (z := z) (n := n) ps vs _ (xs.set i v) (by simpa using h0)
      (fun j p q hp hq => h1 (j + 1) p q (by simpa using hp) (by simpa using hq)) (by rw [hf.1]; exact h2) (by simpa using h3) (fun j x hx => by
        rw [getElem?_set_V] at hx
        by_cases hj : j = i
        · subst hj
          rw [if_pos ⟨rfl, by omega⟩] at hx
          cases hx
          refine ⟨u.cells.toList, by simpa using hsz, fun q c hc => ?_, hfr⟩
          have hq : q < z := by have := (List.getElem?_eq_some_iff.1 hc).1; simp at this; omega
          rw [hf.2, if_pos (by simp; omega)]
          rw [show j * z + q - (j * z + 0) = q by omega]
          exact hc
        · rw [if_neg (fun hh => hj hh.1)] at hx
          obtain ⟨ecs, e1, e2, e3⟩ := h4 j x hx
          refine ⟨ecs, e1, fun q c hc => ?_, e3⟩
          have hq : q < z := by have := (List.getElem?_eq_some_iff.1 hc).1; omega
          rw [hf.2, if_neg]
          · exact e2 q c hc
          · simp only [Array.length_toList, Nat.add_zero]
            intro hh
            have := row_apart (i := j) (j := i) (z := z) (p := q) (q := j * z + q - i * z) (by omega) hq (by omega)
            exact hj this.1)
    refine ⟨arr', ?_, g2, g3, g4⟩
    simp only [Instr.fill]
    rw [if_neg (by simp; omega)]
    rw [← hcells] at g1
    exact g1

theorem q_buildSlice (hT : TOk P T) (h : Sim T.globL U w0 F0 σ a w ow) {t : TypeId} {n : Nat} {ps : Array (Nat × Operand)} (ho : o.op = .buildSlice t n ps)
    (hk : (match T.el t with
    | some (e, z) => match T.zero e with
      | some zs => bif Nat.beq n 0 && ps.toList.isEmpty then K (.ref d none none) (.row true z []) [] else bif Nat.ble (n * z) 16777216 && !Nat.beq n 0 && ps.toList.all (fun p => Nat.blt p.1 n) then sealVs (lkE σ) (ps.toList.map fun p => nrmV T e (val T σ p.2)) fun xs s =>
        wds z xs (K (.ref d none none) (.row true z (fillE (List.replicate n (oneOr zs)) ((ps.toList.map (·.1)).zip xs))) s) else none
      | none => none
    | none => none) = some r) : Good P T U w0 F0 σ a w o d K r := by
  split at hk
  · rename_i e z hel
    split at hk
    · rename_i zs hz
      cases hn00 : (Nat.beq n 0 && ps.toList.isEmpty) with
      | true =>
        rw [hn00] at hk
        simp only [cond_true] at hk
        simp only [Bool.and_eq_true] at hn00
        have hn := beq_nat.1 hn00.1
        have hps : ps = #[] := by
          have := hn00.2
          cases ps
          simpa using this
        subst hn
        subst hps
        obtain ⟨i1, g1, g2, g3, g4⟩ := hT.el t e z hel
        obtain ⟨i2, v, f1, f2, f3, f4, f5⟩ := zero_fr (w := w) (A := Fz U w ow σ.ob) hT hz
        rw [g2] at f1
        cases f1
        refine ⟨_, _, _, hk, fun hd => ?_⟩
        have hd2 : σ.ob.getD d .none = .none ∧ F0.pn d = none := by rcases hd with hd | hd; cases hd; exact hd
        have hrun : (Instr.buildSlice t 0 #[]).run P w = .ok (.slice (some ⟨w.heap.size, 0, none⟩) 0 0) (w.alloc (.cells #[] e)) := by
          have hr : ∀ f : Nat → Value, Array.map f (Array.range 0) = #[] := fun f => Array.eq_empty_of_size_eq_zero (by simp)
          simp [Instr.buildSlice, run_underlying g1, sizeOf, typeInfo, g2, newRow, Instr.fill, hr]
        refine ⟨_, _, upd ow d (fun _ => w.heap.size), exec_buildSlice ho (by rw [Array.map_empty]; exact hrun), ?_⟩
        exact h.newRow d hd2.1 hd2.2 #[] e z 0 [] (Nat.le_refl _) (by simp) (fun i x hx => by simp at hx)
      | false =>
      rw [hn00] at hk
      simp only [cond_false] at hk
      obtain ⟨hc, hk2⟩ := bif_some hk
      simp only [Bool.and_eq_true] at hc
      obtain ⟨⟨hc1, hc2⟩, hc3⟩ := hc
      have hc1 := Nat.le_of_ble_eq_true hc1
      have hn0 : n ≠ 0 := by rintro rfl; simp at hc2
      obtain ⟨xs, s, hk3, hlen, hseal⟩ := sealVs_ok h.ho hk2
      obtain ⟨hw, hK⟩ := wds_some hk3
      obtain ⟨i1, g1, g2, g3, g4⟩ := hT.el t e z hel
      obtain ⟨i2, v, f1, f2, f3, f4, f5⟩ := zero_fr (w := w) (A := Fz U w ow (freeze σ.ob s)) hT hz
      rw [g2] at f1
      cases f1
      refine ⟨_, _, _, hK, fun hd => ?_⟩
      have hd2 : σ.ob.getD d .none = .none ∧ F0.pn d = none := by rcases hd with hd | hd; cases hd; exact hd
      have hd' := hd2.1
      rw [List.length_map] at hlen
      obtain ⟨arr, b1, b2, b3, b4⟩ := fillE_ok (w := w) (A := Fz U w ow (freeze σ.ob s)) (z := z) (n := n) (ps.toList.map fun p => (p.1, a.eval p.2)) ((ps.toList.map (·.1)).zip xs)
        (madeCells v.cells (n * z)) (List.replicate n (oneOr zs)) (by simp only [List.length_map, List.length_zip]; omega)
        (fun i p q hp hq => by
          simp only [List.getElem?_map] at hp
          cases hi : ps.toList[i]? with
          | none => rw [hi] at hp; cases hp
          | some y =>
            rw [hi] at hp
            simp only [Option.map_some, Option.some.injEq] at hp
            subst hp
            have hil := (List.getElem?_eq_some_iff.1 hi).1
            have hxi : xs[i]? = some (xs[i]'(by omega)) := List.getElem?_eq_getElem (by omega)
            have hq' : q = (y.1, xs[i]'(by omega)) := by
              rw [List.getElem?_zip_eq_some] at hq
              obtain ⟨q1, q2⟩ := hq
              simp only [List.getElem?_map, hi, Option.map_some, Option.some.injEq] at q1
              rw [hxi] at q2
              simp only [Option.some.injEq] at q2
              exact Prod.ext q1.symm q2.symm
            subst hq'
            have hsv := hseal i _ (nrmV T e (val T σ y.2)) hxi (by simp [List.getElem?_map, hi]) s (fun _ hh => hh) _ (val_sr h y.2).nrm
            have hfr := hsv.fr
            refine ⟨rfl, ?_, ?_, hfr⟩
            · have := List.all_eq_true.1 hc3 y (List.mem_of_getElem? hi)
              rw [Nat.blt_eq] at this; exact this
            · have := hfr.width
              rw [Array.length_toList] at this
              rw [this]
              exact hw _ (List.getElem_mem _)) (by rw [size_madeCells]) (by simp) (fun i x hx => by
          have := rows_made f5 i x hx
          rw [f3, g3] at this
          exact this)
      have hrun := run_buildSlice (P := P) w t e n (ps.map fun (i, x) => (i, a.eval x)) arr i1 v g1 g2 f2 (by rw [g3]; omega) (by rw [g3]; intro hh; rcases Nat.mul_eq_zero.1 hh with hh | hh <;> omega) (by
        rw [g3, Array.toList_map]
        exact b1)
      refine ⟨_, _, upd ow d (fun _ => w.heap.size), exec_buildSlice ho hrun, ?_⟩
      have hnr := (h.freeze s).newRow d (freeze_none s hd') hd2.2 arr e z n (fillE (List.replicate n (oneOr zs)) ((ps.toList.map (fun p : Nat × Operand => p.1)).zip xs)) (by rw [b4]; exact Nat.le_refl _) (by rw [b2]; exact Nat.le_refl _) b3
      rw [b4] at hnr
      exact hnr
    · cases hk
  · cases hk

/-! ### function values -/
theorem datCs_some : ∀ {vs : List V} {K : List V → Option R}, datCs vs K = some r → (∀ v ∈ vs, isC v) ∧ K vs = some r
  | [], K, h => ⟨fun v hv => by simp at hv, h⟩
  | v :: vs, K, h => by
    unfold datCs at h
    have key : isC v ∧ datCs vs (fun vs' => K (v :: vs')) = some r := by
      cases v <;> first | exact ⟨trivial, h⟩ | cases h
    obtain ⟨h1, h2⟩ := datCs_some key.2
    exact ⟨fun u hu => by rcases List.mem_cons.1 hu with rfl | hu; exact key.1; exact h1 u hu, h2⟩

theorem q_makeFunc (h : Sim T.globL U w0 F0 σ a w ow) {f : FuncId} {first caps : Array Operand} (ho : o.op = .makeFunc (.func f) first caps)
    (hk : (match first.size, caps.toList with
    | 0, [] => K (.clo f []) .none []
    | 0, [c] => match val T σ c with
      | .ptr k none 0 0 => match obBox (lkE σ) k with
        | some cs => datCs cs fun cs' => K (.clo f [.rp (oneOr cs') 0]) .none [(k, none)]
        | none => none
      | _ => none
    | _, _ => none) = some r) : Good P T U w0 F0 σ a w o d K r := by
  split at hk
  · rename_i hf hc
    have hf' : first = #[] := Array.eq_empty_of_size_eq_zero hf
    have hc' : caps = #[] := by cases caps; simpa using hc
    refine ⟨_, .none, [], hk, fun _ => done_plain h (exec_makeFunc ho) ?_⟩
    subst hf'; subst hc'
    have he : Array.map a.eval #[] = #[] := by simp
    rw [he]
    exact (FR.clo rfl (fun i v x hv => by simp at hv) : FR w (Fz U w ow σ.ob) [.func (.func f) #[] #[]] (.clo f []))
  · rename_i c hf hc
    have hf' : first = #[] := Array.eq_empty_of_size_eq_zero hf
    have hc' : caps = #[c] := by cases caps; simpa using hc
    split at hk
    · rename_i k hp
      split at hk
      · rename_i cs hb
        unfold obBox at hb
        split at hb
        · rename_i bo cs0 hlk
          cases hb
          obtain ⟨b', cs', hb', rfl⟩ := lkE_box hlk
          obtain ⟨hall, hK⟩ := datCs_some hk
          have hv := val_sr h c
          rw [hp] at hv
          have hptr : a.eval c = .pointer (some ⟨ow k none, 0, none⟩) := by
            rcases hv with ⟨o', cs'', _, _, e⟩ | ⟨o', z, xs, e, _⟩
            · exact e
            · rw [hb'] at e; cases e
          refine ⟨_, .none, _, hK, fun _ => ⟨_, w, ow, exec_makeFunc ho, (h.freeze [(k, none)]).put d fun _ => ?_⟩⟩
          subst hf'; subst hc'
          have hal : alive σ.ob k none := by unfold alive; rw [hb']; trivial
          have hA := h.ho.frozen hal (fun hs => hs) (s := [(k, none)]) (by simp)
          simp only [List.map_toArray, List.map_cons, List.map_nil, hptr]
          show FR w (Fz U w ow (freeze σ.ob [(k, none)])) [.func (.func f) #[] #[.pointer (some ⟨ow k none, 0 + 0, none⟩)]] (.clo f [.rp (oneOr (cs'.map eC)) 0])
          refine FR.clo rfl fun i u x hu hx => ?_
          match i with
          | i + 1 => simp at hx
          | 0 =>
          simp at hu hx
          subst hu; subst hx
          classical
          have hex : ∀ q : Nat, ∃ u, q < cs'.length → w.cell? ⟨ow k none, q, none⟩ = some u ∧ SC w (Fz U w ow σ.ob) ow σ.ob u (viewC k q ((cs'.map eC).getD q .dead)) := fun q => by
            by_cases hq : q < cs'.length
            · obtain ⟨u, h1, h2⟩ := box_cell h hb' hq
              exact ⟨u, fun _ => ⟨h1, h2⟩⟩
            · exact ⟨undef, fun hh => absurd hh hq⟩
          obtain ⟨f', hf'⟩ := Classical.axiomOfChoice hex
          have hat : At w (ow k none) 0 ((List.range cs'.length).map f') := fun q u hu => by
            simp only [List.getElem?_map] at hu
            by_cases hq : q < cs'.length
            · rw [List.getElem?_range hq] at hu
              simp at hu; subst hu
              rw [Nat.zero_add]
              exact (hf' q hq).1
            · rw [List.getElem?_eq_none (by simp; omega)] at hu; simp at hu
          refine FR.rp (o := 0) (j := 0) hA hat (oneOr_fr (by simp) fun j u x hu hx => ?_)
          have hj : j < cs'.length := by have := (List.getElem?_eq_some_iff.1 hu).1; simpa using this
          simp only [List.getElem?_map, List.getElem?_range hj, Option.map_some, Option.some.injEq] at hu
          subst hu
          have hsc := (hf' j hj).2
          rw [List.getD_eq_getElem?_getD, hx] at hsc
          simp only [Option.getD_some] at hsc
          have hcx := hall x (List.mem_of_getElem? hx)
          have hview : viewC k j x = x := by cases x <;> first | rfl | exact hcx.elim
          rw [hview, hcx.sc] at hsc
          exact isC.freeze hsc
        · cases hb
      · cases hk
    · cases hk
  · cases hk

/-! ### builtins -/
theorem asLen_ok (hT : TOk P T) (h : Sim T.globL U w0 F0 σ a w ow) {t : TypeId} {x : Operand} {K : Nat → Option R} (hk : asLen (lkE σ) (sliceOk T t (val T σ x)) K = some r) :
    ∃ n : Nat, K n = some r ∧ ∀ ty, (Builtin.len_ #[t] ty #[a.eval x]).run P w = .ok (.int .i64 n) w := by
  have hv := val_sr h x
  rcases @sliceOk_some T t (val T σ x) with ⟨s, e1, e2, e3⟩ | ⟨z, xs, e, e1, e2, e3⟩ | ⟨k, c, m, e, z, e1, e2, e3⟩ | ⟨e, z, e1, e2, e3⟩ | ⟨k, c, m, e, z, e1, e2, e3⟩ | e1 <;> rw [e1] at hk <;> (try simp only [asLen] at hk)
  · refine ⟨_, hk, fun ty => ?_⟩
    obtain ⟨dd, ii, hd, _, _, _, hd2⟩ := hT.tyc t _ e3
    have hd2 : dd = .string := hd2
    subst hd2
    rw [(val_sc h e2).1]
    simp [Builtin.len_, run_underlying hd, goInt]
  · refine ⟨_, hk, fun ty => ?_⟩
    obtain ⟨i1, g1, _⟩ := hT.el t e z e3
    rw [e2] at hv
    have hv' : FR w (Fz U w ow σ.ob) [a.eval x] (.sl z xs) := hv
    obtain ⟨b, c, hu, hc⟩ := hv'.len
    rw [hu]
    simp [Builtin.len_, run_underlying g1, goInt]
  · split at hk
    · rename_i oo z' xs hr
      obtain ⟨o', hr'⟩ := obRow_eO hr
      have hr'' : obRow (fun k => σ.ob.getD k .none) k c = some (o', z', xs) := hr'
      refine ⟨_, hk, fun ty => ?_⟩
      obtain ⟨i1, g1, _⟩ := hT.el t e z e3
      rw [e2] at hv
      obtain ⟨o3, z3, xs3, cp, f1, f2, f3, f4, f5⟩ := hv
      rw [hr''] at f1
      cases f1
      rw [f2]
      simp [Builtin.len_, run_underlying g1, goInt]
    · cases hk
  · refine ⟨_, hk, fun ty => ?_⟩
    obtain ⟨i1, g1, _⟩ := hT.el t e z e3
    rw [e2] at hv
    have hv' : FR w (Fz U w ow σ.ob) [a.eval x] .nil := hv
    generalize a.eval x = u at hv'
    cases hv'
    simp [Builtin.len_, run_underlying g1, goInt]
  · obtain ⟨i1, g1, _⟩ := hT.el t e z e3
    rw [e2] at hv
    cases m with
    | hd =>
      simp only [asLen] at hk
      split at hk
      · rename_i l xs hs
        refine ⟨_, hk, fun ty => ?_⟩
        obtain ⟨l', xs', cp, f1, f2, _⟩ := hv
        rw [segAt_eO hs] at f1
        cases f1
        rw [f2]
        simp [Builtin.len_, run_underlying g1, goInt]
      · cases hk
    | el i =>
      simp only [asLen] at hk
      obtain ⟨l, xs, y, h1, h2, hk3⟩ := sgEl_some hk
      obtain ⟨h64, l', xs', y', f1, f2, f3⟩ := hv
      rw [h1] at f1
      cases f1
      rw [h2] at f2
      cases f2
      rcases elL_some hk3 with ⟨rfl, hk4⟩ | ⟨ys, rfl, hk4⟩
      · refine ⟨_, hk4, fun ty => ?_⟩
        rcases f3 with ⟨_, f3⟩ | ⟨_, _, f3, _⟩
        · rw [f3]
          simp [Builtin.len_, run_underlying g1, goInt]
        · cases f3
      · refine ⟨_, hk4, fun ty => ?_⟩
        rcases f3 with ⟨f3, _⟩ | ⟨_, _, f3, f4, _⟩
        · cases f3
        · cases f3
          rw [f4]
          simp [Builtin.len_, run_underlying g1, goInt]
    | pl i => simp only [asLen] at hk; cases hk
    | sub i l => simp only [asLen] at hk; cases hk
  · cases hk

theorem q_len (hT : TOk P T) (h : Sim T.globL U w0 F0 σ a w ow) {args : Array Operand} {ts : Array TypeId} (ho : o.op = .call { callee := .builtin .len, args, argTypes := ts })
    (hk : (match args.toList, ts.toList with
      | [x], [t] => asLen (lkE σ) (sliceOk T t (val T σ x)) fun n => K (.sc (.int .i64 n)) .none []
      | _, _ => none) = some r) : Good P T U w0 F0 σ a w o d K r := by
  split at hk
  · rename_i x t hx ht
    have hx' : args = #[x] := by cases args; simpa using hx
    have ht' : ts = #[t] := by cases ts; simpa using ht
    subst hx'; subst ht'
    obtain ⟨n, hK, hrun⟩ := asLen_ok hT h hk
    exact ⟨_, .none, [], hK, fun _ => done_plain h (exec_builtin ho (u := .int .i64 n) (by
      have := hrun o.type
      simp [builtin, this])) (FR.sc rfl : FR w (Fz U w ow σ.ob) [.int .i64 n] (.sc (.int .i64 n)))⟩
  · cases hk

theorem two_sc (h : Sim T.globL U w0 F0 σ a w ow) {args : Array Operand} {u v : Value} (hx : args.toList.map (val T σ) = [.sc u, .sc v]) : args.map a.eval = #[u, v] := by
  match hl : args.toList, hx with
  | [x, y], hx2 =>
    simp only [List.map_cons, List.map_nil, List.cons.injEq, and_true] at hx2
    have : args = #[x, y] := by cases args; simpa using hl
    subst this
    simp [(val_sc h hx2.1).1, (val_sc h hx2.2).1]
  | [], hx => simp at hx
  | [_], hx => simp at hx
  | _ :: _ :: _ :: _, hx => simp at hx

theorem q_max (h : Sim T.globL U w0 F0 σ a w ow) {args : Array Operand} {ts : Array TypeId} (ho : o.op = .call { callee := .builtin .max, args, argTypes := ts })
    (hk : (match args.toList.map (val T σ) with
      | [.sc (.int k a), .sc (.int _ b)] => K (.sc (.int k (if b > a then b else a))) .none []
      | _ => none) = some r) : Good P T U w0 F0 σ a w o d K r := by
  split at hk
  · rename_i k x k' y hx
    have he := two_sc h hx
    exact ⟨_, .none, [], hk, fun _ => done_plain h (exec_builtin ho (u := .int k (if y > x then y else x)) (by
      rw [he]; simp [builtin, Builtin.max_, Builtin.max2])) (FR.sc rfl : FR w (Fz U w ow σ.ob) [.int k (if y > x then y else x)] (.sc (.int k (if y > x then y else x))))⟩
  · cases hk
theorem q_min (h : Sim T.globL U w0 F0 σ a w ow) {args : Array Operand} {ts : Array TypeId} (ho : o.op = .call { callee := .builtin .min, args, argTypes := ts })
    (hk : (match args.toList.map (val T σ) with
      | [.sc (.int k a), .sc (.int _ b)] => K (.sc (.int k (if b < a then b else a))) .none []
      | _ => none) = some r) : Good P T U w0 F0 σ a w o d K r := by
  split at hk
  · rename_i k x k' y hx
    have he := two_sc h hx
    exact ⟨_, .none, [], hk, fun _ => done_plain h (exec_builtin ho (u := .int k (if y < x then y else x)) (by
      rw [he]; simp [builtin, Builtin.min_, Builtin.min2])) (FR.sc rfl : FR w (Fz U w ow σ.ob) [.int k (if y < x then y else x)] (.sc (.int k (if y < x then y else x))))⟩
  · cases hk
end
end Go.Proofs.YtaapkkeogajfpaaDoor.VM

/- The abstract machine and the memory: calls; every quiet operation. -/
set_option linter.unusedVariables false
set_option linter.unusedSimpArgs false
namespace Go.Proofs.YtaapkkeogajfpaaDoor.VM
open Go.RowKit

def obArg : V → Ob
  | .io cs => .box true cs
  | _ => .none
def backObs : List V → List V → List Ob
  | [], _ => []
  | .io _ :: vs, o :: os => obArg o :: backObs vs os
  | .io _ :: vs, [] => .none :: backObs vs []
  | _ :: vs, os => .none :: backObs vs os
def resObs (vs : List V) (r : Res) : List Ob := backObs vs r.2 ++ [obArg r.1]
def ownB (ob : List Ob) (ow : Own) (b : Nat) : Prop := ∃ k c, owned ob k c ∧ ow k c = b
def ArgR (w : World) (A : Nat → Prop) (ow : Own) (i : Nat) (c : Value) (x : V) : Prop :=
  match x with
  | .io _ => c = .pointer (some ⟨ow i none, 0, none⟩)
  | x => VR w A c x
def ResR (w : World) (A : Nat → Prop) (ow : Own) (n : Nat) (u : Value) (v : V) : Prop :=
  match v with
  | .io _ => u = .pointer (some ⟨ow n none, 0, none⟩)
  | .tup vs => ∃ arr, u = .tuple arr ∧ arr.size = vs.length ∧ ∀ (j : Nat) q y, arr[j]? = some q → vs[j]? = some y → VR w A q y
  | v => VR w A u v

/-- what a call of the machine says of a call of the model -/
structure CallOk (P : Program) (GL : List (Nat × V)) (call : FuncId → List V → Option Res) : Prop where
  fn : ∀ f vs r, call f vs = some r → ∃ fn c, P.funcs[f]? = some fn ∧ (fn.name == "runtime.NumGoroutine") = false ∧ fn.body = some c
  ok : ∀ f vs r, call f vs = some r → ∀ (U : Nat → Prop) (w : World) (ow : Own) (cargs : Array Value), cargs.size = vs.length →
    HO U w ow (vs.map obArg) → (∀ (i : Nat) c x, cargs[i]? = some c → vs[i]? = some x → ArgR w (Fz U w ow (vs.map obArg)) ow i c x) →
    Glb GL w (Fz U w ow (vs.map obArg)) → (∀ b, w.heap.size ≤ b → U b) →
    Calls P f cargs w fun e w' => ∃ u ow', e = .returned u ∧ (Ext w w' (ownB (vs.map obArg) ow) ∧ ∀ b n, Th w b n → Th w' b n) ∧ HO U w' ow' (resObs vs r) ∧
      (∀ (i : Nat) cs, vs[i]? = some (.io cs) → ow' i none = ow i none) ∧
      (∀ k c, owned (resObs vs r) k c → ownB (vs.map obArg) ow (ow' k c) ∨ w.heap.size ≤ ow' k c) ∧
      ResR w' (Fz U w' ow' (resObs vs r)) ow' vs.length u r.1

section
variable {P : Program} {T : TT} {U : Nat → Prop} {w0 w : World} {F0 : Fr} {σ : St} {a : Act} {ow : Own} {R : Type} {r : R}
variable {o : Oper} {d : Nat} {K : V → Ob → List (Nat × Option Nat) → Option R} {call : FuncId → List V → Option Res}

def DoneW (P : Program) (GL : List (Nat × V)) (U : Nat → Prop) (w0 : World) (F0 : Fr) (a : Act) (w : World) (o : Oper) (d : Nat) (σ' : St) : Prop :=
  ∀ (K : Act → World → Prop) (Q : Exit → Act → World → Prop), (∀ u w' ow', Sim GL U w0 F0 σ' (a.put (some d) u) w' ow' → K (a.put (some d) u) w') → o.wp P a w K Q
def GoodW (P : Program) (T : TT) (U : Nat → Prop) (w0 : World) (F0 : Fr) (σ : St) (a : Act) (w : World) (o : Oper) (d : Nat) (K : V → Ob → List (Nat × Option Nat) → Option R) (r : R) : Prop :=
  ∃ x ob s, K x ob s = some r ∧ ((ob = .none ∨ (σ.ob.getD d .none = .none ∧ F0.pn d = none)) → DoneW P T.globL U w0 F0 a w o d (putQ σ d x ob s))

theorem Good.toW (hd : o.dst = some d) (h : Good P T U w0 F0 σ a w o d K r) : GoodW P T U w0 F0 σ a w o d K r := by
  obtain ⟨x, ob, s, hK, hh⟩ := h
  refine ⟨x, ob, s, hK, fun hob K Q hk => ?_⟩
  obtain ⟨u, w', ow', hr, hs⟩ := hh hob
  unfold Oper.wp
  rw [hr, Oper.upon_value, hd]
  exact hk u w' ow' hs

theorem obArg_none {x : V} (h : ∀ cs, x ≠ .io cs) : obArg x = .none := by
  cases x <;> first | rfl | exact absurd rfl (h _)
theorem getD_none {l : List Ob} (h : ∀ o ∈ l, o = .none) (k : Nat) : l.getD k .none = .none := by
  rw [List.getD_eq_getElem?_getD]
  cases hk : l[k]? with
  | none => rfl
  | some o => simpa using h o (List.mem_of_getElem? hk)
theorem alive_none {l : List Ob} {k : Nat} {c : Option Nat} (h : l.getD k .none = .none) : ¬ alive l k c := fun ha => by
  unfold alive at ha; rw [h] at ha; cases c <;> exact ha
theorem HO.none {l : List Ob} (h : ∀ o ∈ l, o = .none) : HO U w ow l :=
  ⟨fun k => by rw [getD_none h]; trivial, fun k c k' c' ha => absurd ha (alive_none (getD_none h k)), fun k c ha => absurd ha (alive_none (getD_none h k))⟩
theorem Fz.none {l : List Ob} (h : ∀ o ∈ l, o = .none) (b : Nat) : Fz U w ow l b ↔ U b ∧ b < w.heap.size :=
  ⟨fun hb => ⟨hb.1, hb.2.1⟩, fun hb => ⟨hb.1, hb.2, fun k c ho => absurd (alive_of_owned ho) (alive_none (getD_none h k))⟩⟩

theorem VR.notIo {A : Nat → Prop} {u : Value} {x : V} (h : VR w A u x) (cs : List V) : x ≠ .io cs := by
  rintro rfl
  have h' : FR w A [u] (.io cs) := h
  cases h'

theorem backObs_none : ∀ {vs : List V} {os : List V}, (∀ x ∈ vs, ∀ cs, x ≠ .io cs) → ∀ o ∈ backObs vs os, o = .none
  | [], _, _, o, ho => by simp [backObs] at ho
  | v :: vs, os, h, o, ho => by
    have hv := h v (by simp)
    have hb : backObs (v :: vs) os = .none :: backObs vs os := by
      cases v <;> first | rfl | exact absurd rfl (hv _)
    rw [hb] at ho
    rcases List.mem_cons.1 ho with rfl | ho
    · rfl
    · exact backObs_none (fun x hx => h x (List.mem_cons_of_mem _ hx)) o ho
theorem backObs_length : ∀ (vs os : List V), (backObs vs os).length = vs.length
  | [], _ => rfl
  | v :: vs, os => by
    cases v <;> first
      | (show (Ob.none :: backObs vs os).length = _; simp [backObs_length vs os])
      | (cases os with
        | nil => show (Ob.none :: backObs vs []).length = _; simp [backObs_length vs]
        | cons q os => show (obArg q :: backObs vs os).length = _; simp [backObs_length vs os])

theorem getD_res {vs : List V} {r : Res} : (resObs vs r).getD vs.length .none = obArg r.1 := by
  unfold resObs
  rw [List.getD_eq_getElem?_getD, List.getElem?_append_right (by rw [backObs_length]; exact Nat.le_refl _), backObs_length]
  simp

theorem resR_vr {A : Nat → Prop} {n : Nat} {u : Value} {v : V} (h1 : ∀ cs, v ≠ .io cs) (h2 : ∀ ts, v ≠ .tup ts) : ResR w A ow n u v = VR w A u v := by
  cases v <;> first | rfl | exact absurd rfl (h1 _) | exact absurd rfl (h2 _)

theorem run_enter {f : FuncId} {fn : Func} {c : Code} (hf : P.funcs[f]? = some fn) (hname : (fn.name == "runtime.NumGoroutine") = false) (hb : fn.body = some c) (args : Array Value) (w : World) :
    (callFunc f args).run P w = .ok (.enter f args) w := by
  have h1 : fn.name ≠ "runtime.NumGoroutine" := by simpa using hname
  simp [callFunc, hf, h1, hb]

/-- a quiet call -/
theorem q_go (hC : CallOk P T.globL call) (h : Sim T.globL U w0 F0 σ a w ow) (hd : o.dst = some d) {f : FuncId} {args : Array Operand} {cv : Array Value} {more : List V} {ats : List TypeId}
    (hrun : (execOp a.eval o).run P w = (callFunc f (args.map a.eval ++ cv)).run P w)
    (hcl : cv.size = more.length) (hcv : ∀ (i : Nat) v x, cv[i]? = some v → more[i]? = some x → VR w (Fz U w ow σ.ob) v x)
    (hk : (bif T.loud f then none else
        sealVs (lkE σ) (nrmA T ats (args.toList.map (val T σ))) fun vs s => (call f (vs ++ more)).bind fun r =>
          match T.ty o.type with
          | .c sh => unC sh r.1 fun x => K x .none s
          | .agg ss => unSt ss.length r.1 (K (.dt r.1) .none s)
          | .p ss => unIo r.1 fun cs => unCs (.st cs) 0 ss fun cs => K (.ptr d none 0 0) (.box true cs) s
          | .tup ts => unTup ts.length r.1 fun vs => unVs vs 0 ts fun vs => K (.tup vs) .none s) = some r) : GoodW P T U w0 F0 σ a w o d K r := by
  have hk2 : sealVs (lkE σ) (nrmA T ats (args.toList.map (val T σ))) (fun vs s => (call f (vs ++ more)).bind fun r =>
          match T.ty o.type with
          | .c sh => unC sh r.1 fun x => K x .none s
          | .agg ss => unSt ss.length r.1 (K (.dt r.1) .none s)
          | .p ss => unIo r.1 fun cs => unCs (.st cs) 0 ss fun cs => K (.ptr d none 0 0) (.box true cs) s
          | .tup ts => unTup ts.length r.1 fun vs => unVs vs 0 ts fun vs => K (.tup vs) .none s) = some r := by
    cases hl : T.loud f
    · rw [hl] at hk; exact hk
    · rw [hl] at hk; cases hk
  obtain ⟨vs, s, hk3, hlen, hseal⟩ := sealVs_ok h.ho hk2
  have hlen : vs.length = args.size := by rw [nrmA_length] at hlen; simpa using hlen
  cases hcall : call f (vs ++ more) with
  | none => rw [hcall] at hk3; simp at hk3
  | some rr =>
  rw [hcall] at hk3
  simp only [Option.bind_some] at hk3
  -- the arguments
  let A := Fz U w ow (freeze σ.ob s)
  have hargs : ∀ (i : Nat) c x, (args.map a.eval ++ cv)[i]? = some c → (vs ++ more)[i]? = some x → VR w A c x := fun i c x hc hx => by
    by_cases hi : i < args.size
    · rw [Array.getElem?_append_left (by simpa using hi)] at hc
      rw [List.getElem?_append_left (by omega)] at hx
      simp only [Array.getElem?_map, Array.getElem?_eq_getElem hi, Option.map_some, Option.some.injEq] at hc
      subst hc
      have hv : (args.toList.map (val T σ))[i]? = some (val T σ args[i]) := by simp [List.getElem?_map, Array.getElem?_toList, Array.getElem?_eq_getElem hi]
      have hni : i < (nrmA T ats (args.toList.map (val T σ))).length := by rw [nrmA_length]; simpa using hi
      have hny := List.getElem?_eq_getElem hni
      obtain ⟨v0, hv0, e0⟩ := nrmA_get _ _ i hny
      rw [hv] at hv0
      cases hv0
      exact hseal i x _ hx hny s (fun _ hh => hh) _ (nrmA_sr (val_sr h _) e0)
    · rw [Array.getElem?_append_right (by simp; omega)] at hc
      rw [List.getElem?_append_right (by omega)] at hx
      simp only [Array.size_map] at hc
      rw [hlen] at hx
      exact (hcv _ c x hc hx).mono (fun _ _ => rfl) (fun _ hb => Fz.freeze hb)
  have hsz : (args.map a.eval ++ cv).size = (vs ++ more).length := by simp [hlen, hcl]
  have hnio : ∀ x ∈ vs ++ more, ∀ cs, x ≠ .io cs := fun x hx => by
    obtain ⟨i, hi, rfl⟩ := List.getElem_of_mem hx
    have := hargs i _ _ (Array.getElem?_eq_getElem (by omega)) (List.getElem?_eq_getElem hi)
    exact this.notIo
  have hnone : ∀ o ∈ (vs ++ more).map obArg, o = .none := fun o ho => by
    obtain ⟨x, hx, rfl⟩ := List.mem_map.1 ho
    exact obArg_none (hnio x hx)
  let U1 : Nat → Prop := fun b => A b ∨ w.heap.size ≤ b
  have hF1 : ∀ b, Fz U1 w ow ((vs ++ more).map obArg) b ↔ A b := fun b => by
    rw [Fz.none hnone]
    constructor
    · rintro ⟨h1 | h1, h2⟩
      · exact h1
      · omega
    · exact fun h1 => ⟨.inl h1, h1.2.1⟩
  have hcalls := hC.ok f _ rr hcall U1 w ow (args.map a.eval ++ cv) hsz (HO.none hnone)
    (fun i c x hc hx => by
      have h1 := (hargs i c x hc hx).mono (w' := w) (A' := Fz U1 w ow ((vs ++ more).map obArg)) (fun _ _ => rfl) (fun b hb => (hF1 b).2 hb)
      have h2 := hnio x (List.mem_of_getElem? hx)
      cases x <;> first | exact h1 | exact absurd rfl (h2 _))
    (h.gl.mono fun b hb => ⟨(hF1 b).2 (Fz.freeze hb), rfl⟩) (fun b hb => .inr hb)
  obtain ⟨fn, c, e1, e2, e3⟩ := hC.fn f _ rr hcall
  -- what comes back
  have fin : ∀ x ob, (∀ w' u ow', Ext w w' (fun _ => False) → HO U1 w' ow' (resObs (vs ++ more) rr) → (∀ k c, owned (resObs (vs ++ more) rr) k c → w.heap.size ≤ ow' k c) →
      ResR w' (Fz U1 w' ow' (resObs (vs ++ more) rr)) ow' (vs ++ more).length u rr.1 → ∃ ow2, Sim T.globL U w0 F0 (putQ σ d x ob s) (a.put (some d) u) w' ow2) →
      DoneW P T.globL U w0 F0 a w o d (putQ σ d x ob s) := fun x ob hh Kq Q hq => by
    unfold Oper.wp
    rw [hrun, run_enter e1 e2 e3, Oper.upon_enter]
    refine hcalls.mono ?_
    rintro e w' ⟨u, ow', rfl, ⟨hx, _⟩, hho, _, hown, hres⟩
    have hno : ∀ b, ¬ ownB ((vs ++ more).map obArg) ow b := fun b ⟨k, c, hk, _⟩ => alive_none (getD_none hnone k) (alive_of_owned hk)
    obtain ⟨ow2, hs⟩ := hh w' u ow' ⟨hx.os, hx.tape, hx.output, hx.size, fun b hb _ => hx.block b hb (hno b)⟩ hho (fun k c hkc => (hown k c hkc).resolve_left (hno _)) hres
    rw [hd]
    exact hq u w' ow2 hs
  have hA : ∀ {w' : World} {ow' : Own}, Ext w w' (fun _ => False) → ∀ b, Fz U1 w' ow' (resObs (vs ++ more) rr) b → Fz U w' ow (freeze σ.ob s) b := fun {w' ow'} hx b hb => by
    rcases hb.1 with h1 | h1
    · exact Fz.grow hx.size b h1
    · refine ⟨h.un b (Nat.le_trans h.ext.size h1), hb.2.1, fun k c hk => ?_⟩
      have := (h.ho.lt k c (alive_of_owned (owned_freeze s hk).1)).1
      omega
  have val : ∀ x, (∀ w' u (A' : Nat → Prop), (∀ ow' n, ResR w' A' ow' n u rr.1) → SR w' A' ow (freeze σ.ob s) u x) → (∀ cs, rr.1 ≠ .io cs) → DoneW P T.globL U w0 F0 a w o d (putQ σ d x .none s) := fun x hx hni =>
    fin x .none fun w' u ow' he _ _ hres => ⟨ow, ((h.freeze s).world he).put d fun _ => hx w' u _ fun ow'' n => by
      have key : ∀ {ow1 ow2 : Own} {n1 n2 : Nat} {A1 A2 : Nat → Prop}, (∀ b, A1 b → A2 b) → ResR w' A1 ow1 n1 u rr.1 → ResR w' A2 ow2 n2 u rr.1 := fun {ow1 ow2 n1 n2 A1 A2} hA h1 => by
        by_cases ht : ∃ ts, rr.1 = .tup ts
        · obtain ⟨ts, hv⟩ := ht
          rw [hv] at h1 ⊢
          obtain ⟨arr, q1, q2, q3⟩ := h1
          exact ⟨arr, q1, q2, fun j q y hq hy => (q3 j q y hq hy).mono (fun _ _ => rfl) hA⟩
        · rw [resR_vr hni (fun ts e => ht ⟨ts, e⟩)] at h1 ⊢
          exact h1.mono (fun _ _ => rfl) hA
      exact key (hA he) hres⟩
  split at hk3
  · rename_i sh hty
    obtain ⟨x, hK, hx1, hx2, hx3⟩ := unC_some hk3
    refine ⟨x, .none, s, hK, fun _ => val x (fun w' u A' hr => ?_) (fun cs e => by rw [e] at hx2; exact hx2)⟩
    rw [hx1.sr]
    refine hx3 _ _ _ ?_
    have := hr ow 0
    revert this hx2
    cases rr.1 <;> intro hx2 h1 <;> first | exact h1 | exact hx2.elim
  · rename_i ss hty
    obtain ⟨cs, hr1, hl, hK⟩ := unSt_some hk3
    refine ⟨_, .none, s, hK, fun _ => val _ (fun w' u A' hr => ?_) (fun cs' e => by rw [e] at hr1; cases hr1)⟩
    have := hr ow 0
    rw [hr1] at this ⊢
    exact this
  · rename_i ss hty
    obtain ⟨cs0, hr1, hk4⟩ := unIo_some hk3
    obtain ⟨cs, hK, hl, hcs⟩ := unCs_some hk4
    refine ⟨_, .box true cs, s, hK, fun hob => fin _ _ fun w' u ow' he hho hown hres => ?_⟩
    have hd2 : σ.ob.getD d .none = .none ∧ F0.pn d = none := by rcases hob with hd | hd; cases hd; exact hd
    have hd' := hd2.1
    rw [hr1] at hres
    have hu : u = .pointer (some ⟨ow' (vs ++ more).length none, 0, none⟩) := hres
    have hob2 : (resObs (vs ++ more) rr).getD (vs ++ more).length .none = .box true cs0 := by rw [getD_res, hr1]; rfl
    have hor := hho.obs (vs ++ more).length
    rw [hob2] at hor
    obtain ⟨hth, hcell⟩ := hor
    have hown0 : owned (resObs (vs ++ more) rr) (vs ++ more).length none := by unfold owned; rw [hob2]
    have hlen0 : cs.length ≤ cs0.length := by
      rcases Nat.eq_zero_or_pos cs.length with h0 | h0
      · omega
      · have := (hcs (cs.length - 1) _ (List.getElem?_eq_getElem (by omega))).2.1
        rw [Nat.zero_add] at this
        unfold VM.ce at this
        by_cases hq : cs.length - 1 < cs0.length
        · omega
        · simp only [List.getD_eq_getElem?_getD, List.getElem?_eq_none (by omega : cs0.length ≤ cs.length - 1), Option.getD_none] at this
          exact this.elim
    have hall : ∀ c ∈ cs, isC c := fun c hm => by
      obtain ⟨j, hj, rfl⟩ := List.getElem_of_mem hm
      exact (hcs j _ (List.getElem?_eq_getElem hj)).1
    have h1 := (h.freeze s).create (w' := w') he d (.box true cs) (fun _ => ow' (vs ++ more).length none) (freeze_none s hd') hd2.2
      (fun c hc => ⟨hown _ _ hown0, (hho.lt _ _ (alive_of_owned hown0)).1⟩)
      (fun c c' hc hc' _ => by
        have hal : ∀ q, alive ((freeze σ.ob s).set d (.box true cs)) d q → q = none := fun q hq => by
          by_cases hdl : d < (freeze σ.ob s).length
          · exact alive_box (getD_set_ob_same _ _ hdl) hall hq
          · rw [List.set_eq_of_length_le (by omega)] at hq
            exact absurd hq (alive_none (freeze_none s hd'))
        rw [hal c hc, hal c' hc'])
      (fun hA0 => ⟨by rw [upd_same]; exact fun j hj => hth j (by omega), fun j v x hv hx => by
        rw [upd_same] at hv
        obtain ⟨g1, g2, g3⟩ := hcs j x hx
        rw [Nat.zero_add] at g2 g3
        have hj : j < cs.length := (List.getElem?_eq_some_iff.1 hx).1
        have hx0 : cs0[j]? = some (cs0[j]'(by omega)) := List.getElem?_eq_getElem (by omega)
        have hb := hcell j v _ hv hx0
        have hce : VM.ce (.st cs0) j = cs0[j]'(by omega) := by unfold VM.ce; simp [List.getD_eq_getElem?_getD, hx0]
        rw [hce] at g2 g3
        rw [g2.bc] at hb
        rw [g1.bc]
        exact (g3 _ _ _ hb).mono (fun _ _ => rfl) fun b hb => by
          have hb2 := hA he b hb
          refine ⟨hb2.1, hb2.2.1, fun k c hk => ?_⟩
          by_cases hkd : k = d
          · subst hkd
            rw [upd_same]
            exact hb.2.2 _ _ hown0
          · rw [upd_other _ _ _ hkd]
            exact hb2.2.2 k c (by rw [← owned_congr (getD_set_ob_other _ _ hkd) c]; exact hk)⟩)
    refine ⟨_, h1.put d fun hlt => ?_⟩
    have hdl : d < (freeze σ.ob s).length := by rw [freeze_length, h.olen]; exact hlt
    exact .inl ⟨true, cs, getD_set_ob_same _ _ hdl, rfl, by rw [upd_same]; exact hu⟩
  · rename_i ts hty
    obtain ⟨ts0, hr1, hl, hk4⟩ := unTup_some hk3
    obtain ⟨cs, hK, hlc, hcs⟩ := unVs_some hk4
    refine ⟨_, .none, s, hK, fun _ => val _ (fun w' u A' hr => ?_) (fun cs' e => by rw [e] at hr1; cases hr1)⟩
    have h1 := hr ow 0
    rw [hr1] at h1
    obtain ⟨arr, q1, q2, q3⟩ := h1
    refine ⟨arr, q1, by omega, fun j q y hq hy => ?_⟩
    obtain ⟨g1, g2⟩ := hcs j y hy
    rw [Nat.zero_add] at g1 g2
    have hj : j < ts0.length := by have := (List.getElem?_eq_some_iff.1 hy).1; omega
    have hx0 : ts0[j]? = some (ts0[j]'hj) := List.getElem?_eq_getElem hj
    have hg : ts0.getD j .dead = ts0[j]'hj := by simp [List.getD_eq_getElem?_getD, hx0]
    rw [hg] at g2
    exact g2 _ _ _ _ _ (q3 j q _ hq hx0)

theorem exec_call {f : Operand} {args : Array Operand} {ts : Array TypeId} {g : FuncId} {cv : Array Value} (ho : o.op = .call { callee := .value f, args, argTypes := ts })
    (hf : a.eval f = .func (.func g) #[] cv) : (execOp a.eval o).run P w = (callFunc g (args.map a.eval ++ cv)).run P w := by
  simp [execOp, ho, resolve, hf, Deferred.ofValue, invoke]

theorem roArgs_some : ∀ {as : List V} {K : List V → Option R}, roArgs (lkE σ) as K = some r → ∃ xs, K xs = some r ∧ xs.length = as.length ∧
    ∀ (i : Nat) v x, as[i]? = some v → xs[i]? = some x → (∃ k b cs, v = .ptr k none 0 0 ∧ σ.ob.getD k .none = .box b cs ∧ x = .io (cs.map eC)) ∨ ∃ u, v = .sc u ∧ x = .sc u
  | [], K, h => ⟨[], h, rfl, fun i v x hv => by simp at hv⟩
  | v :: as, K, h => by
    have step : ∀ y, roArgs (lkE σ) as (fun xs => K (y :: xs)) = some r → ((∃ k b cs, v = .ptr k none 0 0 ∧ σ.ob.getD k .none = .box b cs ∧ y = .io (cs.map eC)) ∨ ∃ u, v = .sc u ∧ y = .sc u) → ∃ xs, K xs = some r ∧ xs.length = (v :: as).length ∧
        ∀ (i : Nat) v' x, (v :: as)[i]? = some v' → xs[i]? = some x → (∃ k b cs, v' = .ptr k none 0 0 ∧ σ.ob.getD k .none = .box b cs ∧ x = .io (cs.map eC)) ∨ ∃ u, v' = .sc u ∧ x = .sc u := fun y h hy => by
      obtain ⟨xs, h1, h2, h3⟩ := roArgs_some h
      refine ⟨y :: xs, h1, by simp [h2], fun i v' x hv' hx => ?_⟩
      cases i with
      | zero => simp at hv' hx; subst hv'; subst hx; exact hy
      | succ i => exact h3 i v' x (by simpa using hv') (by simpa using hx)
    unfold roArgs at h
    split at h
    · rename_i e; cases e
    · rename_i k vs e
      cases e
      split at h
      · rename_i b cs hb
        obtain ⟨b', cs', hb', rfl⟩ := lkE_box hb
        exact step _ h (.inl ⟨k, b', cs', rfl, hb', rfl⟩)
      · cases h
    · rename_i u vs e
      cases e
      exact step _ h (.inr ⟨u, rfl, rfl⟩)
    · cases h
theorem q_ro (hT : TOk P T) (h : Sim T.globL U w0 F0 σ a w ow) (hd : o.dst = some d) {f : FuncId} {g : List V → Option Int} (hg : fnd T.roL f = some g) {args : Array Operand} (hrun : (execOp a.eval o).run P w = (callFunc f (args.map a.eval)).run P w)
    (hk : roGo (lkE σ) g (args.toList.map (val T σ)) K = some r) : GoodW P T U w0 F0 σ a w o d K r := by
  unfold roGo at hk
  obtain ⟨xs, hk1, hl, hx⟩ := roArgs_some hk
  cases hgu : g xs with
  | some u =>
    rw [hgu] at hk1
    have hro := hT.ro f g hg
    have hl : xs.length = args.size := by rw [hl]; simp
    have hcalls := hro.ok U w ow σ.ob xs (args.map a.eval) u h.ho (by simp [hl]) (fun i c x hc hxi => by
      have hi : i < args.size := by have := (List.getElem?_eq_some_iff.1 hxi).1; omega
      simp only [Array.getElem?_map, Array.getElem?_eq_getElem hi, Option.map_some, Option.some.injEq] at hc
      subst hc
      have hv := val_sr h args[i]
      have ha : (args.toList.map (val T σ))[i]? = some (val T σ args[i]) := by
        rw [List.getElem?_map, Array.getElem?_toList, Array.getElem?_eq_getElem hi]; rfl
      rcases hx i _ x ha hxi with ⟨k, b, cs, e1, e2, rfl⟩ | ⟨u', e1, rfl⟩
      · rw [e1] at hv
        refine ⟨k, b, cs, e2, rfl, ?_⟩
        rcases hv with ⟨o', cs', _, _, e⟩ | ⟨o', z, ys, e, _⟩
        · exact e
        · rw [e2] at e; cases e
      · exact (val_sc h e1).1) hgu
    obtain ⟨fn, c, e1, e2, e3⟩ := hro.fn
    refine ⟨_, .none, [], hk1, fun _ Kq Q hq => ?_⟩
    unfold Oper.wp
    rw [hrun, run_enter e1 e2 e3, Oper.upon_enter]
    refine hcalls.mono ?_
    rintro e w' ⟨rfl, hx⟩
    rw [hd]
    exact hq _ w' ow ((h.world hx).put d fun _ => FR.sc rfl)
  | none => rw [hgu] at hk1; cases hk1

theorem q_call (hT : TOk P T) (hC : CallOk P T.globL call) (h : Sim T.globL U w0 F0 σ a w ow) (hd : o.dst = some d) {f : Operand} {args : Array Operand} {ts : Array TypeId} (ho : o.op = .call { callee := .value f, args, argTypes := ts })
    (hk : (let go (f : FuncId) (more : List V) : Option R := bif T.loud f then none else
        sealVs (lkE σ) (nrmA T ts.toList (args.toList.map (val T σ))) fun vs s => (call f (vs ++ more)).bind fun r =>
          match T.ty o.type with
          | .c sh => unC sh r.1 fun x => K x .none s
          | .agg ss => unSt ss.length r.1 (K (.dt r.1) .none s)
          | .p ss => unIo r.1 fun cs => unCs (.st cs) 0 ss fun cs => K (.ptr d none 0 0) (.box true cs) s
          | .tup ts => unTup ts.length r.1 fun vs => unVs vs 0 ts fun vs => K (.tup vs) .none s
      match val T σ f with
      | .sc (.func (.func f) fs cv) => bif Nat.beq fs.size 0 && Nat.beq cv.size 0 then (match fnd T.roL f with
        | some g => roGo (lkE σ) g (args.toList.map (val T σ)) K
        | none => go f []) else none
      | .clo f caps => bif caps.all isRp then go f caps else none
      | _ => none) = some r) : GoodW P T U w0 F0 σ a w o d K r := by
  have hv := val_sr h f
  simp only at hk
  split at hk
  · rename_i g fs cv hf
    obtain ⟨hc, hk2⟩ := bif_some hk
    simp only [Bool.and_eq_true] at hc
    have h1 : fs = #[] := Array.eq_empty_of_size_eq_zero (beq_nat.1 hc.1)
    have h2 : cv = #[] := Array.eq_empty_of_size_eq_zero (beq_nat.1 hc.2)
    subst h1; subst h2
    split at hk2
    · rename_i g' hg
      exact q_ro hT h hd hg (by have := exec_call (P := P) (w := w) ho (val_sc h hf).1; simpa using this) hk2
    · exact q_go hC h hd (exec_call ho (val_sc h hf).1) rfl (fun i v x hv => by simp at hv) hk2
  · rename_i g caps hf
    obtain ⟨hc, hk2⟩ := bif_some hk
    rw [hf] at hv
    have hv' : FR w (Fz U w ow σ.ob) [a.eval f] (.clo g caps) := hv
    generalize hu : a.eval f = u at hv'
    cases hv' with
    | clo hl hh =>
      refine q_go hC h hd (exec_call ho hu) hl (fun i v x hi hx => ?_) hk2
      have h1 := hh i v x hi hx
      have h2 := List.all_eq_true.1 hc x (List.mem_of_getElem? hx)
      cases x <;> first | exact h1 | cases h2
  · cases hk

/-- EVERY QUIET OPERATION -/
theorem qv_sound (hT : TOk P T) (hC : CallOk P T.globL call) (h : Sim T.globL U w0 F0 σ a w ow) (hd : o.dst = some d)
    (hk : qv T call (val T σ) (lkE σ) d o K = some r) : GoodW P T U w0 F0 σ a w o d K r := by
  obtain ⟨dst, op, type, pos, after, guard⟩ := o
  cases op <;> first
    | (cases hk; done)
    | skip
  case move x => exact (q_move h rfl hk).toW hd
  case pick c x y => exact (q_pick h rfl hk).toW hd
  case alloc t => exact (q_alloc hT h rfl hk).toW hd
  case box t x => exact (q_box h rfl hk).toW hd
  case build t ps => exact (q_build hT h rfl hk).toW hd
  case buildSlice t n ps => exact (q_buildSlice hT h rfl hk).toW hd
  case load t p => exact (q_load hT h rfl hk).toW hd
  case nilCheck x => exact (q_nilCheck h rfl hk).toW hd
  case binOp op t x y t' => exact (aBin_ok hT h rfl hk).toW hd
  case unOp op t x => exact (aUn_ok h rfl hk).toW hd
  case convert s t x => exact (q_convert hT h rfl hk).toW hd
  case makeSlice t l c => exact (q_makeSlice hT h rfl hk).toW hd
  case slice t x lo hi mx => exact (q_slice hT h rfl hk).toW hd
  case fieldAddr t x f => exact (q_fieldAddr hT h rfl hk).toW hd
  case indexAddr t x i => exact (q_indexAddr hT h rfl hk).toW hd
  case index t x i => exact (q_index hT h rfl hk).toW hd
  case extract x i => exact (q_extract h rfl hk).toW hd
  case makeFunc f first caps =>
    cases f with
    | func f => exact (q_makeFunc h rfl hk).toW hd
    | _ => cases hk
  case call c =>
    obtain ⟨callee, args, ts⟩ := c
    cases callee with
    | value f => exact q_call hT hC h hd rfl hk
    | invoke r m => cases hk
    | builtin b =>
      cases b <;> first
        | (cases hk; done)
        | exact (q_len hT h rfl hk).toW hd
        | exact (q_max h rfl hk).toW hd
        | exact (q_min h rfl hk).toW hd
  case assign x =>
    have hv := val_sr h x
    have hk : (match val T σ x with | .dead => none | x => K x .none []) = some r := hk
    generalize val T σ x = y at hv hk
    have : K y .none [] = some r := by cases y <;> first | exact hk | cases hk
    exact Good.toW hd ⟨y, .none, [], this, fun _ => done_plain h (by simp [execOp]) hv⟩
end
end Go.Proofs.YtaapkkeogajfpaaDoor.VM

/- The abstract machine and the memory: regions in the order of the text; code. -/
set_option linter.unusedVariables false
set_option linter.unusedSimpArgs false
namespace Go.Proofs.YtaapkkeogajfpaaDoor.VM
open Go.RowKit

/-! ### what is frozen, key by key -/
def frzK (s : List (Nat × Option Nat)) (k : Nat) (o : Ob) : Ob :=
  match s with
  | [] => o
  | (k', c) :: s => frzK s k (if k' = k then frzO c o else o)

theorem frzO_idem (c : Option Nat) (o : Ob) : frzO c (frzO c o) = frzO c o := by
  cases c with
  | none => cases o <;> rfl
  | some c =>
    cases o with
    | box b cs =>
      simp only [frzO]
      cases hc : cs.getD c .dead with
      | own o z xs =>
        simp only []
        have hl : c < cs.length := by
          by_cases h : c < cs.length
          · exact h
          · simp [List.getD_eq_getElem?_getD, List.getElem?_eq_none (by omega : cs.length ≤ c)] at hc
        have : (cs.set c (.own false z xs)).getD c .dead = .own false z xs := by simp [List.getD_eq_getElem?_getD, hl]
        rw [this]
        simp
      | _ => simp only [hc]
    | _ => rfl
theorem frzO_comm (c c' : Option Nat) (o : Ob) : frzO c (frzO c' o) = frzO c' (frzO c o) := by
  by_cases hcc : c = c'
  · rw [hcc]
  cases c with
  | none =>
    cases c' with
    | none => rfl
    | some c' =>
      cases o with
      | box b cs => simp only [frzO]; cases cs.getD c' .dead <;> simp only [frzO]
      | _ => rfl
  | some c =>
    cases c' with
    | none =>
      cases o with
      | box b cs => simp only [frzO]; cases cs.getD c .dead <;> simp only [frzO]
      | _ => rfl
    | some c' =>
      have hne : c ≠ c' := fun e => hcc (by rw [e])
      cases o with
      | box b cs =>
        have g1 : ∀ x, (cs.set c' x).getD c .dead = cs.getD c .dead := fun x => by simp [List.getD_eq_getElem?_getD, List.getElem?_set_ne (Ne.symm hne)]
        have g2 : ∀ x, (cs.set c x).getD c' .dead = cs.getD c' .dead := fun x => by simp [List.getD_eq_getElem?_getD, List.getElem?_set_ne hne]
        cases h1 : cs.getD c .dead <;> cases h2 : cs.getD c' .dead <;> simp only [frzO, h1, h2, g1, g2]
        rw [List.set_comm _ _ hne]
      | _ => rfl

theorem frzK_push (s : List (Nat × Option Nat)) (k : Nat) (c : Option Nat) : ∀ o, frzK s k (frzO c o) = frzO c (frzK s k o) := by
  induction s with
  | nil => exact fun o => rfl
  | cons q s ih =>
    intro o
    obtain ⟨k', c'⟩ := q
    simp only [frzK]
    split
    · rw [frzO_comm, ih]
    · exact ih o
theorem frzK_mem {s : List (Nat × Option Nat)} {k : Nat} {c : Option Nat} (h : (k, c) ∈ s) : ∀ o, frzK s k (frzO c o) = frzK s k o := by
  induction s with
  | nil => simp at h
  | cons q s ih =>
    intro o
    obtain ⟨k', c'⟩ := q
    simp only [frzK]
    rcases List.mem_cons.1 h with h | h
    · cases h
      rw [if_pos rfl, if_pos rfl, frzO_idem]
    · split
      · rw [frzO_comm, ih h]
      · exact ih h o
theorem frzK_sub {s : List (Nat × Option Nat)} {k : Nat} : ∀ {s' : List (Nat × Option Nat)}, (∀ q ∈ s', q ∈ s) → ∀ o, frzK s k (frzK s' k o) = frzK s k o
  | [], _, o => rfl
  | (k', c) :: s', h, o => by
    simp only [frzK]
    rw [frzK_sub (fun q hq => h q (List.mem_cons_of_mem _ hq))]
    split
    · rename_i hk
      subst hk
      exact frzK_mem (h _ (by simp)) o
    · rfl
theorem frzO_none (c : Option Nat) : frzO c .none = .none := by cases c <;> rfl
theorem frzK_none (s : List (Nat × Option Nat)) (k : Nat) : frzK s k .none = .none := by
  induction s with
  | nil => rfl
  | cons q s ih => obtain ⟨k', c⟩ := q; simp only [frzK, frzO_none, ite_self]; exact ih
theorem getD_freeze (k : Nat) : ∀ (s : List (Nat × Option Nat)) (ob : List Ob), (freeze ob s).getD k .none = frzK s k (ob.getD k .none)
  | [], _ => rfl
  | (k', c) :: s, ob => by
    show (freeze (frz1 ob k' c) s).getD k .none = frzK s k _
    rw [getD_freeze k s]
    congr 1
    unfold frz1
    rw [getD_set_ob]
    by_cases hk : k = k'
    · subst hk
      by_cases hl : k < ob.length
      · rw [if_pos ⟨rfl, hl⟩, if_pos rfl]
      · rw [if_neg (fun hh => hl hh.2), if_pos rfl]
        have : ob.getD k .none = .none := by simp [List.getD_eq_getElem?_getD, List.getElem?_eq_none (by omega : ob.length ≤ k)]
        rw [this, frzO_none]
    · rw [if_neg (fun hh => hk hh.1), if_neg (fun hh => hk hh.symm)]
theorem ext_getD {l l' : List Ob} (hl : l.length = l'.length) (h : ∀ k, l.getD k .none = l'.getD k .none) : l = l' := by
  refine List.ext_getElem hl fun k h1 h2 => ?_
  have := h k
  simpa [List.getD_eq_getElem?_getD, List.getElem?_eq_getElem h1, List.getElem?_eq_getElem h2] using this
theorem setN_length (l : List Ob) (d : Nat) (o : Ob) : (setN l d o).length = l.length := by cases o <;> simp [setN]
theorem getD_setN (l : List Ob) (d k : Nat) (o : Ob) : (setN l d o).getD k .none = if k = d ∧ d < l.length ∧ isNone o = false then o else l.getD k .none := by
  cases o with
  | none => simp [setN, isNone]
  | box b cs => show (l.set d _).getD k .none = _; rw [getD_set_ob]; simp [isNone]
  | row b z xs => show (l.set d _).getD k .none = _; rw [getD_set_ob]; simp [isNone]

/-- to freeze again what is frozen changes nothing -/
theorem freeze_again {fs s : List (Nat × Option Nat)} {ob : List Ob} {d : Nat} {o : Ob} (hs : ∀ q ∈ s, q ∈ fs) : freeze (setN (freeze (freeze ob fs) s) d o) fs = freeze (setN ob d o) fs := by
  refine ext_getD (by simp only [freeze_length, setN_length]) fun k => ?_
  rw [getD_freeze, getD_freeze, getD_setN, getD_setN]
  simp only [freeze_length]
  split
  · rfl
  · rw [getD_freeze, getD_freeze, frzK_sub hs, frzK_sub (fun _ h => h)]
theorem freeze_more {fs s : List (Nat × Option Nat)} {ob : List Ob} : freeze (freeze ob fs) (fs ++ s) = freeze ob (fs ++ s) := by
  refine ext_getD (by simp only [freeze_length]) fun k => ?_
  rw [getD_freeze, getD_freeze, getD_freeze, frzK_sub (fun q hq => List.mem_append_left _ hq)]

theorem eO_frzO (c : Option Nat) (o : Ob) : eO (frzO c o) = eO o := by
  cases c with
  | none => cases o <;> rfl
  | some c =>
    cases o with
    | box b cs =>
      simp only [frzO]
      cases hc : cs.getD c .dead with
      | own o z xs =>
        simp only [eO, Ob.box.injEq, true_and]
        refine List.ext_getElem (by simp) fun j h1 h2 => ?_
        simp only [List.length_map] at h2
        simp only [List.getElem_map, List.getElem_set]
        split
        · rename_i hj
          subst hj
          have : cs[c] = .own o z xs := by simpa [List.getD_eq_getElem?_getD, List.getElem?_eq_getElem h2] using hc
          rw [this]; rfl
        · rfl
      | _ => rfl
    | _ => rfl
theorem eO_frzK (k : Nat) : ∀ (s : List (Nat × Option Nat)) (o : Ob), eO (frzK s k o) = eO o
  | [], _ => rfl
  | (k', c) :: s, o => by
    simp only [frzK]
    rw [eO_frzK k s]
    split
    · exact eO_frzO c o
    · rfl
theorem lkE_freeze (sl : List V) (ob : List Ob) (s : List (Nat × Option Nat)) : lkE ⟨sl, freeze ob s⟩ = lkE ⟨sl, ob⟩ := by
  funext k
  show eO ((freeze ob s).getD k .none) = eO (ob.getD k .none)
  rw [getD_freeze, eO_frzK]

def σF (σ : St) (fs : List (Nat × Option Nat)) : St := ⟨σ.sl, freeze σ.ob fs⟩

section
variable {P : Program} {T : TT} {U : Nat → Prop} {w0 w : World} {F0 : Fr} {σ : St} {a : Act} {ow : Own} {r : Res}
variable {o : Oper} {d : Nat} {call : FuncId → List V → Option Res} {fs : List (Nat × Option Nat)}

theorem isNone_iff {o : Ob} : isNone o = true ↔ o = .none := by cases o <;> simp [isNone]

/-- the step's state, with what is to be frozen frozen -/
theorem sim_putN {s : List (Nat × Option Nat)} {x : V} {ob : Ob} {a' : Act} (h : Sim T.globL U w0 F0 (putQ (σF σ fs) d x ob s) a' w ow) : Sim T.globL U w0 F0 (σF (putN σ d x ob) (fs ++ s)) a' w ow := by
  have h1 := h.freeze (fs ++ s)
  have : freeze (setN (freeze (freeze σ.ob fs) s) d ob) (fs ++ s) = freeze (setN σ.ob d ob) (fs ++ s) := by
    have e := freeze_again (fs := fs ++ s) (s := s) (ob := freeze σ.ob fs) (d := d) (o := ob) (fun q hq => List.mem_append_right _ hq)
    have e2 := freeze_again (fs := fs ++ s) (s := fs) (ob := σ.ob) (d := d) (o := ob) (fun q hq => List.mem_append_left _ hq)
    refine ext_getD (by simp only [freeze_length, setN_length]) fun k => ?_
    rw [getD_freeze, getD_freeze, getD_setN, getD_setN]
    simp only [freeze_length]
    split
    · rfl
    · rw [getD_freeze, getD_freeze, frzK_sub (fun q hq => List.mem_append_right _ hq), frzK_sub (fun q hq => List.mem_append_left _ hq)]
  show Sim T.globL U w0 F0 ⟨σ.sl.set d x, freeze (setN σ.ob d ob) (fs ++ s)⟩ a' w ow
  rw [← this]
  exact h1

def DoneO (P : Program) (GL : List (Nat × V)) (U : Nat → Prop) (w0 : World) (F0 : Fr) (a : Act) (w : World) (o : Oper) (σ' : St) : Prop :=
  ∀ (K : Act → World → Prop) (Q : Exit → Act → World → Prop), (∀ a' w' ow', Sim GL U w0 F0 σ' a' w' ow' → K a' w') → o.wp P a w K Q

/-- what the loud operations owe -/
def LoudOk (P : Program) (T : TT) (call : FuncId → List V → Option Res) : Prop :=
  ∀ (U : Nat → Prop) (w0 : World) (F0 : Fr) (σ : St) (a : Act) (w : World) (ow : Own) (o : Oper) (K : St → Option Res) (r : Res), Sim T.globL U w0 F0 σ a w ow → (∀ d, o.dst = some d → F0.pn d = none) → exLoud T call σ o K = some r →
    ∃ σ', K σ' = some r ∧ DoneO P T.globL U w0 F0 a w o σ'

theorem exOp_ok (hT : TOk P T) (hC : CallOk P T.globL call) (hL : LoudOk P T call) (h : Sim T.globL U w0 F0 (σF σ fs) a w ow) (hpn : ∀ d, o.dst = some d → F0.pn d = none) {K : St → List (Nat × Option Nat) → Option Res} {dr : Bool} (hk : exOp T call dr σ fs o K = some r) :
    ∃ σ' fs', K σ' fs' = some r ∧ DoneO P T.globL U w0 F0 a w o (σF σ' fs') := by
  unfold exOp at hk
  cases hq : isQuiet T o with
  | false =>
    rw [hq] at hk
    obtain ⟨σ', h1, h2⟩ := hL _ _ _ _ _ _ _ _ _ _ h hpn hk
    exact ⟨σ', [], h1, h2⟩
  | true =>
    rw [hq] at hk
    simp only [cond_true] at hk
    have hk : (match o.dst with
      | some d => qv T call (val T σ) (lkE σ) d o fun x ob s => bif isNone ob || isNone (σ.ob.getD d .none) then K (putN σ d x ob) (fs ++ s) else none
      | none => none) = some r := by
      cases hb : (dr && !keysOk T σ o)
      · rw [hb] at hk; exact hk
      · rw [hb] at hk; cases hk
    split at hk
    · rename_i d hd
      have e : qv T call (val T σ) (lkE σ) d o = qv T call (val T (σF σ fs)) (lkE (σF σ fs)) d o (R := Res) := by
        have : lkE (σF σ fs) = lkE σ := lkE_freeze _ _ _
        rw [this]; rfl
      rw [e] at hk
      obtain ⟨x, ob, s, hK, hdone⟩ := qv_sound hT hC h hd hk
      obtain ⟨h0, hK2⟩ := bif_some hK
      refine ⟨_, _, hK2, fun Kq Q hq => hdone ?_ Kq Q fun u w' ow' hs => hq _ _ ow' (sim_putN hs)⟩
      simp only [Bool.or_eq_true, isNone_iff] at h0
      rcases h0 with h0 | h0
      · exact .inl h0
      · refine .inr ⟨?_, hpn d hd⟩
        show (freeze σ.ob fs).getD d .none = .none
        rw [getD_freeze, h0, frzK_none]
    · cases hk

theorem slot_bool (h : Sim T.globL U w0 F0 σ a w ow) {g : Nat} {t : Bool} (hg : σ.sl.getD g .dead = .sc (.bool t)) : a.tmps[g]? = some (.bool t) := by
  have h1 := h.slots g
  rw [hg] at h1
  have h2 : FR w (Fz U w ow σ.ob) [a.tmps.getD g undef] (.sc (.bool t)) := h1
  have h3 := h2.sc_inv
  simp only [List.cons.injEq, and_true] at h3
  rw [Array.getD_eq_getD_getElem?] at h3
  cases hv : a.tmps[g]? with
  | none => rw [hv] at h3; simp [undef] at h3
  | some v => rw [hv] at h3; simpa using h3

theorem set_same {l : List V} {g : Nat} {x : V} (h : l.getD g .dead = x) : l.set g x = l := by
  by_cases hl : g < l.length
  · refine List.ext_getElem (by simp) fun j h1 h2 => ?_
    rw [List.getElem_set]
    split
    · rename_i hj; subst hj
      simpa [List.getD_eq_getElem?_getD, List.getElem?_eq_getElem hl] using h.symm
    · rfl
  · exact List.set_eq_of_length_le (by omega)

theorem sim_skip (h : Sim T.globL U w0 F0 σ a w ow) (d : Nat) : Sim T.globL U w0 F0 ⟨σ.sl.set d (.tup []), σ.ob⟩ (a.put (some d) undef) w ow := h.put d fun _ => ⟨#[], rfl, rfl, fun j u y hu => by simp at hu⟩
/-- a step was skipped: what hangs on it is, too -/
theorem undef_yield (h : Sim T.globL U w0 F0 σ a w ow) {all : Array Oper} {j g : Nat} (hgd : (all.toList[j]?).bind (·.dst) = some g) (hu : isUndef (σ.sl.getD g .dead) = true) : yielded all a.tmps j = none := by
  have hs := h.slots g
  have hx : σ.sl.getD g .dead = .tup [] := by
    cases hv : σ.sl.getD g .dead <;> rw [hv] at hu <;> first | (cases hu; done) | skip
    rename_i vs
    cases vs <;> first | rfl | cases hu
  rw [hx] at hs
  obtain ⟨arr, h1, _⟩ := hs
  rw [Array.getElem?_toList] at hgd
  unfold yielded
  rw [hgd, Option.bind_some]
  rw [Array.getD_eq_getD_getElem?] at h1
  cases ht : a.tmps[g]? with
  | none => rfl
  | some v => rw [ht] at h1; simp at h1; rw [h1]

/-- REGIONS, IN THE ORDER OF THE TEXT -/
theorem exOps_plain (hT : TOk P T) (hC : CallOk P T.globL call) (hL : LoudOk P T call) {dr : Bool} {all : Array Oper} {Q : Exit → Act → World → Prop} {K : St → Option Res} :
    ∀ (ops : List Oper) (σ : St) (fs : List (Nat × Option Nat)) (a : Act) (w : World) (ow : Own), (∀ o ∈ ops, ∀ d, o.dst = some d → F0.pn d = none) → Sim T.globL U w0 F0 (σF σ fs) a w ow → exOps T call dr all.toList ops σ fs K = some r →
      (∀ σ' a' w' ow', K σ' = some r → Sim T.globL U w0 F0 σ' a' w' ow' → Q .normal a' w') → wpList P all Q ops a w
  | [], σ, fs, a, w, ow, _, h, hk, hQ => hQ _ a w ow hk h
  | o :: ops, σ, fs, a, w, ow, hpn, h, hk, hQ => by
    have go : ∀ (σ : St), Sim T.globL U w0 F0 (σF σ fs) a w ow → exOp T call dr σ fs o (fun σ fs => exOps T call dr all.toList ops σ fs K) = some r → o.wp P a w (wpList P all Q ops) Q := fun σ h he => by
      obtain ⟨σ', fs', h1, h2⟩ := exOp_ok hT hC hL h (hpn o (by simp)) he
      exact h2 _ _ fun a' w' ow' hs => exOps_plain hT hC hL ops σ' fs' a' w' ow' (fun o ho => hpn o (List.mem_cons_of_mem _ ho)) hs h1 hQ
    unfold exOps at hk
    unfold wpList
    split at hk
    · rename_i hg
      rw [if_pos (by simp [Region.wanted, hg])]
      exact .inl (go σ h hk)
    · rename_i j want hg
      split at hk
      · cases hk
      · rename_i g hgd
        cases hun : isUndef (σ.sl.getD g .dead) with
        | true =>
          rw [hun] at hk
          have hy : yielded all a.tmps j = none := undef_yield (σ := σF σ fs) h hgd hun
          rw [if_neg (by simp [Region.wanted, hg, hy])]
          simp only [cond_true] at hk
          split at hk
          · rename_i d hd
            rw [hd]
            exact exOps_plain hT hC hL ops ⟨σ.sl.set d (.tup []), σ.ob⟩ fs _ w ow (fun o ho => hpn o (List.mem_cons_of_mem _ ho)) (sim_skip h d) hk hQ
          · cases hk
        | false =>
        rw [hun] at hk
        obtain ⟨t, ht, hk2⟩ := unB_some hk
        have hk3 : (bif t == want then exOp T call dr ⟨σ.sl.set g (.sc (.bool t)), σ.ob⟩ fs o (fun σ fs => exOps T call dr all.toList ops σ fs K) else match o.dst with
            | some d => exOps T call dr all.toList ops ⟨(σ.sl.set g (.sc (.bool t))).set d (.tup []), σ.ob⟩ fs K
            | none => none) = some r := by cases t <;> exact hk2
        rw [set_same ht] at hk3
        have hb := slot_bool h (g := g) (t := t) ht
        have hy : yielded all a.tmps j = some t := by
          unfold yielded
          rw [Array.getElem?_toList] at hgd
          rw [hgd]
          simp [hb]
        cases htw : (t == want) with
        | true =>
          rw [htw] at hk3
          rw [if_pos (by simp [Region.wanted, hg, hy]; simpa using htw)]
          exact .inl (go σ h hk3)
        | false =>
          rw [htw] at hk3
          simp only [cond_false] at hk3
          rw [if_neg (by simp [Region.wanted, hg, hy]; simpa using htw)]
          split at hk3
          · rename_i d hd
            rw [hd]
            exact exOps_plain hT hC hL ops ⟨σ.sl.set d (.tup []), σ.ob⟩ fs _ w ow (fun o ho => hpn o (List.mem_cons_of_mem _ ho)) (sim_skip h d) hk3 hQ
          · cases hk3
end
end Go.Proofs.YtaapkkeogajfpaaDoor.VM

/- The abstract machine: a quiet operation yields the same wherever what it looks at is the same. -/
set_option linter.unusedVariables false
set_option linter.unusedSimpArgs false
namespace Go.Proofs.YtaapkkeogajfpaaDoor.VM

section
variable {R S : Type} {g : R → Option S}

theorem none_bind' : (none : Option R).bind g = none := rfl
theorem unI_bind {k : IntKind} {v : V} {K : Int → Option R} : (unI k v K).bind g = unI k v fun m => (K m).bind g := by
  unfold unI; split
  · rename_i k' m; cases decide (k' = k) <;> rfl
  · rfl
theorem unB_bind {v : V} {K : Bool → Option R} : (unB v K).bind g = unB v fun m => (K m).bind g := by unfold unB; split <;> rfl
theorem unS_bind {v : V} {K : ByteArray → Option R} : (unS v K).bind g = unS v fun m => (K m).bind g := by unfold unS; split <;> rfl
theorem unL_bind {z : Nat} {v : V} {K : List V → Option R} : (unL z v K).bind g = unL z v fun m => (K m).bind g := by
  unfold unL; split
  · rename_i z' m; cases Nat.beq z' z <;> rfl
  · rfl
  · rfl
theorem unIo_bind {v : V} {K : List V → Option R} : (unIo v K).bind g = unIo v fun m => (K m).bind g := by unfold unIo; split <;> rfl
theorem unTup_bind {n : Nat} {v : V} {K : List V → Option R} : (unTup n v K).bind g = unTup n v fun m => (K m).bind g := by
  unfold unTup; split
  · rename_i m; cases Nat.beq m.length n <;> rfl
  · rfl
theorem unSt_bind {n : Nat} {v : V} {K : Option R} : (unSt n v K).bind g = unSt n v (K.bind g) := by
  unfold unSt; split
  · rename_i m; cases Nat.beq m.length n <;> rfl
  · rfl
theorem wd_bind {n : Nat} {v : V} {K : Option R} : (wd n v K).bind g = wd n v (K.bind g) := by
  unfold wd; split
  · rename_i m; cases Nat.beq m.length n <;> rfl
  · cases Nat.beq n 1 <;> rfl
theorem wds_bind {n : Nat} : ∀ {xs : List V} {K : Option R}, (wds n xs K).bind g = wds n xs (K.bind g)
  | [], _ => rfl
  | x :: xs, K => by unfold wds; rw [wd_bind, wds_bind]
theorem unC_bind {s : Sh} {v : V} {K : V → Option R} : (unC s v K).bind g = unC s v fun m => (K m).bind g := by
  unfold unC
  cases s with
  | i k => exact unI_bind
  | b => exact unB_bind
  | tx => exact unS_bind
  | l z => exact unL_bind
  | any => cases v <;> rfl
theorem unCs_bind {x : V} : ∀ {ss : List Sh} {j : Nat} {K : List V → Option R}, (unCs x j ss K).bind g = unCs x j ss fun m => (K m).bind g
  | [], _, _ => rfl
  | s :: ss, j, K => by unfold unCs; rw [unC_bind]; congr 1; funext c; exact unCs_bind
theorem unVs_bind {vs : List V} : ∀ {ts : List Ty} {j : Nat} {K : List V → Option R}, (unVs vs j ts K).bind g = unVs vs j ts fun m => (K m).bind g
  | [], _, _ => rfl
  | .c s :: ss, j, K => by unfold unVs; rw [unC_bind]; congr 1; funext c; exact unVs_bind
  | .agg s :: ss, j, K => by unfold unVs; rw [unSt_bind]; congr 1; exact unVs_bind
  | .p s :: ss, j, K => rfl
  | .tup s :: ss, j, K => rfl
theorem exN_bind {xs : List V} {n : Nat} {K : V → Option R} : (exN xs n K).bind g = exN xs n fun m => (K m).bind g := by unfold exN; cases xs[n]? <;> rfl
theorem ix_bind {xs : List V} {n : Int} {K : V → Option R} : (ix xs n K).bind g = ix xs n fun m => (K m).bind g := by
  cases n with
  | ofNat n => exact exN_bind
  | negSucc n => rfl
theorem ixS_bind {s : ByteArray} {n : Int} {K : Int → Option R} : (ixS s n K).bind g = ixS s n fun m => (K m).bind g := by
  cases n with
  | ofNat n => simp only [ixS]; cases s[n]? <;> rfl
  | negSucc n => rfl
theorem chk_bind {b : Bool} {K : Option R} : (chk b K).bind g = chk b (K.bind g) := by cases b <;> rfl
theorem bif_bind {b : Bool} {K K' : Option R} : (bif b then K else K').bind g = bif b then K.bind g else K'.bind g := by cases b <;> rfl
theorem asI_bind {v : V} {K : Int → Option R} : (asI v K).bind g = asI v fun m => (K m).bind g := by unfold asI; split <;> rfl
theorem unBytes_bind : ∀ {xs : List V} {K : List UInt8 → Option R}, (unBytes xs K).bind g = unBytes xs fun m => (K m).bind g
  | [], _ => rfl
  | x :: xs, K => by unfold unBytes; rw [unI_bind]; congr 1; funext c; exact unBytes_bind
theorem datC_bind {v : V} {K : V → Option R} : (datC v K).bind g = datC v fun m => (K m).bind g := by cases v <;> rfl
theorem datCs_bind : ∀ {vs : List V} {K : List V → Option R}, (datCs vs K).bind g = datCs vs fun m => (K m).bind g
  | [], _ => rfl
  | v :: vs, K => by unfold datCs; rw [datC_bind]; congr 1; funext c; exact datCs_bind
theorem aInt_bind {op : BinOp} {k : IntKind} {x y : Int} {K : Value → Option R} : (aInt op k x y K).bind g = aInt op k x y fun m => (K m).bind g := by
  cases op <;> simp only [aInt] <;> first | rfl | exact chk_bind
theorem aStr_bind {op : BinOp} {x y : ByteArray} {K : Value → Option R} : (aStr op x y K).bind g = aStr op x y fun m => (K m).bind g := by
  cases op <;> simp only [aStr] <;> first | rfl | exact chk_bind
theorem aBin_bind {t : Ty} {op : BinOp} {x y : V} {K : Value → Option R} : (aBin t op x y K).bind g = aBin t op x y fun m => (K m).bind g := by
  unfold aBin
  split
  · split
    · exact chk_bind
    · exact chk_bind
    · rw [bif_bind]; congr 1; exact aInt_bind
  · exact aStr_bind
  · rw [bif_bind]; congr 1; split <;> rfl
  · rfl
theorem aUn_bind {op : UnOp} {x : V} {K : Value → Option R} : (aUn op x K).bind g = aUn op x fun m => (K m).bind g := by
  unfold aUn; split <;> rfl
theorem pickB_bind {c x y : V} {K : V → Option R} : (pickB c x y K).bind g = pickB c x y fun m => (K m).bind g := by
  unfold pickB; split
  · split
    · rfl
    · rw [bif_bind]
  · rfl
theorem partCs_bind {v : V} {K : List V → Option R} : (partCs v K).bind g = partCs v fun m => (K m).bind g := by cases v <;> rfl
theorem fillP_bind {place : Nat → Option (Nat × Nat)} : ∀ {ps : List (Nat × V)} {cs : List V} {K : List V → Option R}, (fillP place cs ps K).bind g = fillP place cs ps fun m => (K m).bind g
  | [], _, _ => rfl
  | (i, v) :: ps, cs, K => by
    unfold fillP
    cases place i with
    | none => rfl
    | some q => simp only [partCs_bind, bif_bind, fillP_bind]; rfl

section
variable {lk : Nat → Ob}
theorem sealC_bind {v : V} {K : V → List (Nat × Option Nat) → Option R} : (sealC lk v K).bind g = sealC lk v fun m s => (K m s).bind g := by
  unfold sealC
  split <;> first | rfl | skip
  rename_i k c m
  cases obRow lk k c <;> rfl
theorem sealCs_bind : ∀ {vs : List V} {K : List V → List (Nat × Option Nat) → Option R}, (sealCs lk vs K).bind g = sealCs lk vs fun m s => (K m s).bind g
  | [], _ => rfl
  | v :: vs, K => by unfold sealCs; rw [sealC_bind]; congr 1; funext c s; exact sealCs_bind
theorem sealV_bind {v : V} {K : V → List (Nat × Option Nat) → Option R} : (sealV lk v K).bind g = sealV lk v fun m s => (K m s).bind g := by
  cases v <;> simp only [sealV] <;> first | exact sealC_bind | exact sealCs_bind | rfl
theorem sealVs_bind : ∀ {vs : List V} {K : List V → List (Nat × Option Nat) → Option R}, (sealVs lk vs K).bind g = sealVs lk vs fun m s => (K m s).bind g
  | [], _ => rfl
  | v :: vs, K => by unfold sealVs; rw [sealV_bind]; congr 1; funext c s; exact sealVs_bind
theorem boxed_bind {ss : List Sh} {v : V} {K : List V → List (Nat × Option Nat) → Option R} : (boxed lk ss v K).bind g = boxed lk ss v fun m s => (K m s).bind g := by
  cases v <;> simp only [boxed] <;> first
    | (rw [bif_bind]; congr 1; exact sealCs_bind)
    | (rw [unSt_bind]; congr 1; exact unCs_bind)
    | (split; exact sealC_bind; rfl)
theorem sgEl_bind {k c i : Nat} {K : V → Option R} : (sgEl lk k c i K).bind g = sgEl lk k c i fun m => (K m).bind g := by
  unfold sgEl
  cases segAt lk k c with
  | none => rfl
  | some q => exact exN_bind
theorem elL_bind {x : V} {K : List V → Option R} : (elL x K).bind g = elL x fun m => (K m).bind g := by
  unfold elL
  split <;> rfl
theorem elO_bind {x : V} {K : List V → Option R} : (elO x K).bind g = elO x fun m => (K m).bind g := by
  unfold elO
  split <;> rfl
theorem asLen_bind {v : V} {K : Nat → Option R} : (asLen lk v K).bind g = asLen lk v fun m => (K m).bind g := by
  cases v <;> first | rfl | skip
  case sc u => cases u <;> rfl
  case ref k c m => simp only [asLen]; cases obRow lk k c <;> rfl
  case sg k c m =>
    cases m <;> simp only [asLen]
    · cases segAt lk k c <;> rfl
    · rfl
    · simp only [sgEl_bind, elL_bind]
    · rfl
theorem asList_bind {z : Nat} {v : V} {K : List V → Option R} : (asList lk z v K).bind g = asList lk z v fun m => (K m).bind g := by
  unfold asList
  split
  · exact bif_bind
  · rfl
  · rename_i k c m
    cases obRow lk k c with
    | none => rfl
    | some q => exact bif_bind
  · rfl
theorem asBytes_bind {v : V} {K : List V → Option R} : (asBytes lk v K).bind g = asBytes lk v fun m => (K m).bind g := by
  unfold asBytes
  split
  · simp only [sgEl_bind, elL_bind]
  · exact asList_bind
end

theorem roArgs_bind {lk : Nat → Ob} : ∀ {vs : List V} {K : List V → Option R}, (roArgs lk vs K).bind g = roArgs lk vs fun xs => (K xs).bind g := by
  intro vs
  induction vs with
  | nil => intro K; rfl
  | cons v vs ih =>
    intro K
    cases v <;> first | rfl | skip
    · exact ih
    · rename_i k c i j
      cases c <;> cases i <;> cases j <;> first | rfl | skip
      simp only [roArgs]
      cases lk k <;> first | rfl | exact ih
theorem roGo_bind {lk : Nat → Ob} {f : List V → Option Int} {vs : List V} {K : V → Ob → List (Nat × Option Nat) → Option R} : (roGo lk f vs K).bind g = roGo lk f vs fun x ob s => (K x ob s).bind g := by
  unfold roGo
  rw [roArgs_bind]
  congr 1
  funext xs
  cases f xs <;> rfl
theorem k0_bind {x : V} {K : V → Ob → List (Nat × Option Nat) → Option R} : Option.bind (match x with | .dead => none | x => K x .none []) g = (match x with | .dead => none | x => (K x .none []).bind g) := by
  cases x <;> rfl

/-- what comes behind is not looked at -/
theorem qv_bind {T : TT} {call : FuncId → List V → Option Res} {v : Operand → V} {lk : Nat → Ob} {d : Nat} {o : Oper} {K : V → Ob → List (Nat × Option Nat) → Option R} :
    (qv T call v lk d o K).bind g = qv T call v lk d o fun x ob s => (K x ob s).bind g := by
  obtain ⟨dst, op, type, pos, after, guard⟩ := o
  cases op <;> first
    | rfl
    | skip
  case move x => exact k0_bind
  case assign x => exact k0_bind
  case pick c x y => simp only [qv]; exact pickB_bind
  case alloc t => simp only [qv]; cases T.zero t <;> rfl
  case box t x => simp only [qv]; cases T.ty t <;> first | exact boxed_bind | rfl
  case build t ps => simp only [qv]; cases T.ty t <;> cases T.zero t <;> cases fnd T.offL t <;> first | exact fillP_bind | rfl
  case buildSlice t n ps =>
    simp only [qv]
    cases T.el t with
    | none => rfl
    | some q =>
      simp only
      cases T.zero q.1 with
      | none => rfl
      | some zs => simp only [bif_bind, sealVs_bind, wds_bind]; rfl
  case load t p =>
    simp only [qv]
    generalize v p = y
    generalize T.ty t = tt
    generalize ldRow lk y = ld
    cases ld with
    | some q =>
      obtain ⟨xs, i, j⟩ := q
      cases tt <;> first | rfl | skip
      · simp only [exN_bind, unC_bind]
      · cases j <;> simp only [exN_bind, unSt_bind, unCs_bind]
    | none =>
    simp only
    cases y <;> cases tt <;> first | rfl | skip
    case ptr.c k c i j s =>
      cases c <;> cases i <;> simp only
      · cases lk k with
        | none => rfl
        | box b cs => exact k0_bind
        | row b z xs => simp only [exN_bind, unC_bind]
      · cases obRow lk k none with
        | none => rfl
        | some q => simp only [exN_bind, unC_bind]
      · cases obRow lk k _ with
        | none => rfl
        | some q => simp only [exN_bind, unC_bind]
      · cases obRow lk k _ with
        | none => rfl
        | some q => simp only [exN_bind, unC_bind]
    case ptr.agg k c i j ss =>
      cases c <;> cases i <;> cases j <;> simp only
      · cases lk k with
        | none => rfl
        | box b cs => exact bif_bind
        | row b z xs => simp only [exN_bind, unSt_bind]
      · cases lk k with
        | none => rfl
        | box b cs => exact bif_bind
        | row b z xs => simp only [exN_bind, unCs_bind]
      all_goals
        cases obRow lk k _ with
        | none => rfl
        | some q => simp only [exN_bind, unSt_bind, unCs_bind]
    case ptr.p k c i j s => cases c <;> cases i <;> rfl
    case ptr.tup k c i j s => cases c <;> cases i <;> rfl
    case rp.c x j s => exact unC_bind
    case rp.agg x j ss => cases j <;> simp only [unSt_bind, unCs_bind]
    case sg.c k c m s =>
      cases m <;> first | rfl | skip
      simp only
      cases segAt lk k c with
      | none => rfl
      | some q => obtain ⟨l, xs⟩ := q; cases l <;> rfl
    case sg.agg k c m s => cases m <;> rfl
    case sg.p k c m s => cases m <;> rfl
    case sg.tup k c m s => cases m <;> rfl
  case nilCheck x =>
    simp only [qv]
    cases v x <;> first | rfl | skip
    rename_i m
    cases m <;> rfl
  case binOp op t x y t' => simp only [qv]; exact aBin_bind
  case unOp op t x => simp only [qv]; exact aUn_bind
  case convert s t x =>
    simp only [qv]
    cases intTy (T.ty s) <;> cases intTy (T.ty t) <;> simp only [asI_bind, bif_bind, asBytes_bind, unBytes_bind, unS_bind] <;> rfl
  case makeSlice t l c =>
    simp only [qv]
    cases T.el t with
    | none => rfl
    | some q =>
      simp only
      cases T.zero q.1 <;> cases T.esz q.1 <;> simp only [asI_bind, chk_bind] <;> rfl
  case slice t x lo hi mx =>
    simp only [qv]
    generalize sliceOk T t (v x) = y
    generalize lo.map v = l
    generalize hi.map v = hh
    cases y <;> first | rfl | skip
    case sc u => cases u <;> first | rfl | (cases l <;> cases hh <;> simp only [asI_bind, chk_bind] <;> rfl)
    case sl z xs => cases l <;> cases hh <;> simp only [asI_bind, chk_bind] <;> rfl
    case nil => cases l <;> cases hh <;> simp only [asI_bind, chk_bind] <;> rfl
    case ref k c m =>
      cases hr : obRow lk k c with
      | none => cases l <;> cases hh <;> simp only [hr] <;> rfl
      | some q =>
        cases l <;> cases hh <;> simp only [hr, asI_bind, bif_bind, chk_bind]
        · rfl
        · congr 1
          funext h
          cases mx.map v <;> simp only [asI_bind, chk_bind]
        · rfl
        · rfl
    case sg k c m => cases m <;> cases l <;> cases hh <;> first | rfl | simp only [bif_bind, sgEl_bind, elO_bind, asI_bind, chk_bind]; rfl
  case fieldAddr t x f => simp only [qv]; cases T.off t f <;> cases v x <;> rfl
  case indexAddr t x i =>
    simp only [qv]
    generalize v x = y
    by_cases hy : ∃ k c m, y = .sg k c m
    · obtain ⟨k, c, m, rfl⟩ := hy
      rcases T.el t with _ | ⟨e, z⟩ <;> cases T.arr t <;> cases m <;> first | rfl | skip
      all_goals
        show Option.bind (match segAt lk k c with | some (_, xs) => bif Nat.beq z 1 then asI (v i) fun i => chk (decide (0 ≤ i) && decide (i < xs.length)) (K (.sg k c (.pl i.toNat)) .none []) else none | none => none) g = (match segAt lk k c with | some (_, xs) => bif Nat.beq z 1 then asI (v i) fun i => chk (decide (0 ≤ i) && decide (i < xs.length)) ((K (.sg k c (.pl i.toNat)) .none []).bind g) else none | none => none)
        rcases segAt lk k c with _ | ⟨l, xs⟩
        · rfl
        · refine bif_bind.trans ?_
          simp only [asI_bind, chk_bind]; rfl
    cases T.el t <;> cases T.arr t <;> cases y <;> (try exact absurd ⟨_, _, _, rfl⟩ hy) <;> simp only [bif_bind, asI_bind, ix_bind, chk_bind] <;> first | rfl | skip
    all_goals
      rename_i k c m
      cases obRow lk k c <;> simp only [bif_bind, asI_bind, ix_bind, chk_bind] <;> rfl
  case index t x i =>
    simp only [qv]
    generalize v x = y
    cases y <;> first | rfl | skip
    rename_i u
    cases u <;> simp only [bif_bind, asI_bind, ixS_bind] <;> rfl
  case extract x i => simp only [qv]; cases v x <;> first | rfl | exact k0_bind
  case makeFunc f first caps =>
    cases f <;> first | rfl | skip
    simp only [qv]
    generalize first.size = n
    generalize caps.toList = l
    match n, l with
    | 0, [] => rfl
    | 0, [c] =>
      simp only
      generalize v c = y
      cases y <;> first | rfl | skip
      rename_i k c i j
      cases c <;> cases i <;> cases j <;> first | rfl | skip
      simp only
      cases obBox lk k with
      | none => rfl
      | some cs => exact datCs_bind
    | 0, _ :: _ :: _ => rfl
    | _ + 1, _ => rfl
  case call c =>
    obtain ⟨callee, args, ts⟩ := c
    cases callee with
    | invoke r m => rfl
    | value f =>
      have go : ∀ f more, Option.bind (bif T.loud f then none else
        sealVs lk (nrmA T ts.toList (args.toList.map v)) fun vs s => (call f (vs ++ more)).bind fun r =>
          match T.ty type with
          | .c sh => unC sh r.1 fun x => K x .none s
          | .agg ss => unSt ss.length r.1 (K (.dt r.1) .none s)
          | .p ss => unIo r.1 fun cs => unCs (.st cs) 0 ss fun cs => K (.ptr d none 0 0) (.box true cs) s
          | .tup ts => unTup ts.length r.1 fun vs => unVs vs 0 ts fun vs => K (.tup vs) .none s) g = (bif T.loud f then none else
        sealVs lk (nrmA T ts.toList (args.toList.map v)) fun vs s => (call f (vs ++ more)).bind fun r =>
          match T.ty type with
          | .c sh => unC sh r.1 fun x => (K x .none s).bind g
          | .agg ss => unSt ss.length r.1 ((K (.dt r.1) .none s).bind g)
          | .p ss => unIo r.1 fun cs => unCs (.st cs) 0 ss fun cs => (K (.ptr d none 0 0) (.box true cs) s).bind g
          | .tup ts => unTup ts.length r.1 fun vs => unVs vs 0 ts fun vs => (K (.tup vs) .none s).bind g) := fun f more => by
        rw [bif_bind, sealVs_bind]
        congr 1
        congr 1
        funext vs s
        cases call f (vs ++ more) with
        | none => rfl
        | some r =>
          simp only [Option.bind_some]
          cases T.ty type <;> simp only [unC_bind, unSt_bind, unIo_bind, unCs_bind, unTup_bind, unVs_bind]
      simp only [qv]
      generalize v f = y
      cases y <;> first | rfl | skip
      · rename_i u
        cases u <;> first | rfl | skip
        rename_i fn fs cv
        cases fn <;> first | rfl | skip
        rename_i q
        refine bif_bind.trans (congrArg (fun z => bif (Nat.beq fs.size 0 && Nat.beq cv.size 0) then z else none) ?_)
        cases fnd T.roL q with
        | none => exact go _ []
        | some g' => exact roGo_bind
      · rename_i f' caps
        exact bif_bind.trans (congrArg (fun z => bif caps.all isRp then z else none) (go f' caps))
    | builtin b =>
      cases b <;> first | rfl | skip
      · simp only [qv]
        generalize args.toList = l
        generalize ts.toList = l'
        match l, l' with
        | [x], [t] => exact asLen_bind
        | [], _ => rfl
        | [_], [] => rfl
        | [_], _ :: _ :: _ => rfl
        | _ :: _ :: _, _ => rfl
      · simp only [qv]
        split <;> rfl
      · simp only [qv]
        split <;> rfl

theorem qv_nat {T : TT} {call : FuncId → List V → Option Res} {v : Operand → V} {lk : Nat → Ob} {d : Nat} {o : Oper} {K : V → Ob → List (Nat × Option Nat) → Option R} {r : R} (h : qv T call v lk d o K = some r) :
    ∃ x ob s, K x ob s = some r ∧ qv T call v lk d o (fun x ob s => some (x, ob, s)) = some (x, ob, s) := by
  have e : qv T call v lk d o K = (qv T call v lk d o fun x ob s => some (x, ob, s)).bind fun p => K p.1 p.2.1 p.2.2 := by rw [qv_bind]; rfl
  rw [e] at h
  cases hq : qv T call v lk d o (fun x ob s => some (x, ob, s)) with
  | none => rw [hq] at h; cases h
  | some p => rw [hq] at h; exact ⟨p.1, p.2.1, p.2.2, h, rfl⟩
theorem qv_at {T : TT} {call : FuncId → List V → Option Res} {v : Operand → V} {lk : Nat → Ob} {d : Nat} {o : Oper} {x : V} {ob : Ob} {s : List (Nat × Option Nat)}
    (h : qv T call v lk d o (fun x ob s => some (x, ob, s)) = some (x, ob, s)) (K : V → Ob → List (Nat × Option Nat) → Option R) : qv T call v lk d o K = K x ob s := by
  have e : qv T call v lk d o K = (qv T call v lk d o fun x ob s => some (x, ob, s)).bind fun p => K p.1 p.2.1 p.2.2 := by rw [qv_bind]; rfl
  rw [e, h]; rfl
end

/-! ### what an operation looks at -/
section
variable {R : Type} {lk1 lk2 : Nat → Ob}
/-- what v refers to is in both alike -/
def KV (lk1 lk2 : Nat → Ob) (v : V) : Prop := ∀ k c, (k, c) ∈ keysV v → lk1 k = lk2 k
theorem KV.key {v : V} (h : KV lk1 lk2 v) {k : Nat} {c : Option Nat} (hk : (k, c) ∈ keysV v) : lk1 k = lk2 k := h k c hk
theorem obRow_eq {k : Nat} (h : lk1 k = lk2 k) (c : Option Nat) : obRow lk1 k c = obRow lk2 k c := by unfold obRow; rw [h]
theorem segAt_eq {k : Nat} (h : lk1 k = lk2 k) (c : Nat) : segAt lk1 k c = segAt lk2 k c := by unfold segAt; rw [h]
theorem sgEl_eq {k : Nat} (h : lk1 k = lk2 k) {c i : Nat} {K : V → Option R} : sgEl lk1 k c i K = sgEl lk2 k c i K := by unfold sgEl; rw [segAt_eq h]
theorem KV.sg {k c : Nat} {m : Sg} (h : KV lk1 lk2 (.sg k c m)) : lk1 k = lk2 k := h k _ (by simp [keysV, keyC]; rfl)
theorem obBox_eq {k : Nat} (h : lk1 k = lk2 k) : obBox lk1 k = obBox lk2 k := by unfold obBox; rw [h]
theorem sealC_eq {v : V} (h : ∀ k c, keyC v = some (k, c) → lk1 k = lk2 k) {K : V → List (Nat × Option Nat) → Option R} : sealC lk1 v K = sealC lk2 v K := by
  cases v <;> first | rfl | skip
  rename_i k c m
  simp only [sealC]
  rw [obRow_eq (h k c rfl)]
theorem sealCs_eq : ∀ {vs : List V}, (∀ v ∈ vs, ∀ k c, keyC v = some (k, c) → lk1 k = lk2 k) → ∀ {K : List V → List (Nat × Option Nat) → Option R}, sealCs lk1 vs K = sealCs lk2 vs K
  | [], _, _ => rfl
  | v :: vs, h, K => by
    unfold sealCs
    rw [sealC_eq (h v (by simp))]
    congr 1
    funext c s
    exact sealCs_eq fun u hu => h u (List.mem_cons_of_mem _ hu)
theorem KV.one {v : V} (h : KV lk1 lk2 v) (hs : ∀ cs, v ≠ .st cs) (ht : ∀ cs, v ≠ .tup cs) : ∀ k c, keyC v = some (k, c) → lk1 k = lk2 k := fun k c hk => h k c (by
  cases v <;> first | exact absurd rfl (hs _) | exact absurd rfl (ht _) | (simp only [keysV, hk]; simp))
theorem KV.many {cs : List V} (h : KV lk1 lk2 (.st cs)) : ∀ c ∈ cs, ∀ k q, keyC c = some (k, q) → lk1 k = lk2 k := fun c hc k q hk => h k q (List.mem_filterMap.2 ⟨c, hc, hk⟩)
theorem sealV_eq {v : V} (h : KV lk1 lk2 v) {K : V → List (Nat × Option Nat) → Option R} : sealV lk1 v K = sealV lk2 v K := by
  cases v <;> simp only [sealV] <;> first
    | exact sealCs_eq h.many
    | rfl
    | exact sealC_eq (h.one (by simp) (by simp))
theorem sealVs_eq : ∀ {vs : List V}, (∀ v ∈ vs, KV lk1 lk2 v) → ∀ {K : List V → List (Nat × Option Nat) → Option R}, sealVs lk1 vs K = sealVs lk2 vs K
  | [], _, _ => rfl
  | v :: vs, h, K => by
    unfold sealVs
    rw [sealV_eq (h v (by simp))]
    congr 1
    funext c s
    exact sealVs_eq fun u hu => h u (List.mem_cons_of_mem _ hu)
theorem boxed_eq {ss : List Sh} {v : V} (h : KV lk1 lk2 v) {K : List V → List (Nat × Option Nat) → Option R} : boxed lk1 ss v K = boxed lk2 ss v K := by
  cases v <;> simp only [boxed] <;> first
    | rfl
    | (congr 1; exact sealCs_eq h.many)
    | (split; exact sealC_eq (h.one (by simp) (by simp)); rfl)
theorem asLen_eq {v : V} (h : KV lk1 lk2 v) {K : Nat → Option R} : asLen lk1 v K = asLen lk2 v K := by
  cases v <;> first | rfl | skip
  case sc u => cases u <;> rfl
  case sg k c m => cases m <;> simp only [asLen, segAt_eq h.sg, sgEl_eq h.sg]
  simp only [asLen]
  rename_i k c m
  rw [obRow_eq (h.key (k := k) (c := c) (by simp [keysV, keyC]))]
theorem asList_eq {z : Nat} {v : V} (h : KV lk1 lk2 v) {K : List V → Option R} : asList lk1 z v K = asList lk2 z v K := by
  cases v <;> first | rfl | skip
  simp only [asList]
  rename_i k c m
  rw [obRow_eq (h.key (k := k) (c := c) (by simp [keysV, keyC]))]

theorem roArgs_eq : ∀ {vs : List V}, (∀ v ∈ vs, KV lk1 lk2 v) → ∀ {K : List V → Option R}, roArgs lk1 vs K = roArgs lk2 vs K := by
  intro vs
  induction vs with
  | nil => intro _ K; rfl
  | cons v vs ih =>
    intro h K
    have ih := fun K => ih (fun u hu => h u (List.mem_cons_of_mem _ hu)) (K := K)
    cases v <;> first | rfl | skip
    · exact ih _
    · rename_i k c i j
      cases c <;> cases i <;> cases j <;> first | rfl | skip
      have hk := (h _ (List.mem_cons_self ..)).key (k := k) (c := none) (by simp [keysV, keyC])
      simp only [roArgs, hk]
      cases lk2 k <;> first | rfl | exact ih _
theorem asBytes_eq {v : V} (h : KV lk1 lk2 v) {K : List V → Option R} : asBytes lk1 v K = asBytes lk2 v K := by
  cases v <;> first | rfl | exact asList_eq h | skip
  rename_i k c m
  cases m <;> first | rfl | exact asList_eq h | exact sgEl_eq h.sg
theorem qv_lk {T : TT} {call : FuncId → List V → Option Res} {v : Operand → V} {d : Nat} {o : Oper} (hv : ∀ x ∈ o.op.operands, KV lk1 lk2 (v x)) (K : V → Ob → List (Nat × Option Nat) → Option R) :
    qv T call v lk1 d o K = qv T call v lk2 d o K := by
  obtain ⟨dst, op, type, pos, after, guard⟩ := o
  cases op <;> first
    | rfl
    | skip
  case box t x =>
    have h := hv x (by simp [Op.operands])
    simp only [qv]
    cases T.ty t <;> first | exact boxed_eq h | rfl
  case buildSlice t n ps =>
    simp only [qv]
    have h : ∀ e, ∀ u ∈ ps.toList.map (fun p => nrmV T e (v p.2)), KV lk1 lk2 u := fun e u hu => by
      obtain ⟨p, hp, rfl⟩ := List.mem_map.1 hu
      have := hv p.2 (by simp only [Op.operands, List.mem_toArray, List.mem_map]; exact ⟨p, hp, rfl⟩)
      intro k c hk
      rw [keysV_nrm] at hk
      exact this k c hk
    cases T.el t with
    | none => rfl
    | some q =>
      simp only
      cases T.zero q.1 with
      | none => rfl
      | some zs => simp only; congr 1; congr 1; exact sealVs_eq (h _)
  case load t p =>
    have h := hv p (by simp [Op.operands])
    simp only [qv]
    revert h
    generalize v p = y
    generalize T.ty t = tt
    intro h
    cases y <;> first | rfl | skip
    case rp x j => cases tt <;> cases j <;> rfl
    case sg k c m => cases m <;> cases tt <;> first | rfl | (simp only [segAt_eq h.sg]; rfl)
    rename_i k c i j
    have hk := h.key (k := k) (c := c) (by simp [keysV, keyC])
    have hld : ldRow lk1 (.ptr k c i j) = ldRow lk2 (.ptr k c i j) := by
      have e : ∀ lk, ldRow lk (.ptr k c i j) = match obRow lk k c with | some (_, _, xs) => some (xs, i, j) | none => none := fun _ => rfl
      rw [e, e, obRow_eq hk c]
    rw [hld]
    cases ldRow lk2 (.ptr k c i j) with
    | some q => rfl
    | none => cases tt <;> cases c <;> cases i <;> first | rfl | simp only [hk, obRow_eq hk]
  case convert s t x =>
    have h := hv x (by simp [Op.operands])
    simp only [qv]
    cases intTy (T.ty s) <;> cases intTy (T.ty t) <;> simp only [asBytes_eq h]
  case slice t x lo hi mx =>
    have h := hv x (by simp [Op.operands])
    simp only [qv]
    generalize hs : sliceOk T t (v x) = y
    cases y
    case sc u => cases u <;> first | rfl | (cases lo <;> cases hi <;> rfl)
    case sl => cases lo <;> cases hi <;> rfl
    case nil => cases lo <;> cases hi <;> rfl
    case ref k c m =>
      have hx : v x = .ref k c m := by
        rcases @sliceOk_some T t (v x) with ⟨s, e1, e2, e3⟩ | ⟨z, xs, e, e1, e2, e3⟩ | ⟨k', c', m', e, z, e1, e2, e3⟩ | ⟨e, z, e1, e2, e3⟩ | ⟨_, _, _, _, _, e1, _⟩ | e1 <;> rw [hs] at e1 <;> cases e1
        exact e2
      have hk := h.key (k := k) (c := c) (by rw [hx]; simp [keysV, keyC])
      cases lo <;> cases hi <;> first | rfl | simp only [Option.map_some, Option.map_none, obRow_eq hk]
    case sg k c m =>
      have hx : v x = .sg k c m := by
        rcases @sliceOk_some T t (v x) with ⟨s, e1, e2, e3⟩ | ⟨z, xs, e, e1, e2, e3⟩ | ⟨k', c', m', e, z, e1, e2, e3⟩ | ⟨e, z, e1, e2, e3⟩ | ⟨_, _, _, _, _, e1, e2, _⟩ | e1 <;> rw [hs] at e1 <;> cases e1
        exact e2
      rw [hx] at h
      cases m <;> cases lo <;> cases hi <;> first | rfl | simp only [Option.map_some, Option.map_none, sgEl_eq h.sg]
    all_goals rfl
  case indexAddr t x i =>
    have h := hv x (by simp [Op.operands])
    simp only [qv]
    revert h
    generalize v x = y
    intro h
    by_cases hy : ∃ k c m, y = .ref k c m
    · obtain ⟨k, c, m, rfl⟩ := hy
      have hk := h.key (k := k) (c := c) (by simp [keysV, keyC])
      cases T.el t <;> cases T.arr t <;> simp only [obRow_eq hk]
    by_cases hy2 : ∃ k c m, y = .sg k c m
    · obtain ⟨k, c, m, rfl⟩ := hy2
      cases T.el t <;> cases T.arr t <;> cases m <;> first | rfl | simp only [segAt_eq h.sg]
    · cases y <;> first
        | exact absurd ⟨_, _, _, rfl⟩ hy2
        | exact absurd ⟨_, _, _, rfl⟩ hy
        | (cases T.el t <;> cases T.arr t <;> rfl)
  case makeFunc f first caps =>
    cases f <;> first | rfl | skip
    simp only [qv]
    have hc : ∀ c ∈ caps.toList, KV lk1 lk2 (v c) := fun c hc => hv c (by simp only [Op.operands, Array.mem_append]; exact .inr (Array.mem_toList_iff.1 hc))
    revert hc
    generalize first.size = n
    generalize caps.toList = l
    intro hc
    match n, l with
    | 0, [] => rfl
    | 0, [c] =>
      have h := hc c (by simp)
      simp only
      revert h
      generalize v c = y
      intro h
      cases y <;> first | rfl | skip
      rename_i k c i j
      have hk := h.key (k := k) (c := c) (by simp [keysV, keyC])
      cases c <;> cases i <;> cases j <;> simp only [obBox_eq hk]
    | 0, _ :: _ :: _ => rfl
    | _ + 1, _ => rfl
  case call c =>
    obtain ⟨callee, args, ts⟩ := c
    have ha : ∀ u ∈ args.toList.map v, KV lk1 lk2 u := fun u hu => by
      obtain ⟨p, hp, rfl⟩ := List.mem_map.1 hu
      exact hv p (by simp only [Op.operands, Call.operands]; cases callee <;> simp [Array.mem_toList_iff.1 hp])
    have han : ∀ u ∈ nrmA T ts.toList (args.toList.map v), KV lk1 lk2 u := fun u hu => by
      obtain ⟨i, hi, rfl⟩ := List.getElem_of_mem hu
      obtain ⟨v0, hv0, e0⟩ := nrmA_get _ _ i (List.getElem?_eq_getElem hi)
      have h0 := ha v0 (List.mem_of_getElem? hv0)
      rcases e0 with e0 | ⟨t, e0⟩
      · rw [e0]; exact h0
      · rw [e0]; intro k c hk; rw [keysV_nrm] at hk; exact h0 k c hk
    cases callee with
    | invoke r m => rfl
    | value f =>
      simp only [qv]
      cases v f <;> first | rfl | skip
      · rename_i u
        cases u <;> first | rfl | skip
        rename_i fn fs cv
        cases fn <;> first | rfl | skip
        simp only [sealVs_eq han, roGo, roArgs_eq ha]
      · simp only [sealVs_eq han]
    | builtin b =>
      cases b <;> first | rfl | skip
      simp only [qv]
      revert ha
      generalize args.toList = l
      intro ha
      cases l with
      | nil => rfl
      | cons x l =>
        cases l with
        | cons y l => rfl
        | nil =>
          generalize ts.toList = l'
          cases l' with
          | nil => rfl
          | cons t l' =>
            cases l' with
            | cons t' l' => rfl
            | nil =>
              simp only
              refine asLen_eq ?_
              have h := ha (v x) (by simp)
              rcases @sliceOk_some T t (v x) with ⟨s, e1, e2, e3⟩ | ⟨z, xs, e, e1, e2, e3⟩ | ⟨k', c', m', e, z, e1, e2, e3⟩ | ⟨e, z, e1, e2, e3⟩ | ⟨k', c', m', e, z, e1, e2, e3⟩ | e1
              · rw [e1, ← e2]; exact h
              · rw [e1, ← e2]; exact h
              · rw [e1, ← e2]; exact h
              · rw [e1, ← e2]; exact h
              · rw [e1, ← e2]; exact h
              · rw [e1]; exact fun k c hk => by simp [keysV, keyC] at hk

theorem qv_v {T : TT} {call : FuncId → List V → Option Res} {v v' : Operand → V} {lk : Nat → Ob} {d : Nat} {o : Oper} (hv : ∀ x ∈ o.op.operands, v x = v' x) (K : V → Ob → List (Nat × Option Nat) → Option R) :
    qv T call v lk d o K = qv T call v' lk d o K := by
  obtain ⟨dst, op, type, pos, after, guard⟩ := o
  cases op <;> simp only [Op.operands] at hv <;> simp only [qv]
  case build t ps =>
    have : (ps.toList.map fun p => (p.1, v p.2)) = ps.toList.map fun p => (p.1, v' p.2) := List.map_congr_left fun p hp => by
      rw [hv p.2 (by simp only [List.mem_toArray, List.mem_map]; exact ⟨p, hp, rfl⟩)]
    simp only [this]
  case buildSlice t n ps =>
    have : ∀ e, (ps.toList.map fun p => nrmV T e (v p.2)) = ps.toList.map fun p => nrmV T e (v' p.2) := fun e => List.map_congr_left fun p hp => by
      rw [hv p.2 (by simp only [List.mem_toArray, List.mem_map]; exact ⟨p, hp, rfl⟩)]
    simp only [this]
  case slice t x lo hi mx =>
    have h1 := hv x (by simp)
    have h2 : lo.map v = lo.map v' := by cases lo <;> simp_all
    have h3 : hi.map v = hi.map v' := by cases hi <;> simp_all
    have h4 : mx.map v = mx.map v' := by cases mx <;> simp_all
    simp only [h1, h2, h3, h4]
  case makeFunc f first caps =>
    cases f <;> first | rfl | skip
    simp only
    have hc : ∀ c ∈ caps.toList, v c = v' c := fun c hc => hv c (by simp only [Array.mem_append]; exact .inr (Array.mem_toList_iff.1 hc))
    revert hc
    generalize first.size = n
    generalize caps.toList = l
    intro hc
    match n, l with
    | 0, [] => rfl
    | 0, [c] => simp only [hc c (by simp)]
    | 0, _ :: _ :: _ => rfl
    | _ + 1, _ => rfl
  case call c =>
    obtain ⟨callee, args, ts⟩ := c
    have ha : args.toList.map v = args.toList.map v' := List.map_congr_left fun p hp => hv p (by simp only [Call.operands]; cases callee <;> simp [Array.mem_toList_iff.1 hp])
    cases callee with
    | invoke r m => rfl
    | value f =>
      have hf : v f = v' f := hv f (by simp [Call.operands])
      simp only [hf, ha]
    | builtin b =>
      cases b <;> first | rfl | skip
      · simp only
        have hx : ∀ x ∈ args.toList, v x = v' x := fun p hp => hv p (by simp only [Call.operands]; simp [Array.mem_toList_iff.1 hp])
        revert hx
        generalize args.toList = l
        intro hx
        cases l with
        | nil => rfl
        | cons x l => cases l with
          | nil =>
            generalize ts.toList = l'
            match l' with
            | [] => rfl
            | [t] => simp only [hx x (by simp)]
            | _ :: _ :: _ => rfl
          | cons y l => rfl
      · simp only [ha]
      · simp only [ha]
  all_goals first
    | rfl
    | (simp_all; done)
end
end Go.Proofs.YtaapkkeogajfpaaDoor.VM

/- The abstract machine and the memory: regions in any order. -/
set_option linter.unusedVariables false
set_option linter.unusedSimpArgs false
namespace Go.Proofs.YtaapkkeogajfpaaDoor.VM

structure Eff where
  d : Nat
  x : V
  ob : Ob
  s : List (Nat × Option Nat)
def Eff.ap (e : Eff) (σ : St) : St := putN σ e.d e.x e.ob
def stM : List Eff → (Nat → Bool) → St → St
  | [], _, σ => σ
  | e :: E, D, σ => stM E (fun i => D (i + 1)) (if D 0 then e.ap σ else σ)

theorem stM_none : ∀ (E : List Eff) {D : Nat → Bool} {σ : St}, (∀ i, D i = false) → stM E D σ = σ
  | [], _, _, _ => rfl
  | e :: E, D, σ, h => by unfold stM; rw [h 0]; exact stM_none E fun i => h (i + 1)
theorem stM_congr : ∀ (E : List Eff) {D D' : Nat → Bool} {σ : St}, (∀ i, i < E.length → D i = D' i) → stM E D σ = stM E D' σ
  | [], _, _, _, _ => rfl
  | e :: E, D, D', σ, h => by
    unfold stM
    rw [h 0 (by simp)]
    exact stM_congr E fun i hi => h (i + 1) (by simp only [List.length_cons]; omega)
theorem putN_comm {σ : St} {d d' : Nat} {x x' : V} {ob ob' : Ob} (h : d ≠ d') : putN (putN σ d x ob) d' x' ob' = putN (putN σ d' x' ob') d x ob := by
  unfold putN
  congr 1
  · exact List.set_comm _ _ h
  · cases ob <;> cases ob' <;> first | rfl | exact List.set_comm _ _ h
theorem stM_ap : ∀ (E : List Eff) {D : Nat → Bool} {σ : St} {e : Eff}, e.d ∉ E.map Eff.d → stM E D (e.ap σ) = e.ap (stM E D σ)
  | [], _, _, _, _ => rfl
  | e' :: E, D, σ, e, h => by
    simp only [List.map_cons, List.mem_cons, not_or] at h
    unfold stM
    split
    · have : e'.ap (e.ap σ) = e.ap (e'.ap σ) := putN_comm h.1
      rw [this, stM_ap E h.2]
    · exact stM_ap E h.2
theorem stM_insert : ∀ (E : List Eff) {D : Nat → Bool} {σ : St} {j : Nat} {e : Eff}, (E.map Eff.d).Nodup → E[j]? = some e → D j = false → stM E (fun i => D i || i == j) σ = e.ap (stM E D σ)
  | [], _, _, _, _, _, h, _ => by simp at h
  | e' :: E, D, σ, j, e, hnd, hj, hD => by
    simp only [List.map_cons, List.nodup_cons] at hnd
    unfold stM
    cases j with
    | zero =>
      simp at hj
      subst hj
      rw [hD]
      simp only [beq_self_eq_true, Bool.or_true, if_true, Bool.false_eq_true, if_false]
      rw [← stM_ap E hnd.1]
      exact stM_congr E fun i _ => by simp
    | succ j =>
      have ih := fun σ' => stM_insert E (D := fun i => D (i + 1)) (σ := σ') hnd.2 (by simpa using hj) hD
      have h0 : (D 0 || (0 : Nat) == j + 1) = D 0 := by simp
      show stM E (fun i => D (i + 1) || (i + 1 : Nat) == j + 1) (if (D 0 || (0 : Nat) == j + 1) = true then e'.ap σ else σ) = _
      rw [h0]
      have : (fun i => D (i + 1) || (i + 1 : Nat) == j + 1) = fun i => D (i + 1) || i == j := by funext i; simp
      rw [this]
      exact ih _

theorem putN_sl {σ : St} {d t : Nat} {x : V} {ob : Ob} (h : d ≠ t) : (putN σ d x ob).sl.getD t .dead = σ.sl.getD t .dead := by
  show (σ.sl.set d x).getD t .dead = _
  rw [getD_set_slots, if_neg (fun hh => h hh.1.symm)]
theorem putN_ob {σ : St} {d k : Nat} {x : V} {ob : Ob} (h : d = k → isNone ob = true) : (putN σ d x ob).ob.getD k .none = σ.ob.getD k .none := by
  show (setN σ.ob d ob).getD k .none = _
  rw [getD_setN, if_neg]
  rintro ⟨h1, _, h2⟩
  rw [h h1.symm] at h2
  cases h2
theorem sl_agree {t : Nat} : ∀ (E : List Eff) {D D' : Nat → Bool} {σ σ' : St}, σ.sl.getD t .dead = σ'.sl.getD t .dead → σ.sl.length = σ'.sl.length → (∀ (i : Nat) e, E[i]? = some e → e.d = t → D i = D' i) →
    (stM E D σ).sl.getD t .dead = (stM E D' σ').sl.getD t .dead
  | [], _, _, _, _, h, _, _ => h
  | e :: E, D, D', σ, σ', h, hl, hD => by
    unfold stM
    have key : (if D 0 then e.ap σ else σ).sl.getD t .dead = (if D' 0 then e.ap σ' else σ').sl.getD t .dead := by
      by_cases he : e.d = t
      · rw [hD 0 e rfl he]
        split
        · show (σ.sl.set e.d e.x).getD t .dead = (σ'.sl.set e.d e.x).getD t .dead
          rw [getD_set_slots, getD_set_slots, hl, h]
        · exact h
      · have h1 : (e.ap σ).sl.getD t .dead = σ.sl.getD t .dead := putN_sl he
        have h2 : (e.ap σ').sl.getD t .dead = σ'.sl.getD t .dead := putN_sl he
        split <;> split <;> first | rw [h1, h2, h] | rw [h1, h] | rw [h2, h] | exact h
    refine sl_agree E key ?_ fun i e' hi => hD (i + 1) e' (by simpa using hi)
    have h1 : (e.ap σ).sl.length = σ.sl.length := by simp [Eff.ap, putN]
    have h2 : (e.ap σ').sl.length = σ'.sl.length := by simp [Eff.ap, putN]
    split <;> split <;> omega
theorem ob_agree {k : Nat} : ∀ (E : List Eff) {D D' : Nat → Bool} {σ σ' : St}, σ.ob.getD k .none = σ'.ob.getD k .none → σ.ob.length = σ'.ob.length → (∀ (i : Nat) e, E[i]? = some e → e.d = k → isNone e.ob = false → D i = D' i) →
    (stM E D σ).ob.getD k .none = (stM E D' σ').ob.getD k .none
  | [], _, _, _, _, h, _, _ => h
  | e :: E, D, D', σ, σ', h, hl, hD => by
    unfold stM
    have key : (if D 0 then e.ap σ else σ).ob.getD k .none = (if D' 0 then e.ap σ' else σ').ob.getD k .none := by
      by_cases he : e.d = k ∧ isNone e.ob = false
      · rw [hD 0 e rfl he.1 he.2]
        split
        · show (setN σ.ob e.d e.ob).getD k .none = (setN σ'.ob e.d e.ob).getD k .none
          rw [getD_setN, getD_setN, hl, h]
        · exact h
      · have hh : e.d = k → isNone e.ob = true := fun h1 => by
          cases hn : isNone e.ob
          · exact absurd ⟨h1, hn⟩ he
          · rfl
        have h1 : (e.ap σ).ob.getD k .none = σ.ob.getD k .none := putN_ob hh
        have h2 : (e.ap σ').ob.getD k .none = σ'.ob.getD k .none := putN_ob hh
        split <;> split <;> first | rw [h1, h2, h] | rw [h1, h] | rw [h2, h] | exact h
    refine ob_agree E key ?_ fun i e' hi => hD (i + 1) e' (by simpa using hi)
    have h1 : (e.ap σ).ob.length = σ.ob.length := by simp [Eff.ap, putN, setN_length]
    have h2 : (e.ap σ').ob.length = σ'.ob.length := by simp [Eff.ap, putN, setN_length]
    split <;> split <;> omega

/-- whether a guarded operation is to run -/
def wantB (all : List Oper) (σ : St) (o : Oper) : Option Bool :=
  match o.guard with
  | none => some true
  | some (j, want) => match (all[j]?).bind (·.dst) with
    | none => none
    | some g => match σ.sl.getD g .dead with
      | .sc (.bool t) => some (t == want)
      | .tup [] => some false
      | _ => none

abbrev K3 : V → Ob → List (Nat × Option Nat) → Option (V × Ob × List (Nat × Option Nat)) := fun x ob s => some (x, ob, s)
def EfOk (T : TT) (call : FuncId → List V → Option Res) (all : List Oper) (σ : St) (o : Oper) (e : Eff) : Prop :=
  o.dst = some e.d ∧ ((wantB all σ o = some true ∧ isQuiet T o = true ∧ keysOk T σ o = true ∧ qv T call (val T σ) (lkE σ) e.d o K3 = some (e.x, e.ob, e.s) ∧ (isNone e.ob = true ∨ isNone (σ.ob.getD e.d .none) = true)) ∨
    (wantB all σ o = some false ∧ e.x = .tup [] ∧ e.ob = .none ∧ e.s = []))
def TrQ (T : TT) (call : FuncId → List V → Option Res) (all : List Oper) : List Oper → St → List Eff → Prop
  | _, _, [] => True
  | o :: ops, σ, e :: E => EfOk T call all σ o e ∧ TrQ T call all ops (e.ap σ) E
  | [], _, _ :: _ => False
def Rest (T : TT) (call : FuncId → List V → Option Res) (all : List Oper) (ops : List Oper) (σ : St) (fs : List (Nat × Option Nat)) (K : St → Option Res) (r : Res) : Prop :=
  match ops with
  | [] => K (σF σ fs) = some r
  | o :: ops => isQuiet T o = false ∧ wantB all σ o = some true ∧ exLoud T call (σF σ fs) o (fun σ' => exOps T call true all ops σ' [] K) = some r

section
variable {P : Program} {T : TT} {U : Nat → Prop} {w0 w : World} {F0 : Fr} {a : Act} {ow : Own} {r : Res} {call : FuncId → List V → Option Res} {all : List Oper}

theorem seg_split {K : St → Option Res} : ∀ (ops : List Oper) (σ : St) (fs : List (Nat × Option Nat)), exOps T call true all ops σ fs K = some r →
    ∃ E, E.length ≤ ops.length ∧ TrQ T call all ops σ E ∧ Rest T call all (ops.drop E.length) (stM E (fun _ => true) σ) (fs ++ E.flatMap Eff.s) K r
  | [], σ, fs, h => ⟨[], Nat.le_refl _, trivial, by simpa [Rest, stM, exOps, σF] using h⟩
  | o :: ops, σ, fs, h => by
    -- the operation is to run
    have run : wantB all σ o = some true → exOp T call true σ fs o (fun σ fs => exOps T call true all ops σ fs K) = some r →
        ∃ E, E.length ≤ (o :: ops).length ∧ TrQ T call all (o :: ops) σ E ∧ Rest T call all ((o :: ops).drop E.length) (stM E (fun _ => true) σ) (fs ++ E.flatMap Eff.s) K r := fun hw he => by
      unfold exOp at he
      cases hq : isQuiet T o with
      | false =>
        rw [hq] at he
        exact ⟨[], by simp, trivial, hq, hw, by
          simp only [List.length_nil, List.drop_zero, List.flatMap_nil, List.append_nil, stM]; exact he⟩
      | true =>
        rw [hq] at he
        simp only [cond_true, Bool.true_and] at he
        cases hk : keysOk T σ o with
        | false => rw [hk] at he; simp at he
        | true =>
          rw [hk] at he
          simp only [Bool.not_true, cond_false] at he
          split at he
          · rename_i d hd
            obtain ⟨x, ob, s, hK, hqv⟩ := qv_nat he
            obtain ⟨h0, hK2⟩ := bif_some hK
            obtain ⟨E, h1, h2, h3⟩ := seg_split ops _ _ hK2
            refine ⟨⟨d, x, ob, s⟩ :: E, by simp only [List.length_cons]; omega, ⟨⟨hd, .inl ⟨hw, hq, hk, hqv, by simpa using h0⟩⟩, h2⟩, ?_⟩
            simp only [List.length_cons, List.drop_succ_cons, List.flatMap_cons, stM, if_true]
            rw [← List.append_assoc]
            exact h3
          · cases he
    unfold exOps at h
    split at h
    · rename_i hg
      exact run (by unfold wantB; rw [hg]) h
    · rename_i j want hg
      split at h
      · cases h
      · rename_i g hgd
        cases hun : isUndef (σ.sl.getD g .dead) with
        | true =>
          rw [hun] at h
          simp only [cond_true] at h
          have hx : σ.sl.getD g .dead = .tup [] := by
            cases hv : σ.sl.getD g .dead <;> rw [hv] at hun <;> first | (cases hun; done) | skip
            rename_i vs
            cases vs <;> first | rfl | cases hun
          have hwb : wantB all σ o = some false := by unfold wantB; rw [hg]; simp only; rw [hgd]; simp only; rw [hx]
          split at h
          · rename_i d hd
            obtain ⟨E, h1, h2, h3⟩ := seg_split ops ⟨σ.sl.set d (.tup []), σ.ob⟩ fs h
            refine ⟨⟨d, .tup [], .none, []⟩ :: E, by simp only [List.length_cons]; omega, ⟨⟨hd, .inr ⟨hwb, rfl, rfl, rfl⟩⟩, h2⟩, ?_⟩
            simp only [List.length_cons, List.drop_succ_cons, List.flatMap_cons, stM, if_true, List.nil_append]
            exact h3
          · cases h
        | false =>
        rw [hun] at h
        obtain ⟨t, ht, hk2⟩ := unB_some h
        have hk3 : (bif t == want then exOp T call true ⟨σ.sl.set g (.sc (.bool t)), σ.ob⟩ fs o (fun σ fs => exOps T call true all ops σ fs K) else match o.dst with
            | some d => exOps T call true all ops ⟨(σ.sl.set g (.sc (.bool t))).set d (.tup []), σ.ob⟩ fs K
            | none => none) = some r := by cases t <;> exact hk2
        rw [set_same ht] at hk3
        have hwb : wantB all σ o = some (t == want) := by unfold wantB; rw [hg]; simp only; rw [hgd]; simp only; rw [ht]
        cases htw : (t == want) with
        | true =>
          rw [htw] at hk3 hwb
          exact run hwb hk3
        | false =>
          rw [htw] at hk3 hwb
          simp only [cond_false] at hk3
          split at hk3
          · rename_i d hd
            obtain ⟨E, h1, h2, h3⟩ := seg_split ops ⟨σ.sl.set d (.tup []), σ.ob⟩ fs hk3
            refine ⟨⟨d, .tup [], .none, []⟩ :: E, by simp only [List.length_cons]; omega, ⟨⟨hd, .inr ⟨hwb, rfl, rfl, rfl⟩⟩, h2⟩, ?_⟩
            simp only [List.length_cons, List.drop_succ_cons, List.flatMap_cons, stM, if_true, List.nil_append]
            exact h3
          · cases hk3

theorem TrQ.at : ∀ (ops : List Oper) (σ : St) (E : List Eff), TrQ T call all ops σ E → ∀ (j : Nat) e, E[j]? = some e → ∃ o, ops[j]? = some o ∧ EfOk T call all (stM E (fun i => decide (i < j)) σ) o e
  | _, _, [], _, j, e, hj => by simp at hj
  | [], _, _ :: _, h, _, _, _ => h.elim
  | o :: ops, σ, e' :: E, h, j, e, hj => by
    cases j with
    | zero =>
      simp at hj
      subst hj
      refine ⟨o, rfl, ?_⟩
      rw [stM_none _ (by intro i; simp)]
      exact h.1
    | succ j =>
      obtain ⟨o', h1, h2⟩ := TrQ.at ops _ E h.2 j e (by simpa using hj)
      refine ⟨o', by simpa using h1, ?_⟩
      have : stM (e' :: E) (fun i => decide (i < j + 1)) σ = stM E (fun i => decide (i < j)) (e'.ap σ) := by
        show stM E (fun i => decide (i + 1 < j + 1)) (if decide (0 < j + 1) = true then e'.ap σ else σ) = _
        simp
      rw [this]
      exact h2

theorem keysN_of {v : V} {k : Nat} {c : Option Nat} (h : (k, c) ∈ keysV v) : k ∈ keysN v := by
  have one : ∀ {u : V} {k : Nat} {c : Option Nat}, keyC u = some (k, c) → k ∈ keysC u := fun {u k c} hk => by
    cases u <;> simp only [keyC] at hk <;> first | cases hk; done | (cases hk; simp [keysC])
  have many : ∀ {cs : List V} {k : Nat} {c : Option Nat}, (k, c) ∈ cs.filterMap keyC → k ∈ cs.flatMap keysC := fun {cs k c} hk => by
    obtain ⟨u, hu, hk⟩ := List.mem_filterMap.1 hk
    exact List.mem_flatMap.2 ⟨u, hu, one hk⟩
  cases v with
  | st cs => exact many h
  | tup vs =>
    obtain ⟨u, hu, hk⟩ := List.mem_flatMap.1 h
    refine List.mem_flatMap.2 ⟨u, hu, ?_⟩
    cases u with
    | st cs => exact many hk
    | _ => first | (exfalso; simp [keyC] at hk; done) | (exact one (Option.mem_toList.1 hk))
  | _ => first | (exfalso; simp [keysV, keyC] at h; done) | (simp only [keysV, keyC, Option.toList_some, List.mem_singleton, Prod.mk.injEq] at h; simp [keysN, keysC, h.1])

theorem wanted_of {σ : St} (h : Sim T.globL U w0 F0 σ a w ow) {all : Array Oper} {o : Oper} {b : Bool} (hb : wantB all.toList σ o = some b) : Region.wanted o (yielded all a.tmps) = b := by
  unfold wantB at hb
  split at hb
  · rename_i hg
    simp only [Option.some.injEq] at hb
    simp [Region.wanted, hg, hb]
  · rename_i j want hg
    split at hb
    · cases hb
    · rename_i g hgd
      split at hb
      · rename_i t ht
        have hv := slot_bool h (g := g) (t := t) ht
        rw [Array.getElem?_toList] at hgd
        have hy : yielded all a.tmps j = some t := by
          unfold yielded
          rw [hgd]
          simp [hv]
        simp only [Option.some.injEq] at hb
        rw [← hb]
        simp only [Region.wanted, hg, hy]
        cases t <;> cases want <;> rfl
      · rename_i hx
        simp only [Option.some.injEq] at hb
        subst hb
        have hy : yielded all a.tmps j = none := undef_yield h hgd (by rw [hx]; rfl)
        simp [Region.wanted, hg, hy]
      · cases hb
end
end Go.Proofs.YtaapkkeogajfpaaDoor.VM

/- The abstract machine and the memory: a drawn region, step by step. -/
set_option linter.unusedVariables false
set_option linter.unusedSimpArgs false
namespace Go.Proofs.YtaapkkeogajfpaaDoor.VM

section
variable {P : Program} {T : TT} {U : Nat → Prop} {w0 w : World} {F0 : Fr} {a : Act} {ow : Own} {r : Res} {call : FuncId → List V → Option Res} {all : Array Oper}

theorem memN_iff {l : List Nat} {a : Nat} : memN l a = true ↔ a ∈ l := by
  induction l with
  | nil => simp [memN]
  | cons b l ih =>
    unfold memN
    cases hb : Nat.beq b a with
    | true => have := beq_nat.1 hb; subst this; simp
    | false =>
      have : b ≠ a := fun e => by rw [beq_nat.2 e] at hb; cases hb
      simp only [cond_false, ih, List.mem_cons]
      constructor
      · exact .inr
      · rintro (e | h)
        · exact absurd e.symm this
        · exact h

theorem apartB_spec {ops : List Oper} {x y : Oper} (h : apartB T ops x y = true) : ∃ dx dy, x.dst = some dx ∧ y.dst = some dy ∧ dx ≠ dy ∧ dy ∉ readsOf ops x ∧ dx ∉ readsOf ops y ∧ isQuiet T x = true ∧ isQuiet T y = true := by
  unfold apartB at h
  simp only [Bool.and_eq_true] at h
  obtain ⟨⟨h1, h2⟩, h3⟩ := h
  split at h3
  · rename_i dx dy hx hy
    simp only [Bool.and_eq_true, Bool.not_eq_true'] at h3
    obtain ⟨⟨h4, h5⟩, h6⟩ := h3
    refine ⟨dx, dy, hx, hy, fun e => ?_, fun hm => ?_, fun hm => ?_, h1, h2⟩
    · rw [beq_nat.2 e] at h4; cases h4
    · rw [memN_iff.2 hm] at h5; cases h5
    · rw [memN_iff.2 hm] at h6; cases h6
  · cases h3

theorem val_eq {σ σ' : St} {x : Operand} (h : ∀ t, x = .tmp t → σ.sl.getD t .dead = σ'.sl.getD t .dead) : val T σ x = val T σ' x := by
  cases x with
  | tmp t => exact h t rfl
  | _ => rfl

theorem nodup_inj {l : List Nat} (h : l.Nodup) {i j x : Nat} (hi : l[i]? = some x) (hj : l[j]? = some x) : i = j := by
  induction l generalizing i j with
  | nil => simp at hi
  | cons a l ih =>
    simp only [List.nodup_cons] at h
    cases i <;> cases j
    · rfl
    · simp at hi hj
      subst hi
      exact absurd (List.mem_of_getElem? hj) h.1
    · simp at hi hj
      subst hj
      exact absurd (List.mem_of_getElem? hi) h.1
    · simp at hi hj
      rw [ih h.2 hi hj]
theorem out_agree {E : List Eff} (hnd : (E.map Eff.d).Nodup) {i : Nat} {e : Eff} (hi : E[i]? = some e) {D : Nat → Bool} {σ : St} (hD : D i = true → False) : (stM E D σ).ob.getD e.d .none = σ.ob.getD e.d .none := by
  have h0 : stM E (fun _ => false) σ = σ := stM_none E fun _ => rfl
  have h1 : (stM E D σ).ob.getD e.d .none = (stM E (fun _ => false) σ).ob.getD e.d .none := ob_agree E rfl rfl fun i' e'' hi' hd' _ => by
    have : i' = i := by
      have q1 : (E.map Eff.d)[i']? = some e.d := by rw [List.getElem?_map, hi']; simp [hd']
      have q2 : (E.map Eff.d)[i]? = some e.d := by rw [List.getElem?_map, hi]; simp
      exact nodup_inj hnd q1 q2
    subst this
    cases h : D i'
    · rfl
    · exact (hD h).elim
  rw [h1, h0]

/-- one quiet operation, out of turn -/
theorem quiet_step (hT : TOk P T) (hC : CallOk P T.globL call) {E : List Eff} {b : Nat} {σ : St}
    (hE : ∀ (j : Nat) e, E[j]? = some e → ∃ o, all.toList[b + j]? = some o ∧ EfOk T call all.toList (stM E (fun i => decide (i < j)) σ) o e)
    (hnd : (E.map Eff.d).Nodup) {D : Nat → Bool} {j : Nat} {e : Eff} {o : Oper} (hj : E[j]? = some e) (ho : all.toList[b + j]? = some o) (hDj : D j = false)
    (hord : ∀ (i : Nat) e', E[i]? = some e' → D i ≠ decide (i < j) → i ≠ j → e'.d ∉ readsOf all.toList o)
    (h : Sim T.globL U w0 F0 (σF (stM E D σ) (E.flatMap Eff.s)) a w ow) (hpn : ∀ d, o.dst = some d → F0.pn d = none) :
    (Region.wanted o (yielded all a.tmps) = true ∧ DoneO P T.globL U w0 F0 a w o (σF (stM E (fun i => D i || i == j) σ) (E.flatMap Eff.s))) ∨
    (Region.wanted o (yielded all a.tmps) = false ∧ Sim T.globL U w0 F0 (σF (stM E (fun i => D i || i == j) σ) (E.flatMap Eff.s)) (a.put o.dst undef) w ow) := by
  obtain ⟨o', ho', hd, hef⟩ := hE j e hj
  rw [ho] at ho'
  cases ho'
  rw [stM_insert E hnd hj hDj]
  -- what is read is as it was
  have hsl : ∀ t, t ∈ readsOf all.toList o → (stM E (fun i => decide (i < j)) σ).sl.getD t .dead = (stM E D σ).sl.getD t .dead := fun t ht =>
    sl_agree E rfl rfl fun i e' hi hdt => by
      by_cases hij : i = j
      · subst hij; simp [hDj]
      · cases hDi : D i <;> cases hlt : decide (i < j) <;> first
          | rfl
          | (exfalso
             refine hord i e' hi (by rw [hDi, hlt]; simp) hij ?_
             rw [hdt]; exact ht)
  have hval : ∀ x ∈ o.op.operands, val T (stM E (fun i => decide (i < j)) σ) x = val T (stM E D σ) x := fun x hx => val_eq fun t ht => hsl t (by
    subst ht
    exact List.mem_append_left _ (List.mem_filterMap.2 ⟨.tmp t, by simpa using hx, rfl⟩))
  have hwant : wantB all.toList (stM E (fun i => decide (i < j)) σ) o = wantB all.toList (stM E D σ) o := by
    unfold wantB
    cases hg : o.guard with
    | none => rfl
    | some q =>
      obtain ⟨q, want⟩ := q
      simp only
      cases hgd : (all.toList[q]?).bind (·.dst) with
      | none => rfl
      | some g =>
        simp only
        rw [hsl g (List.mem_append_right _ (by rw [hg]; simp only; rw [hgd]; simp))]
  have hsub : ∀ q ∈ e.s, q ∈ E.flatMap Eff.s := fun q hq => List.mem_flatMap.2 ⟨e, List.mem_of_getElem? hj, hq⟩
  rcases hef with ⟨hw, hq, hk, hqv, h0⟩ | ⟨hw, h1, h2, h3⟩
  · refine .inl ⟨wanted_of h (by rw [show wantB all.toList (σF (stM E D σ) (E.flatMap Eff.s)) o = wantB all.toList (stM E D σ) o from rfl, ← hwant]; exact hw), ?_⟩
    -- the objects that are looked at are there alike
    have hob : ∀ k, isNone ((stM E (fun i => decide (i < j)) σ).ob.getD k .none) = false → (stM E D σ).ob.getD k .none ≠ .none → (stM E (fun i => decide (i < j)) σ).ob.getD k .none = (stM E D σ).ob.getD k .none := fun k h1 h2 => by
      -- no new object is made under a key that differs
      by_cases hdiff : ∃ (i : Nat) (e' : Eff), E[i]? = some e' ∧ e'.d = k ∧ isNone e'.ob = false ∧ D i ≠ decide (i < j)
      · exfalso
        obtain ⟨i, e', hi, hdk, hnn, hne⟩ := hdiff
        obtain ⟨oi, _, _, hef'⟩ := hE i e' hi
        have hbase : σ.ob.getD k .none = .none := by
          rcases hef' with ⟨_, _, _, _, h5⟩ | ⟨_, _, h5, _⟩
          · rcases h5 with h5 | h5
            · rw [h5] at hnn; cases hnn
            · have h6 := isNone_iff.1 h5
              rw [← hdk]
              exact (out_agree (D := fun q => decide (q < i)) hnd hi (fun h => by simp at h)).symm.trans h6
          · rw [h5] at hnn; cases hnn
        have hout : ∀ D' : Nat → Bool, D' i = false → (stM E D' σ).ob.getD k .none = .none := fun D' hD' => by
          rw [← hdk]
          exact (out_agree (D := D') hnd hi (fun h => by rw [hD'] at h; cases h)).trans (by rw [hdk]; exact hbase)
        cases hDi : D i with
        | false => exact h2 (hout D hDi)
        | true =>
          have hlt : decide (i < j) = false := by
            cases hl : decide (i < j)
            · rfl
            · rw [hDi, hl] at hne; exact absurd rfl hne
          rw [hout _ hlt] at h1
          cases h1
      · refine ob_agree E rfl rfl fun i e' hi hdk hnn => ?_
        cases hDi : D i <;> cases hlt : decide (i < j) <;> first
          | rfl
          | exact absurd ⟨i, e', hi, hdk, hnn, by rw [hDi, hlt]; simp⟩ hdiff
    have hqv2 : qv T call (val T (stM E D σ)) (lkE (stM E D σ)) e.d o K3 = some (e.x, e.ob, e.s) := by
      rw [← hqv, ← qv_v (v := val T (stM E (fun i => decide (i < j)) σ)) hval]
      symm
      refine qv_lk (fun x hx k c hkc => ?_) K3
      unfold lkE
      have hk1 : isNone ((stM E (fun i => decide (i < j)) σ).ob.getD k .none) = false := by
        have := List.all_eq_true.1 (List.all_eq_true.1 hk x (by simpa using hx)) k (keysN_of hkc)
        simpa using this
      have hk2 : (stM E D σ).ob.getD k .none ≠ .none := by
        have hsr := val_sr h x
        have hv : val T (σF (stM E D σ) (E.flatMap Eff.s)) x = val T (stM E (fun i => decide (i < j)) σ) x := (hval x hx).symm
        rw [hv] at hsr
        have hal := hsr.alive hkc
        intro e0
        apply hal
        show (freeze (stM E D σ).ob (E.flatMap Eff.s)).getD k .none = .none
        rw [getD_freeze, e0, frzK_none]
      rw [hob k hk1 hk2]
    have hqv3 : qv T call (val T (σF (stM E D σ) (E.flatMap Eff.s))) (lkE (σF (stM E D σ) (E.flatMap Eff.s))) e.d o K3 = some (e.x, e.ob, e.s) := by
      have e1 : lkE (σF (stM E D σ) (E.flatMap Eff.s)) = lkE (stM E D σ) := lkE_freeze _ _ _
      rw [e1]
      exact hqv2
    obtain ⟨x, ob, s, hK, hdone⟩ := qv_sound hT hC h hd hqv3
    simp only [K3, Option.some.injEq, Prod.mk.injEq] at hK
    obtain ⟨rfl, rfl, rfl⟩ := hK
    have hfree : e.ob = .none ∨ (stM E D σ).ob.getD e.d .none = .none := by
      rcases h0 with h0 | h0
      · exact .inl (isNone_iff.1 h0)
      · by_cases hn : isNone e.ob = true
        · exact .inl (isNone_iff.1 hn)
        · refine .inr ?_
          refine (ob_agree E rfl rfl fun i' e'' hi' hd' _ => ?_).trans (isNone_iff.1 h0)
          have : i' = j := by
            have q1 : (E.map Eff.d)[i']? = some e.d := by rw [List.getElem?_map, hi']; simp [hd']
            have q2 : (E.map Eff.d)[j]? = some e.d := by rw [List.getElem?_map, hj]; simp
            exact nodup_inj hnd q1 q2
          subst this
          simp [hDj]
    refine fun Kq Q hq => hdone (hfree.imp id fun e0 => ⟨?_, hpn _ hd⟩) Kq Q fun u w' ow' hs => hq _ _ ow' ?_
    · show (freeze (stM E D σ).ob (E.flatMap Eff.s)).getD e.d .none = .none
      rw [getD_freeze, e0, frzK_none]
    · have h1 := hs.freeze (E.flatMap Eff.s)
      have e1 := freeze_again (fs := E.flatMap Eff.s) (s := e.s) (ob := (stM E D σ).ob) (d := e.d) (o := e.ob) hsub
      show Sim T.globL U w0 F0 ⟨(stM E D σ).sl.set e.d e.x, freeze (setN (stM E D σ).ob e.d e.ob) (E.flatMap Eff.s)⟩ _ w' ow'
      rw [← e1]
      exact h1
  · refine .inr ⟨wanted_of h (by rw [show wantB all.toList (σF (stM E D σ) (E.flatMap Eff.s)) o = wantB all.toList (stM E D σ) o from rfl, ← hwant]; exact hw), ?_⟩
    rw [hd]
    have := sim_skip h e.d
    show Sim T.globL U w0 F0 ⟨(stM E D σ).sl.set e.d e.x, freeze (setN (stM E D σ).ob e.d e.ob) (E.flatMap Eff.s)⟩ _ w ow
    rw [h1, h2]
    exact this

/-! ### the order -/
theorem befores_go : ∀ (ops : List Oper) (acc : List (List Nat)),
    let bs := ops.foldl (fun acc o => acc ++ [o.after.toList.foldl (fun l e => bif Region.binds .any e then e.on :: acc.getD e.on [] ++ l else l) []]) acc
    (∀ j, j < acc.length → bs.getD j [] = acc.getD j []) ∧
    ∀ j o, ops[j]? = some o → ∀ i ∈ bs.getD (acc.length + j) [], ∃ e ∈ o.after, Region.binds .any e = true ∧ (i = e.on ∨ i ∈ bs.getD e.on [])
  | [], acc => ⟨fun j _ => rfl, fun j o h => by simp at h⟩
  | o :: ops, acc => by
    intro bs
    have key := befores_go ops (acc ++ [o.after.toList.foldl (fun l e => bif Region.binds .any e then e.on :: acc.getD e.on [] ++ l else l) []])
    obtain ⟨h1, h2⟩ := key
    have hbs : bs = ops.foldl (fun acc o => acc ++ [o.after.toList.foldl (fun l e => bif Region.binds .any e then e.on :: acc.getD e.on [] ++ l else l) []]) (acc ++ [o.after.toList.foldl (fun l e => bif Region.binds .any e then e.on :: acc.getD e.on [] ++ l else l) []]) := rfl
    rw [← hbs] at h1 h2
    have hpre : ∀ j, j < acc.length → bs.getD j [] = acc.getD j [] := fun j hj => by
      rw [h1 j (by simp; omega)]
      simp [List.getD_eq_getElem?_getD, List.getElem?_append_left hj]
    refine ⟨hpre, fun j o' hj i hi => ?_⟩
    cases j with
    | zero =>
      simp at hj
      subst hj
      rw [Nat.add_zero, h1 acc.length (by simp)] at hi
      have hg : (acc ++ [o.after.toList.foldl (fun l e => bif Region.binds .any e then e.on :: acc.getD e.on [] ++ l else l) []]).getD acc.length [] = o.after.toList.foldl (fun l e => bif Region.binds .any e then e.on :: acc.getD e.on [] ++ l else l) [] := by
        simp [List.getD_eq_getElem?_getD]
      rw [hg] at hi
      have hfold : ∀ (es : List Edge) (l0 : List Nat), i ∈ es.foldl (fun l e => bif Region.binds .any e then e.on :: acc.getD e.on [] ++ l else l) l0 → i ∈ l0 ∨ ∃ e ∈ es, Region.binds .any e = true ∧ (i = e.on ∨ i ∈ acc.getD e.on []) := by
        intro es
        induction es with
        | nil => exact fun l0 h => .inl h
        | cons e es ih =>
          intro l0 h
          simp only [List.foldl_cons] at h
          rcases ih _ h with h | ⟨e', he', hb⟩
          · cases hb : Region.binds .any e with
            | false => rw [hb] at h; exact .inl h
            | true =>
              rw [hb] at h
              simp only [cond_true, List.cons_append, List.mem_cons, List.mem_append] at h
              rcases h with h | h | h
              · exact .inr ⟨e, by simp, hb, .inl h⟩
              · exact .inr ⟨e, by simp, hb, .inr h⟩
              · exact .inl h
          · exact .inr ⟨e', by simp [he'], hb⟩
      rcases hfold _ _ hi with h | ⟨e, he, hb, h⟩
      · simp at h
      · refine ⟨e, by simpa using he, hb, h.imp id fun h => ?_⟩
        by_cases hl : e.on < acc.length
        · rw [hpre _ hl]; exact h
        · simp [List.getD_eq_getElem?_getD, List.getElem?_eq_none (by omega : acc.length ≤ e.on)] at h
    | succ j =>
      have := h2 j o' (by simpa using hj) i (by
        rw [show (acc ++ [o.after.toList.foldl (fun l e => bif Region.binds .any e then e.on :: acc.getD e.on [] ++ l else l) []]).length + j = acc.length + (j + 1) by simp; omega]
        exact hi)
      exact this
theorem befores_spec {ops : List Oper} {j : Nat} {o : Oper} (hj : ops[j]? = some o) {i : Nat} (hi : i ∈ (befores ops).getD j []) : ∃ e ∈ o.after, Region.binds .any e = true ∧ (i = e.on ∨ i ∈ (befores ops).getD e.on []) := by
  have := (befores_go ops []).2 j o hj i (by simpa [befores] using hi)
  exact this
end
end Go.Proofs.YtaapkkeogajfpaaDoor.VM

/- The abstract machine and the memory: a drawn region. -/
set_option linter.unusedVariables false
set_option linter.unusedSimpArgs false
namespace Go.Proofs.YtaapkkeogajfpaaDoor.VM

section
variable {P : Program} {T : TT} {U : Nat → Prop} {w0 w : World} {F0 : Fr} {a : Act} {ow : Own} {r : Res} {call : FuncId → List V → Option Res} {all : Array Oper}

structure RegOk (T : TT) (ops : List Oper) : Prop where
  on : ∀ (j : Nat) y, ops[j]? = some y → ∀ e ∈ y.after, Region.binds .any e = true → e.on < j
  ne : ∀ (i j : Nat) x y, i < j → ops[i]? = some x → ops[j]? = some y → ∀ d, x.dst = some d → y.dst ≠ some d
  ord : ∀ (i j : Nat) x y, i < j → ops[i]? = some x → ops[j]? = some y → i ∈ (befores ops).getD j [] ∨ apartB T ops x y = true

theorem regOk_ok {ops : List Oper} (h : regOk T ops = true) : RegOk T ops := by
  unfold regOk at h
  have hz : ∀ {j : Nat} {y : Oper}, ops[j]? = some y → (y, j) ∈ ops.zipIdx := fun {j y} hj => by
    rw [List.mem_zipIdx_iff_getElem?]; exact hj
  have hy : ∀ {j : Nat} {y : Oper}, ops[j]? = some y → (y.after.toList.all (fun e => !Region.binds .any e || Nat.blt e.on j) && ops.zipIdx.all fun (x, i) => !Nat.blt i j || (dstNe x y && (memN ((befores ops).getD j []) i || apartB T ops x y))) = true := fun {j y} hj => List.all_eq_true.1 h (y, j) (hz hj)
  have hp : ∀ (i j : Nat) x y, i < j → ops[i]? = some x → ops[j]? = some y → (dstNe x y && (memN ((befores ops).getD j []) i || apartB T ops x y)) = true := fun i j x y hij hi hj => by
    have h1 := hy hj
    simp only [Bool.and_eq_true] at h1
    have h2 := List.all_eq_true.1 h1.2 (x, i) (hz hi)
    have h3 : Nat.blt i j = true := by rw [Nat.blt_eq]; exact hij
    simpa [h3] using h2
  refine ⟨fun j y hj e he hb => ?_, fun i j x y hij hi hj d hd hd' => ?_, fun i j x y hij hi hj => ?_⟩
  · have h1 := hy hj
    simp only [Bool.and_eq_true] at h1
    have h2 := List.all_eq_true.1 h1.1 e (by simpa using he)
    rw [hb] at h2
    simp only [Bool.not_true, Bool.false_or] at h2
    rw [Nat.blt_eq] at h2
    exact h2
  · have h1 := hp i j x y hij hi hj
    simp only [Bool.and_eq_true] at h1
    have h2 := h1.1
    unfold dstNe at h2
    rw [hd, hd'] at h2
    simp at h2
  · have h1 := hp i j x y hij hi hj
    simp only [Bool.and_eq_true, Bool.or_eq_true] at h1
    exact h1.2.imp memN_iff.1 id

structure Inv (P : Program) (T : TT) (U : Nat → Prop) (w0 : World) (F0 : Fr) (call : FuncId → List V → Option Res) (all : Array Oper) (K : St → Option Res) (r : Res) (listed : Array Bool) (a : Act) (w : World)
    (b : Nat) (σ : St) (E : List Eff) (ow : Own) : Prop where
  size : listed.size = all.size
  pre : ∀ i, i < b → listed.getD i false = true
  len : b + E.length ≤ all.size
  tr : TrQ T call all.toList (all.toList.drop b) σ E
  rest : Rest T call all.toList ((all.toList.drop b).drop E.length) (stM E (fun _ => true) σ) (E.flatMap Eff.s) K r
  post : ∀ i, b + E.length ≤ i → listed.getD i false = false
  closed : ∀ j, listed.getD j false = true → ∀ i ∈ (befores all.toList).getD j [], listed.getD i false = true
  sim : Sim T.globL U w0 F0 (σF (stM E (fun i => listed.getD (b + i) false) σ) (E.flatMap Eff.s)) a w ow

theorem getD_listed {listed : Array Bool} {i j : Nat} (h : i < listed.size) : (listed.setIfInBounds i true).getD j false = (listed.getD j false || j == i) := by
  simp only [Array.getD_eq_getD_getElem?, Array.getElem?_setIfInBounds]
  by_cases hij : i = j
  · subst hij; simp [h]
  · rw [if_neg hij]
    have : (j == i) = false := by simp; omega
    simp [this]
theorem getD_tf {listed : Array Bool} {i : Nat} (h : i < listed.size) : listed.getD i true = listed.getD i false := by
  simp [Array.getD_eq_getD_getElem?, Array.getElem?_eq_getElem h]

/-- all are listed, or one is ready -/
theorem ready_or (hr : RegOk T all.toList) {listed : Array Bool} (hs : listed.size = all.size) (h : Region.ready .any all listed = []) : ∀ i, i < all.size → listed.getD i false = true := by
  intro i
  induction i using Nat.strongRecOn with
  | ind i ih =>
    intro hi
    cases hl : listed.getD i false with
    | true => rfl
    | false =>
      exfalso
      have : i ∈ Region.ready .any all listed := by
        rw [mem_ready]
        refine ⟨by rw [getD_tf (by omega)]; exact hl, all[i], Array.getElem?_eq_getElem hi, fun e he hb => ?_⟩
        have h1 := hr.on i all[i] (by rw [Array.getElem?_toList]; exact Array.getElem?_eq_getElem hi) e he hb
        exact ih _ h1 (by omega)
      rw [h] at this
      cases this

theorem Inv.done {K : St → Option Res} {Q : Exit → Act → World → Prop} {listed : Array Bool} {b : Nat} {σ : St} {E : List Eff} (h : Inv P T U w0 F0 call all K r listed a w b σ E ow)
    (hl : ∀ i, i < all.size → listed.getD i false = true) (hQ : ∀ σ' a' w' ow', K σ' = some r → Sim T.globL U w0 F0 σ' a' w' ow' → Q .normal a' w') : Q .normal a w := by
  have he : b + E.length = all.size := by
    rcases Nat.lt_or_ge (b + E.length) all.size with h1 | h1
    · have := h.post _ (Nat.le_refl _)
      rw [hl _ h1] at this; cases this
    · have := h.len; omega
  have hd : (all.toList.drop b).drop E.length = [] := by
    rw [List.drop_drop, List.drop_eq_nil_iff]; simp; omega
  have hr := h.rest
  rw [hd] at hr
  have hs := h.sim
  have : stM E (fun i => listed.getD (b + i) false) σ = stM E (fun _ => true) σ := stM_congr E fun i hi => hl _ (by omega)
  rw [this] at hs
  exact hQ _ _ _ _ hr hs

def unl (listed : Array Bool) (n : Nat) : Nat := (List.range n).countP fun i => !listed.getD i false
theorem unl_set {listed : Array Bool} {n i : Nat} (hi : i < n) (hs : i < listed.size) (hl : listed.getD i false = false) : unl (listed.setIfInBounds i true) n + 1 = unl listed n := by
  unfold unl
  induction n with
  | zero => omega
  | succ n ih =>
    rw [List.range_succ, List.countP_append, List.countP_append]
    simp only [List.countP_cons, List.countP_nil, Nat.zero_add]
    by_cases hin : i = n
    · subst hin
      rw [getD_listed hs, hl]
      have : (List.range i).countP (fun q => !(listed.setIfInBounds i true).getD q false) = (List.range i).countP (fun q => !listed.getD q false) := by
        refine List.countP_congr fun q hq => ?_
        have hq : q < i := by simpa using hq
        rw [getD_listed hs]
        have : (q == i) = false := by simp; omega
        rw [this, Bool.or_false]
      rw [this]
      simp
    · have := ih (by omega)
      rw [getD_listed hs]
      have h2 : (n == i) = false := by simp; omega
      rw [h2, Bool.or_false]
      omega

theorem loud_apart {x y : Oper} {ops : List Oper} (h : isQuiet T x = false ∨ isQuiet T y = false) : apartB T ops x y = false := by
  cases hab : apartB T ops x y with
  | false => rfl
  | true =>
    obtain ⟨_, _, _, _, _, _, _, h1, h2⟩ := apartB_spec hab
    rcases h with h | h
    · rw [h1] at h; cases h
    · rw [h2] at h; cases h

/-- A DRAWN REGION -/
theorem drawn_any (hT : TOk P T) (hC : CallOk P T.globL call) (hL : LoudOk P T call) (hr : RegOk T all.toList) (hpn : ∀ o ∈ all.toList, ∀ d, o.dst = some d → F0.pn d = none) {K : St → Option Res} {Q : Exit → Act → World → Prop}
    (hQ : ∀ σ' a' w' ow', K σ' = some r → Sim T.globL U w0 F0 σ' a' w' ow' → Q .normal a' w') :
    ∀ (fuel : Nat) (listed : Array Bool) (a : Act) (w : World) (b : Nat) (σ : St) (E : List Eff) (ow : Own), unl listed all.size ≤ fuel → Inv P T U w0 F0 call all K r listed a w b σ E ow → wpAny P .any all Q fuel listed a w
  | 0, listed, a, w, b, σ, E, ow, hf, h => by
    have hall : ∀ i, i < all.size → listed.getD i false = true := fun i hi => by
      have h0 : unl listed all.size = 0 := by omega
      unfold unl at h0
      have := List.countP_eq_zero.1 h0 i (by simpa using hi)
      simpa using this
    refine ⟨?_, h.done hall hQ⟩
    cases hrd : Region.ready .any all listed with
    | nil => rfl
    | cons i l =>
      have hi : i ∈ Region.ready .any all listed := by rw [hrd]; simp
      obtain ⟨h1, o, ho, _⟩ := mem_ready.1 hi
      have hlt : i < all.size := (Array.getElem?_eq_some_iff.1 ho).1
      rw [getD_tf (by rw [h.size]; exact hlt), hall i hlt] at h1
      cases h1
  | fuel + 1, listed, a, w, b, σ, E, ow, hf, h => by
    refine ⟨fun hrd => h.done (ready_or hr h.size hrd) hQ, fun i hi => ?_⟩
    obtain ⟨h1, o, ho, hafter⟩ := mem_ready.1 hi
    have hlt : i < all.size := (Array.getElem?_eq_some_iff.1 ho).1
    rw [getD_tf (by rw [h.size]; exact hlt)] at h1
    have hoL : all.toList[i]? = some o := by rw [Array.getElem?_toList]; exact ho
    have hls : i < listed.size := by rw [h.size]; exact hlt
    -- what stands before it is listed
    have hbef : ∀ q ∈ (befores all.toList).getD i [], listed.getD q false = true := fun q hq => by
      obtain ⟨e, he, hb, hqe⟩ := befores_spec hoL hq
      have := hafter e he hb
      rcases hqe with rfl | hqe
      · exact this
      · exact h.closed _ this q hqe
    have hcl : ∀ j, (listed.setIfInBounds i true).getD j false = true → ∀ q ∈ (befores all.toList).getD j [], (listed.setIfInBounds i true).getD q false = true := fun j hj q hq => by
      rw [getD_listed hls] at hj ⊢
      rw [Bool.or_eq_true] at hj ⊢
      refine .inl ?_
      rcases hj with hj | hj
      · exact h.closed j hj q hq
      · have : j = i := by simpa using hj
        subst this
        exact hbef q hq
    have hib : b ≤ i := by
      rcases Nat.lt_or_ge i b with hh | hh
      · have := h.pre i hh; rw [h1] at this; cases this
      · exact hh
    have hfuel : unl (listed.setIfInBounds i true) all.size ≤ fuel := by have := unl_set hlt hls h1; omega
    have hE : ∀ (j : Nat) e, E[j]? = some e → ∃ o, all.toList[b + j]? = some o ∧ EfOk T call all.toList (stM E (fun i => decide (i < j)) σ) o e := fun j e hj => by
      obtain ⟨o', h1, h2⟩ := TrQ.at _ _ _ h.tr j e hj
      exact ⟨o', by rw [List.getElem?_drop] at h1; exact h1, h2⟩
    unfold wpOp
    rw [ho]
    simp only
    rcases Nat.lt_or_ge i (b + E.length) with hin | hin
    · -- a quiet one
      obtain ⟨j, rfl⟩ : ∃ j, i = b + j := ⟨i - b, by omega⟩
      have hj : j < E.length := by omega
      have hje : E[j]? = some E[j] := List.getElem?_eq_getElem hj
      have hnd : (E.map Eff.d).Nodup := by
        rw [List.nodup_iff_pairwise_ne, List.pairwise_iff_getElem]
        intro q q' h1 h2 hlt' he
        simp only [List.length_map] at h1 h2
        simp only [List.getElem_map] at he
        obtain ⟨x, hx, hxd, _⟩ := hE q _ (List.getElem?_eq_getElem h1)
        obtain ⟨y, hy, hyd, _⟩ := hE q' _ (List.getElem?_eq_getElem h2)
        exact hr.ne _ _ x y (by omega) hx hy _ hxd (by rw [hyd, he])
      have hstep := quiet_step (P := P) (T := T) (U := U) (w0 := w0) (w := w) (F0 := F0) (a := a) (ow := ow) hT hC hE hnd hje hoL (D := fun q => listed.getD (b + q) false) h1 (fun q e' hq hne hqj => by
        obtain ⟨x, hx, hxd, _⟩ := hE q e' hq
        rcases Nat.lt_or_ge q j with hlt' | hge
        · rcases hr.ord (b + q) (b + j) x o (by omega) hx hoL with hb | hb
          · exfalso
            refine hne ?_
            show listed.getD (b + q) false = _
            rw [hbef _ hb]; simp [hlt']
          · obtain ⟨dx, dy, q1, q2, _, _, q3, _⟩ := apartB_spec hb
            rw [hxd] at q1; cases q1
            exact q3
        · rcases hr.ord (b + j) (b + q) o x (by omega) hoL hx with hb | hb
          · exfalso
            refine hne ?_
            show listed.getD (b + q) false = _
            have hnl : decide (q < j) = false := by simp; omega
            rw [hnl]
            cases hlq : listed.getD (b + q) false with
            | false => rfl
            | true =>
              have := h.closed _ hlq _ hb
              rw [h1] at this; cases this
          · obtain ⟨dx, dy, q1, q2, _, q3, _, _⟩ := apartB_spec hb
            rw [hxd] at q2; cases q2
            exact q3) h.sim (hpn o (List.mem_of_getElem? hoL))
      have hmask : stM E (fun q => listed.getD (b + q) false || q == j) σ = stM E (fun q => (listed.setIfInBounds (b + j) true).getD (b + q) false) σ := stM_congr E fun q _ => by
        rw [getD_listed hls]
        have : (b + q == b + j) = (q == j) := by rw [Bool.eq_iff_iff, beq_iff_eq, beq_iff_eq]; omega
        rw [this]
      rw [hmask] at hstep
      have hinv : ∀ {a' w' ow'}, Sim T.globL U w0 F0 (σF (stM E (fun q => (listed.setIfInBounds (b + j) true).getD (b + q) false) σ) (E.flatMap Eff.s)) a' w' ow' → Inv P T U w0 F0 call all K r (listed.setIfInBounds (b + j) true) a' w' b σ E ow' := fun hs =>
        ⟨by simpa using h.size, fun q hq => by rw [getD_listed hls, h.pre q hq]; rfl, h.len, h.tr, h.rest, fun q hq => by
          rw [getD_listed hls, h.post q hq]
          simp; omega, hcl, hs⟩
      rcases hstep with ⟨hw, hd⟩ | ⟨hw, hs⟩
      · rw [if_pos hw]
        exact .inl (hd _ _ fun a' w' ow' hs => drawn_any hT hC hL hr hpn hQ fuel _ a' w' b σ E ow' hfuel (hinv hs))
      · rw [if_neg (by rw [hw]; simp)]
        exact drawn_any hT hC hL hr hpn hQ fuel _ _ w b σ E ow hfuel (hinv hs)
    · -- a loud one
      have hll : b + E.length < all.size := by omega
      have hhead : all.toList[b + E.length]? = some (all[b + E.length]'hll) := by rw [Array.getElem?_toList]; exact Array.getElem?_eq_getElem hll
      have hdrop : (all.toList.drop b).drop E.length = (all[b + E.length]'hll) :: all.toList.drop (b + E.length + 1) := by
        rw [List.drop_drop, List.drop_eq_getElem_cons (by simpa using hll)]
        simp
      have hrest := h.rest
      rw [hdrop] at hrest
      obtain ⟨hq, hwb, hk⟩ := hrest
      have hil : i = b + E.length := by
        rcases Nat.lt_or_ge (b + E.length) i with hh | hh
        · exfalso
          rcases hr.ord _ _ _ _ hh hhead hoL with hb | hb
          · have := hbef _ hb
            rw [h.post _ (Nat.le_refl _)] at this; cases this
          · rw [loud_apart (.inl hq)] at hb; cases hb
        · omega
      subst hil
      have hoe : o = all[b + E.length]'hll := by rw [hhead] at hoL; cases hoL; rfl
      have hfull : stM E (fun q => listed.getD (b + q) false) σ = stM E (fun _ => true) σ := stM_congr E fun q hq' => by
        obtain ⟨x, hx, _⟩ := hE q _ (List.getElem?_eq_getElem hq')
        rcases hr.ord (b + q) (b + E.length) x _ (by omega) hx hhead with hb | hb
        · exact hbef _ hb
        · rw [loud_apart (.inr hq)] at hb; cases hb
      have hsim := h.sim
      rw [hfull] at hsim
      rw [← hoe] at hq hwb hk
      obtain ⟨σ', hK, hdone⟩ := hL _ _ _ _ _ _ _ _ _ _ hsim (hpn o (List.mem_of_getElem? hoL)) hk
      obtain ⟨E', hlen, htr, hrest'⟩ := seg_split _ _ _ hK
      rw [if_pos (wanted_of hsim hwb)]
      refine .inl (hdone _ _ fun a' w' ow' hs => drawn_any hT hC hL hr hpn hQ fuel _ a' w' (b + E.length + 1) σ' E' ow' hfuel ?_)
      have hlate : ∀ q, b + E.length < q → listed.getD q false = false := fun q hq' => by
        cases hlq : listed.getD q false with
        | false => rfl
        | true =>
          rw [h.post q (by omega)] at hlq; cases hlq
      refine ⟨by simpa using h.size, fun q hq' => ?_, ?_, htr, by simpa using hrest', fun q hq' => ?_, hcl, ?_⟩
      · rw [getD_listed hls]
        rcases Nat.lt_or_ge q b with h2 | h2
        · rw [h.pre q h2]; rfl
        · rcases Nat.lt_or_ge q (b + E.length) with h3 | h3
          · obtain ⟨qq, rfl⟩ : ∃ qq, q = b + qq := ⟨q - b, by omega⟩
            obtain ⟨x, hx, _⟩ := hE qq _ (List.getElem?_eq_getElem (by omega))
            rcases hr.ord (b + qq) (b + E.length) x o (by omega) hx hoL with hb | hb
            · rw [hbef _ hb]; rfl
            · rw [loud_apart (.inr hq)] at hb; cases hb
          · have : q = b + E.length := by omega
            subst this
            simp
      · simp only [List.length_drop, Array.length_toList] at hlen
        omega
      · rw [getD_listed hls, hlate q (by omega)]
        simp; omega
      · rw [stM_none E' (fun q => by rw [getD_listed hls, hlate _ (by omega)]; simp; omega)]
        exact hs.freeze _
end
end Go.Proofs.YtaapkkeogajfpaaDoor.VM

/- The abstract machine: what comes behind is not looked at, for the operations that write; what a call that is handed boxes does to the slots. -/
set_option linter.unusedVariables false
set_option linter.unusedSimpArgs false
namespace Go.Proofs.YtaapkkeogajfpaaDoor.VM

section
variable {R S : Type} {g : R → Option S}
theorem wr1_bind {σ : St} {k : Nat} {c : Option Nat} {i j : Nat} {x : V} {K : St → Option R} : (wr1 σ k c i j x K).bind g = wr1 σ k c i j x fun m => (K m).bind g := by
  unfold wr1
  cases obRow (lk σ) k c with
  | some q => simp only [bif_bind, exN_bind]; rfl
  | none =>
    simp only
    rcases σ.ob.getD k .none with _ | ⟨_ | _, cs⟩ | _ <;> cases c <;> cases i <;> simp only [bif_bind] <;> rfl
theorem wrN_bind {σ : St} {k : Nat} {c : Option Nat} {i j : Nat} {ss : List Sh} {ns : List V} {x : V} {K : St → Option R} : (wrN σ k c i j ss ns x K).bind g = wrN σ k c i j ss ns x fun m => (K m).bind g := by
  unfold wrN
  cases obRow (lk σ) k c with
  | some q => simp only [bif_bind, exN_bind, wd_bind]; rfl
  | none =>
    simp only
    rcases σ.ob.getD k .none with _ | ⟨_ | _, cs⟩ | _ <;> cases c <;> cases i <;> simp only [bif_bind, unSt_bind, unCs_bind] <;> rfl
theorem mvR_bind {σ : St} {k j k' : Nat} {c m : Option Nat} {K : St → Option R} : (mvR σ k j k' c m K).bind g = mvR σ k j k' c m fun m => (K m).bind g := by
  unfold mvR
  rcases obRow (lk σ) k' c with _ | ⟨_ | _, z, xs⟩
  · rfl
  · rfl
  · simp only
    rcases (kil (kil σ k' c) k (some j)).ob.getD k .none with _ | ⟨_ | _, cs⟩ | _ <;> simp only [bif_bind] <;> rfl
theorem stoEl_bind {σ : St} {k c i k' c' i' : Nat} {K : St → Option R} : (stoEl σ k c i k' c' i' K).bind g = stoEl σ k c i k' c' i' fun m => (K m).bind g := by
  unfold stoEl
  rcases segAt (lk σ) k c with _ | ⟨l, xs⟩
  · rfl
  · exact bif_bind
theorem stoHd_bind {σ : St} {k j k' c' : Nat} {K : St → Option R} : (stoHd σ k j k' c' K).bind g = stoHd σ k j k' c' fun m => (K m).bind g := by
  unfold stoHd
  rcases segAt (lk σ) k j with _ | ⟨l, xs⟩
  · rfl
  · exact bif_bind
theorem sto_bind {T : TT} {σ : St} {t : TypeId} {a x : V} {K : St → Option R} : (sto T σ t a x K).bind g = sto T σ t a x fun m => (K m).bind g := by
  unfold sto
  generalize T.ty t = ty
  by_cases ha : ∃ k c m, a = .sg k c m
  · obtain ⟨k, c, m, rfl⟩ := ha
    cases m <;> cases ty <;> first | rfl | skip
    cases x <;> first | rfl | skip
    rename_i m
    cases m <;> first | rfl | exact stoEl_bind
  cases a <;> (try exact absurd ⟨_, _, _, rfl⟩ ha) <;> cases ty <;> first | rfl | skip
  · by_cases hx : ∃ k c m, x = .sg k c m
    · obtain ⟨k, c, m, rfl⟩ := hx
      cases m <;> first | (simp only [bif_bind, stoHd_bind]; rfl) | rfl
    cases x <;> (try exact absurd ⟨_, _, _, rfl⟩ hx) <;> simp only [bif_bind, sealC_bind, wr1_bind, mvR_bind] <;> rfl
  · simp only [sealV_bind, wrN_bind]
theorem appE_bind {σ : St} {d z b k c i : Nat} {x : V} {K : St → Option R} : (appE σ d z b k c i x K).bind g = appE σ d z b k c i x fun m => (K m).bind g := by
  unfold appE
  rcases segAt (lk σ) k c with _ | ⟨_ | _ | _, xs⟩ <;> first | rfl | (simp only [bif_bind, exN_bind, elL_bind, asList_bind, chk_bind]; rfl)
theorem appH_bind {σ : St} {d z b k c : Nat} {x : V} {K : St → Option R} : (appH σ d z b k c x K).bind g = appH σ d z b k c x fun m => (K m).bind g := by
  unfold appH
  rcases segAt (lk σ) k c with _ | ⟨_ | _ | _, xs⟩ <;> first | rfl | (simp only [bif_bind, asList_bind, chk_bind]; rfl)
theorem nest_bind {σ : St} {d : Nat} {x : V} {K : St → Option R} : (nest σ d x K).bind g = nest σ d x fun m => (K m).bind g := by
  unfold nest
  rw [bif_bind]
  congr 1
  cases x <;> first | rfl | skip
  rename_i k c m
  cases c <;> cases m <;> first | rfl | skip
  simp only
  split <;> rfl
theorem boxM_bind {σ : St} {d : Nat} {ss : List Sh} {x : V} {K : St → Option R} : (boxM σ d ss x K).bind g = boxM σ d ss x fun m => (K m).bind g := by
  unfold boxM
  rw [bif_bind]
  congr 1
  cases x <;> first | rfl | skip
  rename_i cs
  cases cs with
  | nil => rfl
  | cons v vs =>
    simp only
    rw [bif_bind, sealCs_bind]
    congr 1
    congr 1
    funext cs s
    cases v <;> first | rfl | skip
    · rename_i k c m
      cases c <;> first | rfl | skip
      simp only
      split <;> rfl
    · simp only
      split
      · exact bif_bind
      · rfl
theorem cpy_bind {σ : St} {d : Nat} {t : V} {b : ByteArray} {K : St → Option R} : (cpy σ d t b K).bind g = cpy σ d t b fun m => (K m).bind g := by
  unfold cpy
  rw [bif_bind]
  congr 1
  cases t <;> first | rfl | skip
  rename_i k c m
  cases m <;> first | rfl | skip
  simp only
  rcases segAt (lk σ) k c with _ | ⟨l, xs⟩ <;> first | rfl | (simp only [bif_bind, exN_bind, elO_bind, chk_bind]; rfl)
theorem app_bind {σ : St} {d z b : Nat} {s x : V} {K : St → Option R} : (app σ d z b s x K).bind g = app σ d z b s x fun m => (K m).bind g := by
  unfold app
  rw [bif_bind]
  congr 1
  cases s <;> first | rfl | skip
  · simp only [asList_bind, chk_bind]
  · rename_i k c m
    simp only
    rcases obRow (lk σ) k c with _ | ⟨o, z', xs⟩
    · rfl
    · simp only [bif_bind, asList_bind, chk_bind]; rfl
  · rename_i k c m
    cases m <;> first | rfl | exact appE_bind | exact appH_bind
theorem ioSeal_bind {lk : Nat → Ob} : ∀ {vs : List V} {K : List V → List (Nat × Option Nat) → Option R}, (ioSeal lk vs K).bind g = ioSeal lk vs fun m s => (K m s).bind g := by
  intro vs
  induction vs with
  | nil => intro K; rfl
  | cons v vs ih =>
    intro K
    cases v <;> first
      | (simp only [ioSeal, sealV_bind, ih]; done)
      | skip
    rename_i k c i j
    cases c <;> cases i <;> cases j <;> simp only [ioSeal, sealV_bind, ih]
theorem ioFill_bind {ob : List Ob} : ∀ {vs : List V} {K : List V → List Nat → Option R}, (ioFill ob vs K).bind g = ioFill ob vs fun m s => (K m s).bind g := by
  intro vs
  induction vs with
  | nil => intro K; rfl
  | cons v vs ih =>
    intro K
    cases v <;> first
      | (simp only [ioFill, ih]; done)
      | (simp only [ioFill]; rfl)
      | skip
    rename_i k c i j
    cases c <;> cases i <;> cases j <;> simp only [ioFill, ih, Option.bind_none]
    rcases ob.getD k .none with _ | ⟨_ | _, cs⟩ | _ <;> simp only [ih] <;> rfl
theorem unOut_bind {os : List V} {K : List V → List V → Option R} : (unOut os K).bind g = unOut os fun c s => (K c s).bind g := by unfold unOut; split <;> rfl
theorem ioBack_bind : ∀ {ks : List Nat} {σ : St} {outs : List V} {K : St → Option R}, (ioBack σ ks outs K).bind g = ioBack σ ks outs fun m => (K m).bind g := by
  intro ks
  induction ks with
  | nil => intro σ outs K; cases outs <;> rfl
  | cons k ks ih =>
    intro σ outs K
    simp only [ioBack, unOut_bind]
    congr 1
    funext cs os
    rcases σ.ob.getD k .none with _ | ⟨b, cs⟩ | _ <;> simp only [bif_bind, ih] <;> rfl
end

section
variable {R S : Type} {g : R → Option S}
theorem rsC_bind {s : Sh} {old v : V} {K : V → Option R} : (rsC s old v K).bind g = rsC s old v fun m => (K m).bind g := by
  unfold rsC
  split
  · unfold unSg; split <;> rfl
  · unfold unO1; split <;> first | rfl | exact bif_bind
  · unfold unNO; split <;> first | rfl | exact bif_bind
  · unfold unSelf; split <;> rfl
  · unfold unPS; split <;> rfl
  · exact unC_bind
theorem rsCs_bind {olds cs : List V} : ∀ {ss : List Sh} {j : Nat} {K : List V → Option R}, (rsCs olds cs j ss K).bind g = rsCs olds cs j ss fun m => (K m).bind g
  | [], j, K => rfl
  | s :: ss, j, K => by unfold rsCs; rw [rsC_bind]; simp only [rsCs_bind]
theorem rsB_bind {σ0 σ : St} {k : Nat} {ss : List Sh} {K : St → Option R} : (rsB σ0 σ k ss K).bind g = rsB σ0 σ k ss fun m => (K m).bind g := by
  unfold rsB
  split
  · rw [bif_bind, rsCs_bind]; rfl
  · rfl
theorem rsA_bind {T : TT} {σ0 : St} : ∀ {as : List (V × TypeId)} {σ : St} {K : St → Option R}, (rsA T σ0 σ as K).bind g = rsA T σ0 σ as fun m => (K m).bind g := by
  intro as
  induction as with
  | nil => intro σ K; rfl
  | cons p as ih =>
    intro σ K
    unfold rsA
    split
    · rename_i e; cases e
    · rename_i k t as' e
      cases e
      split
      · rw [rsB_bind]; simp only [ih]
      · exact ih
    · rename_i e
      cases e
      exact ih
end


section
variable {R S : Type} {g : R → Option S} {T : TT} {call : FuncId → List V → Option Res}
theorem bind_bind' {α : Type} {o : Option α} {K : α → Option R} : (o.bind K).bind g = o.bind fun x => (K x).bind g := by cases o <;> rfl
theorem loud0_bind {σ : St} {o : Oper} {K : St → Option R} : (exLoud0 T call σ o K).bind g = exLoud0 T call σ o fun m => (K m).bind g := by
  obtain ⟨dst, op, type, pos, after, guard⟩ := o
  cases op <;> first
    | (cases dst <;> rfl; done)
    | skip
  case store t p q =>
    cases dst with
    | none => simp only [exLoud0]; exact sto_bind
    | some d => rfl
  case box t x =>
    cases dst with
    | none => rfl
    | some d =>
      simp only [exLoud0]
      cases T.ty t <;> first | rfl | exact boxM_bind
  case buildSlice t n ps =>
    cases dst with
    | none => rfl
    | some d =>
      simp only [exLoud0]
      split
      · split
        · split
          · exact nest_bind
          · rfl
        · rfl
      · rfl
  case call c =>
    obtain ⟨callee, args, ts⟩ := c
    cases dst with
    | none => cases callee <;> first | rfl | (rename_i b; cases b <;> rfl)
    | some d =>
      cases callee with
      | invoke rc m => rfl
      | builtin b =>
        cases b <;> first | rfl | skip
        rotate_left
        · simp only [exLoud0]
          generalize args.toList = as
          generalize ts.toList = tl
          rcases as with _ | ⟨s, _ | ⟨x, _ | ⟨y, as⟩⟩⟩ <;> rcases tl with _ | ⟨t, _ | ⟨t', _ | ⟨y', tl⟩⟩⟩ <;> first | rfl | skip
          dsimp only
          split
          · rw [bif_bind, unS_bind]
            congr 2
            funext b
            exact cpy_bind
          · rfl
        simp only [exLoud0]
        generalize args.toList = as
        generalize ts.toList = tl
        rcases as with _ | ⟨s, _ | ⟨x, _ | ⟨y, as⟩⟩⟩ <;> rcases tl with _ | ⟨t, _ | ⟨t', _ | ⟨y', tl⟩⟩⟩ <;> first | rfl | skip
        dsimp only
        cases T.el t with
        | none => rfl
        | some p =>
          rw [bif_bind]
          congr 1
          · cases T.esz p.1 <;> cases T.zero p.1 <;> first | rfl | exact app_bind
          · rw [bif_bind]
            congr 1
            · cases T.esz p.1 <;> cases T.zero p.1 <;> first | rfl | (simp only; rw [unS_bind]; congr 1; funext b; exact app_bind)
            · cases intTy (T.ty t') <;> cases T.esz p.1 <;> cases T.zero p.1 <;> first | rfl | (simp only; rw [asI_bind]; congr 1; funext m; rw [chk_bind, app_bind])
      | value f =>
        simp only [exLoud0]
        generalize val T σ f = x
        cases x <;> first | rfl | skip
        rename_i u
        cases u <;> first | rfl | skip
        rename_i q fs cv
        cases q <;> first | rfl | skip
        rename_i q
        rw [bif_bind]
        congr 1
        rw [ioSeal_bind]
        congr 1
        funext az s
        rw [ioFill_bind]
        congr 1
        funext vs l
        rw [bif_bind]
        congr 1
        rw [bind_bind']
        congr 1
        funext r
        rw [ioBack_bind]
        congr 1
        funext σ'
        cases T.ty type with
        | c sh => exact unC_bind
        | agg ss => exact unSt_bind
        | p ss => rfl
        | tup ts => simp only [unTup_bind, unVs_bind]
theorem loud_bind {σ : St} {o : Oper} {K : St → Option R} : (exLoud T call σ o K).bind g = exLoud T call σ o fun m => (K m).bind g := by
  unfold exLoud
  rw [loud0_bind]
  congr 1
  funext σ'
  exact rsA_bind
theorem loud_at {σ σ' : St} {o : Oper} (h : exLoud T call σ o some = some σ') {K : St → Option R} : exLoud T call σ o K = K σ' := by
  have := loud_bind (T := T) (call := call) (σ := σ) (o := o) (K := some) (g := K)
  rw [h] at this
  exact this.symm
theorem loud_some {σ : St} {o : Oper} {K : St → Option R} {r : R} (h : exLoud T call σ o K = some r) : ∃ σ', exLoud T call σ o some = some σ' ∧ K σ' = some r := by
  have := loud_bind (T := T) (call := call) (σ := σ) (o := o) (K := some) (g := K)
  simp only [Option.bind_some] at this
  rw [h] at this
  exact Option.bind_eq_some_iff.1 this
end

/-! ### what a call that is handed boxes does to the slots -/
theorem memN_false {l : List Nat} {a : Nat} : memN l a = false ↔ a ∉ l := by
  rw [← memN_iff]; cases memN l a <;> simp
theorem trC_sub {ks ks' : List Nat} (hs : ∀ k ∈ ks', k ∈ ks) {v : V} (h : trC ks v = true) : trC ks' v = true := by
  cases v <;> first | rfl | skip
  · rename_i k c i j
    cases c <;> first | rfl | skip
    simp only [trC, Bool.not_eq_true', memN_false] at h ⊢
    exact fun hk => h (hs k hk)
  · rename_i k c m
    cases c <;> first | rfl | skip
    simp only [trC, Bool.not_eq_true', memN_false] at h ⊢
    exact fun hk => h (hs k hk)
  · simp only [trC, Bool.not_eq_true', memN_false] at h ⊢
    exact fun hk => h (hs _ hk)
theorem triv_c {ks : List Nat} {v : V} (hs : ∀ cs, v ≠ .st cs) (ht : ∀ cs, v ≠ .tup cs) : triv ks v = trC ks v := by
  cases v <;> first | rfl | exact absurd rfl (hs _) | exact absurd rfl (ht _)
theorem trT_c {ks : List Nat} {v : V} (hs : ∀ cs, v ≠ .st cs) : trT ks v = trC ks v := by
  cases v <;> first | rfl | exact absurd rfl (hs _)
theorem v_cases (v : V) : (∃ cs, v = .st cs) ∨ (∃ cs, v = .tup cs) ∨ ((∀ cs, v ≠ .st cs) ∧ ∀ cs, v ≠ .tup cs) := by
  cases v <;> first | exact .inl ⟨_, rfl⟩ | exact .inr (.inl ⟨_, rfl⟩) | exact .inr (.inr ⟨fun _ h => (by cases h), fun _ h => (by cases h)⟩)
theorem triv_sub {ks ks' : List Nat} (hs : ∀ k ∈ ks', k ∈ ks) {v : V} (h : triv ks v = true) : triv ks' v = true := by
  rcases v_cases v with ⟨cs, rfl⟩ | ⟨cs, rfl⟩ | ⟨h1, h2⟩
  · simp only [triv, List.all_eq_true] at h ⊢
    exact fun c hc => trC_sub hs (h c hc)
  · simp only [triv, List.all_eq_true] at h ⊢
    intro c hc
    have := h c hc
    rcases v_cases c with ⟨cs, rfl⟩ | ⟨cs, rfl⟩ | ⟨h1, h2⟩
    · cases this
    · rfl
    · rw [trT_c h1] at this ⊢; exact trC_sub hs this
  · rw [triv_c h1 h2] at h ⊢; exact trC_sub hs h
theorem kilC_tr {ks : List Nat} {k j : Nat} (hk : k ∈ ks) {v : V} (h : trC ks v = true) : kilC k (some j) v = v := by
  have hne : ∀ k' : Nat, (!memN ks k') = true → Nat.beq k' k = false := fun k' h => by
    cases hb : Nat.beq k' k
    · rfl
    · rw [beq_nat.1 hb] at h
      rw [memN_iff.2 hk] at h
      cases h
  cases v <;> first | rfl | skip
  · rename_i k' c i j'
    cases c with
    | none => show (bif Nat.beq k' k && false then V.dead else _) = _; rw [Bool.and_false]; rfl
    | some c => show (bif Nat.beq k' k && _ then V.dead else _) = _; rw [hne k' h]; rfl
  · rename_i k' c m
    cases c with
    | none => show (bif Nat.beq k' k && false then V.dead else _) = _; rw [Bool.and_false]; rfl
    | some c => show (bif Nat.beq k' k && _ then V.dead else _) = _; rw [hne k' h]; rfl
  · rename_i k' c m
    show (bif Nat.beq k' k && _ then V.dead else _) = _; rw [hne k' h]; rfl
  · rename_i k'
    show (bif Nat.beq k' k && false then V.dead else _) = _; rw [Bool.and_false]; rfl
theorem map_id_of {α : Type} {f : α → α} : ∀ {l : List α}, (∀ x ∈ l, f x = x) → l.map f = l
  | [], _ => rfl
  | x :: l, h => by rw [List.map_cons, h x (List.mem_cons_self ..), map_id_of fun y hy => h y (List.mem_cons_of_mem _ hy)]
theorem kilV_c {k : Nat} {c : Option Nat} {v : V} (hs : ∀ cs, v ≠ .st cs) (ht : ∀ cs, v ≠ .tup cs) : kilV k c v = kilC k c v := by
  cases v <;> first | rfl | exact absurd rfl (hs _) | exact absurd rfl (ht _)
theorem kilT_c {k : Nat} {c : Option Nat} {v : V} (hs : ∀ cs, v ≠ .st cs) : kilT k c v = kilC k c v := by
  cases v <;> first | rfl | exact absurd rfl (hs _)
theorem kilV_tr {ks : List Nat} {k j : Nat} (hk : k ∈ ks) {v : V} (h : triv ks v = true) : kilV k (some j) v = v := by
  rcases v_cases v with ⟨cs, rfl⟩ | ⟨cs, rfl⟩ | ⟨h1, h2⟩
  · simp only [triv, List.all_eq_true] at h
    show V.st _ = V.st _
    rw [map_id_of fun c hc => kilC_tr hk (h c hc)]
  · simp only [triv, List.all_eq_true] at h
    show V.tup _ = V.tup _
    rw [map_id_of fun c hc => ?_]
    have := h c hc
    rcases v_cases c with ⟨cs, rfl⟩ | ⟨cs, rfl⟩ | ⟨h1, h2⟩
    · cases this
    · rfl
    · rw [trT_c h1] at this; rw [kilT_c h1]; exact kilC_tr hk this
  · rw [triv_c h1 h2] at h; rw [kilV_c h1 h2]; exact kilC_tr hk h
/-- the slots, where cells of a box are forgotten -/
def gP (k : Nat) : Nat → Nat → V → V
  | _, 0, v => v
  | j, n + 1, v => gP k (j + 1) n (kilV k (some j) v)
theorem kilP_map {k : Nat} : ∀ (n j : Nat) (σ : St), (kilP σ k j n).sl = σ.sl.map (gP k j n)
  | 0, j, σ => by
    show σ.sl = _
    exact (map_id_of (f := gP k j 0) fun _ _ => rfl).symm
  | n + 1, j, σ => by
    show (kilP (kil σ k (some j)) k (j + 1) n).sl = _
    rw [kilP_map n (j + 1)]
    show (σ.sl.map (kilV k (some j))).map _ = _
    rw [List.map_map]
    rfl
theorem gP_tr {ks : List Nat} {k : Nat} (hk : k ∈ ks) {v : V} (h : triv ks v = true) : ∀ n j, gP k j n v = v
  | 0, j => rfl
  | n + 1, j => by
    show gP k (j + 1) n (kilV k (some j) v) = v
    rw [kilV_tr hk h]
    exact gP_tr hk h n (j + 1)
theorem gP_dead {k : Nat} : ∀ n j, gP k j n .dead = .dead
  | 0, j => rfl
  | n + 1, j => gP_dead n (j + 1)

section
variable {T : TT} {call : FuncId → List V → Option Res}
theorem unOut_ex {R : Type} {rr : R} {os : List V} {K : List V → List V → Option R} (h : unOut os K = some rr) : ∃ cs os', os = .io cs :: os' ∧ K cs os' = some rr := by
  unfold unOut at h
  split at h
  · exact ⟨_, _, rfl, h⟩
  · cases h
theorem ioBack_shape : ∀ {ks : List Nat} {os sl : List V} {ob : List Ob} {σ2 : St}, ioBack ⟨sl, ob⟩ ks os some = some σ2 →
    ∃ (g : V → V) (ob' : List Ob), (∀ v, triv ks v = true → g v = v) ∧ g .dead = .dead ∧ (∀ k, k ∉ ks → ob'.getD k .none = ob.getD k .none) ∧
      ∀ (sl' : List V) (R : Type) (K : St → Option R), ioBack ⟨sl', ob⟩ ks os K = K ⟨sl'.map g, ob'⟩
  | [], [], sl, ob, σ2, h => ⟨id, ob, fun _ _ => rfl, rfl, fun _ _ => rfl, fun sl' R K => by show K _ = _; rw [List.map_id]⟩
  | [], _ :: _, sl, ob, σ2, h => by cases h
  | _ :: _, [], sl, ob, σ2, h => by cases h
  | k :: ks, x :: os, sl, ob, σ2, h => by
    unfold ioBack at h
    obtain ⟨cs, os', e0, h⟩ := unOut_ex h
    cases e0
    split at h
    · rename_i b old hb
      obtain ⟨hl0, h⟩ := bif_some h
      have hb : ob.getD k .none = .box b old := hb
      rw [kilP_map] at h
      obtain ⟨g, ob', h1, h2, h3, h4⟩ := ioBack_shape h
      refine ⟨fun v => g (gP k 0 old.length v), ob', fun v hv => ?_, ?_, fun kk hkk => ?_, fun sl' R K => ?_⟩
      · show g (gP k 0 old.length v) = v
        rw [gP_tr (List.mem_cons_self ..) hv]
        exact h1 v (triv_sub (fun k hk => List.mem_cons_of_mem _ hk) hv)
      · show g (gP k 0 old.length .dead) = _
        rw [gP_dead, h2]
      · simp only [List.mem_cons, not_or] at hkk
        rw [h3 kk hkk.2]
        exact getD_set_ob_other _ _ hkk.1
      · unfold ioBack
        show unOut (.io cs :: os) _ = _
        unfold unOut
        simp only
        rw [hb]
        simp only
        rw [hl0]
        simp only [cond_true]
        rw [kilP_map, h4]
        show K ⟨(sl'.map _).map g, ob'⟩ = _
        rw [List.map_map]
        rfl
    · cases h
theorem rsCs_ex {olds cs : List V} {R : Type} {ss : List Sh} {j : Nat} {K : List V → Option R} {r : R} (h : rsCs olds cs j ss K = some r) : ∃ c, rsCs olds cs j ss some = some c ∧ K c = some r := by
  have := rsCs_bind (olds := olds) (cs := cs) (ss := ss) (j := j) (K := some) (g := K)
  simp only [Option.bind_some] at this
  rw [h] at this
  exact Option.bind_eq_some_iff.1 this
theorem rsCs_at {olds cs : List V} {R : Type} {ss : List Sh} {j : Nat} {c : List V} (h : rsCs olds cs j ss some = some c) {K : List V → Option R} : rsCs olds cs j ss K = K c := by
  have := rsCs_bind (olds := olds) (cs := cs) (ss := ss) (j := j) (K := some) (g := K)
  rw [h] at this
  exact this.symm
theorem rsA_shape : ∀ {az : List (V × TypeId)} {sl0 sl : List V} {ob0 ob : List Ob} {σ2 : St}, rsA T ⟨sl0, ob0⟩ ⟨sl, ob⟩ az some = some σ2 →
    ∃ ob' : List Ob, (∀ k, (∀ p ∈ az, k ∉ keysN p.1) → ob'.getD k .none = ob.getD k .none) ∧ ∀ (sl0' sl' : List V) (R : Type) (K : St → Option R), rsA T ⟨sl0', ob0⟩ ⟨sl', ob⟩ az K = K ⟨sl', ob'⟩ := by
  intro az
  induction az with
  | nil => exact fun {sl0 sl ob0 ob σ2} h => ⟨ob, fun _ _ => rfl, fun _ _ _ _ => rfl⟩
  | cons p az ih =>
    intro sl0 sl ob0 ob σ2 h
    have tail : ∀ {sl : List V} {ob : List Ob} {ob1 : List Ob}, (∀ k, (∀ q ∈ az, k ∉ keysN q.1) → ob1.getD k .none = ob.getD k .none) → ∀ k, (∀ q ∈ p :: az, k ∉ keysN q.1) → ob1.getD k .none = ob.getD k .none := fun h k hk => h k fun q hq => hk q (List.mem_cons_of_mem _ hq)
    unfold rsA at h
    split at h
    · rename_i e; cases e
    · rename_i k t az' e
      cases e
      split at h
      · rename_i ss hty
        unfold rsB at h
        split at h
        · rename_i o cs hb
          have hb : ob.getD k .none = .box o cs := hb
          obtain ⟨hl, h⟩ := bif_some h
          obtain ⟨c, hc, h⟩ := rsCs_ex h
          obtain ⟨ob', h1, h2⟩ := ih h
          refine ⟨ob', fun kk hkk => ?_, fun sl0' sl' R K => ?_⟩
          · have hne : kk ≠ k := fun e => hkk _ (List.mem_cons_self ..) (by subst e; simp [keysN, keysC])
            rw [h1 kk fun q hq => hkk q (List.mem_cons_of_mem _ hq)]
            exact getD_set_ob_other _ _ hne
          · unfold rsA
            simp only
            rw [hty]
            simp only
            unfold rsB
            simp only
            rw [hb]
            simp only
            rw [hl]
            simp only [cond_true]
            rw [rsCs_at hc]
            exact h2 _ _ _ _
        · cases h
      · rename_i hty
        obtain ⟨ob', h1, h2⟩ := ih h
        refine ⟨ob', fun kk hkk => h1 kk fun q hq => hkk q (List.mem_cons_of_mem _ hq), fun sl0' sl' R K => ?_⟩
        have key : rsA T ⟨sl0', ob0⟩ ⟨sl', ob⟩ ((.ptr k none 0 0, t) :: az) K = (match T.ty t with | .p ss => rsB ⟨sl0', ob0⟩ ⟨sl', ob⟩ k ss fun σ => rsA T ⟨sl0', ob0⟩ σ az K | _ => rsA T ⟨sl0', ob0⟩ ⟨sl', ob⟩ az K) := rfl
        rw [key]
        split
        · rename_i ss e; exact absurd e (hty ss)
        · exact h2 _ _ _ _
    · rename_i q az' hn e
      cases e
      obtain ⟨ob', h1, h2⟩ := ih h
      refine ⟨ob', fun kk hkk => h1 kk fun q hq => hkk q (List.mem_cons_of_mem _ hq), fun sl0' sl' R K => ?_⟩
      unfold rsA
      split
      · rename_i e; cases e
      · rename_i k t az'' e
        cases e
        exact (hn _ _ rfl).elim
      · rename_i e; cases e; exact h2 _ _ _ _

theorem frzK_notin {s : List (Nat × Option Nat)} {k : Nat} (h : ∀ q ∈ s, q.1 ≠ k) : ∀ o, frzK s k o = o := by
  induction s with
  | nil => exact fun o => rfl
  | cons q s ih =>
    intro o
    obtain ⟨k', c⟩ := q
    have h1 := h (k', c) (List.mem_cons_self ..)
    unfold frzK
    rw [if_neg h1]
    exact ih (fun q hq => h q (List.mem_cons_of_mem _ hq)) o
theorem sealC_keys {lk : Nat → Ob} {v x : V} {s : List (Nat × Option Nat)} (h : sealC lk v (fun x s => some (x, s)) = some (x, s)) : ∀ q ∈ s, q.1 ∈ keysC v := by
  unfold sealC at h
  split at h
  · split at h
    · simp only [Option.some.injEq, Prod.mk.injEq] at h
      rw [← h.2]
      intro q hq
      simp only [List.mem_singleton] at hq
      subst hq
      simp [keysC]
    · cases h
  all_goals first
    | (simp only [Option.some.injEq, Prod.mk.injEq] at h; rw [← h.2]; intro q hq; cases hq; done)
    | (cases h; done)
theorem sealCs_keys {lk : Nat → Ob} : ∀ {vs xs : List V} {s : List (Nat × Option Nat)}, sealCs lk vs (fun x s => some (x, s)) = some (xs, s) → ∀ q ∈ s, q.1 ∈ vs.flatMap keysC
  | [], xs, s, h => by
    simp only [sealCs, Option.some.injEq, Prod.mk.injEq] at h
    rw [← h.2]; intro q hq; cases hq
  | v :: vs, xs, s, h => by
    unfold sealCs at h
    have e := sealC_bind (lk := lk) (v := v) (K := fun x s => some (x, s)) (g := fun p : V × List (Nat × Option Nat) => sealCs lk vs fun vs' s' => some (p.1 :: vs', p.2 ++ s'))
    simp only [Option.bind_some] at e
    rw [h] at e
    obtain ⟨⟨x1, s1⟩, h1, h2⟩ := Option.bind_eq_some_iff.1 e
    have e2 := sealCs_bind (lk := lk) (vs := vs) (K := fun x s => some (x, s)) (g := fun p : List V × List (Nat × Option Nat) => some (x1 :: p.1, s1 ++ p.2))
    simp only [Option.bind_some] at e2
    rw [h2] at e2
    obtain ⟨⟨x2, s2⟩, h3, h4⟩ := Option.bind_eq_some_iff.1 e2
    simp only [Option.some.injEq, Prod.mk.injEq] at h4
    rw [← h4.2]
    intro q hq
    rw [List.flatMap_cons]
    rcases List.mem_append.1 hq with hq | hq
    · exact List.mem_append_left _ (sealC_keys h1 q hq)
    · exact List.mem_append_right _ (sealCs_keys h3 q hq)
theorem keysN_c {v : V} (hs : ∀ cs, v ≠ .st cs) (ht : ∀ cs, v ≠ .tup cs) : keysN v = keysC v := by
  cases v <;> first | rfl | exact absurd rfl (hs _) | exact absurd rfl (ht _)
theorem sealV_keys {lk : Nat → Ob} {v x : V} {s : List (Nat × Option Nat)} (h : sealV lk v (fun x s => some (x, s)) = some (x, s)) : ∀ q ∈ s, q.1 ∈ keysN v := by
  rcases v_cases v with ⟨cs, rfl⟩ | ⟨cs, rfl⟩ | ⟨h1, h2⟩
  · unfold sealV at h
    simp only at h
    have e := sealCs_bind (lk := lk) (vs := cs) (K := fun x s => some (x, s)) (g := fun p : List V × List (Nat × Option Nat) => some (V.st p.1, p.2))
    simp only [Option.bind_some] at e
    rw [h] at e
    obtain ⟨⟨x1, s1⟩, h1, h2⟩ := Option.bind_eq_some_iff.1 e
    simp only [Option.some.injEq, Prod.mk.injEq] at h2
    rw [← h2.2]
    exact sealCs_keys h1
  · cases h
  · rw [keysN_c h1 h2]
    by_cases hd : ∃ y, v = .dt y
    · obtain ⟨y, rfl⟩ := hd
      simp only [sealV, Option.some.injEq, Prod.mk.injEq] at h
      rw [← h.2]; intro q hq; cases hq
    · have : sealV lk v (fun x s => some (x, s)) = sealC lk v (fun x s => some (x, s)) := by
        cases v <;> first | rfl | exact absurd rfl (h1 _) | exact absurd ⟨_, rfl⟩ hd
      rw [this] at h
      exact sealC_keys h
theorem ioSeal_keys {lk : Nat → Ob} : ∀ {vs az : List V} {s : List (Nat × Option Nat)}, ioSeal lk vs (fun x s => some (x, s)) = some (az, s) → ∀ q ∈ s, q.1 ∈ vs.flatMap keysN
  | [], az, s, h => by
    simp only [ioSeal, Option.some.injEq, Prod.mk.injEq] at h
    rw [← h.2]; intro q hq; cases hq
  | v :: vs, az, s, h => by
    by_cases hp : ∃ k, v = .ptr k none 0 0
    · obtain ⟨k, rfl⟩ := hp
      have h : ioSeal lk vs (fun vs s => some (V.ptr k none 0 0 :: vs, s)) = some (az, s) := h
      have e := ioSeal_bind (lk := lk) (vs := vs) (K := fun x s => some (x, s)) (g := fun p : List V × List (Nat × Option Nat) => some (V.ptr k none 0 0 :: p.1, p.2))
      simp only [Option.bind_some] at e
      rw [h] at e
      obtain ⟨⟨x1, s1⟩, h1, h2⟩ := Option.bind_eq_some_iff.1 e
      simp only [Option.some.injEq, Prod.mk.injEq] at h2
      rw [← h2.2]
      intro q hq
      rw [List.flatMap_cons]
      exact List.mem_append_right _ (ioSeal_keys h1 q hq)
    · have hu : ioSeal lk (v :: vs) (fun x s => some (x, s)) = sealV lk v fun v s => ioSeal lk vs fun vs s' => some (V.dt v :: vs, s ++ s') := by
        conv => lhs; unfold ioSeal
        split
        · rename_i e; cases e
        · rename_i k vs' e; cases e; exact absurd ⟨k, rfl⟩ hp
        · rename_i e; cases e; rfl
      rw [hu] at h
      have e := sealV_bind (lk := lk) (v := v) (K := fun x s => some (x, s)) (g := fun p : V × List (Nat × Option Nat) => ioSeal lk vs fun vs' s' => some (V.dt p.1 :: vs', p.2 ++ s'))
      simp only [Option.bind_some] at e
      rw [h] at e
      obtain ⟨⟨x1, s1⟩, h1, h2⟩ := Option.bind_eq_some_iff.1 e
      have e2 := ioSeal_bind (lk := lk) (vs := vs) (K := fun x s => some (x, s)) (g := fun p : List V × List (Nat × Option Nat) => some (V.dt x1 :: p.1, s1 ++ p.2))
      simp only [Option.bind_some] at e2
      rw [h2] at e2
      obtain ⟨⟨x2, s2⟩, h3, h4⟩ := Option.bind_eq_some_iff.1 e2
      simp only [Option.some.injEq, Prod.mk.injEq] at h4
      rw [← h4.2]
      intro q hq
      rw [List.flatMap_cons]
      rcases List.mem_append.1 hq with hq | hq
      · exact List.mem_append_left _ (sealV_keys h1 q hq)
      · exact List.mem_append_right _ (ioSeal_keys h3 q hq)
theorem ioFill_keys {ob : List Ob} {as : List V} {vs : List V} {l : List Nat} (h : ioFill ob as (fun vs q => some (vs, q)) = some (vs, l)) : ∀ k ∈ l, ∃ x ∈ as, x = .ptr k none 0 0 := by
  induction as generalizing vs l with
  | nil =>
    simp only [ioFill, Option.some.injEq, Prod.mk.injEq] at h
    rw [← h.2]; intro k hk; cases hk
  | cons v as ih =>
    by_cases hp : ∃ k, v = .ptr k none 0 0
    · obtain ⟨k, rfl⟩ := hp
      have h : (match ob.getD k .none with | .box true cs => ioFill ob as fun vs q => some (V.io (cs.map unO) :: vs, k :: q) | _ => none) = some (vs, l) := h
      split at h
      · rename_i cs hb
        have e := ioFill_bind (ob := ob) (vs := as) (K := fun x s => some (x, s)) (g := fun p : List V × List Nat => some (V.io (cs.map unO) :: p.1, k :: p.2))
        simp only [Option.bind_some] at e
        rw [h] at e
        obtain ⟨⟨x1, s1⟩, h1, h2⟩ := Option.bind_eq_some_iff.1 e
        simp only [Option.some.injEq, Prod.mk.injEq] at h2
        rw [← h2.2]
        intro q hq
        rcases List.mem_cons.1 hq with rfl | hq
        · exact ⟨_, List.mem_cons_self .., rfl⟩
        · obtain ⟨x, hx, e⟩ := ih h1 q hq
          exact ⟨x, List.mem_cons_of_mem _ hx, e⟩
      · cases h
    · obtain ⟨v, hu⟩ : ∃ v', ioFill ob as (fun vs q => some (v' :: vs, q)) = some (vs, l) := by
        unfold ioFill at h
        split at h
        · rename_i e; cases e
        · rename_i k vs' e; cases e; exact absurd ⟨k, rfl⟩ hp
        · rename_i e; cases e; exact ⟨_, h⟩
        · cases h
      replace h := hu
      have e := ioFill_bind (ob := ob) (vs := as) (K := fun x s => some (x, s)) (g := fun p : List V × List Nat => some (v :: p.1, p.2))
      simp only [Option.bind_some] at e
      rw [h] at e
      obtain ⟨⟨x1, s1⟩, h1, h2⟩ := Option.bind_eq_some_iff.1 e
      simp only [Option.some.injEq, Prod.mk.injEq] at h2
      rw [← h2.2]
      intro q hq
      obtain ⟨x, hx, e⟩ := ih h1 q hq
      exact ⟨x, List.mem_cons_of_mem _ hx, e⟩
/-- a pointer that stays is one of those that were handed over -/
theorem ioSeal_ptr {lk : Nat → Ob} : ∀ {vs az : List V} {s : List (Nat × Option Nat)}, (∀ v ∈ vs, noDt v = true) → ioSeal lk vs (fun x s => some (x, s)) = some (az, s) → ∀ k, (V.ptr k none 0 0) ∈ az → k ∈ vs.flatMap keysN
  | [], az, s, _, h, k, hk => by
    simp only [ioSeal, Option.some.injEq, Prod.mk.injEq] at h
    rw [← h.1] at hk; cases hk
  | v :: vs, az, s, hnd, h, k, hk => by
    have hnd' : ∀ v ∈ vs, noDt v = true := fun u hu => hnd u (List.mem_cons_of_mem _ hu)
    rw [List.flatMap_cons]
    by_cases hp : ∃ k, v = .ptr k none 0 0
    · obtain ⟨k0, rfl⟩ := hp
      have h : ioSeal lk vs (fun vs s => some (V.ptr k0 none 0 0 :: vs, s)) = some (az, s) := h
      have e := ioSeal_bind (lk := lk) (vs := vs) (K := fun x s => some (x, s)) (g := fun p : List V × List (Nat × Option Nat) => some (V.ptr k0 none 0 0 :: p.1, p.2))
      simp only [Option.bind_some] at e
      rw [h] at e
      obtain ⟨⟨x1, s1⟩, h1, h2⟩ := Option.bind_eq_some_iff.1 e
      simp only [Option.some.injEq, Prod.mk.injEq] at h2
      rw [← h2.1] at hk
      rcases List.mem_cons.1 hk with e | hk
      · cases e; exact List.mem_append_left _ (by simp [keysN, keysC])
      · exact List.mem_append_right _ (ioSeal_ptr hnd' h1 k hk)
    · have hu : ioSeal lk (v :: vs) (fun x s => some (x, s)) = sealV lk v fun v s => ioSeal lk vs fun vs s' => some (V.dt v :: vs, s ++ s') := by
        conv => lhs; unfold ioSeal
        split
        · rename_i e; cases e
        · rename_i k vs' e; cases e; exact absurd ⟨k, rfl⟩ hp
        · rename_i e; cases e; rfl
      rw [hu] at h
      have e := sealV_bind (lk := lk) (v := v) (K := fun x s => some (x, s)) (g := fun p : V × List (Nat × Option Nat) => ioSeal lk vs fun vs' s' => some (V.dt p.1 :: vs', p.2 ++ s'))
      simp only [Option.bind_some] at e
      rw [h] at e
      obtain ⟨⟨x1, s1⟩, h1, h2⟩ := Option.bind_eq_some_iff.1 e
      have e2 := ioSeal_bind (lk := lk) (vs := vs) (K := fun x s => some (x, s)) (g := fun p : List V × List (Nat × Option Nat) => some (V.dt x1 :: p.1, s1 ++ p.2))
      simp only [Option.bind_some] at e2
      rw [h2] at e2
      obtain ⟨⟨x2, s2⟩, h3, h4⟩ := Option.bind_eq_some_iff.1 e2
      simp only [Option.some.injEq, Prod.mk.injEq] at h4
      rw [← h4.1] at hk
      rcases List.mem_cons.1 hk with e | hk
      · cases e
      · exact List.mem_append_right _ (ioSeal_ptr hnd' h3 k hk)
end

section
variable {R : Type}
theorem ioSeal_some {lk : Nat → Ob} {vs : List V} {K : List V → List (Nat × Option Nat) → Option R} {r : R} (h : ioSeal lk vs K = some r) : ∃ az s, ioSeal lk vs (fun x s => some (x, s)) = some (az, s) ∧ K az s = some r := by
  have e := ioSeal_bind (lk := lk) (vs := vs) (K := fun x s => some (x, s)) (g := fun p : List V × List (Nat × Option Nat) => K p.1 p.2)
  simp only [Option.bind_some] at e
  rw [h] at e
  obtain ⟨⟨x1, s1⟩, h1, h2⟩ := Option.bind_eq_some_iff.1 e
  exact ⟨x1, s1, h1, h2⟩
theorem ioSeal_at {lk : Nat → Ob} {vs az : List V} {s : List (Nat × Option Nat)} (h : ioSeal lk vs (fun x s => some (x, s)) = some (az, s)) {K : List V → List (Nat × Option Nat) → Option R} : ioSeal lk vs K = K az s := by
  have e := ioSeal_bind (lk := lk) (vs := vs) (K := fun x s => some (x, s)) (g := fun p : List V × List (Nat × Option Nat) => K p.1 p.2)
  rw [h] at e
  exact e.symm
theorem ioFill_some {ob : List Ob} {vs : List V} {K : List V → List Nat → Option R} {r : R} (h : ioFill ob vs K = some r) : ∃ az s, ioFill ob vs (fun x s => some (x, s)) = some (az, s) ∧ K az s = some r := by
  have e := ioFill_bind (ob := ob) (vs := vs) (K := fun x s => some (x, s)) (g := fun p : List V × List Nat => K p.1 p.2)
  simp only [Option.bind_some] at e
  rw [h] at e
  obtain ⟨⟨x1, s1⟩, h1, h2⟩ := Option.bind_eq_some_iff.1 e
  exact ⟨x1, s1, h1, h2⟩
theorem ioFill_at {ob : List Ob} {vs az : List V} {s : List Nat} (h : ioFill ob vs (fun x s => some (x, s)) = some (az, s)) {K : List V → List Nat → Option R} : ioFill ob vs K = K az s := by
  have e := ioFill_bind (ob := ob) (vs := vs) (K := fun x s => some (x, s)) (g := fun p : List V × List Nat => K p.1 p.2)
  rw [h] at e
  exact e.symm
theorem ioBack_some {ks : List Nat} {σ : St} {os : List V} {K : St → Option R} {r : R} (h : ioBack σ ks os K = some r) : ∃ σ', ioBack σ ks os some = some σ' ∧ K σ' = some r := by
  have e := ioBack_bind (ks := ks) (σ := σ) (outs := os) (K := some) (g := K)
  simp only [Option.bind_some] at e
  rw [h] at e
  exact Option.bind_eq_some_iff.1 e
theorem unC_at {s : Sh} {v c : V} (h : unC s v some = some c) {K : V → Option R} : unC s v K = K c := by
  have e := unC_bind (s := s) (v := v) (K := some) (g := K)
  rw [h] at e
  exact e.symm
theorem unC_ex {s : Sh} {v : V} {K : V → Option R} {r : R} (h : unC s v K = some r) : ∃ c, unC s v some = some c ∧ K c = some r := by
  have e := unC_bind (s := s) (v := v) (K := some) (g := K)
  simp only [Option.bind_some] at e
  rw [h] at e
  exact Option.bind_eq_some_iff.1 e
theorem unVs_at {ts : List Ty} {j : Nat} {vs c : List V} (h : unVs vs j ts some = some c) {K : List V → Option R} : unVs vs j ts K = K c := by
  have e := unVs_bind (ts := ts) (j := j) (vs := vs) (K := some) (g := K)
  rw [h] at e
  exact e.symm
theorem unVs_ex {ts : List Ty} {j : Nat} {vs : List V} {K : List V → Option R} {r : R} (h : unVs vs j ts K = some r) : ∃ c, unVs vs j ts some = some c ∧ K c = some r := by
  have e := unVs_bind (ts := ts) (j := j) (vs := vs) (K := some) (g := K)
  simp only [Option.bind_some] at e
  rw [h] at e
  exact Option.bind_eq_some_iff.1 e
end
/-- what is put where the call was -/
def finK {R : Type} (y : Ty) (v : V) (d : Nat) (K : St → Option R) (σ : St) : Option R :=
  match y with
  | .c sh => unC sh v fun x => K ⟨σ.sl.set d x, σ.ob⟩
  | .agg ss => unSt ss.length v (K ⟨σ.sl.set d (.dt v), σ.ob⟩)
  | .tup ts => unTup ts.length v fun vs => unVs vs 0 ts fun vs => K ⟨σ.sl.set d (.tup vs), σ.ob⟩
  | .p _ => none
theorem finK_shape {R : Type} {y : Ty} {v : V} {d : Nat} {K : St → Option R} {σ : St} {r : R} (h : finK y v d K σ = some r) : ∃ x, K ⟨σ.sl.set d x, σ.ob⟩ = some r ∧ ∀ (R' : Type) (K' : St → Option R') (σ' : St), finK y v d K' σ' = K' ⟨σ'.sl.set d x, σ'.ob⟩ := by
  cases y with
  | c sh =>
    have h : (unC sh v fun x => K ⟨σ.sl.set d x, σ.ob⟩) = some r := h
    obtain ⟨c, h1, h2⟩ := unC_ex h
    refine ⟨c, h2, fun R' K' σ' => ?_⟩
    show (unC sh v fun x => K' ⟨σ'.sl.set d x, σ'.ob⟩) = _
    exact unC_at h1
  | agg ss =>
    replace h : unSt ss.length v (K ⟨σ.sl.set d (.dt v), σ.ob⟩) = some r := h
    unfold unSt at h
    split at h
    · rename_i cs
      obtain ⟨h1, h2⟩ := bif_some h
      refine ⟨_, h2, fun R' K' σ' => ?_⟩
      show unSt ss.length (.st cs) (K' ⟨σ'.sl.set d (.dt (.st cs)), σ'.ob⟩) = _
      unfold unSt
      simp only
      rw [h1]; rfl
    · cases h
  | p ss => cases h
  | tup ts =>
    replace h : (unTup ts.length v fun vs => unVs vs 0 ts fun vs => K ⟨σ.sl.set d (.tup vs), σ.ob⟩) = some r := h
    unfold unTup at h
    split at h
    · rename_i vs
      obtain ⟨h1, h2⟩ := bif_some h
      obtain ⟨c, h3, h4⟩ := unVs_ex h2
      refine ⟨_, h4, fun R' K' σ' => ?_⟩
      show (unTup ts.length (.tup vs) fun vs => unVs vs 0 ts fun vs => K' ⟨σ'.sl.set d (.tup vs), σ'.ob⟩) = _
      unfold unTup
      simp only
      rw [h1]
      exact unVs_at h3
    · cases h
theorem exLoud_call {T : TT} {call : FuncId → List V → Option Res} {σ : St} {d : Nat} {f : Operand} {args : Array Operand} {ts : Array TypeId} {ty : TypeId} {pos : String} {after : Array Edge} {guard : Option (Nat × Bool)} {R : Type} {K : St → Option R} :
    exLoud T call σ ⟨some d, .call ⟨.value f, args, ts⟩, ty, pos, after, guard⟩ K = match val T σ f with
    | .sc (.func (.func f) fs cv) => bif Nat.beq fs.size 0 && Nat.beq cv.size 0 then ioSeal (lkE σ) (nrmA T ts.toList (args.toList.map (val T σ))) fun az s => ioFill (freeze σ.ob s) az fun vs q => bif nodup q then
        (call f vs).bind fun r => ioBack ⟨σ.sl, freeze σ.ob s⟩ q r.2 (finK (T.ty ty) r.1 d fun σ' => rsA T σ σ' ((args.toList.map (val T σ)).zip ts.toList) K)
        else none
      else none
    | _ => none := rfl
theorem call_operands {f : Operand} {args : Array Operand} {ts : Array TypeId} : f ∈ (Op.call ⟨.value f, args, ts⟩).operands.toList ∧ ∀ x ∈ args.toList, x ∈ (Op.call ⟨.value f, args, ts⟩).operands.toList := by
  constructor
  · simp [Op.operands, Call.operands]
  · intro x hx
    simp only [Op.operands, Call.operands]
    simp [Array.mem_toList_iff.1 hx]
theorem keysC_nrm {s : Sh} {c : V} : keysC (nrmC s c) = keysC c := by
  unfold nrmC
  split <;> rfl
theorem keysN_nrm {T : TT} {t : TypeId} {v : V} : keysN (nrmV T t v) = keysN v := by
  by_cases hs : ∃ cs, v = .st cs
  · obtain ⟨cs, rfl⟩ := hs
    rcases nrmV_st (T := T) (t := t) (cs := cs) with e | ⟨ss, e⟩
    · rw [e]
    · rw [e]
      show (nrmCs ss cs).flatMap keysC = cs.flatMap keysC
      clear e
      induction ss generalizing cs with
      | nil => rfl
      | cons s ss ih =>
        cases cs with
        | nil => rfl
        | cons c cs => unfold nrmCs; rw [List.flatMap_cons, List.flatMap_cons, keysC_nrm, ih]
  · rw [nrmV_el fun cs e => hs ⟨cs, e⟩]
theorem nrmA_keys {T : TT} : ∀ (ts : List TypeId) (vs : List V), (nrmA T ts vs).flatMap keysN = vs.flatMap keysN
  | [], _ => rfl
  | _ :: _, [] => rfl
  | t :: ts, v :: vs => by unfold nrmA; rw [List.flatMap_cons, List.flatMap_cons, keysN_nrm, nrmA_keys ts vs]
theorem nrmV_dt {T : TT} {t : TypeId} {v : V} : noDt (nrmV T t v) = noDt v := by
  by_cases hs : ∃ cs, v = .st cs
  · obtain ⟨cs, rfl⟩ := hs
    rcases nrmV_st (T := T) (t := t) (cs := cs) with e | ⟨ss, e⟩ <;> rw [e] <;> rfl
  · rw [nrmV_el fun cs e => hs ⟨cs, e⟩]
theorem nrmA_dt {T : TT} {ts : List TypeId} {vs : List V} (h : ∀ v ∈ vs, noDt v = true) : ∀ v ∈ nrmA T ts vs, noDt v = true := fun v hv => by
  obtain ⟨i, hi, rfl⟩ := List.getElem_of_mem hv
  obtain ⟨v0, hv0, e0⟩ := nrmA_get _ _ i (List.getElem?_eq_getElem hi)
  have h0 := h v0 (List.mem_of_getElem? hv0)
  rcases e0 with e0 | ⟨t, e0⟩
  · rw [e0]; exact h0
  · rw [e0, nrmV_dt]; exact h0
theorem io_shape {T : TT} {call : FuncId → List V → Option Res} {σ σ2 : St} {o : Oper} (hio : isIo o = true) (hnd : ∀ x ∈ o.op.operands.toList, noDt (val T σ x) = true) (h : exLoud T call σ o some = some σ2) :
    ∃ (d : Nat) (g : V → V) (x : V) (ob' : List Ob), o.dst = some d ∧ (∀ v, triv (opKeys T σ o) v = true → g v = v) ∧ g .dead = .dead ∧ (∀ k, k ∉ opKeys T σ o → ob'.getD k .none = σ.ob.getD k .none) ∧
      ∀ (sl' : List V), (∀ y ∈ o.op.operands.toList, val T ⟨sl', σ.ob⟩ y = val T σ y) → ∀ (R : Type) (K : St → Option R), exLoud T call ⟨sl', σ.ob⟩ o K = K ⟨(sl'.map g).set d x, ob'⟩ := by
  obtain ⟨dst, op, ty, pos, after, guard⟩ := o
  cases op <;> first | (cases hio; done) | skip
  rename_i c
  obtain ⟨callee, args, ts⟩ := c
  cases callee <;> first | (cases hio; done) | skip
  rename_i f
  cases dst with
  | none => cases hio
  | some d =>
  rw [exLoud_call] at h
  obtain ⟨mf, ma⟩ := call_operands (f := f) (args := args) (ts := ts)
  split at h
  · rename_i q fs cv hf
    obtain ⟨h0, h⟩ := bif_some h
    obtain ⟨az, s, h1, h⟩ := ioSeal_some h
    obtain ⟨vs, l, h2, h⟩ := ioFill_some h
    obtain ⟨h3, h⟩ := bif_some h
    obtain ⟨r, h4, h⟩ := Option.bind_eq_some_iff.1 h
    obtain ⟨σ3, h5, h⟩ := ioBack_some h
    obtain ⟨g, ob3, g1, g2, g3, g4⟩ := ioBack_shape h5
    obtain ⟨x, h, h6⟩ := finK_shape h
    have e3 := g4 σ.sl _ some
    rw [h5] at e3
    cases e3
    obtain ⟨ob', h7, h8⟩ := rsA_shape (sl0 := σ.sl) (ob0 := σ.ob) h
    have hkeys : ∀ k, k ∈ (args.toList.map (val T σ)).flatMap keysN → k ∈ opKeys T σ ⟨some d, .call ⟨.value f, args, ts⟩, ty, pos, after, guard⟩ := fun k hk => by
      obtain ⟨v, hv, hk⟩ := List.mem_flatMap.1 hk
      obtain ⟨y, hy, rfl⟩ := List.mem_map.1 hv
      exact List.mem_flatMap.2 ⟨y, ma y hy, hk⟩
    have hl : ∀ k ∈ l, k ∈ opKeys T σ ⟨some d, .call ⟨.value f, args, ts⟩, ty, pos, after, guard⟩ := fun k hk => by
      obtain ⟨y, hy, e⟩ := ioFill_keys h2 k hk
      subst e
      exact hkeys k (by rw [← nrmA_keys ts.toList]; exact ioSeal_ptr (nrmA_dt fun v hv => by obtain ⟨y, hy, rfl⟩ := List.mem_map.1 hv; exact hnd y (ma y hy)) h1 k hy)
    refine ⟨d, g, x, ob', rfl, fun v hv => g1 v (triv_sub hl hv), g2, fun k hk => ?_, fun sl' hsl R K => ?_⟩
    · rw [h7 k (fun p hp hkp => hk (hkeys k (List.mem_flatMap.2 ⟨p.1, (List.of_mem_zip hp).1, hkp⟩)))]
      show ob3.getD k .none = _
      rw [g3 k (fun hkl => hk (hl k hkl)), getD_freeze, frzK_notin fun q hq e => hk (hkeys k (by rw [← e, ← nrmA_keys ts.toList]; exact ioSeal_keys h1 q hq))]
    · rw [exLoud_call, hsl f mf, hf]
      simp only
      rw [h0]
      simp only [cond_true]
      have ea : args.toList.map (val T ⟨sl', σ.ob⟩) = args.toList.map (val T σ) := List.map_congr_left fun y hy => hsl y (ma y hy)
      rw [ea, show lkE ⟨sl', σ.ob⟩ = lkE σ from rfl, ioSeal_at h1, ioFill_at h2, h3]
      simp only [cond_true]
      rw [h4, Option.bind_some, g4, h6]
      exact h8 _ _ _ _
  · cases h
end Go.Proofs.YtaapkkeogajfpaaDoor.VM
