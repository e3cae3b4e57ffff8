/- The abstract machine and the memory: operators, cuts, literals. -/
import Derived.Test.YtmddfhjgdhjmkaaDoorVMS4
import Derived.Laws.BytesArg
import Derived.Great.BuildSlice
set_option linter.unusedVariables false
set_option linter.unusedSimpArgs false
namespace Go.Proofs.YtmddfhjgdhjmkaaDoor.VM
open Go.RowKit

section
variable {P : Program} {T : TT} {U : Nat → Prop} {w0 w : World} {F0 : Fr} {σ : St} {a : Act} {ow : Own} {R : Type} {r : R}
variable {o : Oper} {d : Nat} {K : V → Ob → List (Nat × Option Nat) → Option R}

theorem aInt_ok {op : BinOp} {k : IntKind} {x y : Int} {K : Value → Option R} (h : aInt op k x y K = some r) : ∃ u, K u = some r ∧ u.oneCell' = true ∧ ∀ t, (binOp op t (.int k x) (.int k y)).run P w = .ok u w := by
  cases op <;> simp only [aInt] at h
  all_goals first
    | (cases h; done)
    | exact ⟨_, h, rfl, fun t => by simp [binOp, Op.intArith, Op.intBits, Op.intCmp]⟩
    | (obtain ⟨h0, h⟩ := chk_some h
       simp at h0
       exact ⟨_, h, rfl, fun t => by simp [binOp, Op.intDiv, h0]⟩)
    | (refine ⟨_, h, rfl, fun t => ?_⟩
       simp [binOp, Op.intArith, Op.intBits, Op.intCmp, bne])

theorem aStr_ok {op : BinOp} {x y : ByteArray} {K : Value → Option R} (h : aStr op x y K = some r) : ∃ u, K u = some r ∧ u.oneCell' = true ∧ ∀ t, (binOp op t (.string x) (.string y)).run P w = .ok u w := by
  cases op <;> simp only [aStr] at h
  all_goals first
    | (cases h; done)
    | exact ⟨_, h, rfl, fun t => by simp [binOp, Op.stringOp]⟩
    | (obtain ⟨h0, h⟩ := chk_some h
       simp only [decide_eq_true_eq] at h0
       refine ⟨_, h, rfl, fun t => ?_⟩
       have : ¬ (IntKind.i64.max < ((x.size + y.size : Nat) : Int)) := by
         have : IntKind.i64.max = 9223372036854775807 := by decide
         omega
       simp only [binOp, Op.stringOp, gt_iff_lt, if_neg this, Sem.run_pure])

theorem guard_plain {op : BinOp} {t : TypeId} {x y : Operand} {u v : Value} (h1 : u ≠ .nilIface) (h2 : ∀ xs, u ≠ .agg xs) : (eqGuard op t x y u v).run P w = .ok () w := by
  unfold eqGuard
  cases op <;> simp <;> (split <;> first | exact absurd rfl h1 | exact absurd rfl (h2 _) | simp_all)

theorem equal_bool (hT : TOk P T) {t : TypeId} (ht : T.ty t = .c .b) (x y : Bool) : (Op.equal t (.bool x) (.bool y)).run P w = .ok (x == y) w := by
  obtain ⟨dd, i, h1, _, _, _, h2⟩ := hT.tyc t _ ht
  have h2 : dd = .bool := h2
  subst h2
  show (Op.equalIn _ t (.bool x) (.bool y)).run P w = _
  unfold Op.maxDepth Op.equalIn
  simp [run_underlying h1]

theorem aBin_ok (hT : TOk P T) (h : Sim T.globL U w0 F0 σ a w ow) {op : BinOp} {t t' : TypeId} {x y : Operand} (ho : o.op = .binOp op t x y t')
    (hk : aBin (T.ty t) op (val T σ x) (val T σ y) (fun u => K (.sc u) .none []) = some r) : Good P T U w0 F0 σ a w o d K r := by
  have fin : ∀ u u1 u2, K (.sc u) .none [] = some r → u.oneCell' = true → a.eval x = u1 → a.eval y = u2 → (u1 ≠ .nilIface ∧ ∀ xs, u1 ≠ .agg xs) → (binOp op t u1 u2).run P w = .ok u w → Good P T U w0 F0 σ a w o d K r :=
    fun u u1 u2 hK h1 e1 e2 hg hr => ⟨_, .none, [], hK, fun _ => done_plain h (exec_binOp ho ⟨by rw [e1, e2]; exact guard_plain hg.1 hg.2, by rw [e1, e2]; exact hr⟩) (FR.sc h1 : FR w (Fz U w ow σ.ob) [u] (.sc u))⟩
  unfold aBin at hk
  split at hk
  · rename_i k n k' m hx hy
    obtain ⟨hx', _⟩ := val_sc h hx
    obtain ⟨hy', _⟩ := val_sc h hy
    split at hk
    · obtain ⟨h0, hk⟩ := chk_some hk
      simp at h0
      exact fin _ _ _ hk rfl hx' hy' (by simp) (by simp [binOp, Op.shift, show ¬ m < 0 by omega])
    · obtain ⟨h0, hk⟩ := chk_some hk
      simp at h0
      exact fin _ _ _ hk rfl hx' hy' (by simp) (by simp [binOp, Op.shift, show ¬ m < 0 by omega])
    · obtain ⟨h0, hk2⟩ := bif_some hk
      simp at h0
      subst h0
      obtain ⟨u, hK, h1, hr⟩ := aInt_ok (P := P) (w := w) hk2
      exact fin _ _ _ hK h1 hx' hy' (by simp) (hr t)
  · rename_i n m hx hy
    obtain ⟨hx', _⟩ := val_sc h hx
    obtain ⟨hy', _⟩ := val_sc h hy
    obtain ⟨u, hK, h1, hr⟩ := aStr_ok (P := P) (w := w) hk
    exact fin _ _ _ hK h1 hx' hy' (by simp) (hr t)
  · rename_i n m hx hy
    obtain ⟨hx', _⟩ := val_sc h hx
    obtain ⟨hy', _⟩ := val_sc h hy
    obtain ⟨h0, hk2⟩ := bif_some hk
    have ht : T.ty t = .c .b := by
      unfold isBoolTy at h0
      split at h0
      · assumption
      · cases h0
    have he := equal_bool (w := w) hT ht n m
    split at hk2
    · exact fin _ _ _ hk2 rfl hx' hy' (by simp) (by simp [binOp, he])
    · exact fin _ _ _ hk2 rfl hx' hy' (by simp) (by simp [binOp, he])
    · cases hk2
  · cases hk

theorem aUn_ok (h : Sim T.globL U w0 F0 σ a w ow) {op : UnOp} {t : TypeId} {x : Operand} (ho : o.op = .unOp op t x)
    (hk : aUn op (val T σ x) (fun u => K (.sc u) .none []) = some r) : Good P T U w0 F0 σ a w o d K r := by
  have fin : ∀ u u1, K (.sc u) .none [] = some r → u.oneCell' = true → a.eval x = u1 → (Op.unary op u1).run P w = .ok u w → Good P T U w0 F0 σ a w o d K r :=
    fun u u1 hK h1 e1 hr => ⟨_, .none, [], hK, fun _ => done_plain h (exec_unOp ho (by rw [e1]; exact hr)) (FR.sc h1 : FR w (Fz U w ow σ.ob) [u] (.sc u))⟩
  unfold aUn at hk
  split at hk
  · rename_i k n hx
    exact fin _ _ hk rfl (val_sc h hx).1 (by simp [Op.unary, Op.intArith])
  · rename_i k n hx
    exact fin _ _ hk rfl (val_sc h hx).1 (by simp [Op.unary, Op.intBits])
  · rename_i b hx
    exact fin _ _ hk rfl (val_sc h hx).1 (by simp [Op.unary])
  · cases hk

/-! ### cuts -/
theorem bound_ok {k : IntKind} {i : Int} {y : Nat} {code : BoundsCode} (h0 : 0 ≤ i) (h1 : i ≤ y) : (Instr.sliceBound (.int k i) y code).run P w = .ok i.toNat w := by simp [Instr.sliceBound, asIntOf, h0, h1]

theorem FR.cut {A : Nat → Prop} {b : Option Addr} {n c z : Nat} {xs : List V} (h : FR w A [.slice b n c] (.sl z xs)) {l hh : Nat} (h1 : l ≤ hh) (h2 : hh ≤ n) {b' : Option Addr} (hb : l < c → b' = b.map (·.add (l * z))) :
    FR w A [.slice b' (hh - l) (c - l)] (.sl z ((xs.take hh).drop l)) := by
  cases h with
  | sl bb o ec hn hc ha hl hx =>
    refine .sl bb (o + l * z) (fun i => ec (l + i)) (by simp; omega) (by omega) (fun h0 => ?_) (fun i hi => ?_) (fun i x hx' => ?_)
    · obtain ⟨rfl, hA⟩ := ha (by omega)
      exact ⟨by rw [hb (by omega)]; simp [add_addr], hA⟩
    · have := hl (l + i) (by omega)
      refine ⟨this.1, ?_⟩
      rw [Nat.add_assoc, ← Nat.add_mul]; exact this.2
    · rw [List.getElem?_drop, List.getElem?_take] at hx'
      split at hx'
      · exact hx _ _ hx'
      · cases hx'

theorem FR.len {A : Nat → Prop} {u : Value} {z : Nat} {xs : List V} (h : FR w A [u] (.sl z xs)) : ∃ b c, u = .slice b xs.length c ∧ xs.length ≤ c := by
  cases h with
  | sl bb o ec hn hc => exact ⟨_, _, by rw [hn], by omega⟩

theorem run_cut (hT : TOk P T) {t e : TypeId} {z : Nat} (ht : T.el t = some (e, z)) (b : Option Addr) (n c : Nat) (lo hi mx : Option Value) (l h m : Nat)
    (hb : (Instr.sliceBounds true n c lo hi mx).run P w = .ok (l, h, m) w) :
    (Instr.sliceAt t (.slice b n c) lo hi mx).run P w = .ok (.slice (if m = l then b else b.map (·.add (l * z))) (h - l) (m - l)) w := by
  obtain ⟨i, h1, h2, h3, h4⟩ := hT.el t e z ht
  simp [Instr.sliceAt, Instr.slice, run_underlying h1, hb, sizeOf, typeInfo, h2, h3]
theorem run_cutS (hT : TOk P T) {t : TypeId} (ht : T.ty t = .c .tx) (s : ByteArray) (lo hi : Option Value) (l h m : Nat)
    (hb : (Instr.sliceBounds false s.size s.size lo hi none).run P w = .ok (l, h, m) w) :
    (Instr.sliceAt t (.string s) lo hi none).run P w = .ok (.string (s.extract l h)) w := by
  obtain ⟨dd, i, h1, _, _, _, h2⟩ := hT.tyc t _ ht
  have h2 : dd = .string := h2
  subst h2
  simp [Instr.sliceAt, Instr.slice, run_underlying h1, hb]

theorem bounds_h {s : Bool} {k : IntKind} {h : Int} {n c : Nat} (h0 : 0 ≤ h) (h1 : h ≤ c) : (Instr.sliceBounds s n c none (some (.int k h)) none).run P w = .ok (0, h.toNat, c) w := by
  simp [Instr.sliceBounds, bound_ok h0 h1]
theorem bounds_l {s : Bool} {k : IntKind} {l : Int} {n c : Nat} (h0 : 0 ≤ l) (h1 : l ≤ n) : (Instr.sliceBounds s n c (some (.int k l)) none none).run P w = .ok (l.toNat, n, c) w := by
  simp [Instr.sliceBounds, bound_ok h0 h1]
theorem bounds_lh {s : Bool} {k k' : IntKind} {l h : Int} {n c : Nat} (h0 : 0 ≤ l) (h1 : l ≤ h) (h2 : h ≤ c) : (Instr.sliceBounds s n c (some (.int k l)) (some (.int k' h)) none).run P w = .ok (l.toNat, h.toNat, c) w := by
  have e1 : (Instr.sliceBound (.int k' h) c (if s then .sliceAcap else .sliceAlen)).run P w = .ok h.toNat w := bound_ok (by omega) h2
  have e2 : (Instr.sliceBound (.int k l) h.toNat .sliceB).run P w = .ok l.toNat w := bound_ok h0 (by omega)
  simp [Instr.sliceBounds, e1, e2]
theorem bounds_hm {s : Bool} {k k' : IntKind} {h m : Int} {n c : Nat} (h0 : 0 ≤ h) (h1 : h ≤ m) (h2 : m ≤ c) : (Instr.sliceBounds s n c none (some (.int k h)) (some (.int k' m))).run P w = .ok (0, h.toNat, m.toNat) w := by
  have e1 : (Instr.sliceBound (.int k' m) c (if s then .slice3Acap else .slice3Alen)).run P w = .ok m.toNat w := bound_ok (by omega) h2
  have e2 : (Instr.sliceBound (.int k h) m.toNat .slice3B).run P w = .ok h.toNat w := bound_ok h0 (by omega)
  simp [Instr.sliceBounds, e1, e2]

theorem sliceOk_some {t : TypeId} {x : V} : (∃ s, sliceOk T t x = .sc (.string s) ∧ x = .sc (.string s) ∧ T.ty t = .c .tx) ∨ (∃ z xs e, sliceOk T t x = .sl z xs ∧ x = .sl z xs ∧ T.el t = some (e, z)) ∨
    (∃ k c m e z, sliceOk T t x = .ref k c m ∧ x = .ref k c m ∧ T.el t = some (e, z)) ∨ (∃ e z, sliceOk T t x = .nil ∧ x = .nil ∧ T.el t = some (e, z)) ∨ sliceOk T t x = .dead := by
  unfold sliceOk
  split
  · by_cases h : isStrTy (T.ty t) = true
    · rw [h]
      refine .inl ⟨_, rfl, rfl, ?_⟩
      unfold isStrTy at h
      split at h
      · assumption
      · cases h
    · rw [Bool.eq_false_iff.2 h]; exact .inr (.inr (.inr (.inr rfl)))
  · split
    · rename_i z xs _ e z' he
      by_cases h : Nat.beq z z' = true
      · rw [h]
        have := beq_nat.1 h
        subst this
        exact .inr (.inl ⟨_, _, e, rfl, rfl, he⟩)
      · rw [Bool.eq_false_iff.2 h]; exact .inr (.inr (.inr (.inr rfl)))
    · exact .inr (.inr (.inr (.inr rfl)))
  · split
    · rename_i q he
      exact .inr (.inr (.inl ⟨_, _, _, q.1, q.2, rfl, rfl, he⟩))
    · exact .inr (.inr (.inr (.inr rfl)))
  · split
    · rename_i q he
      exact .inr (.inr (.inr (.inl ⟨q.1, q.2, rfl, rfl, he⟩)))
    · exact .inr (.inr (.inr (.inr rfl)))
  · exact .inr (.inr (.inr (.inr rfl)))

theorem q_slice (hT : TOk P T) (h : Sim T.globL U w0 F0 σ a w ow) {t : TypeId} {p : Operand} {lo hi mx : Option Operand} (ho : o.op = .slice t p lo hi mx)
    (hk : (match sliceOk T t (val T σ p), lo.map (val T σ), hi.map (val T σ) with
    | .sc (.string s), none, some h => asI h fun h => chk (mx.isNone && decide (0 ≤ h) && decide (h ≤ s.size)) (K (.sc (.string (s.extract 0 h.toNat))) .none [])
    | .sc (.string s), some l, none => asI l fun l => chk (mx.isNone && decide (0 ≤ l) && decide (l ≤ s.size)) (K (.sc (.string (s.extract l.toNat s.size))) .none [])
    | .sc (.string s), some l, some h => asI l fun l => asI h fun h => chk (mx.isNone && decide (0 ≤ l) && decide (l ≤ h) && decide (h ≤ s.size)) (K (.sc (.string (s.extract l.toNat h.toNat))) .none [])
    | .sl z xs, none, some h => asI h fun h => chk (mx.isNone && decide (0 ≤ h) && decide (h ≤ xs.length)) (K (.sl z (xs.take h.toNat)) .none [])
    | .sl z xs, some l, none => asI l fun l => chk (mx.isNone && decide (0 ≤ l) && decide (l ≤ xs.length)) (K (.sl z (xs.drop l.toNat)) .none [])
    | .sl z xs, some l, some h => asI l fun l => asI h fun h => chk (mx.isNone && decide (0 ≤ l) && decide (l ≤ h) && decide (h ≤ xs.length)) (K (.sl z ((xs.take h.toNat).drop l.toNat)) .none [])
    | .ref k c m, none, some h => match obRow (lkE σ) k c with
      | some (_, _, xs) => asI h fun h => match mx.map (val T σ) with
        | none => chk (decide (0 ≤ h) && decide (h ≤ cutLen xs m)) (K (.ref k c (some h.toNat)) .none [])
        | some x => asI x fun x => chk (decide (x = h) && decide (0 ≤ h) && decide (h ≤ cutLen xs m)) (K (.ref k c (some h.toNat)) .none [])
      | none => none
    | .ref k c m, some l, none => match obRow (lkE σ) k c with
      | some (_, z, xs) => bif (match T.el t with | some (_, z') => Nat.beq z z' | none => false) then asI l fun l => chk (mx.isNone && decide (0 ≤ l) && decide (l ≤ cutLen xs m)) (K (.sl z ((cut xs m).drop l.toNat)) .none [(k, c)]) else none
      | none => none
    | .nil, none, some h => asI h fun h => chk (mx.isNone && decide (h = 0)) (K .nil .none [])
    | _, _, _ => none) = some r) : Good P T U w0 F0 σ a w o d K r := by
  have arg : ∀ {q : Operand} {k n}, val T σ q = .sc (.int k n) → a.eval q = .int k n := fun hq => (val_sc h hq).1
  have finS : ∀ (s : ByteArray) (l hh m : Nat), sliceOk T t (val T σ p) = .sc (.string s) → mx = none → (Instr.sliceBounds false s.size s.size (lo.map a.eval) (hi.map a.eval) none).run P w = .ok (l, hh, m) w →
      K (.sc (.string (s.extract l hh))) .none [] = some r → Good P T U w0 F0 σ a w o d K r := fun s l hh m hs hm hb hK => by
    subst hm
    rcases @sliceOk_some T t (val T σ p) with ⟨s', e1, e2, e3⟩ | ⟨z, xs, e, e1, _⟩ | ⟨k, c, m, e, z, e1, _⟩ | ⟨e, z, e1, _⟩ | e1 <;> rw [hs] at e1 <;> cases e1
    exact ⟨_, .none, [], hK, fun _ => done_plain h (exec_slice ho (by rw [(val_sc h e2).1]; exact run_cutS hT e3 s _ _ l hh m hb)) (FR.sc rfl : FR w (Fz U w ow σ.ob) [.string (s.extract l hh)] (.sc (.string (s.extract l hh))))⟩
  have finL : ∀ (z : Nat) (xs : List V) (f : Nat → Nat × Nat × Nat), sliceOk T t (val T σ p) = .sl z xs → mx = none →
      (∀ c, xs.length ≤ c → (Instr.sliceBounds true xs.length c (lo.map a.eval) (hi.map a.eval) none).run P w = .ok (f c) w ∧ (f c).2.2 = c) → (∀ c, xs.length ≤ c → (f c).1 ≤ (f c).2.1 ∧ (f c).2.1 ≤ xs.length ∧ f c = ((f xs.length).1, (f xs.length).2.1, c)) →
      K (.sl z ((xs.take (f xs.length).2.1).drop (f xs.length).1)) .none [] = some r → Good P T U w0 F0 σ a w o d K r := fun z xs f hs hm hb hf hK => by
    subst hm
    rcases @sliceOk_some T t (val T σ p) with ⟨s', e1, e2, e3⟩ | ⟨z', xs', e, e1, e2, e3⟩ | ⟨k, c, m, e, z, e1, _⟩ | ⟨e, z, e1, _⟩ | e1 <;> rw [hs] at e1 <;> cases e1
    have hv := val_sr h p
    rw [e2] at hv
    have hv' : FR w (Fz U w ow σ.ob) [a.eval p] (.sl z xs) := hv
    obtain ⟨b, c, hu, hc⟩ := hv'.len
    rw [hu] at hv'
    obtain ⟨hb1, hb2⟩ := hb c hc
    obtain ⟨g1, g2, g3⟩ := hf c hc
    rw [g3] at hb1 g1 g2
    refine ⟨_, .none, [], hK, fun _ => done_plain h (exec_slice ho (by rw [hu]; exact run_cut hT e3 b _ c _ _ none _ _ _ hb1)) ?_⟩
    exact hv'.cut g1 g2 (fun hlt => by rw [if_neg (by omega)])
  split at hk
  · rename_i s x hs hlo hhi
    obtain ⟨k, n, hx, hk2⟩ := asI_some hk
    obtain ⟨hc, hK⟩ := chk_some hk2
    simp only [Bool.and_eq_true, decide_eq_true_eq, Option.isNone_iff_eq_none] at hc
    obtain ⟨q, hq, rfl⟩ := Option.map_eq_some_iff.1 hhi
    have hlo' := Option.map_eq_none_iff.1 hlo
    exact finS s 0 n.toNat _ hs hc.1.1 (by rw [hlo', hq]; simp only [Option.map_some, Option.map_none, arg hx]; exact bounds_h hc.1.2 hc.2) hK
  · rename_i s x hs hlo hhi
    obtain ⟨k, n, hx, hk2⟩ := asI_some hk
    obtain ⟨hc, hK⟩ := chk_some hk2
    simp only [Bool.and_eq_true, decide_eq_true_eq, Option.isNone_iff_eq_none] at hc
    obtain ⟨q, hq, rfl⟩ := Option.map_eq_some_iff.1 hlo
    have hhi' := Option.map_eq_none_iff.1 hhi
    exact finS s n.toNat s.size _ hs hc.1.1 (by rw [hhi', hq]; simp only [Option.map_some, Option.map_none, arg hx]; exact bounds_l hc.1.2 hc.2) hK
  · rename_i s x y hs hlo hhi
    obtain ⟨k, n, hx, hk2⟩ := asI_some hk
    obtain ⟨k', n', hy, hk3⟩ := asI_some hk2
    obtain ⟨hc, hK⟩ := chk_some hk3
    simp only [Bool.and_eq_true, decide_eq_true_eq, Option.isNone_iff_eq_none] at hc
    obtain ⟨q, hq, rfl⟩ := Option.map_eq_some_iff.1 hlo
    obtain ⟨q', hq', rfl⟩ := Option.map_eq_some_iff.1 hhi
    exact finS s n.toNat n'.toNat _ hs hc.1.1.1 (by rw [hq', hq]; simp only [Option.map_some, arg hx, arg hy]; exact bounds_lh hc.1.1.2 hc.1.2 hc.2) hK
  · rename_i z xs x hs hlo hhi
    obtain ⟨k, n, hx, hk2⟩ := asI_some hk
    obtain ⟨hc, hK⟩ := chk_some hk2
    simp only [Bool.and_eq_true, decide_eq_true_eq, Option.isNone_iff_eq_none] at hc
    obtain ⟨q, hq, rfl⟩ := Option.map_eq_some_iff.1 hhi
    have hlo' := Option.map_eq_none_iff.1 hlo
    exact finL z xs (fun c => (0, n.toNat, c)) hs hc.1.1 (fun c hcc => ⟨by rw [hlo', hq]; simp only [Option.map_some, Option.map_none, arg hx]; exact bounds_h hc.1.2 (by omega), rfl⟩) (fun c hcc => ⟨Nat.zero_le _, by simp only; omega, rfl⟩) (by simpa using hK)
  · rename_i z xs x hs hlo hhi
    obtain ⟨k, n, hx, hk2⟩ := asI_some hk
    obtain ⟨hc, hK⟩ := chk_some hk2
    simp only [Bool.and_eq_true, decide_eq_true_eq, Option.isNone_iff_eq_none] at hc
    obtain ⟨q, hq, rfl⟩ := Option.map_eq_some_iff.1 hlo
    have hhi' := Option.map_eq_none_iff.1 hhi
    exact finL z xs (fun c => (n.toNat, xs.length, c)) hs hc.1.1 (fun c hcc => ⟨by rw [hhi', hq]; simp only [Option.map_some, Option.map_none, arg hx]; exact bounds_l hc.1.2 hc.2, rfl⟩) (fun c hcc => ⟨by simp only; omega, Nat.le_refl _, rfl⟩) (by simpa using hK)
  · rename_i z xs x y hs hlo hhi
    obtain ⟨k, n, hx, hk2⟩ := asI_some hk
    obtain ⟨k', n', hy, hk3⟩ := asI_some hk2
    obtain ⟨hc, hK⟩ := chk_some hk3
    simp only [Bool.and_eq_true, decide_eq_true_eq, Option.isNone_iff_eq_none] at hc
    obtain ⟨q, hq, rfl⟩ := Option.map_eq_some_iff.1 hlo
    obtain ⟨q', hq', rfl⟩ := Option.map_eq_some_iff.1 hhi
    exact finL z xs (fun c => (n.toNat, n'.toNat, c)) hs hc.1.1.1 (fun c hcc => ⟨by rw [hq', hq]; simp only [Option.map_some, arg hx, arg hy]; exact bounds_lh hc.1.1.2 hc.1.2 (by omega), rfl⟩) (fun c hcc => ⟨by simp only; omega, by simp only; omega, rfl⟩) hK
  · rename_i k c m x hs hlo hhi
    split at hk
    · rename_i oo z xs hr
      obtain ⟨o', hr'⟩ := obRow_eO hr
      have hr'' : obRow (fun k => σ.ob.getD k .none) k c = some (o', z, xs) := hr'
      obtain ⟨ik, n, hx, hk2⟩ := asI_some hk
      obtain ⟨q, hq, rfl⟩ := Option.map_eq_some_iff.1 hhi
      have hlo' := Option.map_eq_none_iff.1 hlo
      rcases @sliceOk_some T t (val T σ p) with ⟨s', e1, e2, e3⟩ | ⟨z', xs', e, e1, e2, e3⟩ | ⟨k', c', m', e, ze, e1, e2, e3⟩ | ⟨e, z, e1, _⟩ | e1 <;> rw [hs] at e1 <;> cases e1
      have hv := val_sr h p
      rw [e2] at hv
      obtain ⟨o3, z3, xs3, cp, f1, f2, f3, f4, f5⟩ := hv
      rw [hr''] at f1
      cases f1
      split at hk2
      · rename_i hmx
        have hmx' := Option.map_eq_none_iff.1 hmx
        obtain ⟨hc, hK⟩ := chk_some hk2
        simp only [Bool.and_eq_true, decide_eq_true_eq] at hc
        refine ⟨_, .none, [], hK, fun _ => done_plain h (exec_slice ho (by rw [f2, hlo', hq, hmx']; simp only [Option.map_some, Option.map_none, arg hx]; exact run_cut hT e3 _ _ _ _ _ _ _ _ _ (bounds_h hc.1 (by omega)))) ?_⟩
        refine ⟨o', z, xs, cp, hr'', ?_, by show n.toNat ≤ _; omega, by show n.toNat ≤ _; omega, f5⟩
        show Value.slice _ _ _ = .slice _ _ _
        simp [cutLen, add_addr]
      · rename_i y hmx
        obtain ⟨qm, hqm, rfl⟩ := Option.map_eq_some_iff.1 hmx
        obtain ⟨ik', n', hy, hk3⟩ := asI_some hk2
        obtain ⟨hc, hK⟩ := chk_some hk3
        simp only [Bool.and_eq_true, decide_eq_true_eq] at hc
        refine ⟨_, .none, [], hK, fun _ => done_plain h (exec_slice ho (by rw [f2, hlo', hq, hqm]; simp only [Option.map_some, Option.map_none, arg hx, arg hy]; exact run_cut hT e3 _ _ _ _ _ _ _ _ _ (bounds_hm hc.1.2 (by omega) (by omega)))) ?_⟩
        refine ⟨o', z, xs, n'.toNat, hr'', ?_, by show n.toNat ≤ _; omega, by show n.toNat ≤ n'.toNat; omega, fun j hj => f5 j (Nat.lt_of_lt_of_le hj (Nat.mul_le_mul_right _ (by omega)))⟩
        show Value.slice _ _ _ = .slice _ _ _
        simp [cutLen, add_addr]
    · cases hk
  · rename_i k c m x hs hlo hhi
    split at hk
    · rename_i oo z xs hr
      obtain ⟨o', hr'⟩ := obRow_eO hr
      have hr'' : obRow (fun k => σ.ob.getD k .none) k c = some (o', z, xs) := hr'
      obtain ⟨hz, hk1⟩ := bif_some hk
      obtain ⟨ik, n, hx, hk2⟩ := asI_some hk1
      obtain ⟨q, hq, rfl⟩ := Option.map_eq_some_iff.1 hlo
      have hhi' := Option.map_eq_none_iff.1 hhi
      rcases @sliceOk_some T t (val T σ p) with ⟨s', e1, e2, e3⟩ | ⟨z', xs', e, e1, e2, e3⟩ | ⟨k', c', m', e, ze, e1, e2, e3⟩ | ⟨e, z, e1, _⟩ | e1 <;> rw [hs] at e1 <;> cases e1
      rw [e3] at hz
      have hz := beq_nat.1 hz
      subst hz
      have hv := val_sr h p
      rw [e2] at hv
      have hsl := SC.sealed h.ho (s := [(k, c)]) hv hr'' (by simp)
      obtain ⟨o3, z3, xs3, cp, f1, f2, f3, f4, f5⟩ := hv
      rw [hr''] at f1
      cases f1
      obtain ⟨hc, hK⟩ := chk_some hk2
      simp only [Bool.and_eq_true, decide_eq_true_eq, Option.isNone_iff_eq_none] at hc
      rw [f2] at hsl
      have hrun := run_cut (w := w) hT e3 (some ⟨ow k c, 0, none⟩) (cutLen xs m) cp (some (.int ik n)) none none _ _ _ (bounds_l hc.1.2 hc.2)
      refine ⟨_, .none, [(k, c)], hK, fun _ => ⟨_, w, ow, exec_slice ho (by rw [f2, hhi', hq, hc.1.1]; simp only [Option.map_some, Option.map_none, arg hx]; exact hrun), (h.freeze [(k, c)]).put d fun _ => ?_⟩⟩
      have hcut := hsl.cut (l := n.toNat) (hh := cutLen xs m) (by omega) (Nat.le_refl _) (b' := if cp = n.toNat then some ⟨ow k c, 0, none⟩ else (some ⟨ow k c, 0, none⟩ : Option Addr).map (·.add (n.toNat * z))) (fun hlt => by rw [if_neg (by omega)])
      rw [List.take_of_length_le (by rw [length_cut f3]; exact Nat.le_refl _)] at hcut
      exact hcut
    · cases hk
  · rename_i x hs hlo hhi
    obtain ⟨ik, n, hx, hk2⟩ := asI_some hk
    obtain ⟨hc, hK⟩ := chk_some hk2
    simp only [Bool.and_eq_true, decide_eq_true_eq, Option.isNone_iff_eq_none] at hc
    obtain ⟨q, hq, rfl⟩ := Option.map_eq_some_iff.1 hhi
    have hlo' := Option.map_eq_none_iff.1 hlo
    rcases @sliceOk_some T t (val T σ p) with ⟨s', e1, e2, e3⟩ | ⟨z', xs', e, e1, e2, e3⟩ | ⟨k', c', m', e, ze, e1, e2, e3⟩ | ⟨e, z, e1, e2, e3⟩ | e1 <;> rw [hs] at e1 <;> cases e1
    have hv := val_sr h p
    rw [e2] at hv
    have hv' : FR w (Fz U w ow σ.ob) [a.eval p] .nil := hv
    generalize hu : a.eval p = u at hv'
    cases hv' with
    | nil =>
      have hrun := run_cut (w := w) hT e3 none 0 0 none (some (.int ik n)) none 0 n.toNat 0 (bounds_h (by omega) (by omega))
      have : n.toNat = 0 := by omega
      rw [this] at hrun
      refine ⟨_, .none, [], hK, fun _ => done_plain h (exec_slice ho (by rw [hu, hlo', hq, hc.1]; simp only [Option.map_some, Option.map_none, arg hx]; exact hrun)) ?_⟩
      show FR _ _ [_] .nil
      exact .nil
  · cases hk
end
end Go.Proofs.YtmddfhjgdhjmkaaDoor.VM
