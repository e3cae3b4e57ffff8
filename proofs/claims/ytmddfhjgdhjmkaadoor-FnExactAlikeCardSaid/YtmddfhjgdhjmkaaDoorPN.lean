/- Nodes: their plain form; the program's sizes, copies and comparisons of them (the laws' own). -/
import Derived.Test.YtmddfhjgdhjmkaaDoorEqN
import Derived.Test.YtmddfhjgdhjmkaaDoorPL
set_option linter.unusedVariables false
set_option linter.unusedSimpArgs false
namespace Go.Proofs.YtmddfhjgdhjmkaaDoor.VM

inductive Nod where
  | mk (k : Int) (d : ByteArray) (p : List Nod) (s c : Int) (i : List Nod)
mutual
def encN : Nod → V
  | .mk k d p s c i => .st [.sc (.int .i64 k), .sc (.string d), .sl 6 (encNs p), .sc (.int .i64 s), .sc (.int .i64 c), .sl 6 (encNs i)]
def encNs : List Nod → List V
  | [] => []
  | n :: l => encN n :: encNs l
end
mutual
def okN : Nod → Prop
  | .mk k d p s c i => d.size ≤ reachBytes ∧ p.length * 88 ≤ reachBytes ∧ i.length * 88 ≤ reachBytes ∧ okNs p ∧ okNs i
def okNs : List Nod → Prop
  | [] => True
  | n :: l => okN n ∧ okNs l
end
mutual
def szN : Nod → Nat
  | .mk k d p s c i => d.size + ((p.length + szT p) + (i.length + szT i))
def szT : List Nod → Nat
  | [] => 0
  | n :: l => szN n + szT l
end
mutual
def eqN : Nod → Nod → Bool
  | .mk k d p s c i, .mk k' d' p' s' c' i' => decide (k = k') && (sEq d d' && (eqNs p p' && (decide (s = s') && (decide (c = c') && eqNs i i'))))
def eqNs : List Nod → List Nod → Bool
  | [], [] => true
  | n :: l, m :: l' => eqN n m && eqNs l l'
  | _, _ => false
end
theorem encNs_map (l : List Nod) : encNs l = l.map encN := by
  induction l with
  | nil => rfl
  | cons d l ih => rw [encNs, ih]; rfl
theorem encNs_length (l : List Nod) : (encNs l).length = l.length := by rw [encNs_map, List.length_map]
theorem encNs_get (l : List Nod) (i : Nat) (h : i < l.length) : (encNs l)[i]? = some (encN l[i]) := by rw [encNs_map, List.getElem?_map, List.getElem?_eq_getElem h]; rfl
theorem okNs_mem : ∀ {l : List Nod}, okNs l ↔ ∀ d ∈ l, okN d
  | [] => ⟨fun _ d h => (by cases h), fun _ => trivial⟩
  | d :: l => by
    unfold okNs
    rw [List.forall_mem_cons, okNs_mem]
theorem okNs_get {l : List Nod} (h : okNs l) (j : Nat) (hj : j < l.length) : okN l[j] := okNs_mem.1 h _ (List.getElem_mem hj)
mutual
theorem eqN_refl : ∀ d, eqN d d = true
  | .mk k d p s c i => by unfold eqN; simp [sEq_iff.2, eqNs_refl p, eqNs_refl i]
theorem eqNs_refl : ∀ l, eqNs l l = true
  | [] => rfl
  | d :: l => by unfold eqNs; rw [eqN_refl d, eqNs_refl l]; rfl
end
theorem eqNs_len : ∀ {l l' : List Nod}, eqNs l l' = true → l.length = l'.length
  | [], [], _ => rfl
  | [], _ :: _, h => by simp [eqNs] at h
  | _ :: _, [], h => by simp [eqNs] at h
  | d :: l, e :: l', h => by
    unfold eqNs at h
    rw [Bool.and_eq_true] at h
    simp [eqNs_len h.2]
theorem eqNs_ne {xs ys : List Nod} (h : ¬ ys.length = xs.length) : eqNs xs ys = false := by
  cases e : eqNs xs ys
  · rfl
  · exact absurd (eqNs_len e).symm h
theorem unSt_encN {R : Type} (d : Nod) {K : Option R} : unSt 6 (encN d) K = K := by cases d; rfl
theorem wd_encN {R : Type} (d : Nod) {K : Option R} : wd 6 (encN d) K = K := by cases d; rfl
theorem un_encN {R : Type} (n : Nod) (K : Int → ByteArray → List V → Int → Int → List V → Option R) : (unSt 6 (encN n) (unSt 6 (encN n) (unI .i64 (ce (encN n) 0) fun a => unS (ce (encN n) 1) fun b => unL 6 (ce (encN n) 2) fun c => unI .i64 (ce (encN n) 3) fun d => unI .i64 (ce (encN n) 4) fun e => unL 6 (ce (encN n) 5) fun f => K a b c d e f))) =
    match n with | .mk k d p s c i => K k d (encNs p) s c (encNs i) := by cases n; rfl
theorem eqNs_drop {xs ys : List Nod} {i : Nat} (h1 : i < xs.length) (h2 : i < ys.length) : eqNs (xs.drop i) (ys.drop i) = (eqN xs[i] ys[i] && eqNs (xs.drop (i + 1)) (ys.drop (i + 1))) := by
  rw [List.drop_eq_getElem_cons h1, List.drop_eq_getElem_cons h2, eqNs]
theorem eqNs_drop_end {xs ys : List Nod} (h : ys.length = xs.length) : eqNs (xs.drop xs.length) (ys.drop xs.length) = true := by
  rw [List.drop_length, ← h, List.drop_length, eqNs]
/-- what holds of all nodes of a list, one by one -/
theorem all_get {Q : Nod → Prop} : ∀ {l : List Nod}, (∀ n ∈ l, Q n) → ∀ (j : Nat) (hj : j < l.length), Q l[j] := fun h j hj => h _ (List.getElem_mem hj)
/-- by the parts of a node -/
theorem Nod.ind {Q : Nod → Prop} (h : ∀ k d p s c i, (∀ n ∈ p, Q n) → (∀ n ∈ i, Q n) → Q (.mk k d p s c i)) : ∀ n, Q n := by
  intro n
  exact Nod.rec (motive_1 := Q) (motive_2 := fun l => ∀ n ∈ l, Q n) (fun k d p s c i hp hi => h k d p s c i hp hi) (fun n hn => by cases hn) (fun n l hn hl m hm => by
    rcases List.mem_cons.1 hm with rfl | hm
    · exact hn
    · exact hl m hm) n

/-! ### the laws' sizes -/
abbrev leftI (n : Nat) (left : Nat) : Int := if n ≤ left then ((left - n : Nat) : Int) else -1
theorem szT_drop {l : List Nod} {i : Nat} (h : i < l.length) : szT (l.drop i) = szN l[i] + szT (l.drop (i + 1)) := by rw [List.drop_eq_getElem_cons h, szT]
theorem sub_wrap {left n : Nat} (h : left ≤ 1048576) (hn : n ≤ reachBytes) : IntKind.wrap .i64 ((left : Int) - Int.ofNat n) = (left : Int) - (n : Int) := by
  have : reachBytes = 140737488351232 := rfl
  have e : Int.ofNat n = (n : Int) := rfl
  rw [e, wrap_id (by omega) (by omega)]
theorem szS_of (l : List Nod) (hl : l.length * 88 ≤ reachBytes) (ih : ∀ n ∈ l, ∀ left, left ≤ 1048576 → (D T).call F_laws_szNode [encN n, .sc (.int .i64 (left : Nat))] = nu (leftI (szN n) left)) (left : Nat) (hle : left ≤ 1048576) :
    (D T).call F_laws_szNodeS [.sl 6 (encNs l), .sc (.int .i64 (left : Nat))] = nu (leftI (l.length + szT l) left) := by
  have hr := reach_lt (b := 87) hl
  have hr2 : l.length ≤ reachBytes := by have : reachBytes = 140737488351232 := rfl; omega
  have hL : ∀ j, j ≤ l.length → ∀ (left : Nat), left ≤ 1048576 → L_laws_szNodeS_0 (D T) (encNs l) (left : Nat) (j : Int) = nu (leftI (szT (l.drop j)) left) := by
    refine down (fun left hle => ?_) fun j hj ihj left hle => ?_
    · rw [L_laws_szNodeS_0_eq, tL_laws_szNodeS_0, encNs_length, nlt_ofNat, List.drop_length, szT]; simp [leftI]
    · rw [L_laws_szNodeS_0_eq, tL_laws_szNodeS_0, encNs_length, lt_ofNat hj, bif_true, ix_at (encNs_get l j hj), unSt_encN, all_get ih j hj left hle, Option.bind_some, unI_mk, next_i (by omega), szT_drop hj]
      unfold leftI
      by_cases h1 : szN l[j] ≤ left
      · rw [if_pos h1, decide_eq_false (by omega), bif_false, ihj _ (by omega)]
        unfold leftI
        by_cases h2 : szT (l.drop (j + 1)) ≤ left - szN l[j]
        · rw [if_pos h2, if_pos (by omega), Nat.sub_sub]
        · rw [if_neg h2, if_neg (by omega)]
      · rw [if_neg h1, if_neg (by omega)]; rfl
  rw [c_laws_szNodeS, t_laws_szNodeS, encNs_length, sub_wrap hle hr2]
  unfold leftI
  by_cases h1 : l.length ≤ left
  · rw [decide_eq_false (by omega), bif_false, show (left : Int) - (l.length : Int) = ((left - l.length : Nat) : Int) by omega]
    have h0 : L_laws_szNodeS_0 (D T) (encNs l) ((left - l.length : Nat) : Int) 0 = nu (leftI (szT (l.drop 0)) (left - l.length)) := hL 0 (Nat.zero_le _) _ (by omega)
    rw [h0, List.drop_zero]
    unfold leftI
    by_cases h2 : szT l ≤ left - l.length
    · rw [if_pos h2, if_pos (by omega), Nat.sub_sub]
    · rw [if_neg h2, if_neg (by omega)]
  · rw [decide_eq_true (by omega), bif_true, if_neg (by omega)]
theorem szNode_is : ∀ n, okN n → ∀ left : Nat, left ≤ 1048576 → (D T).call F_laws_szNode [encN n, .sc (.int .i64 (left : Nat))] = nu (leftI (szN n) left) := by
  refine Nod.ind fun k d p s c i hp hi => ?_
  intro h left hle
  unfold okN at h
  have h1 := fun left hle => szS_of p h.2.1 (fun n hn => hp n hn (okNs_mem.1 h.2.2.2.1 n hn)) left hle
  have h2 := fun left hle => szS_of i h.2.2.1 (fun n hn => hi n hn (okNs_mem.1 h.2.2.2.2 n hn)) left hle
  unfold encN
  rw [c_laws_szNode, t_laws_szNode, sub_wrap hle h.1, szN]
  unfold leftI
  by_cases g1 : d.size ≤ left
  case neg => rw [decide_eq_true (by omega), bif_true, if_neg (by omega)]
  rw [decide_eq_false (by omega), bif_false, show (left : Int) - (d.size : Int) = ((left - d.size : Nat) : Int) by omega, h1 _ (by omega), Option.bind_some, unI_mk]
  unfold leftI
  by_cases g2 : p.length + szT p ≤ left - d.size
  case neg => rw [if_neg g2, if_neg (by omega)]; rfl
  rw [if_pos g2, decide_eq_false (by omega), bif_false, h2 _ (by omega), Option.bind_some, unI_mk]
  unfold leftI
  by_cases g3 : i.length + szT i ≤ left - d.size - (p.length + szT p)
  case neg => rw [if_neg g3, if_neg (by omega)]; rfl
  rw [if_pos g3, decide_eq_false (by omega), bif_false, if_pos (by omega), Nat.sub_sub, Nat.sub_sub, Nat.add_assoc]

/-! ### the laws' copies and comparisons -/
theorem cpS_of (l : List Nod) (h : l.length * 88 ≤ reachBytes) (ih : ∀ n ∈ l, (D T).call F_laws_toNode [encN n] = some (encN n, [])) : (D T).call F_laws_toNodeS [.sl 6 (encNs l)] = some (.sl 6 (encNs l), []) := by
  have hr := reach_lt (b := 87) h
  have hL : ∀ i, i ≤ l.length → ∀ l2, l2.length = l.length → l2.take i = (encNs l).take i → L_laws_toNodeS_0 (D T) (encNs l) (i : Int) l2 = some (.sl 6 (encNs l), []) := by
    refine down (fun l2 hl ht => ?_) fun i hi ihi l2 hl ht => ?_
    · have e : l2 = encNs l := cp_end (by rw [encNs_length]; exact hl) (by rw [encNs_length]; exact ht)
      rw [L_laws_toNodeS_0_eq, tL_laws_toNodeS_0, encNs_length, nlt_ofNat, bif_false, e]
    · have hi2 : i < l2.length := by omega
      have hg : l2[i]? = some l2[i] := List.getElem?_eq_getElem _
      rw [L_laws_toNodeS_0_eq, tL_laws_toNodeS_0, encNs_length, lt_ofNat hi, bif_true, ix_at (encNs_get l i hi), unSt_encN, all_get ih i hi, Option.bind_some, unSt_encN, hl, lt_ofNat hi, le_ofNat, Bool.and_true, bif_true, wd_encN, Int.toNat_natCast, exN_at hg, next_i (by omega)]
      exact ihi _ (by simpa using hl) (cp_step (by rw [encNs_length]; exact hl) ht (encNs_get l i hi))
  rw [c_laws_toNodeS, t_laws_toNodeS, encNs_length, mk_chk h, bif_true]
  exact hL 0 (Nat.zero_le _) _ (by simp) (by simp)
theorem toNode_is : ∀ n, okN n → (D T).call F_laws_toNode [encN n] = some (encN n, []) := by
  refine Nod.ind fun k d p s c i hp hi => ?_
  intro h
  unfold okN at h
  unfold encN
  rw [c_laws_toNode, t_laws_toNode, cpS_of p h.2.1 (fun n hn => hp n hn (okNs_mem.1 h.2.2.2.1 n hn)), Option.bind_some, unL_mk, cpS_of i h.2.2.1 (fun n hn => hi n hn (okNs_mem.1 h.2.2.2.2 n hn)), Option.bind_some, unL_mk]
theorem eqS_of (xs ys : List Nod) (hx : xs.length ≤ 140737488351232) (he : ∀ n ∈ xs, ∀ m ∈ ys, (D T).call F_laws_eqNode [encN n, encN m] = bo (eqN n m)) :
    (D T).call F_laws_eqNodeS [.sl 6 (encNs xs), .sl 6 (encNs ys)] = bo (eqNs xs ys) := by
  rw [c_laws_eqNodeS, t_laws_eqNodeS]
  simp only [encNs_length]
  by_cases h : ys.length = xs.length
  case neg => rw [dec_len h, eqNs_ne h]; rfl
  have hL : ∀ i, i ≤ xs.length → L_laws_eqNodeS_0 (D T) (encNs xs) (encNs ys) (i : Int) = bo (eqNs (xs.drop i) (ys.drop i)) := by
    refine down ?_ fun i hi ih => ?_
    · rw [L_laws_eqNodeS_0_eq, tL_laws_eqNodeS_0, encNs_length, nlt_ofNat, eqNs_drop_end h]; rfl
    · rw [L_laws_eqNodeS_0_eq, tL_laws_eqNodeS_0, encNs_length, lt_ofNat hi, bif_true, ix_at (encNs_get xs i hi), unSt_encN, ix_at (encNs_get ys i (by omega)), unSt_encN, he _ (List.getElem_mem hi) _ (List.getElem_mem (by omega)), Option.bind_some, unB_mk, next_i (by omega), ih, eqNs_drop hi (by omega)]
      cases eqN xs[i] (ys[i]'(by omega)) <;> rfl
  rw [dec_len_eq h, Bool.not_true, bif_false]
  exact hL 0 (Nat.zero_le _)
theorem eqNode_is : ∀ n, okN n → ∀ m, okN m → (D T).call F_laws_eqNode [encN n, encN m] = bo (eqN n m) := by
  refine Nod.ind fun k d p s c i hp hi => ?_
  intro h m h'
  obtain ⟨k', d', p', s', c', i'⟩ := m
  unfold okN at h h'
  have h1 := eqS_of p p' (reach_lt (b := 87) h.2.1) fun n hn m hm => hp n hn (okNs_mem.1 h.2.2.2.1 n hn) m (okNs_mem.1 h'.2.2.2.1 m hm)
  have h2 := eqS_of i i' (reach_lt (b := 87) h.2.2.1) fun n hn m hm => hi n hn (okNs_mem.1 h.2.2.2.2 n hn) m (okNs_mem.1 h'.2.2.2.2 m hm)
  unfold encN
  rw [c_laws_eqNode, t_laws_eqNode, h1, h2]
  simp only [Option.bind_some, unB_mk, eqN]
  cases decide (k = k') <;> cases sEq d d' <;> cases eqNs p p' <;> cases decide (s = s') <;> cases decide (c = c') <;> cases eqNs i i' <;> rfl
end Go.Proofs.YtmddfhjgdhjmkaaDoor.VM
