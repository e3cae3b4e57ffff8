/- Nodes: that a node is ok, told by the program and by the reference, is the same. -/
import Derived.Test.YtmddfhjgdhjmkaaDoorPW
set_option linter.unusedVariables false
set_option linter.unusedSimpArgs false
namespace Go.Proofs.YtmddfhjgdhjmkaaDoor.VM

/-! ### formed, all of it -/
mutual
def wf : Nod → Bool
  | .mk k d p s c i => shpB (.mk k d p s c i) && (decide (k = 0) || (wfs p && wfs i))
def wfs : List Nod → Bool
  | [] => true
  | n :: l => wf n && wfs l
end
theorem wfs_iff : ∀ {l : List Nod}, wfs l = true ↔ ∀ n ∈ l, wf n = true
  | [] => ⟨fun _ n h => (by cases h), fun _ => rfl⟩
  | n :: l => by rw [wfs, Bool.and_eq_true, List.forall_mem_cons, wfs_iff]
theorem moks_iff {a : Int} : ∀ {l : List Nod}, moks a l = true ↔ ∀ n ∈ l, mok a n = true
  | [] => ⟨fun _ n h => (by cases h), fun _ => rfl⟩
  | n :: l => by rw [moks, Bool.and_eq_true, List.forall_mem_cons, moks_iff]
theorem okSs_iff {a : Int} : ∀ {l : List Nod}, okSs a l = true ↔ ∀ n ∈ l, okS a n = true
  | [] => ⟨fun _ n h => (by cases h), fun _ => rfl⟩
  | n :: l => by rw [okSs, Bool.and_eq_true, List.forall_mem_cons, okSs_iff]
theorem okSi_iff {a : Int} : ∀ {l : List Nod}, okSi a l = true ↔ ∀ x ∈ l, ∀ n ∈ prs x, okS a n = true
  | [] => ⟨fun _ n h => (by cases h), fun _ => rfl⟩
  | .mk _ _ p _ _ _ :: l => by rw [okSi, Bool.and_eq_true, List.forall_mem_cons, okSi_iff, okSs_iff]; rfl
theorem dpP_le {B : Int} : ∀ {l : List Nod} {a : Int}, dpP a l ≤ B ↔ a ≤ B ∧ ∀ n ∈ l, dpN n ≤ B
  | [], a => by simp [dpP]
  | n :: l, a => by
    rw [dpP, dpP_le, List.forall_mem_cons, ← and_assoc]
    refine and_congr_left fun _ => ?_
    split <;> omega
theorem dpI_le {B : Int} : ∀ {l : List Nod} {a : Int}, dpI a l ≤ B ↔ a ≤ B ∧ ∀ n ∈ l, dpN n - 1 ≤ B
  | [], a => by simp [dpI]
  | n :: l, a => by
    rw [dpI, dpI_le, List.forall_mem_cons, ← and_assoc]
    refine and_congr_left fun _ => ?_
    split <;> omega
theorem dp_iff {k : Int} {d : ByteArray} {p : List Nod} {s c : Int} {i : List Nod} {B : Int} (hk : k ≠ 0) : dpN (.mk k d p s c i) ≤ B ↔ 1 ≤ B ∧ (∀ n ∈ p, dpN n ≤ B - 1) ∧ ∀ n ∈ i, dpN n ≤ B := by
  rw [dpN, if_neg hk]
  have h1 : dpI (dpP 0 p) i + 1 ≤ B ↔ dpI (dpP 0 p) i ≤ B - 1 := by omega
  rw [h1, dpI_le, dpP_le]
  constructor
  · rintro ⟨⟨h1, h2⟩, h3⟩; exact ⟨by omega, h2, fun n hn => by have := h3 n hn; omega⟩
  · rintro ⟨h1, h2, h3⟩; exact ⟨⟨by omega, h2⟩, fun n hn => by have := h3 n hn; omega⟩
theorem wf_of_mok : ∀ n left, mok left n = true → wf n = true := by
  refine Nod.ind fun k d p s c i hp hi => ?_
  intro left h
  rw [mok, Bool.and_eq_true, Bool.and_eq_true, Bool.or_eq_true] at h
  rw [wf, Bool.and_eq_true, Bool.or_eq_true]
  refine ⟨h.1, h.2.2.imp id fun h => ?_⟩
  rw [Bool.and_eq_true, moks_iff, moks_iff] at h
  rw [Bool.and_eq_true, wfs_iff, wfs_iff]
  exact ⟨fun n hn => hp n hn _ (h.1 n hn), fun n hn => hi n hn _ (h.2 n hn)⟩
theorem mok_of_wf : ∀ n left, wf n = true → 0 ≤ left → dpN n ≤ left → mok left n = true := by
  refine Nod.ind fun k d p s c i hp hi => ?_
  intro left h h0 hd
  rw [wf, Bool.and_eq_true, Bool.or_eq_true] at h
  rw [mok, Bool.and_eq_true, Bool.and_eq_true, Bool.or_eq_true]
  refine ⟨h.1, decide_eq_true h0, ?_⟩
  by_cases hk : k = 0
  · exact .inl (decide_eq_true hk)
  have h2 := h.2.resolve_left (by simpa using hk)
  rw [Bool.and_eq_true, wfs_iff, wfs_iff] at h2
  obtain ⟨d1, d2, d3⟩ := (dp_iff hk).1 hd
  refine .inr ?_
  rw [Bool.and_eq_true, moks_iff, moks_iff]
  exact ⟨fun n hn => hp n hn _ (h2.1 n hn) (by omega) (d2 n hn), fun n hn => hi n hn _ (h2.2 n hn) h0 (d3 n hn)⟩
theorem allStr_iff : ∀ {l : List Nod}, allStr l = true ↔ allLike l = true ∧ ∀ x ∈ l, strB x = true
  | [] => ⟨fun _ => ⟨rfl, fun x h => by cases h⟩, fun _ => rfl⟩
  | y :: l => by
    unfold allStr allLike
    rw [List.all_eq_true, List.all_eq_true]
    constructor
    · intro h
      refine ⟨fun x hx => ?_, fun x hx => ?_⟩
      · have := h x hx; rw [Bool.and_eq_true] at this; exact this.2
      · have := h x hx; rw [Bool.and_eq_true] at this; exact this.1
    · rintro ⟨h1, h2⟩ x hx
      rw [Bool.and_eq_true]; exact ⟨h2 x hx, h1 x hx⟩
theorem allLike_k {l : List Nod} (h : allLike l = true) : ∀ x ∈ l, ∃ d p s c i, x = .mk 1 d p s c i := by
  cases l with
  | nil => exact fun x h => by cases h
  | cons y l =>
    intro x hx
    have := List.all_eq_true.1 h x hx
    obtain ⟨k, d, p, s, c, i⟩ := x
    obtain ⟨k', d', p', s', c', i'⟩ := y
    simp only [likeB, Bool.and_eq_true, decide_eq_true_eq] at this
    exact ⟨d, p, s, c, i, by rw [this.1]⟩
theorem shp_str {d : ByteArray} {p : List Nod} {s c : Int} {i : List Nod} : shpB (.mk 1 d p s c i) = strB (.mk 1 d p s c i) := by
  show (decide (d.size % 8 = 0) && (decide (i.length = 0) && (decide (s = 0) && decide (c = 0)))) = (decide (d.size % 8 = 0) && (decide (s = 0) && (decide (c = 0) && decide (i.length = 0))))
  cases decide (d.size % 8 = 0) <;> cases decide (i.length = 0) <;> cases decide (s = 0) <;> cases decide (c = 0) <;> rfl
theorem wf_str {x : Nod} (h : strB x = true) : wf x = true ↔ ∀ n ∈ prs x, wf n = true := by
  obtain ⟨k, d, p, s, c, i⟩ := x
  have h' := h
  simp only [strB, Bool.and_eq_true, decide_eq_true_eq] at h
  obtain ⟨rfl, _, _, _, h5⟩ := h
  obtain rfl : i = [] := List.eq_nil_of_length_eq_zero h5
  have e0 : decide ((1 : Int) = 0) = false := rfl
  rw [wf, shp_str, h', Bool.true_and, e0, Bool.false_or, Bool.and_eq_true, wfs_iff]
  exact ⟨fun h => h.1, fun h => ⟨h, rfl⟩⟩
theorem dp_str {x : Nod} (h : strB x = true) {B : Int} : dpN x ≤ B ↔ 1 ≤ B ∧ ∀ n ∈ prs x, dpN n ≤ B - 1 := by
  obtain ⟨k, d, p, s, c, i⟩ := x
  simp only [strB, Bool.and_eq_true, decide_eq_true_eq] at h
  obtain ⟨rfl, _, _, _, h5⟩ := h
  obtain rfl : i = [] := List.eq_nil_of_length_eq_zero h5
  rw [dp_iff (by decide)]
  exact ⟨fun h => ⟨h.1, h.2.1⟩, fun h => ⟨h.1, h.2, fun n hn => by cases hn⟩⟩
/-- a form that is the reference's: a struct, or a list whose items are structs -/
def frm (n : Nod) : Bool := strB n || lstB n
def its : Nod → List Nod
  | .mk _ _ _ _ _ i => i
theorem frm_iff {k : Int} {d : ByteArray} {p : List Nod} {s c : Int} {i : List Nod} (hk : k ≠ 0) : frm (.mk k d p s c i) = true ↔ shpB (.mk k d p s c i) = true ∧ ∀ x ∈ i, strB x = true := by
  unfold frm
  have e0 : decide (k = 0) = false := decide_eq_false hk
  by_cases h1 : k = 1
  · subst h1
    have hl : lstB (.mk 1 d p s c i) = false := rfl
    rw [shp_str, hl, Bool.or_false]
    constructor
    · intro h
      refine ⟨h, ?_⟩
      simp only [strB, Bool.and_eq_true, decide_eq_true_eq] at h
      obtain rfl : i = [] := List.eq_nil_of_length_eq_zero h.2.2.2.2
      exact fun x hx => by cases hx
    · exact fun h => h.1
  have hs : strB (.mk k d p s c i) = false := by simp only [strB, decide_eq_false h1, Bool.false_and]
  rw [hs, Bool.false_or]
  by_cases h2 : k = 2
  case neg =>
    have hl : lstB (.mk k d p s c i) = false := by simp only [lstB, decide_eq_false h2, Bool.false_and]
    have hb : shpB (.mk k d p s c i) = false := by simp only [shpB, e0, decide_eq_false h1, decide_eq_false h2]; rfl
    rw [hl, hb]
    exact ⟨fun h => (by cases h), fun h => (by cases h.1)⟩
  subst h2
  show ((decide (0 ≤ s) && decide (s ≤ 7)) && ((decide (0 ≤ c) && decide (c ≤ 12800)) &&
      (bif decide (s = 6) then decide (d.size = 0) && (decide ((p.length : Int) = c) && decide (i.length = 0))
       else bif decide (s = 7) then allStr i && (decide (d.size = 0) && (decide (p.length = 0) && decide ((i.length : Int) = c)))
       else decide (p.length = 0) && (decide (i.length = 0) && plainP d s.toNat c.toNat)))) = true ↔ ((decide (0 ≤ c) && decide (c ≤ 12800)) &&
      (bif decide (0 ≤ s) && decide (s ≤ 5) then (decide (p.length = 0) && decide (i.length = 0)) && plainP d s.toNat c.toNat
       else bif decide (s = 6) then decide (d.size = 0) && (decide (i.length = 0) && decide ((p.length : Int) = c))
       else bif decide (s = 7) then decide (d.size = 0) && (decide (p.length = 0) && (decide ((i.length : Int) = c) && allLike i))
       else false)) = true ∧ _
  by_cases h7 : s = 7
  · subst h7
    have a1 : (decide ((0 : Int) ≤ 7) && decide ((7 : Int) ≤ 7)) = true := rfl
    have a2 : (decide ((0 : Int) ≤ 7) && decide ((7 : Int) ≤ 5)) = false := rfl
    have a3 : decide ((7 : Int) = 6) = false := rfl
    have a4 : decide ((7 : Int) = 7) = true := rfl
    rw [a1, a2, a3, a4]
    simp only [bif_false, bif_true, Bool.true_and, Bool.and_eq_true, allStr_iff, decide_eq_true_eq]
    constructor
    · rintro ⟨b1, ⟨b2, b3⟩, b4, b5, b6⟩; exact ⟨⟨b1, b4, b5, b6, b2⟩, b3⟩
    · rintro ⟨⟨b1, b4, b5, b6, b2⟩, b3⟩; exact ⟨b1, ⟨b2, b3⟩, b4, b5, b6⟩
  have a7 : decide (s = 7) = false := decide_eq_false h7
  by_cases h6 : s = 6
  · subst h6
    have a1 : (decide ((0 : Int) ≤ 6) && decide ((6 : Int) ≤ 7)) = true := rfl
    have a2 : (decide ((0 : Int) ≤ 6) && decide ((6 : Int) ≤ 5)) = false := rfl
    have a4 : decide ((6 : Int) = 6) = true := rfl
    rw [a1, a2, a4]
    simp only [bif_false, bif_true, Bool.true_and, Bool.and_eq_true, decide_eq_true_eq]
    constructor
    · rintro ⟨b1, b2, b3, b4⟩
      refine ⟨⟨b1, b2, b4, b3⟩, ?_⟩
      obtain rfl : i = [] := List.eq_nil_of_length_eq_zero b4
      exact fun x hx => by cases hx
    · rintro ⟨⟨b1, b2, b4, b3⟩, _⟩; exact ⟨b1, b2, b3, b4⟩
  have a6 : decide (s = 6) = false := decide_eq_false h6
  rw [a6, a7]
  simp only [bif_false]
  by_cases h05 : 0 ≤ s ∧ s ≤ 5
  · have a1 : (decide (0 ≤ s) && decide (s ≤ 7)) = true := by rw [decide_eq_true h05.1, decide_eq_true (show s ≤ 7 by omega)]; rfl
    have a2 : (decide (0 ≤ s) && decide (s ≤ 5)) = true := by rw [decide_eq_true h05.1, decide_eq_true h05.2]; rfl
    rw [a1, a2]
    simp only [bif_true, Bool.true_and, Bool.and_eq_true, decide_eq_true_eq]
    constructor
    · rintro ⟨b1, b2, b3, b4⟩
      refine ⟨⟨b1, ⟨b2, b3⟩, b4⟩, ?_⟩
      obtain rfl : i = [] := List.eq_nil_of_length_eq_zero b3
      exact fun x hx => by cases hx
    · rintro ⟨⟨b1, ⟨b2, b3⟩, b4⟩, _⟩; exact ⟨b1, b2, b3, b4⟩
  · have a1 : (decide (0 ≤ s) && decide (s ≤ 7)) = false := by
      rw [Bool.eq_false_iff]; intro h; rw [Bool.and_eq_true, decide_eq_true_eq, decide_eq_true_eq] at h; omega
    have a2 : (decide (0 ≤ s) && decide (s ≤ 5)) = false := by
      rw [Bool.eq_false_iff]; intro h; rw [Bool.and_eq_true, decide_eq_true_eq, decide_eq_true_eq] at h; omega
    rw [a1, a2]
    simp
theorem shp_items {k : Int} {d : ByteArray} {p : List Nod} {s c : Int} {i : List Nod} (hk : k ≠ 0) (h : shpB (.mk k d p s c i) = true) (hw : ∀ x ∈ i, wf x = true) : ∀ x ∈ i, strB x = true := by
  by_cases hi : i = []
  · subst hi; exact fun x hx => by cases hx
  have hl : ¬ i.length = 0 := fun e => hi (List.eq_nil_of_length_eq_zero e)
  have e0 : decide (k = 0) = false := decide_eq_false hk
  have el : decide (i.length = 0) = false := decide_eq_false hl
  have : allLike i = true := by
    simp only [shpB, e0, el, Bool.false_and, Bool.and_false, bif_false] at h
    cases h1 : decide (k = 1) <;> rw [h1] at h
    case true => exact absurd h (by simp)
    simp only [bif_false] at h
    cases h2 : decide (k = 2) <;> rw [h2] at h
    case false => cases h
    simp only [bif_true, Bool.and_eq_true] at h
    obtain ⟨_, h⟩ := h
    cases h3 : (decide (0 ≤ s) && decide (s ≤ 5)) <;> rw [h3] at h
    case true => cases h
    simp only [bif_false] at h
    cases h4 : decide (s = 6) <;> rw [h4] at h
    case true => simp at h
    simp only [bif_false] at h
    cases h5 : decide (s = 7) <;> rw [h5] at h
    case false => cases h
    simp only [bif_true, Bool.and_eq_true] at h
    exact h.2.2.2
  intro x hx
  obtain ⟨dx, px, sx, cx, ix, rfl⟩ := allLike_k this x hx
  have := hw _ hx
  rw [wf, Bool.and_eq_true, shp_str] at this
  exact this.1
theorem okS_iff : ∀ n, ∀ deep : Int, 0 ≤ deep → (okS deep n = true ↔ wf n = true ∧ dpN n ≤ deep) := by
  refine Nod.ind2 fun k d p s c i hp hi => ?_
  intro deep h0
  rw [okS, wf]
  by_cases hk : k = 0
  · subst hk
    show (decide (d.size = 0) && (decide (p.length = 0) && (decide (i.length = 0) && (decide (s = 0) && decide (c = 0))))) = true ↔ ((decide (p.length = 0) && (decide (i.length = 0) && (decide (d.size = 0) && (decide (s = 0) && decide (c = 0))))) && true) = true ∧ _
    rw [dpN, if_pos rfl]
    simp only [Bool.and_eq_true, decide_eq_true_eq]
    constructor
    · rintro ⟨h1, h2, h3, h4⟩; exact ⟨⟨⟨h2, h3, h1, h4⟩, trivial⟩, h0⟩
    · rintro ⟨⟨⟨h2, h3, h1, h4⟩, _⟩, _⟩; exact ⟨h1, h2, h3, h4⟩
  have e0 : decide (k = 0) = false := decide_eq_false hk
  rw [e0, bif_false, Bool.false_or, Bool.and_eq_true, Bool.and_eq_true, Bool.and_eq_true, Bool.and_eq_true, Bool.and_eq_true, decide_eq_true_eq, okSs_iff, okSi_iff, wfs_iff, wfs_iff, dp_iff hk]
  show 1 ≤ deep ∧ frm (.mk k d p s c i) = true ∧ _ ↔ _
  rw [frm_iff hk]
  constructor
  · rintro ⟨h1, ⟨h2, h3⟩, h4, h5⟩
    have a1 := fun n hn => (hp n hn (deep - 1) (by omega)).1 (h4 n hn)
    have a2 := fun x hx n hn => ((hi x hx).2 n hn (deep - 1) (by omega)).1 (h5 x hx n hn)
    exact ⟨⟨h2, fun n hn => (a1 n hn).1, fun x hx => (wf_str (h3 x hx)).2 fun n hn => (a2 x hx n hn).1⟩, h1, fun n hn => (a1 n hn).2, fun x hx => (dp_str (h3 x hx)).2 ⟨h1, fun n hn => (a2 x hx n hn).2⟩⟩
  · rintro ⟨⟨h2, h4, h5⟩, h1, d1, d2⟩
    have h3 := shp_items hk h2 h5
    exact ⟨h1, ⟨h2, h3⟩, fun n hn => (hp n hn (deep - 1) (by omega)).2 ⟨h4 n hn, d1 n hn⟩, fun x hx n hn => ((hi x hx).2 n hn (deep - 1) (by omega)).2 ⟨(wf_str (h3 x hx)).1 (h5 x hx) n hn, ((dp_str (h3 x hx)).1 (d2 x hx)).2 n hn⟩⟩

/-! ### that a node is ok; its words -/
def okB (n : Nod) : Bool := okS 8 n && decide (wdN n < 200)
theorem okB_mea (n : Nod) : okB n = (mok 8 n && (decide (dpN n ≤ 8) && decide (wdN n < 200))) := by
  unfold okB
  rw [Bool.eq_iff_iff, Bool.and_eq_true, Bool.and_eq_true, Bool.and_eq_true, okS_iff n 8 (by decide), decide_eq_true_eq, decide_eq_true_eq]
  constructor
  · rintro ⟨⟨h1, h2⟩, h3⟩; exact ⟨mok_of_wf n 8 h1 (by decide) h2, h2, h3⟩
  · rintro ⟨h1, h2, h3⟩; exact ⟨⟨wf_of_mok n 8 h1, h2⟩, h3⟩
theorem dec_nat {a b : Nat} : decide ((a : Int) < (b : Int)) = decide (a < b) := by
  rw [Bool.eq_iff_iff, decide_eq_true_eq, decide_eq_true_eq]; omega
theorem impl_NodeOk_is (n : Nod) (h : okN n) (hsz : szN n ≤ 1048576) : (D T).call F_impl_NodeOk [encN n] = bo (okB n) := by
  have hm := measured_is n h hsz 8 (by decide) (by decide)
  rw [okB_mea]
  obtain ⟨k, d, p, s, c, i⟩ := n
  rw [encN_mk] at hm ⊢
  rw [c_impl_NodeOk, t_impl_NodeOk, hm]
  unfold meaR
  cases mok 8 (.mk k d p s c i) with
  | false => rfl
  | true =>
    rw [bif_true, Option.bind_some, un_tri, bif_true, Bool.true_and]
    have e := dec_nat (a := wdN (.mk k d p s c i)) (b := 200)
    have e : decide ((wdN (.mk k d p s c i) : Int) < 200) = _ := e
    rw [e]
    cases decide (dpN (.mk k d p s c i) ≤ 8) <;> rfl
theorem spec_NodeOk_is (n : Nod) (h : okN n) (hsz : szN n ≤ 1048576) : (D T).call F_spec_NodeOk [encN n] = bo (okB n) := by
  have h1 := l4Ok_is n h 8 (by decide) (by decide)
  have h2 := l4Words_is n h hsz 8
  unfold okB
  obtain ⟨k, d, p, s, c, i⟩ := n
  rw [encN_mk] at h1 h2 ⊢
  rw [c_spec_NodeOk, t_spec_NodeOk, h1, Option.bind_some, unB_mk]
  cases hs : okS 8 (.mk k d p s c i) with
  | false => rfl
  | true =>
    rw [h2 hs, bif_true, Option.bind_some, unI_mk, Bool.true_and]
    have e := dec_nat (a := wdN (.mk k d p s c i)) (b := 200)
    have e : decide ((wdN (.mk k d p s c i) : Int) < 200) = _ := e
    rw [e]
def nwN (n : Nod) : Nat := bif okB n then wdN n else 0
theorem impl_NodeWords_is (n : Nod) (h : okN n) (hsz : szN n ≤ 1048576) : (D T).call F_impl_NodeWords [encN n] = nu (nwN n) := by
  have hm := measured_is n h hsz 8 (by decide) (by decide)
  have ho := impl_NodeOk_is n h hsz
  unfold nwN
  have hb : okB n = true → mok 8 n = true := fun h => by rw [okB_mea, Bool.and_eq_true] at h; exact h.1
  obtain ⟨k, d, p, s, c, i⟩ := n
  rw [encN_mk] at hm ho ⊢
  rw [c_impl_NodeWords, t_impl_NodeWords, ho, Option.bind_some, unB_mk]
  cases hs : okB (.mk k d p s c i) with
  | false => rfl
  | true =>
    rw [hm]
    unfold meaR
    rw [hb hs, bif_true, Bool.not_true, bif_false, Option.bind_some, un_tri, bif_true]
theorem spec_NodeWords_is (n : Nod) (h : okN n) (hsz : szN n ≤ 1048576) : (D T).call F_spec_NodeWords [encN n] = nu (nwN n) := by
  have ho := spec_NodeOk_is n h hsz
  have h2 := l4Words_is n h hsz 8
  unfold nwN
  have hb : okB n = true → okS 8 n = true := fun h => by unfold okB at h; rw [Bool.and_eq_true] at h; exact h.1
  obtain ⟨k, d, p, s, c, i⟩ := n
  rw [encN_mk] at h2 ho ⊢
  rw [c_spec_NodeWords, t_spec_NodeWords, ho, Option.bind_some, unB_mk]
  cases hs : okB (.mk k d p s c i) with
  | false => rfl
  | true => rw [h2 (hb hs), Bool.not_true, bif_false, Option.bind_some, unI_mk, bif_true]

/-! ### the laws -/
theorem un_N {R : Type} (n : Nod) (K : Int → ByteArray → List V → Int → Int → List V → Option R) : (unSt 6 (encN n) (unI .i64 (ce (encN n) 0) fun a => unS (ce (encN n) 1) fun b => unL 6 (ce (encN n) 2) fun c => unI .i64 (ce (encN n) 3) fun d => unI .i64 (ce (encN n) 4) fun e => unL 6 (ce (encN n) 5) fun f => K a b c d e f)) =
    match n with | .mk k d p s c i => K k d (encNs p) s c (encNs i) := by cases n; rfl
theorem law_NodeOk (n : Nod) (h : okN n) : (D T).call F_laws_FnExactNodeOk [encN n] = some (.sc (.bool true), []) := by
  have h1 := szNode_is n h 1048576 (Nat.le_refl _)
  have h2 := toNode_is n h
  have h3 := eqNode_is n h n h
  rw [eqN_refl] at h3
  have h4 := impl_NodeOk_is n h
  have h5 := spec_NodeOk_is n h
  obtain ⟨k, d, p, s, c, i⟩ := n
  rw [encN_mk] at h1 h2 h3 h4 h5 ⊢
  have h1 : (D T).call F_laws_szNode [.st [.sc (.int .i64 k), .sc (.string d), .sl 6 (encNs p), .sc (.int .i64 s), .sc (.int .i64 c), .sl 6 (encNs i)], .sc (.int .i64 1048576)] = _ := h1
  rw [c_laws_FnExactNodeOk, t_laws_FnExactNodeOk, h1, Option.bind_some, unI_mk]
  unfold leftI
  by_cases hsz : szN (.mk k d p s c i) ≤ 1048576
  case neg => rw [if_neg hsz]; rfl
  rw [if_pos hsz, decide_eq_false (by omega), bif_false, h2]
  simp only [Option.bind_some]
  have e := un_N (R := Res) (.mk k d p s c i)
  rw [encN_mk] at e
  rw [h5 hsz]
  simp only [Option.bind_some, unB_mk, e, h4 hsz, h3, unSt_mk (R := Res) (n := 6) (cs := [.sc (.int .i64 k), .sc (.string d), .sl 6 (encNs p), .sc (.int .i64 s), .sc (.int .i64 c), .sl 6 (encNs i)]) rfl]
  simp
theorem law_NodeWords (n : Nod) (h : okN n) : (D T).call F_laws_FnExactNodeWords [encN n] = some (.sc (.bool true), []) := by
  have h1 := szNode_is n h 1048576 (Nat.le_refl _)
  have h2 := toNode_is n h
  have h3 := eqNode_is n h n h
  rw [eqN_refl] at h3
  have h4 := impl_NodeWords_is n h
  have h5 := spec_NodeWords_is n h
  obtain ⟨k, d, p, s, c, i⟩ := n
  rw [encN_mk] at h1 h2 h3 h4 h5 ⊢
  have h1 : (D T).call F_laws_szNode [.st [.sc (.int .i64 k), .sc (.string d), .sl 6 (encNs p), .sc (.int .i64 s), .sc (.int .i64 c), .sl 6 (encNs i)], .sc (.int .i64 1048576)] = _ := h1
  rw [c_laws_FnExactNodeWords, t_laws_FnExactNodeWords, h1, Option.bind_some, unI_mk]
  unfold leftI
  by_cases hsz : szN (.mk k d p s c i) ≤ 1048576
  case neg => rw [if_neg hsz]; rfl
  rw [if_pos hsz, decide_eq_false (by omega), bif_false, h2]
  simp only [Option.bind_some]
  have e := un_N (R := Res) (.mk k d p s c i)
  rw [encN_mk] at e
  rw [h5 hsz]
  simp only [Option.bind_some, unB_mk, unI_mk, e, h4 hsz, h3, unSt_mk (R := Res) (n := 6) (cs := [.sc (.int .i64 k), .sc (.string d), .sl 6 (encNs p), .sc (.int .i64 s), .sc (.int .i64 c), .sl 6 (encNs i)]) rfl]
  simp
end Go.Proofs.YtmddfhjgdhjmkaaDoor.VM
