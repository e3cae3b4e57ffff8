/- The one form of a node, by the program and by the reference. -/
import Derived.Test.YtmddfhjgdhjmkaaDoorPBy
set_option linter.unusedVariables false
set_option linter.unusedSimpArgs false
namespace Go.Proofs.YtmddfhjgdhjmkaaDoor.VM

def knd : Nod → Int
  | .mk k _ _ _ _ _ => k
/-- how many there are up to the last that is something -/
def lstN (l : List Nod) : Nat → Nat
  | 0 => 0
  | n + 1 => if knd (l.getD n noN) = 0 then lstN l n else n + 1
def strp (l : List Nod) : List Nod := l.take (lstN l l.length)
def dmx : List Nod → Nat
  | [] => 0
  | x :: l => max (trimD (dat x)).size (dmx l)
def pmx : List Nod → Nat
  | [] => 0
  | x :: l => max (lstN (prs x) (prs x).length) (pmx l)
def cutX (a b : Nat) (x : Nod) : Nod := .mk 1 ((dat x).extract 0 a) ((prs x).take b) 0 0 []
def cutI (l : List Nod) : List Nod := l.map (cutX (dmx l) (pmx l))
mutual
def cn : Nod → Nod
  | .mk k d p s c i =>
    bif decide (k = 1) then .mk 1 (trimD d) (strp (cns p)) 0 0 []
    else bif decide (k = 2) && decide (s = 6) then .mk 2 (.mk (.mk [])) (cns p) s c []
    else bif decide (k = 2) && decide (s = 7) then .mk 2 (.mk (.mk [])) [] s c (cutI (cni i))
    else .mk k d [] s c []
def cns : List Nod → List Nod
  | [] => []
  | n :: l => cn n :: cns l
def cni : List Nod → List Nod
  | [] => []
  | .mk _ d p _ _ _ :: l => .mk 1 d (cns p) 0 0 [] :: cni l
end
theorem cns_map (l : List Nod) : cns l = l.map cn := by
  induction l with
  | nil => rfl
  | cons n l ih => rw [cns, ih]; rfl
theorem cns_length (l : List Nod) : (cns l).length = l.length := by rw [cns_map, List.length_map]
def cx (x : Nod) : Nod := .mk 1 (dat x) (cns (prs x)) 0 0 []
theorem cni_map (l : List Nod) : cni l = l.map cx := by
  induction l with
  | nil => rfl
  | cons n l ih => cases n; rw [cni, ih]; rfl
theorem cni_length (l : List Nod) : (cni l).length = l.length := by rw [cni_map, List.length_map]
theorem encNs_app (a b : List Nod) : encNs (a ++ b) = encNs a ++ encNs b := by rw [encNs_map, encNs_map, encNs_map, List.map_append]
theorem encNs_cons (n : Nod) (l : List Nod) : encNs (n :: l) = encN n :: encNs l := by rw [encNs]
theorem encNs_take (l : List Nod) (n : Nat) : encNs (l.take n) = (encNs l).take n := by rw [encNs_map, encNs_map, List.map_take]
theorem lstN_le (l : List Nod) : ∀ n, lstN l n ≤ n
  | 0 => Nat.le_refl _
  | n + 1 => by
    rw [lstN]
    split
    · exact Nat.le_trans (lstN_le l n) (Nat.le_succ n)
    · exact Nat.le_refl _
theorem chk88 {n : Nat} (h : n ≤ 1048576) : decide ((n + 1) * 88 ≤ 140737488355328) = true := decide_eq_true (by omega)

/-! ### the reference -/
def QS (n : Nod) : Prop := szN n ≤ 1048576 → ∀ deep : Int, okS deep n = true → (D T).call F_spec_l6Canon [encN n] = some (encN (cn n), [])
theorem l6Ptrs_of (p : List Nod) (hl : p.length ≤ 1048576) (h : ∀ n ∈ p, (D T).call F_spec_l6Canon [encN n] = some (encN (cn n), [])) :
    (D T).call F_spec_l6Ptrs [.sl 6 (encNs p)] = some (.sl 6 (encNs (cns p)), []) := by
  have hL : ∀ j, j ≤ p.length → ∀ acc : List V, acc.length = j → L_spec_l6Ptrs_1 (D T) (encNs p) (j : Int) acc = some (.sl 6 (acc ++ encNs (cns (p.drop j))), []) := by
    refine down (fun acc ha => ?_) fun j hj ih acc ha => ?_
    · rw [L_spec_l6Ptrs_1_eq, tL_spec_l6Ptrs_1, encNs_length, nlt_ofNat, List.drop_length, cns, encNs, List.append_nil]; rfl
    · rw [L_spec_l6Ptrs_1_eq, tL_spec_l6Ptrs_1, encNs_length, lt_ofNat hj, bif_true, ix_at (encNs_get p j hj), unSt_encN, h _ (List.getElem_mem hj), Option.bind_some]
      dsimp only
      rw [unSt_encN, wd_encN, ha, chk88 (by omega), bif_true, next_i (by omega), ih _ (by simp [ha]), List.drop_eq_getElem_cons hj, cns, encNs, List.append_assoc]
      rfl
  have e : L_spec_l6Ptrs_0 (D T) (encNs p) 0 [] = L_spec_l6Ptrs_1 (D T) (encNs p) 0 [] := by rw [L_spec_l6Ptrs_0_eq, L_spec_l6Ptrs_1_eq]; rfl
  rw [c_spec_l6Ptrs, t_spec_l6Ptrs, e]
  have := hL 0 (Nat.zero_le _) [] rfl
  rw [List.drop_zero, List.nil_append] at this
  exact this
theorem ce0_knd (x : Nod) : ce (encN x) 0 = .sc (.int .i64 (knd x)) := by cases x; rw [encN_mk]; rfl
theorem w_sub1 {n : Nat} (hn : n + 1 ≤ 140737488351232) : IntKind.wrap .i64 (((n + 1 : Nat) : Int) - 1) = (n : Int) := by
  rw [wrap_id (by omega) (by omega)]; omega
theorem l6Last_is (l : List Nod) (hl : l.length ≤ 1048576) : (D T).call F_spec_l6Last [.sl 6 (encNs l)] = nu (lstN l l.length : Nat) := by
  have hL : ∀ n, n ≤ l.length → L_spec_l6Last_0 (D T) (encNs l) (n : Int) = nu (lstN l n : Nat) := by
    intro n
    induction n with
    | zero => intro _; rw [L_spec_l6Last_0_eq, tL_spec_l6Last_0]; rfl
    | succ n ih =>
      intro hn
      have hg := encNs_get l n (by omega)
      rw [L_spec_l6Last_0_eq, tL_spec_l6Last_0, decide_eq_true (show (0 : Int) < ((n + 1 : Nat) : Int) by omega), bif_true, w_sub1 (by omega), ix_at hg, ce0_knd, unI_mk, lstN]
      have e : l.getD n noN = l[n]'(by omega) := by rw [List.getD_eq_getElem?_getD, List.getElem?_eq_getElem (by omega)]; rfl
      rw [e]
      by_cases h : knd (l[n]'(by omega)) = 0
      · rw [decide_eq_true h, bif_true, if_pos h, ih (by omega)]
      · rw [decide_eq_false h, bif_false, if_neg h]
  rw [c_spec_l6Last, t_spec_l6Last, encNs_length]
  exact hL _ (Nat.le_refl _)
theorem pmx_ge {l : List Nod} : ∀ x ∈ l, lstN (prs x) (prs x).length ≤ pmx l := by
  induction l with
  | nil => exact fun x h => by cases h
  | cons y l ih =>
    intro x h
    rw [pmx]
    rcases List.mem_cons.1 h with rfl | h
    · omega
    · have := ih x h; omega
theorem dmx_ge {l : List Nod} : ∀ x ∈ l, (trimD (dat x)).size ≤ dmx l := by
  induction l with
  | nil => exact fun x h => by cases h
  | cons y l ih =>
    intro x h
    rw [dmx]
    rcases List.mem_cons.1 h with rfl | h
    · omega
    · have := ih x h; omega
theorem dmx_le {l : List Nod} {m : Nat} (h : ∀ x ∈ l, (dat x).size ≤ m) : dmx l ≤ m := by
  induction l with
  | nil => exact Nat.zero_le _
  | cons y l ih =>
    rw [dmx]
    have h1 := h y (List.mem_cons_self ..)
    have h2 := ih fun x hx => h x (List.mem_cons_of_mem _ hx)
    have h3 := tlen_le (bl (dat y)) (dat y).size
    rw [trim_size]
    omega
theorem pmx_le {l : List Nod} {m : Nat} (h : ∀ x ∈ l, (prs x).length ≤ m) : pmx l ≤ m := by
  induction l with
  | nil => exact Nat.zero_le _
  | cons y l ih =>
    rw [pmx]
    have h1 := h y (List.mem_cons_self ..)
    have h2 := ih fun x hx => h x (List.mem_cons_of_mem _ hx)
    have h3 := lstN_le (prs y) (prs y).length
    omega
theorem encN_cx (x : Nod) : encN (cx x) = .st [.sc (.int .i64 1), .sc (.string (dat x)), .sl 6 (encNs (cns (prs x))), .sc (.int .i64 0), .sc (.int .i64 0), .sl 6 []] := by
  unfold cx; rw [encN_mk]; rfl
/-- all of them as long as each other: what the first look gathers, then the cut -/
theorem l6Items_of (i : List Nod) (hl : i.length ≤ 1048576) {a b : Nat} (ha : a ≤ 1048576) (hb : b ≤ 1048576) (hd : ∀ x ∈ i, (dat x).size = a) (hp : ∀ x ∈ i, (prs x).length = b)
    (h : ∀ x ∈ i, (D T).call F_spec_l6Ptrs [.sl 6 (encNs (prs x))] = some (.sl 6 (encNs (cns (prs x))), [])) :
    (D T).call F_spec_l6Items [.sl 6 (encNs i)] = some (.sl 6 (encNs (cutI (cni i))), []) := by
  have hr : reachBytes = 140737488351232 := rfl
  -- the cut
  have hC : ∀ (l : List Nod) (u v : Nat), l.length ≤ 1048576 → (∀ x ∈ l, u ≤ (dat x).size ∧ v ≤ (prs x).length ∧ ∃ d p, x = .mk 1 d p 0 0 []) → ∀ j, j ≤ l.length → ∀ done : List Nod, done.length = j →
      L_spec_l6Items_3 (D T) (u : Int) (v : Int) (j : Int) (encNs (done ++ l.drop j)) = some (.sl 6 (encNs (done ++ (l.drop j).map (cutX u v))), []) := by
    intro l u v hll hx
    refine down (fun done hdn => ?_) fun j hj ih done hdn => ?_
    · rw [L_spec_l6Items_3_eq, tL_spec_l6Items_3, encNs_length, List.drop_length, List.append_nil, hdn, nlt_ofNat, bif_false, List.map_nil, List.append_nil]
    · obtain ⟨h1, h2, d, p, h3⟩ := hx _ (List.getElem_mem hj)
      have hlen : (done ++ l.drop j).length = l.length := by rw [List.length_append, List.length_drop, hdn]; omega
      have hg : (encNs (done ++ l.drop j))[j]? = some (encN l[j]) := by
        rw [encNs_map, List.getElem?_map, List.getElem?_append_right (by omega), hdn, Nat.sub_self, List.getElem?_drop, Nat.add_zero, List.getElem?_eq_getElem hj]; rfl
      rw [L_spec_l6Items_3_eq, tL_spec_l6Items_3]
      simp only [List.length_set, encNs_length, hlen, lt_ofNat hj, le_ofNat, Bool.and_true, Bool.true_and, bif_true, Int.toNat_natCast]
      rw [exN_at hg]
      rw [h3, encN_mk]
      have hd' : (dat l[j]).size = d.size := by rw [h3]; rfl
      have hp' : (prs l[j]).length = p.length := by rw [h3]; rfl
      rw [h3, encN_mk] at hg
      have hjl : j < (encNs (done ++ l.drop j)).length := by rw [encNs_length, hlen]; exact hj
      simp only [ce, List.getD_cons_succ, List.getD_cons_zero, unS_mk, setCe, exN_at hg]
      rw [decide_eq_true (show (u : Int) ≤ Int.ofNat d.size by show (u : Int) ≤ (d.size : Int); omega), bif_true]
      rw [exN_at (List.getElem?_set_self hjl)]
      simp only [List.getD_cons_succ, List.getD_cons_zero, List.set_cons_succ, List.set_cons_zero, unL_mk]
      rw [encNs_length, decide_eq_true (show (v : Int) ≤ Int.ofNat p.length by show (v : Int) ≤ (p.length : Int); omega), bif_true]
      rw [exN_at (List.getElem?_set_self hjl)]
      simp only [List.set_cons_succ, List.set_cons_zero, List.set_set]
      rw [next_i (by omega)]
      have e : (encNs (done ++ l.drop j)).set j (.st [.sc (.int .i64 1), .sc (.string (d.extract 0 u)), .sl 6 (List.take v (encNs p)), .sc (.int .i64 0), .sc (.int .i64 0), .sl 6 (encNs [])]) = encNs ((done ++ [cutX u v l[j]]) ++ l.drop (j + 1)) := by
        rw [List.drop_eq_getElem_cons hj, encNs_app, List.set_append_right _ _ (by rw [encNs_length]; omega), encNs_length, hdn, Nat.sub_self, encNs_cons, List.set_cons_zero, List.append_assoc, encNs_app]
        congr 1
        rw [List.singleton_append, encNs_cons, h3]
        unfold cutX
        rw [encN_mk, encNs_take]; rfl
      rw [e, ih (done ++ [cutX u v l[j]]) (by simp [hdn]), List.drop_eq_getElem_cons hj, List.map_cons, List.append_assoc, List.singleton_append]
  -- the first look
  have hL : ∀ j, j ≤ i.length → ∀ (u v : Nat) (done : List Nod), done.length = j → L_spec_l6Items_1 (D T) (encNs i) (u : Int) (v : Int) (j : Int) (encNs done) =
      L_spec_l6Items_3 (D T) ((max u (dmx (cni (i.drop j))) : Nat) : Int) ((max v (pmx (cni (i.drop j))) : Nat) : Int) 0 (encNs (done ++ cni (i.drop j))) := by
    refine down (fun u v done hdn => ?_) fun j hj ih u v done hdn => ?_
    · rw [L_spec_l6Items_1_eq, tL_spec_l6Items_1, encNs_length, nlt_ofNat, List.drop_length, cni, dmx, pmx, List.append_nil, Nat.max_zero, Nat.max_zero]; rfl
    · have hg := encNs_get i j hj
      have hm := List.getElem_mem hj
      have hsz := hd _ hm
      have hpz := hp _ hm
      have hq := h _ hm
      have e1 : cni (i.drop j) = cx i[j] :: cni (i.drop (j + 1)) := by rw [cni_map, cni_map, List.drop_eq_getElem_cons hj, List.map_cons]
      rw [L_spec_l6Items_1_eq, tL_spec_l6Items_1, encNs_length, lt_ofNat hj, bif_true, ix_at hg, ce1_dat, unS_mk, ix_at hg, ce2_prs, unL_mk, hq, Option.bind_some]
      dsimp only
      rw [unL_mk, encNs_length, hdn, chk88 (by omega), bif_true, l1Trim_is _ (by omega), l6Last_is _ (by rw [cns_length]; omega), next_i (by omega)]
      simp only [Option.bind_some, unS_mk, unI_mk]
      have e2 : encNs done ++ [.st [.sc (.int .i64 1), .sc (.string (dat i[j])), .sl 6 (encNs (cns (prs i[j]))), .sc (.int .i64 0), .sc (.int .i64 0), .sl 6 []]] = encNs (done ++ [cx i[j]]) := by
        rw [encNs_app, encNs, encNs, encN_cx]
      rw [e2, e1, dmx, pmx]
      have e3 : dat (cx i[j]) = dat i[j] := rfl
      have e4 : prs (cx i[j]) = cns (prs i[j]) := rfl
      rw [e3, e4]
      generalize lstN (cns (prs i[j])) (cns (prs i[j])).length = pv
      have e5 : done ++ cx i[j] :: cni (i.drop (j + 1)) = (done ++ [cx i[j]]) ++ cni (i.drop (j + 1)) := by simp
      rw [e5]
      generalize (trimD (dat i[j])).size = dv
      rw [← Nat.max_assoc, ← Nat.max_assoc]
      by_cases c1 : u < dv <;> by_cases c2 : v < pv
      · rw [decide_eq_true (show (u : Int) < Int.ofNat dv by show (u : Int) < (dv : Int); omega), decide_eq_true (show (v : Int) < (pv : Int) by omega), bif_true, bif_true]
        have := ih dv pv (done ++ [cx i[j]]) (by simp [hdn])
        rw [show Int.ofNat dv = (dv : Int) from rfl, this, Nat.max_eq_right (show u ≤ dv by omega), Nat.max_eq_right (show v ≤ pv by omega)]
      · rw [decide_eq_true (show (u : Int) < Int.ofNat dv by show (u : Int) < (dv : Int); omega), decide_eq_false (show ¬ (v : Int) < (pv : Int) by omega), bif_true, bif_false]
        have := ih dv v (done ++ [cx i[j]]) (by simp [hdn])
        rw [show Int.ofNat dv = (dv : Int) from rfl, this, Nat.max_eq_right (show u ≤ dv by omega), Nat.max_eq_left (show pv ≤ v by omega)]
      · rw [decide_eq_false (show ¬ (u : Int) < Int.ofNat dv by show ¬ (u : Int) < (dv : Int); omega), decide_eq_true (show (v : Int) < (pv : Int) by omega), bif_true, bif_false]
        have := ih u pv (done ++ [cx i[j]]) (by simp [hdn])
        rw [this, Nat.max_eq_left (show dv ≤ u by omega), Nat.max_eq_right (show v ≤ pv by omega)]
        rfl
      · rw [decide_eq_false (show ¬ (u : Int) < Int.ofNat dv by show ¬ (u : Int) < (dv : Int); omega), decide_eq_false (show ¬ (v : Int) < (pv : Int) by omega), bif_false, bif_false]
        have := ih u v (done ++ [cx i[j]]) (by simp [hdn])
        rw [this, Nat.max_eq_left (show dv ≤ u by omega), Nat.max_eq_left (show pv ≤ v by omega)]
  rw [c_spec_l6Items, t_spec_l6Items]
  cases i with
  | nil =>
    rw [L_spec_l6Items_0_eq, tL_spec_l6Items_0]
    show L_spec_l6Items_2 (D T) 0 0 0 [] = _
    rw [L_spec_l6Items_2_eq, tL_spec_l6Items_2]
    rfl
  | cons x i =>
    have e : L_spec_l6Items_0 (D T) (encNs (x :: i)) 0 0 0 [] = L_spec_l6Items_1 (D T) (encNs (x :: i)) 0 0 0 [] := by
      rw [L_spec_l6Items_0_eq, L_spec_l6Items_1_eq, tL_spec_l6Items_0, tL_spec_l6Items_1, encNs_length]
      have : decide ((0 : Int) < Int.ofNat (x :: i).length) = true := lt_ofNat0 (by simp)
      rw [this, bif_true, bif_true]
    rw [e]
    have h0 := hL 0 (Nat.zero_le _) 0 0 [] rfl
    rw [List.drop_zero, List.nil_append, Nat.zero_max, Nat.zero_max] at h0
    have h0 : L_spec_l6Items_1 (D T) (encNs (x :: i)) 0 0 0 [] = _ := h0
    rw [h0]
    have hx : ∀ y ∈ cni (x :: i), dat y = dat y ∧ (dat y).size = a ∧ (prs y).length = b ∧ ∃ d p, y = .mk 1 d p 0 0 [] := by
      intro y hy
      rw [cni_map] at hy
      obtain ⟨z, hz, rfl⟩ := List.mem_map.1 hy
      refine ⟨rfl, hd z hz, ?_, dat z, cns (prs z), rfl⟩
      show (cns (prs z)).length = b
      rw [cns_length]; exact hp z hz
    have h1 := hC (cni (x :: i)) (dmx (cni (x :: i))) (pmx (cni (x :: i))) (by rw [cni_length]; exact hl) (fun y hy => by
      obtain ⟨_, g1, g2, g3⟩ := hx y hy
      refine ⟨?_, ?_, g3⟩
      · rw [g1]; exact dmx_le fun z hz => (hx z hz).2.1 ▸ Nat.le_refl _
      · rw [g2]; exact pmx_le fun z hz => (hx z hz).2.2.1 ▸ Nat.le_refl _) 0 (Nat.zero_le _) [] rfl
    rw [List.drop_zero, List.nil_append] at h1
    have h1 : L_spec_l6Items_3 (D T) _ _ 0 _ = _ := h1
    rw [h1, List.nil_append]
    rfl
theorem str_form {x : Nod} (h : strB x = true) : ∃ d p, x = .mk 1 d p 0 0 [] ∧ d.size % 8 = 0 := by
  obtain ⟨k, d, p, s, c, i⟩ := x
  obtain ⟨rfl, h1, rfl, rfl, rfl⟩ := str_c h
  exact ⟨d, p, rfl, h1⟩
/-- items are structs as long as each other -/
theorem items_form {i : List Nod} (h : allStr i = true) : ∃ a b, (∀ x ∈ i, (dat x).size = a) ∧ (∀ x ∈ i, (prs x).length = b) ∧ ∀ x ∈ i, ∃ d p, x = .mk 1 d p 0 0 [] ∧ d.size % 8 = 0 := by
  obtain ⟨h1, h2⟩ := allStr_iff.1 h
  cases i with
  | nil => exact ⟨0, 0, fun x h => (by cases h), fun x h => (by cases h), fun x h => (by cases h)⟩
  | cons y l =>
    have hl : ∀ x ∈ y :: l, likeB y x = true := List.all_eq_true.1 h1
    have hz : ∀ x ∈ y :: l, (dat x).size = (dat y).size ∧ (prs x).length = (prs y).length := fun x hx => by
      have := hl x hx
      obtain ⟨k, d, p, s, c, i⟩ := x
      obtain ⟨k', d', p', s', c', i'⟩ := y
      simp only [likeB, Bool.and_eq_true, decide_eq_true_eq] at this
      exact this.2
    exact ⟨(dat y).size, (prs y).length, fun x hx => (hz x hx).1, fun x hx => (hz x hx).2, fun x hx => str_form (h2 x hx)⟩
theorem sz_parts {k : Int} {d : ByteArray} {p : List Nod} {s c : Int} {i : List Nod} {m : Nat} (h : szN (.mk k d p s c i) ≤ m) : d.size ≤ m ∧ p.length ≤ m ∧ i.length ≤ m ∧ (∀ n ∈ p, szN n ≤ m) ∧ (∀ n ∈ i, szN n ≤ m) := by
  simp only [szN] at h
  refine ⟨by omega, by omega, by omega, fun n hn => ?_, fun n hn => ?_⟩
  · have := szT_mem hn; omega
  · have := szT_mem hn; omega
theorem sz_datx {x : Nod} {m : Nat} (h : szN x ≤ m) : (dat x).size ≤ m ∧ (prs x).length ≤ m ∧ ∀ n ∈ prs x, szN n ≤ m := by
  obtain ⟨k, d, p, s, c, i⟩ := x
  obtain ⟨h1, h2, _, h3, _⟩ := sz_parts h
  exact ⟨h1, h2, h3⟩
theorem spec_canon_is : ∀ n, szN n ≤ 1048576 → ∀ deep : Int, okS deep n = true → (D T).call F_spec_l6Canon [encN n] = some (encN (cn n), []) := by
  have hr : reachBytes = 140737488351232 := rfl
  refine Nod.ind2 fun k d p s c i hp hi => ?_
  intro hsz deep hS
  obtain ⟨z1, z2, z3, z4, z5⟩ := sz_parts hsz
  obtain ⟨hSp, hSi⟩ := okS_parts hS
  have hP := l6Ptrs_of p z2 fun n hn => hp n hn (z4 n hn) _ (okSs_iff.1 hSp n hn)
  rw [encN_mk, c_spec_l6Canon, t_spec_l6Canon]
  rcases okS_form hS with h | h | h
  · obtain ⟨rfl, hd, rfl, rfl, rfl, rfl⟩ := h
    rfl
  · obtain ⟨rfl, h1, rfl, rfl, rfl⟩ := str_c h
    rw [decide_eq_true (show (1 : Int) = 1 from rfl), bif_true, hP, Option.bind_some]
    dsimp only
    rw [unL_mk, l1Trim_is d (by omega), Option.bind_some]
    dsimp only
    rw [unS_mk, l6Last_is _ (by rw [cns_length]; omega), Option.bind_some]
    dsimp only
    have hle := lstN_le (cns p) (cns p).length
    rw [unI_mk, encNs_length, le_ofNat, decide_eq_true (show ((lstN (cns p) (cns p).length : Nat) : Int) ≤ Int.ofNat (cns p).length by show ((lstN (cns p) (cns p).length : Nat) : Int) ≤ ((cns p).length : Int); omega), Int.toNat_natCast, ← encNs_take]
    rfl
  · obtain ⟨rfl, h1, h2, h3⟩ := lst_c h
    rw [decide_eq_false (show ¬ (2 : Int) = 1 by omega), bif_false, decide_eq_true (show (2 : Int) = 2 from rfl), bif_true, bif_true]
    rcases h3 with ⟨rfl, h4, h5, rfl⟩ | ⟨rfl, h4, h5, rfl, h6⟩ | ⟨h4, rfl, rfl, h5⟩
    · rw [decide_eq_true (show (6 : Int) = 6 from rfl), bif_true, hP]; rfl
    · obtain ⟨a, b, g1, g2, g3⟩ := items_form h4
      have hIt : (D T).call F_spec_l6Items [.sl 6 (encNs i)] = some (.sl 6 (encNs (cutI (cni i))), []) := by
        cases i with
        | nil => exact l6Items_of [] z3 (a := 0) (b := 0) (by omega) (by omega) (fun x hx => by cases hx) (fun x hx => by cases hx) fun x hx => by cases hx
        | cons y l =>
          have hy := sz_datx (z5 y (List.mem_cons_self ..))
          refine l6Items_of _ z3 (a := a) (b := b) (by have := g1 y (List.mem_cons_self ..); omega) (by have := g2 y (List.mem_cons_self ..); omega) g1 g2 fun x hx => ?_
          obtain ⟨_, q2, q3⟩ := sz_datx (z5 x hx)
          exact l6Ptrs_of _ q2 fun n hn => (hi x hx).2 n hn (q3 n hn) _ (okSs_iff.1 (okSi_mem hSi x hx) n hn)
      rw [decide_eq_false (show ¬ (7 : Int) = 6 by omega), decide_eq_true (show (7 : Int) = 7 from rfl), bif_false, bif_true, hIt]; rfl
    · rw [decide_eq_false (show ¬ s = 6 by omega), decide_eq_false (show ¬ s = 7 by omega), bif_false, bif_false]
      rw [cn, decide_eq_false (show ¬ (2 : Int) = 1 by omega), decide_eq_false (show ¬ s = 6 by omega), decide_eq_false (show ¬ s = 7 by omega), Bool.and_false, bif_false, bif_false, bif_false, encN_mk]
      simp [encNs]

/-! ### the program -/
theorem mx_i (u v : Nat) : (if (u : Int) < Int.ofNat v then Int.ofNat v else (u : Int)) = ((max u v : Nat) : Int) := by
  rw [show Int.ofNat v = (v : Int) from rfl]
  split <;> omega
def padX (a b : Nat) (x : Nod) : Nod := .mk 1 (dat x ++ zeros (a - (dat x).size)) (prs x ++ List.replicate (b - (prs x).length) noN) 0 0 []
theorem encN_no : encN noN = .st [.sc (.int .i64 0), .sc (.string (.mk (.mk []))), .sl 6 [], .sc (.int .i64 0), .sc (.int .i64 0), .sl 6 []] := rfl
theorem widened_is (d : ByteArray) (p : List Nod) (a b : Nat) (ha : a ≤ 1048576) (hb : b ≤ 1048576) (hd : d.size ≤ a) (hp : p.length ≤ b) :
    (D T).call F_impl_Node_widened [encN (.mk 1 d p 0 0 []), .sc (.int .i64 (a : Int)), .sc (.int .i64 (b : Int))] = some (encN (padX a b (.mk 1 d p 0 0 [])), []) := by
  have hL : ∀ m, ∀ acc : List Nod, acc.length + m = b → L_impl_Node_widened_1 (D T) (b : Int) 1 (d ++ zeros (a - d.size)) (encNs p) 0 0 [] 0 (.mk (.mk [])) 0 0 (encNs acc) =
      some (.st [.sc (.int .i64 1), .sc (.string (d ++ zeros (a - d.size))), .sl 6 (encNs (acc ++ List.replicate m noN)), .sc (.int .i64 0), .sc (.int .i64 0), .sl 6 []], []) := by
    intro m
    induction m with
    | zero =>
      intro acc h
      rw [L_impl_Node_widened_1_eq, tL_impl_Node_widened_1, encNs_length, decide_eq_false (show ¬ Int.ofNat acc.length < (b : Int) by show ¬ (acc.length : Int) < (b : Int); omega), bif_false, List.replicate_zero, List.append_nil]
    | succ m ih =>
      intro acc h
      rw [L_impl_Node_widened_1_eq, tL_impl_Node_widened_1, encNs_length, decide_eq_true (show Int.ofNat acc.length < (b : Int) by show (acc.length : Int) < (b : Int); omega), bif_true, chk88 (by omega), bif_true]
      have e : encNs acc ++ [.st [.sc (.int .i64 0), .sc (.string (.mk (.mk []))), .sl 6 [], .sc (.int .i64 0), .sc (.int .i64 0), .sl 6 []]] = encNs (acc ++ [noN]) := by rw [encNs_app, encNs_cons, encN_no]; rfl
      rw [e, ih (acc ++ [noN]) (by rw [List.length_append]; show acc.length + 1 + m = b; omega), List.append_assoc, List.singleton_append, ← List.replicate_succ]
  have e1 : L_impl_Node_widened_0 (D T) (b : Int) 1 (d ++ zeros (a - d.size)) (encNs p) 0 0 [] 0 (.mk (.mk [])) 0 0 (encNs p) = L_impl_Node_widened_1 (D T) (b : Int) 1 (d ++ zeros (a - d.size)) (encNs p) 0 0 [] 0 (.mk (.mk [])) 0 0 (encNs p) := by
    rw [L_impl_Node_widened_0_eq, L_impl_Node_widened_1_eq]; rfl
  have ew : IntKind.wrap .i64 ((a : Int) - Int.ofNat d.size) = ((a - d.size : Nat) : Int) := by
    show IntKind.wrap .i64 ((a : Int) - (d.size : Int)) = _
    rw [wrap_id (by omega) (by omega)]; omega
  have ez := zeros_size (a - d.size)
  rw [encN_mk, c_impl_Node_widened, t_impl_Node_widened, ew, if_neg (by omega), repeat_is _ (by omega), Option.bind_some]
  dsimp only
  rw [unS_mk, ez, decide_eq_true (show d.size + (a - d.size) ≤ 9223372036854775807 by omega), bif_true, encNs_length, decide_eq_true (show (0 + p.length) * 88 ≤ 140737488355328 by omega), bif_true]
  show L_impl_Node_widened_0 (D T) (b : Int) 1 (d ++ zeros (a - d.size)) (encNs p) 0 0 [] 0 (.mk (.mk [])) 0 0 (encNs p) = _
  rw [e1, hL (b - p.length) p (by omega)]
  unfold padX
  rw [encN_mk]
  rfl
theorem knd_cn (n : Nod) : knd (cn n) = knd n := by
  obtain ⟨k, d, p, s, c, i⟩ := n
  rw [cn]
  by_cases h1 : k = 1
  · subst h1; rfl
  rw [decide_eq_false h1, bif_false]
  by_cases h2 : k = 2
  · subst h2
    rw [decide_eq_true (show (2 : Int) = 2 from rfl), Bool.true_and, Bool.true_and]
    cases decide (s = 6) <;> cases decide (s = 7) <;> rfl
  · rw [decide_eq_false h2]; rfl
theorem cn_no {n : Nod} {deep : Int} (h : okS deep n = true) (hk : knd (cn n) = 0) : cn n = noN := by
  rw [knd_cn] at hk
  obtain ⟨k, d, p, s, c, i⟩ := n
  rcases okS_form h with h | h | h
  · obtain ⟨rfl, h1, rfl, rfl, rfl, rfl⟩ := h
    rw [emp_of h1]; rfl
  · have := (str_c h).1; simp only [knd] at hk; omega
  · have := (lst_c h).1; simp only [knd] at hk; omega
theorem pad_strp {l : List Nod} (hz : ∀ x ∈ l, knd x = 0 → x = noN) : ∀ n, n ≤ l.length → ∀ m, m ≤ n → lstN l n ≤ m → l.take m = l.take (lstN l n) ++ List.replicate (m - lstN l n) noN := by
  intro n
  induction n with
  | zero => intro _ m hm _; obtain rfl : m = 0 := by omega
            rfl
  | succ n ih =>
    intro hn m hm hl
    have hlt : n < l.length := by omega
    have e : l.getD n noN = l[n] := by rw [List.getD_eq_getElem?_getD, List.getElem?_eq_getElem hlt]; rfl
    rw [lstN, e] at hl ⊢
    split at hl
    · rename_i h0
      rw [if_pos h0]
      by_cases hmn : m ≤ n
      · exact ih (by omega) m hmn hl
      · obtain rfl : m = n + 1 := by omega
        have h1 := ih (by omega) n (Nat.le_refl _) (lstN_le l n)
        have h2 := hz _ (List.getElem_mem hlt) h0
        have h3 := lstN_le l n
        rw [List.take_add_one, List.getElem?_eq_getElem hlt, h2, h1, Option.toList_some, List.append_assoc, show n + 1 - lstN l n = (n - lstN l n) + 1 by omega, List.replicate_succ']
    · rename_i h0
      rw [if_neg h0]
      obtain rfl : m = n + 1 := by omega
      rw [Nat.sub_self, List.replicate_zero, List.append_nil]
theorem strp_length (l : List Nod) : (strp l).length = lstN l l.length := by
  unfold strp
  rw [List.length_take]
  exact Nat.min_eq_left (lstN_le _ _)
theorem cn_str (d : ByteArray) (p i : List Nod) (s c : Int) : cn (.mk 1 d p s c i) = .mk 1 (trimD d) (strp (cns p)) 0 0 [] := by rw [cn]; rfl
/-- what is widened again is what is cut -/
theorem pad_cut {d : ByteArray} {p : List Nod} {a b : Nat} {deep : Int} (hp : okSs deep p = true) (ha : a ≤ d.size) (hb : b ≤ p.length) (h1 : (trimD d).size ≤ a) (h2 : lstN (cns p) (cns p).length ≤ b) :
    padX a b (cn (.mk 1 d p 0 0 [])) = cutX a b (cx (.mk 1 d p 0 0 [])) := by
  rw [cn_str]
  unfold padX cutX cx
  simp only [dat, prs]
  have e1 : trimD d ++ zeros (a - (trimD d).size) = d.extract 0 a := bl_ext (by
    rw [trim_size] at h1 ⊢
    have := pad_eq (l := bl d) (n := d.size) (m := a) (Nat.le_refl _) ha h1
    have e0 : bl (trimD d) = (bl d).take (tlen (bl d) d.size) := by unfold trimD; rw [bl_extract, List.drop_zero]
    rw [bl_append, e0, bl_extract, List.drop_zero, this]
    rfl)
  have e2 : strp (cns p) ++ List.replicate (b - (strp (cns p)).length) noN = (cns p).take b := by
    rw [strp_length]
    refine (pad_strp (fun x hx h0 => ?_) _ (Nat.le_refl _) b (by rw [cns_length]; exact hb) h2).symm
    rw [cns_map] at hx
    obtain ⟨n, hn, rfl⟩ := List.mem_map.1 hx
    exact cn_no (okSs_iff.1 hp n hn) h0
  rw [e1, e2]
theorem impl_canon_is : ∀ n, szN n ≤ 1048576 → ∀ deep : Int, okS deep n = true → (D T).call F_impl_canon [encN n] = some (encN (cn n), []) := by
  have hr : reachBytes = 140737488351232 := rfl
  refine Nod.ind2 fun k d p s c i hp hi => ?_
  intro hsz deep hS
  obtain ⟨z1, z2, z3, z4, z5⟩ := sz_parts hsz
  obtain ⟨hSp, hSi⟩ := okS_parts hS
  rw [encN_mk, c_impl_canon, t_impl_canon, encNs_length]
  -- the pointers
  have hP1 : ∀ j, j ≤ p.length → ∀ acc : List V, acc.length ≤ j → L_impl_canon_1 (D T) (encNs p) (Int.ofNat p.length) (j : Int) k d (encNs p) s c (encNs i) 0 (.mk (.mk [])) 0 0 acc =
      L_impl_canon_3 (D T) 0 0 (encNs i) (Int.ofNat i.length) 0 k d (encNs p) s c (encNs i) 0 (.mk (.mk [])) 0 0 (acc ++ encNs (cns (p.drop j))) := by
    refine down (fun acc ha => ?_) fun j hj ih acc ha => ?_
    · rw [L_impl_canon_1_eq, tL_impl_canon_1, nlt_ofNat, bif_false, encNs_length, List.drop_length, cns, encNs, List.append_nil]
    · have hm := List.getElem_mem hj
      have hc := hp _ hm (z4 _ hm) _ (okSs_iff.1 hSp _ hm)
      rw [List.drop_eq_getElem_cons hj, cns, encNs_cons]
      rw [L_impl_canon_1_eq, tL_impl_canon_1, lt_ofNat hj, bif_true, ix_at (encNs_get p j hj), next_i (by omega)]
      generalize p[j] = x at hc
      obtain ⟨k', d', p', s', c', i'⟩ := x
      rw [encN_mk] at hc
      rw [un_encN]
      dsimp only
      rw [hc, Option.bind_some]
      dsimp only
      rw [unSt_encN, wd_encN, chk88 (by omega), bif_true, ih _ (by rw [List.length_append]; show acc.length + 1 ≤ j + 1; omega), List.append_assoc, List.singleton_append]
  have hP0 : L_impl_canon_0 (D T) (encNs p) (Int.ofNat p.length) 0 k d (encNs p) s c (encNs i) 0 (.mk (.mk [])) 0 0 =
      bif decide (p.length = 0) then L_impl_canon_2 (D T) 0 0 (encNs i) (Int.ofNat i.length) 0 k d (encNs p) s c (encNs i) 0 (.mk (.mk [])) 0 0
      else L_impl_canon_3 (D T) 0 0 (encNs i) (Int.ofNat i.length) 0 k d (encNs p) s c (encNs i) 0 (.mk (.mk [])) 0 0 (encNs (cns p)) := by
    rw [L_impl_canon_0_eq, tL_impl_canon_0]
    by_cases h0 : p.length = 0
    · rw [decide_eq_true h0, decide_eq_false (show ¬ (0 : Int) < Int.ofNat p.length by show ¬ (0 : Int) < (p.length : Int); omega), bif_false, bif_true, encNs_length]
    · have hj : 0 < p.length := by omega
      have hm := List.getElem_mem hj
      have hc := hp _ hm (z4 _ hm) _ (okSs_iff.1 hSp _ hm)
      have h1 := fun acc h => hP1 1 (by omega) acc h
      have e : encNs (cns p) = encN (cn p[0]) :: encNs (cns (p.drop 1)) := by
        have := List.drop_eq_getElem_cons hj
        rw [List.drop_zero] at this
        conv => lhs; rw [this]
        rw [cns, encNs_cons]
      rw [decide_eq_false h0, bif_false, lt_ofNat0 hj, bif_true, ix_at0 (encNs_get p 0 hj), next0, e]
      generalize p[0] = x at hc
      obtain ⟨k', d', p', s', c', i'⟩ := x
      rw [encN_mk] at hc
      rw [un_encN]
      dsimp only
      rw [hc, Option.bind_some]
      dsimp only
      rw [unSt_encN, wd_encN]
      exact h1 _ (by show 1 ≤ 1; omega)
  rw [hP0]
  -- without items
  have hE2 : i = [] → L_impl_canon_2 (D T) 0 0 (encNs i) (Int.ofNat i.length) 0 k d (encNs p) s c (encNs i) 0 (.mk (.mk [])) 0 0 =
      bif decide (k = 1) then some (.st [.sc (.int .i64 k), .sc (.string (trimD d)), .sl 6 [], .sc (.int .i64 s), .sc (.int .i64 c), .sl 6 []], []) else some (.st [.sc (.int .i64 k), .sc (.string d), .sl 6 [], .sc (.int .i64 s), .sc (.int .i64 c), .sl 6 []], []) := by
    rintro rfl
    rw [L_impl_canon_2_eq, tL_impl_canon_2]
    show L_impl_canon_5 (D T) 0 0 0 0 k d (encNs p) s c [] 0 (.mk (.mk [])) 0 0 = _
    rw [L_impl_canon_5_eq, tL_impl_canon_5, decide_eq_false (show ¬ (0 : Int) < 0 by omega), bif_false, trimmed_is d (by omega), Option.bind_some]
    dsimp only
    rw [unS_mk, L_impl_canon_9_eq]
    rfl
  have hE3 : i = [] → L_impl_canon_3 (D T) 0 0 (encNs i) (Int.ofNat i.length) 0 k d (encNs p) s c (encNs i) 0 (.mk (.mk [])) 0 0 (encNs (cns p)) =
      bif decide (k = 1) then some (.st [.sc (.int .i64 k), .sc (.string (trimD d)), .sl 6 (encNs (strp (cns p))), .sc (.int .i64 s), .sc (.int .i64 c), .sl 6 []], []) else some (.st [.sc (.int .i64 k), .sc (.string d), .sl 6 (encNs (cns p)), .sc (.int .i64 s), .sc (.int .i64 c), .sl 6 []], []) := by
    rintro rfl
    have hl : (cns p).length ≤ 1048576 := by rw [cns_length]; exact z2
    have hS : ∀ n, n ≤ (cns p).length → L_impl_canon_11 (D T) k (trimD d) ((encNs (cns p)).take n) s c 0 (.mk (.mk [])) 0 0 =
        some (.st [.sc (.int .i64 k), .sc (.string (trimD d)), .sl 6 ((encNs (cns p)).take (lstN (cns p) n)), .sc (.int .i64 s), .sc (.int .i64 c), .sl 6 []], []) := by
      generalize cns p = l at hl
      intro n
      induction n with
      | zero => intro _; rw [L_impl_canon_11_eq, tL_impl_canon_11]; rfl
      | succ n ih =>
        intro hn
        have e0 : ((encNs l).take (n + 1)).length = n + 1 := by rw [List.length_take, encNs_length]; omega
        have hg : ((encNs l).take (n + 1))[n]? = some (encN l[n]) := by rw [List.getElem?_take, if_pos (by omega), encNs_get l n (by omega)]
        have e1 : l.getD n noN = l[n]'(by omega) := by rw [List.getD_eq_getElem?_getD, List.getElem?_eq_getElem (by omega)]; rfl
        have ew : IntKind.wrap .i64 (Int.ofNat (n + 1) - 1) = (n : Int) := w_sub1 (by omega)
        rw [L_impl_canon_11_eq, tL_impl_canon_11]
        simp only [e0]
        rw [ew, lt_ofNat0 (show 0 < n + 1 by omega), bif_true, le_ofNat, lt_ofNat (show n < n + 1 by omega), Bool.and_true, bif_true, Int.toNat_natCast, exN_at hg, ce0_knd, unI_mk, lstN, e1, decide_true, decide_eq_true (show (n : Int) ≤ Int.ofNat (n + 1) by show (n : Int) ≤ ((n + 1 : Nat) : Int); omega)]
        by_cases h : knd (l[n]'(by omega)) = 0
        · rw [decide_eq_true h, bif_true, if_pos h, List.take_take, Nat.min_eq_left (by omega), ih (by omega)]; rfl
        · rw [decide_eq_false h, bif_false, if_neg h]
    have hS1 := hS _ (Nat.le_refl _)
    rw [show (encNs (cns p)).take (cns p).length = encNs (cns p) by rw [← encNs_length, List.take_length]] at hS1
    rw [L_impl_canon_3_eq, tL_impl_canon_3]
    show L_impl_canon_7 (D T) 0 0 0 0 k d (encNs p) s c [] 0 (.mk (.mk [])) 0 0 (encNs (cns p)) = _
    rw [L_impl_canon_7_eq, tL_impl_canon_7, decide_eq_false (show ¬ (0 : Int) < 0 by omega), bif_false, trimmed_is d (by omega), Option.bind_some]
    dsimp only
    rw [unS_mk, hS1]
    unfold strp
    rw [encNs_take]
  rcases okS_form hS with h | h | h
  · obtain ⟨rfl, hd, rfl, rfl, rfl, rfl⟩ := h
    rw [show decide (([] : List Nod).length = 0) = true from rfl, bif_true, hE2 rfl]
    rfl
  · obtain ⟨rfl, h1, rfl, rfl, rfl⟩ := str_c h
    rw [cn_str, encN_mk, hE2 rfl, hE3 rfl, decide_eq_true (show (1 : Int) = 1 from rfl), bif_true, bif_true]
    by_cases h0 : p.length = 0
    · obtain rfl := List.eq_nil_of_length_eq_zero h0
      rfl
    · rw [decide_eq_false h0]; rfl
  · obtain ⟨rfl, h1, h2, h3⟩ := lst_c h
    rcases h3 with ⟨rfl, h4, h5, rfl⟩ | ⟨rfl, h4, h5, rfl, h6⟩ | ⟨h4, rfl, rfl, h5⟩
    · rw [hE2 rfl, hE3 rfl, decide_eq_false (show ¬ (2 : Int) = 1 by omega), bif_false, bif_false, cn, decide_eq_false (show ¬ (2 : Int) = 1 by omega), emp_of h4]
      by_cases h0 : p.length = 0
      · obtain rfl := List.eq_nil_of_length_eq_zero h0
        rfl
      · rw [decide_eq_false h0]
        show some _ = some (encN (.mk 2 (.mk (.mk [])) (cns p) 6 c []), [])
        rw [encN_mk]; rfl
    · -- structs side by side
      rw [show decide (([] : List Nod).length = 0) = true from rfl, bif_true]
      cases i with
      | nil =>
        rw [hE2 rfl, decide_eq_false (show ¬ (2 : Int) = 1 by omega), bif_false, emp_of h5]
        rfl
      | cons y l =>
        obtain ⟨a, b, g1, g2, g3⟩ := items_form h4
        have hy := sz_datx (z5 y (List.mem_cons_self ..))
        have ga := g1 y (List.mem_cons_self ..)
        have gb := g2 y (List.mem_cons_self ..)
        have h1d : 1 ≤ deep := by
          rw [okS, decide_eq_false (show ¬ (2 : Int) = 0 by omega), bif_false, Bool.and_eq_true, decide_eq_true_eq] at hS
          exact hS.1
        have hcn : ∀ x ∈ y :: l, ∃ d' p', x = .mk 1 d' p' 0 0 [] ∧ d'.size = a ∧ p'.length = b ∧ okSs (deep - 1) p' = true ∧ (D T).call F_impl_canon [.st [.sc (.int .i64 1), .sc (.string d'), .sl 6 (encNs p'), .sc (.int .i64 0), .sc (.int .i64 0), .sl 6 []]] = some (encN (.mk 1 (trimD d') (strp (cns p')) 0 0 []), []) := by
          intro x hx
          have q1 := okSi_mem hSi x hx
          have q2 := (allStr_iff.1 h4).2 x hx
          have q3 := g1 x hx
          have q4 := g2 x hx
          have q5 := (hi x hx).1 (z5 x hx) deep
          obtain ⟨d', p', rfl, _⟩ := g3 x hx
          refine ⟨d', p', rfl, q3, q4, q1, ?_⟩
          rw [encN_mk, cn_str] at q5
          refine q5 ?_
          rw [okS, decide_eq_false (show ¬ (1 : Int) = 0 by omega), bif_false, decide_eq_true h1d, q2]
          have q1 : okSs (deep - 1) p' = true := q1
          rw [q1]; rfl
        generalize hLL : y :: l = L at hcn z3
        have hLn : 0 < L.length := by rw [← hLL]; simp
        have hle : ∀ (l' : ByteArray), (trimD l').size ≤ l'.size := fun l' => by rw [trim_size]; exact tlen_le _ _
        -- all of them widened
        have hW : ∀ (u v : Nat), u ≤ a → v ≤ b → (∀ x ∈ L, (trimD (dat x)).size ≤ u ∧ (strp (cns (prs x))).length ≤ v) → ∀ j, j ≤ L.length → ∀ done : List Nod, done.length = j →
            L_impl_canon_8 (D T) (u : Int) (v : Int) (Int.ofNat L.length) (j : Int) 2 d (encNs []) 7 c (encNs L) 0 (.mk (.mk [])) 0 0 (encNs (done ++ (L.drop j).map cn)) =
              some (.st [.sc (.int .i64 2), .sc (.string d), .sl 6 [], .sc (.int .i64 7), .sc (.int .i64 c), .sl 6 (encNs (done ++ (L.drop j).map fun x => padX u v (cn x)))], []) := by
          intro u v hu hv hx
          refine down (fun done hdn => ?_) fun j hj ih done hdn => ?_
          · rw [L_impl_canon_8_eq, tL_impl_canon_8, nlt_ofNat, bif_false, decide_eq_false (show ¬ (2 : Int) = 1 by omega), bif_false, List.drop_length]; rfl
          · have hm := List.getElem_mem hj
            obtain ⟨d', p', hx1, hx2, hx3, hx4, _⟩ := hcn _ hm
            obtain ⟨hx5, hx6⟩ := hx _ hm
            rw [hx1] at hx5 hx6
            have hlen : (encNs (done ++ (L.drop j).map cn)).length = L.length := by rw [encNs_length, List.length_append, List.length_map, List.length_drop, hdn]; omega
            have hg : (encNs (done ++ (L.drop j).map cn))[j]? = some (encN (cn L[j])) := by
              rw [encNs_map, List.getElem?_map, List.getElem?_append_right (by omega), hdn, Nat.sub_self, List.getElem?_map, List.getElem?_drop, Nat.add_zero, List.getElem?_eq_getElem hj]; rfl
            have hwd := widened_is (trimD d') (strp (cns p')) u v (by omega) (by omega) hx5 hx6
            rw [encN_mk] at hwd
            rw [L_impl_canon_8_eq, tL_impl_canon_8, lt_ofNat hj, bif_true]
            simp only [hlen, lt_ofNat hj, le_ofNat, Bool.and_true, bif_true, Int.toNat_natCast]
            rw [exN_at hg, hx1, cn_str, un_encN]
            dsimp only
            rw [show encNs [] = [] from rfl] at hwd
            rw [show encNs [] = [] from rfl, hwd, Option.bind_some]
            dsimp only
            rw [unSt_encN, wd_encN, exN_at hg, next_i (by omega)]
            have e : (encNs (done ++ (L.drop j).map cn)).set j (encN (padX u v (.mk 1 (trimD d') (strp (cns p')) 0 0 []))) = encNs ((done ++ [padX u v (cn L[j])]) ++ (L.drop (j + 1)).map cn) := by
              rw [List.drop_eq_getElem_cons hj, List.map_cons, encNs_app, List.set_append_right _ _ (by rw [encNs_length]; omega), encNs_length, hdn, Nat.sub_self, encNs_cons, List.set_cons_zero, List.append_assoc, encNs_app]
              congr 1
              rw [List.singleton_append, encNs_cons, hx1, cn_str]
            rw [e, show ([] : List V) = encNs [] from rfl, ih (done ++ [padX u v (cn L[j])]) (by simp [hdn]), List.drop_eq_getElem_cons hj, List.map_cons, List.append_assoc, List.singleton_append]
            rfl
        -- the first look
        have hV : ∀ j, j ≤ L.length → ∀ (u v : Nat) (done : List Nod), done.length = j → L_impl_canon_4 (D T) (u : Int) (v : Int) (encNs L) (Int.ofNat L.length) (j : Int) 2 d (encNs []) 7 c (encNs L) 0 (.mk (.mk [])) 0 0 (encNs done) =
            L_impl_canon_8 (D T) ((max u (dmx (cni (L.drop j))) : Nat) : Int) ((max v (pmx (cni (L.drop j))) : Nat) : Int) (Int.ofNat L.length) 0 2 d (encNs []) 7 c (encNs L) 0 (.mk (.mk [])) 0 0 (encNs (done ++ (L.drop j).map cn)) := by
          refine down (fun u v done hdn => ?_) fun j hj ih u v done hdn => ?_
          · rw [L_impl_canon_4_eq, tL_impl_canon_4, nlt_ofNat, bif_false, List.drop_length, cni, dmx, pmx, Nat.max_zero, Nat.max_zero, List.map_nil, List.append_nil, encNs_length, hdn]
          · have hm := List.getElem_mem hj
            obtain ⟨d', p', hx1, hx2, hx3, hx4, hx5⟩ := hcn _ hm
            have e1 : cni (L.drop j) = cx L[j] :: cni (L.drop (j + 1)) := by rw [cni_map, cni_map, List.drop_eq_getElem_cons hj, List.map_cons]
            rw [L_impl_canon_4_eq, tL_impl_canon_4, lt_ofNat hj, bif_true, ix_at (encNs_get L j hj)]
            rw [hx1, un_encN]
            dsimp only
            rw [show encNs [] = [] from rfl, hx5, Option.bind_some]
            dsimp only
            rw [un_encN]
            dsimp only
            rw [encNs_length, encNs_length, hdn, chk88 (by omega), bif_true, mx_i, mx_i, next_i (by omega)]
            have e2 : encNs done ++ [.st [.sc (.int .i64 1), .sc (.string (trimD d')), .sl 6 (encNs (strp (cns p'))), .sc (.int .i64 0), .sc (.int .i64 0), .sl 6 (encNs [])]] = encNs (done ++ [cn L[j]]) := by
              rw [encNs_app, encNs_cons, hx1, cn_str, encN_mk]; rfl
            rw [e2, show ([] : List V) = encNs [] from rfl, ih _ _ (done ++ [cn L[j]]) (by simp [hdn]), e1, dmx, pmx, hx1]
            have e3 : dat (cx (.mk 1 d' p' 0 0 [])) = d' := rfl
            have e4 : prs (cx (.mk 1 d' p' 0 0 [])) = cns p' := rfl
            rw [e3, e4, strp_length, Nat.max_assoc, Nat.max_assoc, List.drop_eq_getElem_cons hj, List.map_cons, List.append_assoc, List.singleton_append, hx1]
        have hVV := hV 1 hLn
        have hm0 := List.getElem_mem hLn
        obtain ⟨d', p', hx1, hx2, hx3, hx4, hx5⟩ := hcn _ hm0
        rw [L_impl_canon_2_eq, tL_impl_canon_2, lt_ofNat0 hLn, bif_true, ix_at0 (encNs_get L 0 hLn)]
        rw [hx1, un_encN]
        dsimp only
        rw [show encNs [] = [] from rfl] at hVV ⊢
        rw [hx5, Option.bind_some]
        dsimp only
        rw [un_encN]
        dsimp only
        rw [encNs_length, show (0 : Int) = ((0 : Nat) : Int) from rfl, mx_i, mx_i]
        have e2 : [V.st [.sc (.int .i64 1), .sc (.string (trimD d')), .sl 6 (encNs (strp (cns p'))), .sc (.int .i64 ((0 : Nat) : Int)), .sc (.int .i64 ((0 : Nat) : Int)), .sl 6 (encNs [])]] = encNs [cn L[0]] := by
          rw [encNs_cons, hx1, cn_str, encN_mk]; rfl
        rw [e2, show IntKind.wrap .i64 (((0 : Nat) : Int) + 1) = ((1 : Nat) : Int) from next_i (by omega), Nat.zero_max, Nat.zero_max]
        have e5 : cni L = cx L[0] :: cni (L.drop 1) := by
          have := List.drop_eq_getElem_cons hLn
          rw [List.drop_zero] at this
          conv => lhs; rw [this]
          rw [cni_map, cni_map, List.map_cons]
        have e6 : L.map cn = [cn L[0]] ++ (L.drop 1).map cn := by
          have := List.drop_eq_getElem_cons hLn
          rw [List.drop_zero] at this
          conv => lhs; rw [this]
          rfl
        have h7 := hVV (trimD d').size (strp (cns p')).length [cn L[0]] rfl
        have e7 : max (trimD d').size (dmx (cni (L.drop 1))) = dmx (cni L) := by rw [e5, dmx, hx1]; rfl
        have e8 : max (strp (cns p')).length (pmx (cni (L.drop 1))) = pmx (cni L) := by rw [e5, pmx, hx1, strp_length]; rfl
        rw [e7, e8, ← e6] at h7
        have hxx : ∀ x ∈ L, dat (cx x) = dat x ∧ prs (cx x) = cns (prs x) := fun x _ => ⟨rfl, rfl⟩
        have hu : dmx (cni L) ≤ a := dmx_le fun x hx => by
          rw [cni_map] at hx
          obtain ⟨z, hz, rfl⟩ := List.mem_map.1 hx
          rw [(hxx z hz).1]
          obtain ⟨_, _, rfl, q, _⟩ := hcn z hz
          exact q ▸ Nat.le_refl _
        have hv : pmx (cni L) ≤ b := pmx_le fun x hx => by
          rw [cni_map] at hx
          obtain ⟨z, hz, rfl⟩ := List.mem_map.1 hx
          rw [(hxx z hz).2, cns_length]
          obtain ⟨_, _, rfl, _, q, _⟩ := hcn z hz
          exact q ▸ Nat.le_refl _
        have hge : ∀ x ∈ L, (trimD (dat x)).size ≤ dmx (cni L) ∧ (strp (cns (prs x))).length ≤ pmx (cni L) := fun x hx => by
          have hm : cx x ∈ cni L := by rw [cni_map]; exact List.mem_map_of_mem hx
          rw [strp_length]
          exact ⟨dmx_ge (cx x) hm, pmx_ge (cx x) hm⟩
        have h8 := hW _ _ hu hv hge 0 (Nat.zero_le _) [] rfl
        rw [List.drop_zero, List.nil_append, List.nil_append] at h8
        have h9 : (L.map fun x => padX (dmx (cni L)) (pmx (cni L)) (cn x)) = cutI (cni L) := by
          unfold cutI
          conv => rhs; arg 2; rw [cni_map]
          rw [List.map_map]
          refine List.map_congr_left fun x hx => ?_
          obtain ⟨d2, p2, rfl, q1, q2, q3, _⟩ := hcn x hx
          obtain ⟨q4, q5⟩ := hge _ hx
          exact pad_cut q3 (by omega) (by omega) q4 (by rw [← strp_length]; exact q5)
        rw [h9] at h8
        refine h7.trans (Eq.trans ?_ (h8.trans ?_))
        · rfl
        · rw [cn, decide_eq_false (show ¬ (2 : Int) = 1 by omega), decide_eq_false (show ¬ (7 : Int) = 6 by omega), emp_of h5]
          show some _ = some (encN (.mk 2 (.mk (.mk [])) [] 7 c (cutI (cni L))), [])
          rw [encN_mk]; rfl
    · rw [show decide (([] : List Nod).length = 0) = true from rfl, bif_true, hE2 rfl]
      rw [cn, decide_eq_false (show ¬ (2 : Int) = 1 by omega), decide_eq_false (show ¬ s = 6 by omega), decide_eq_false (show ¬ s = 7 by omega), Bool.and_false, bif_false, bif_false, bif_false, bif_false, encN_mk]
      rfl
end Go.Proofs.YtmddfhjgdhjmkaaDoor.VM
