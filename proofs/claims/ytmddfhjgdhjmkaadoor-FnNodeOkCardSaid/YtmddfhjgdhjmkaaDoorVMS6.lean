/- The abstract machine and the memory: conversions, literals, new rows, function values, builtins. -/
import Derived.Test.YtmddfhjgdhjmkaaDoorVMS5
import Derived.Laws.MakeOwn
set_option linter.unusedVariables false
set_option linter.unusedSimpArgs false
namespace Go.Proofs.YtmddfhjgdhjmkaaDoor.VM
open Go.RowKit

section
variable {P : Program} {T : TT} {U : Nat → Prop} {w0 w : World} {F0 : Fr} {σ : St} {a : Act} {ow : Own} {R : Type} {r : R}
variable {o : Oper} {d : Nat} {K : V → Ob → List (Nat × Option Nat) → Option R}

theorem intTy_some {t : Ty} {k : IntKind} (h : intTy t = some k) : t = .c (.i k) := by
  unfold intTy at h
  split at h
  · cases h; rfl
  · cases h
theorem tyInt (hT : TOk P T) {t : TypeId} {k : IntKind} (h : intTy (T.ty t) = some k) : P.underlying t = some (.int k) := by
  obtain ⟨dd, i, h1, _, _, _, h2⟩ := hT.tyc t _ (intTy_some h)
  have h2 : dd = .int k := h2
  rw [h1, h2]
theorem isStr_some {t : Ty} (h : isStrTy t = true) : t = .c .tx := by
  unfold isStrTy at h
  split at h
  · rfl
  · cases h

theorem unBytes_some : ∀ {xs : List V} {K : List UInt8 → Option R}, unBytes xs K = some r → ∃ ns : List Int, xs = ns.map (fun n => .sc (.int .u8 n)) ∧ K (ns.map fun n => UInt8.ofNat n.toNat) = some r
  | [], K, h => ⟨[], rfl, h⟩
  | x :: xs, K, h => by
    unfold unBytes at h
    obtain ⟨m, rfl, h1⟩ := unI_some h
    obtain ⟨ns, rfl, h2⟩ := unBytes_some h1
    exact ⟨m :: ns, rfl, h2⟩

theorem FR.sc_inv {A : Nat → Prop} {cs : List Value} {u : Value} (h : FR w A cs (.sc u)) : cs = [u] := by
  cases h; rfl

theorem FR.bytes {A : Nat → Prop} {u : Value} {ns : List Int} (h : FR w A [u] (.sl 1 (ns.map fun n => .sc (.int .u8 n)))) :
    ∃ b c, u = .slice b ns.length c ∧ ((b = none ∧ ns = []) ∨ ns = [] ∨ ∃ bb off, b = some ⟨bb, off, none⟩ ∧ ∀ i, i < ns.length → w.cell? ⟨bb, off + i, none⟩ = some (.int .u8 (ns.getD i 0))) := by
  cases h with
  | sl bb off ec hn hc ha hl hx =>
    simp only [List.length_map] at hn
    subst hn
    refine ⟨_, _, rfl, ?_⟩
    rcases Nat.eq_zero_or_pos ns.length with h0 | h0
    · exact .inr (.inl (List.eq_nil_of_length_eq_zero h0))
    · refine .inr (.inr ⟨bb, off, (ha h0).1, fun i hi => ?_⟩)
      obtain ⟨h1, h2⟩ := hl i hi
      have hx' := hx i (.sc (.int .u8 (ns.getD i 0))) (by simp [List.getElem?_map, List.getD_eq_getElem?_getD, List.getElem?_eq_getElem hi])
      rw [hx'.sc_inv] at h2
      have := h2 0 _ rfl
      simpa using this

theorem q_convert (hT : TOk P T) (h : Sim T.globL U w0 F0 σ a w ow) {s t : TypeId} {x : Operand} (ho : o.op = .convert s t x)
    (hk : (match intTy (T.ty s), intTy (T.ty t) with
    | some _, some k => asI (val T σ x) fun n => K (.sc (.int k (k.wrap n))) .none []
    | _, _ => bif memN T.u8L s && isStrTy (T.ty t) then asList (lkE σ) 1 (val T σ x) fun xs => unBytes xs fun l => K (.sc (.string ⟨l.toArray⟩)) .none [] else none) = some r) : Good P T U w0 F0 σ a w o d K r := by
  split at hk
  · rename_i k0 k hs ht
    obtain ⟨ik, n, hx, hK⟩ := asI_some hk
    refine ⟨_, .none, [], hK, fun _ => done_plain h (exec_convert ho (u := .int k (k.wrap n)) ?_) (FR.sc rfl : FR w (Fz U w ow σ.ob) [.int k (k.wrap n)] _)⟩
    rw [(val_sc h hx).1]
    simp [convert, run_underlying (tyInt hT hs), run_underlying (tyInt hT ht), Conv.intToInt]
  · obtain ⟨h0, hk2⟩ := bif_some hk
    simp only [Bool.and_eq_true] at h0
    obtain ⟨e, hs, he⟩ := hT.u8 s h0.1
    obtain ⟨dd, ii, hd, _, _, _, hd2⟩ := hT.tyc t _ (isStr_some h0.2)
    have hd2 : dd = .string := hd2
    subst hd2
    have hv := val_sr h x
    have fin : ∀ ns : List Int, K (.sc (.string ⟨(ns.map fun n => UInt8.ofNat n.toNat).toArray⟩)) .none [] = some r →
        (∃ b c, a.eval x = .slice b ns.length c ∧ ((b = none ∧ ns = []) ∨ ns = [] ∨ ∃ bb off, b = some ⟨bb, off, none⟩ ∧ ∀ i, i < ns.length → w.cell? ⟨bb, off + i, none⟩ = some (.int .u8 (ns.getD i 0)))) → Good P T U w0 F0 σ a w o d K r := by
      rintro ns hK ⟨b, c, hu, hcs⟩
      refine ⟨_, .none, [], hK, fun _ => done_plain h (exec_convert ho (u := .string ⟨(ns.map fun n : Int => UInt8.ofNat n.toNat).toArray⟩) ?_) (FR.sc rfl : FR w (Fz U w ow σ.ob) [.string ⟨(ns.map fun n => UInt8.ofNat n.toNat).toArray⟩] (.sc (.string ⟨(ns.map fun n => UInt8.ofNat n.toNat).toArray⟩)))⟩
      rw [hu]
      rcases hcs with ⟨rfl, rfl⟩ | rfl | ⟨bb, off, rfl, hc⟩
      · exact run_convert_bytes_nil w s e hs he 0 c t hd
      · rw [run_convert_bytes_string w s t e b _ c hs he hd]
        cases b with
        | none => simp [Conv.bytesToString]; rfl
        | some b => simp [Conv.bytesToString, loadCells]; rfl
      · exact run_convert_bytes_arg w s e hs he bb off _ c ns rfl hc t hd
    unfold asList at hk2
    split at hk2
    · rename_i z xs hx
      obtain ⟨hz, hk3⟩ := bif_some hk2
      have := beq_nat.1 hz
      subst this
      obtain ⟨ns, rfl, hK⟩ := unBytes_some hk3
      rw [hx] at hv
      exact fin ns hK (FR.bytes hv)
    · rename_i hx
      rw [hx] at hv
      have hv' : FR w (Fz U w ow σ.ob) [a.eval x] .nil := hv
      obtain ⟨ns, hns, hK⟩ := unBytes_some hk2
      have : ns = [] := by cases ns <;> first | rfl | cases hns
      subst this
      refine fin [] hK ?_
      generalize a.eval x = u at hv'
      cases hv'
      exact ⟨none, 0, rfl, .inl ⟨rfl, rfl⟩⟩
    · rename_i k c m hx
      split at hk2
      · rename_i oo z xs hr
        obtain ⟨o', hr'⟩ := obRow_eO hr
        obtain ⟨hz, hk3⟩ := bif_some hk2
        have := beq_nat.1 hz
        subst this
        obtain ⟨ns, hns, hK⟩ := unBytes_some hk3
        rw [hx] at hv
        obtain ⟨o3, z3, xs3, cp, f1, f2, f3, f4, f5⟩ := hv
        have hr'' : obRow (fun k => σ.ob.getD k .none) k c = some (o', 1, xs) := hr'
        rw [hr''] at f1
        cases f1
        obtain ⟨cc, hrow⟩ := h.ho.row hr''
        have hlen : ns.length = cutLen xs m := by rw [← length_cut f3, hns, List.length_map]
        refine fin ns hK ⟨_, cp, by rw [f2, hlen], .inr (.inr ⟨_, _, rfl, fun i hi => ?_⟩)⟩
        have hxi : (cut xs m)[i]? = some (.sc (.int .u8 (ns.getD i 0))) := by
          rw [hns]; simp [List.getElem?_map, List.getD_eq_getElem?_getD, List.getElem?_eq_getElem hi]
        obtain ⟨ecs, g1, g2, g3⟩ := hrow.at_ i _ (getElem?_cut hxi)
        rw [g3.sc_inv] at g2
        have := g2 0 _ rfl
        simpa using this
      · cases hk2
    · cases hk2

theorem oneOr_fr {A : Nat → Prop} {ecs : List Value} {cs : List V} (hl : ecs.length = cs.length) (h : ∀ (j : Nat) v c, ecs[j]? = some v → cs[j]? = some c → FR w A [v] c) : FR w A ecs (oneOr cs) := by
  unfold oneOr
  split
  · match ecs, hl with
    | [v], _ => exact h 0 v _ rfl rfl
  · exact .st hl h

theorem zero_fr (hT : TOk P T) {A : Nat → Prop} {t : TypeId} {cs : List V} (hz : T.zero t = some cs) : ∃ i v, P.info? t = some i ∧ i.zero = some v ∧ v.cells.size = i.size ∧ i.size = cs.length ∧ FR w A v.cells.toList (oneOr cs) := by
  obtain ⟨i, v, h1, h2, h3, h4, h5⟩ := hT.zero t cs hz
  have hl : v.cells.toList.length = cs.length := by rw [← h3]; simp
  refine ⟨i, v, h1, h2, by rw [← Array.length_toList]; omega, h5, oneOr_fr hl fun j u c hu hc => ?_⟩
  rw [← h3, List.getElem?_map, hu] at hc
  have hc' : c = constC u := by simpa using hc.symm
  subst hc'
  exact (constC_fr u (h4 _ (by rw [← h3]; exact List.mem_map_of_mem (List.mem_of_getElem? hu)))).2

theorem madeCells_at {z : Array Value} {n i j : Nat} {v : Value} (hj : z.toList[j]? = some v) (hi : i * z.size + j < n) : (madeCells z n)[i * z.size + j]? = some v := by
  have hjl : j < z.size := by have := (List.getElem?_eq_some_iff.1 hj).1; simpa using this
  have hm : (i * z.size + j) % z.size = j := by rw [Nat.mul_comm, Nat.mul_add_mod]; exact Nat.mod_eq_of_lt hjl
  simp only [madeCells, Array.getElem?_map]
  rw [Array.getElem?_range, if_pos hi]
  simp only [Option.map_some, hm, Option.some.injEq]
  rw [Array.getElem?_toList] at hj
  simp [getElem!_def, hj]

theorem rows_made {A : Nat → Prop} {zc : Array Value} {n : Nat} {x : V} (hx : FR w A zc.toList x) (i : Nat) (y : V) (hy : (List.replicate n x)[i]? = some y) :
    ∃ ecs, ecs.length = zc.size ∧ (∀ (j : Nat) v, ecs[j]? = some v → (madeCells zc (n * zc.size))[i * zc.size + j]? = some v) ∧ FR w A ecs y := by
  have hi : i < n := by have := (List.getElem?_eq_some_iff.1 hy).1; simpa using this
  rw [List.getElem?_replicate, if_pos hi] at hy
  cases hy
  refine ⟨zc.toList, by simp, fun j v hj => madeCells_at hj ?_, hx⟩
  have hjl : j < zc.size := by have := (List.getElem?_eq_some_iff.1 hj).1; simpa using this
  have : i * zc.size + zc.size ≤ n * zc.size := by rw [← Nat.succ_mul]; exact Nat.mul_le_mul_right _ hi
  omega

theorem q_makeSlice (hT : TOk P T) (h : Sim T.globL U w0 F0 σ a w ow) {t : TypeId} {l c : Operand} (ho : o.op = .makeSlice t l c)
    (hk : (match T.el t with
    | some (e, z) => match T.zero e, T.esz e with
      | some zs, some by_ => asI (val T σ l) fun n => asI (val T σ c) fun m => chk (decide (0 ≤ n) && decide (n = m) && decide (n.toNat * by_ ≤ 140737488355328)) (K (.ref d none none) (.row true z (List.replicate n.toNat (oneOr zs))) [])
      | _, _ => none
    | none => none) = some r) : Good P T U w0 F0 σ a w o d K r := by
  split at hk
  · rename_i e z hel
    split at hk
    · rename_i zs by_ hz hb
      obtain ⟨k1, n, hl, hk2⟩ := asI_some hk
      obtain ⟨k2, m, hm, hk3⟩ := asI_some hk2
      obtain ⟨hc, hK⟩ := chk_some hk3
      simp only [Bool.and_eq_true, decide_eq_true_eq] at hc
      obtain ⟨⟨h0, rfl⟩, hle⟩ := hc
      obtain ⟨i1, g1, g2, g3, g4⟩ := hT.el t e z hel
      obtain ⟨i2, v, f1, f2, f3, f4, f5⟩ := zero_fr (w := w) (A := Fz U w ow σ.ob) hT hz
      obtain ⟨i3, b1, b2, b3⟩ := hT.esz e by_ hb
      rw [g2] at f1 b1
      cases f1; cases b1
      refine ⟨_, _, _, hK, fun hd => ?_⟩
      have hd2 : σ.ob.getD d .none = .none ∧ F0.pn d = none := by rcases hd with hd | hd; cases hd; exact hd
      have hd' := hd2.1
      obtain ⟨n', rfl⟩ : ∃ n' : Nat, n = n' := ⟨n.toNat, by omega⟩
      simp only [Int.toNat_natCast] at hle ⊢
      have hby : (i1.bytes : Int) * (n' : Int) ≤ 281474976710656 := by
        have : ((i1.bytes * n' : Nat) : Int) ≤ 281474976710656 := by
          rw [Nat.mul_comm, b2]; omega
        rwa [Int.natCast_mul] at this
      have h63 : (n' : Int) ≤ 9223372036854775807 := by
        have := Nat.le_mul_of_pos_right n' b3
        omega
      have hrun := run_make (P := P) w t e i1 v g1 g2 f2 k1 k2 n' n' (by omega) (by omega) hby h63
      simp only [Int.toNat_natCast] at hrun
      refine ⟨_, _, upd ow d (fun _ => w.heap.size), exec_makeSlice ho (by rw [(val_sc h hl).1, (val_sc h hm).1]; exact hrun), ?_⟩
      have hnr := h.newRow d hd' hd2.2 (madeCells v.cells (n' * i1.size)) e z n' (List.replicate n' (oneOr zs)) (by simp) (by rw [size_madeCells, g3]; exact Nat.le_refl _) (fun i x hx => by
        obtain ⟨ecs, q1, q2, q3⟩ := rows_made f5 i x hx
        rw [f3, g3] at q1 q2
        exact ⟨ecs, q1, by rw [g3]; exact q2, q3⟩)
      rw [List.length_replicate] at hnr
      exact hnr
    · cases hk
  · cases hk

/-! ### literals -/
theorem foldl_set (off : Nat) : ∀ (l : List Value) (j0 : Nat) (arr : Array Value), off + j0 + l.length ≤ arr.size →
    ((l.zipIdx j0).foldl (fun cs (p : Value × Nat) => cs.setIfInBounds (off + p.2) p.1) arr).size = arr.size ∧
    ∀ q, ((l.zipIdx j0).foldl (fun cs (p : Value × Nat) => cs.setIfInBounds (off + p.2) p.1) arr)[q]? = if off + j0 ≤ q ∧ q < off + j0 + l.length then l[q - (off + j0)]? else arr[q]?
  | [], j0, arr, _ => ⟨rfl, fun q => by rw [if_neg (by simp only [List.length_nil]; omega)]; rfl⟩
  | v :: l, j0, arr, h => by
    simp only [List.length_cons] at h
    simp only [List.zipIdx_cons, List.foldl_cons]
    obtain ⟨h1, h2⟩ := foldl_set off l (j0 + 1) (arr.setIfInBounds (off + j0) v) (by simp; omega)
    refine ⟨by rw [h1]; simp, fun q => ?_⟩
    rw [h2 q]
    simp only [List.length_cons]
    by_cases hq : off + (j0 + 1) ≤ q ∧ q < off + (j0 + 1) + l.length
    · rw [if_pos hq, if_pos (by omega), show q - (off + j0) = (q - (off + (j0 + 1))) + 1 by omega, List.getElem?_cons_succ]
    · rw [if_neg hq]
      by_cases hq0 : q = off + j0
      · subst hq0
        rw [if_pos (by omega), Nat.sub_self, List.getElem?_cons_zero]
        simp [show off + j0 < arr.size by omega]
      · rw [if_neg (by omega), Array.getElem?_setIfInBounds_ne (by omega)]

theorem setPart_get : ∀ (ps cs : List V) (off q : Nat), off + ps.length ≤ cs.length → (setPart cs off ps).length = cs.length ∧
    (setPart cs off ps)[q]? = if off ≤ q ∧ q < off + ps.length then ps[q - off]? else cs[q]?
  | [], cs, off, q, _ => ⟨rfl, by rw [if_neg (by simp only [List.length_nil]; omega)]; rfl⟩
  | p :: ps, cs, off, q, h => by
    simp only [List.length_cons] at h
    obtain ⟨h1, h2⟩ := setPart_get ps (cs.set off p) (off + 1) q (by simp; omega)
    refine ⟨by unfold setPart; rw [h1]; simp, ?_⟩
    unfold setPart
    rw [h2]
    simp only [List.length_cons]
    by_cases hq : off + 1 ≤ q ∧ q < off + 1 + ps.length
    · rw [if_pos hq, if_pos (by omega), show q - off = (q - (off + 1)) + 1 by omega, List.getElem?_cons_succ]
    · rw [if_neg hq, getElem?_set_V]
      by_cases hq0 : q = off
      · subst hq0
        rw [if_pos ⟨rfl, by omega⟩, if_pos (by omega), Nat.sub_self, List.getElem?_cons_zero]
      · rw [if_neg (fun hh => hq0 hh.1), if_neg (by omega)]

/-- the cells of a part -/
theorem partCs_some {A : Nat → Prop} {ob : List Ob} {u : Value} {v : V} (hu : SR w A ow ob u v) {K : List V → Option R} (h : partCs v K = some r) :
    ∃ ps, K ps = some r ∧ u.cells.size = ps.length ∧ ∀ (j : Nat) q c, u.cells[j]? = some q → ps[j]? = some c → SC w A ow ob q c := by
  have one : v ≠ .dead → SC w A ow ob u v → K [v] = some r → ∃ ps, K ps = some r ∧ u.cells.size = ps.length ∧ ∀ (j : Nat) q c, u.cells[j]? = some q → ps[j]? = some c → SC w A ow ob q c := fun hd hs hK => by
    have hc := cells_of_one (hs.one hd)
    refine ⟨[v], hK, by rw [hc]; rfl, fun j q c hq hcc => ?_⟩
    rw [hc] at hq
    cases j with
    | zero => simp at hq hcc; subst hq; subst hcc; exact hs
    | succ j => simp at hcc
  cases v with
  | st cs =>
    obtain ⟨arr, rfl, e2, e3⟩ := hu
    exact ⟨cs, h, e2, e3⟩
  | dt y => simp [partCs] at h
  | dead => simp [partCs] at h
  | tup vs => simp [partCs] at h
  | _ => exact one (by simp) hu h

theorem fill_ok {A : Nat → Prop} {ob : List Ob} (place : Nat → Option (Nat × Nat)) : ∀ (ps : List (Nat × Value)) (vs : List (Nat × V)) (arr : Array Value) (cs : List V) {K : List V → Option R},
    ps.length = vs.length → (∀ (i : Nat) p q, ps[i]? = some p → vs[i]? = some q → p.1 = q.1 ∧ SR w A ow ob p.2 q.2) →
    arr.size = cs.length → (∀ (j : Nat) u c, arr[j]? = some u → cs[j]? = some c → SC w A ow ob u c) → fillP place cs vs K = some r →
    ∃ arr' cs', Instr.fill place arr ps = some arr' ∧ K cs' = some r ∧ arr'.size = cs'.length ∧ ∀ (j : Nat) u c, arr'[j]? = some u → cs'[j]? = some c → SC w A ow ob u c
  | [], [], arr, cs, K, _, _, h2, h3, hk => ⟨arr, cs, rfl, hk, h2, h3⟩
  | [], _ :: _, _, _, _, h0, _, _, _, _ => by simp at h0
  | _ :: _, [], _, _, _, h0, _, _, _, _ => by simp at h0
  | (i, u) :: ps, (i', v) :: vs, arr, cs, K, h0, h1, h2, h3, hk => by
    obtain ⟨hii, hv⟩ := h1 0 _ _ rfl rfl
    have hii : i = i' := hii
    subst hii
    have hv2 : SR w A ow ob u v := hv
    simp only [fillP] at hk
    split at hk
    · rename_i off z hp
      obtain ⟨p, hk2, hsz, hps⟩ := partCs_some hv2 hk
      obtain ⟨hc, hk3⟩ := bif_some hk2
      simp only [Bool.and_eq_true] at hc
      have hz := beq_nat.1 hc.1
      have hle := Nat.le_of_ble_eq_true hc.2
      have hf := foldl_set off u.cells.toList 0 arr (by simp only [Array.length_toList]; omega)
      have hcells : u.cells.zipIdx.foldl (fun cs (p : Value × Nat) => cs.setIfInBounds (off + p.2) p.1) arr = (u.cells.toList.zipIdx 0).foldl (fun cs (p : Value × Nat) => cs.setIfInBounds (off + p.2) p.1) arr := by
        rw [← Array.foldl_toList, Array.toList_zipIdx]
      have hsp := fun q => setPart_get p cs off q (by omega)
      obtain ⟨arr', cs', g1, g2, g3, g4⟩ := fill_ok (A := A) (ob := ob) place ps vs _ (setPart cs off p) (by simpa using h0)
        (fun j p q hp hq => h1 (j + 1) p q (by simpa using hp) (by simpa using hq)) (by rw [hf.1, (hsp 0).1]; exact h2) (fun j q c hq hc => by
          rw [hf.2 j] at hq
          rw [(hsp j).2] at hc
          simp only [Array.length_toList, Nat.add_zero] at hq
          by_cases hj : off ≤ j ∧ j < off + p.length
          · rw [if_pos (by omega), Array.getElem?_toList] at hq
            rw [if_pos hj] at hc
            exact hps _ _ _ hq hc
          · rw [if_neg (by omega)] at hq
            rw [if_neg hj] at hc
            exact h3 j q c hq hc) hk3
      refine ⟨arr', cs', ?_, g2, g3, g4⟩
      simp only [Instr.fill, hp]
      rw [if_neg (by simp; omega)]
      rw [← hcells] at g1
      exact g1
    · cases hk

theorem q_build (hT : TOk P T) (h : Sim T.globL U w0 F0 σ a w ow) {t : TypeId} {ps : Array (Nat × Operand)} (ho : o.op = .build t ps)
    (hk : (match T.ty t, T.zero t, fnd T.offL t with
    | .agg _, some zs, some l => fillP (fun f => l[f]?) zs (ps.toList.map fun p => (p.1, val T σ p.2)) fun cs => K (.st cs) .none []
    | _, _, _ => none) = some r) : Good P T U w0 F0 σ a w o d K r := by
  split at hk
  · rename_i ss zs l hty hz hl
    obtain ⟨it, v, h1, h2, h3, h4, h5⟩ := hT.zero t zs hz
    obtain ⟨fs, g1, g2⟩ := hT.off t l hl
    obtain ⟨arr, cs, f1, f2, f3, f4⟩ := fill_ok (A := Fz U w ow σ.ob) (ob := σ.ob) (ow := ow) (w := w) (fun f => l[f]?) (ps.toList.map fun p => (p.1, a.eval p.2)) _ v.cells zs (by simp)
      (fun i p q hp hq => by
        simp only [List.getElem?_map] at hp hq
        cases hi : ps.toList[i]? with
        | none => rw [hi] at hp; cases hp
        | some y =>
          rw [hi] at hp hq
          simp only [Option.map_some, Option.some.injEq] at hp hq
          subst hp; subst hq
          exact ⟨rfl, val_sr h y.2⟩) (by rw [← h3]; simp) (fun j u c hu hc => by
        rw [← h3, List.getElem?_map, Array.getElem?_toList, hu] at hc
        simp only [Option.map_some, Option.some.injEq] at hc
        subst hc
        exact constC_sc u) hk
    have hb : P.built t ((ps.map fun (i, x) => (i, a.eval x)).toList) = some arr := by
      unfold Program.built
      simp only [h1, h2, g1, g2]
      rw [Array.toList_map]
      simpa using f1
    exact ⟨_, .none, [], f2, fun _ => done_plain h (exec_build ho (run_build w t _ arr hb)) ⟨arr, rfl, f3, f4⟩⟩
  · cases hk

/-- a slice literal -/
def Rows (w : World) (A : Nat → Prop) (z : Nat) (arr : Array Value) (xs : List V) : Prop :=
  ∀ (i : Nat) x, xs[i]? = some x → ∃ ecs, ecs.length = z ∧ (∀ (j : Nat) v, ecs[j]? = some v → arr[i * z + j]? = some v) ∧ FR w A ecs x

theorem row_apart {i j z p q : Nat} (h : i * z + p = j * z + q) (hp : p < z) (hq : q < z) : i = j ∧ p = q := by
  have h1 : (i * z + p) / z = i := by rw [Nat.mul_comm, Nat.mul_add_div (by omega)]; simp [Nat.div_eq_of_lt hp]
  have h2 : (j * z + q) / z = j := by rw [Nat.mul_comm, Nat.mul_add_div (by omega)]; simp [Nat.div_eq_of_lt hq]
  have : i = j := by rw [← h1, h, h2]
  subst this
  exact ⟨rfl, by omega⟩

theorem fillE_ok {A : Nat → Prop} {z n : Nat} : ∀ (ps : List (Nat × Value)) (vs : List (Nat × V)) (arr : Array Value) (xs : List V),
    ps.length = vs.length → (∀ (i : Nat) p q, ps[i]? = some p → vs[i]? = some q → p.1 = q.1 ∧ p.1 < n ∧ p.2.cells.size = z ∧ FR w A p.2.cells.toList q.2) →
    arr.size = n * z → xs.length = n → Rows w A z arr xs →
    ∃ arr', Instr.fill (fun i => some (i * z, z)) arr ps = some arr' ∧ arr'.size = n * z ∧ Rows w A z arr' (fillE xs vs) ∧ (fillE xs vs).length = n
  | [], [], arr, xs, _, _, h2, h3, h4 => ⟨arr, rfl, h2, h4, h3⟩
  | [], _ :: _, _, _, h0, _, _, _, _ => by simp at h0
  | _ :: _, [], _, _, h0, _, _, _, _ => by simp at h0
  | (i, u) :: ps, (i', v) :: vs, arr, xs, h0, h1, h2, h3, h4 => by
    obtain ⟨hii, hin, hsz, hfr⟩ := h1 0 _ _ rfl rfl
    have hii : i = i' := hii
    subst hii
    have hin : i < n := hin
    have hsz : u.cells.size = z := hsz
    have hfr : FR w A u.cells.toList v := hfr
    have hle : i * z + z ≤ n * z := by rw [← Nat.succ_mul]; exact Nat.mul_le_mul_right _ hin
    have hf := foldl_set (i * z) u.cells.toList 0 arr (by simp only [Array.length_toList]; omega)
    have hcells : u.cells.zipIdx.foldl (fun cs (p : Value × Nat) => cs.setIfInBounds (i * z + p.2) p.1) arr = (u.cells.toList.zipIdx 0).foldl (fun cs (p : Value × Nat) => cs.setIfInBounds (i * z + p.2) p.1) arr := by
      rw [← Array.foldl_toList, Array.toList_zipIdx]
    obtain ⟨arr', g1, g2, g3, g4⟩ := fillE_ok (A := A) (z := z) (n := n) ps vs _ (xs.set i v) (by simpa using h0)
      (fun j p q hp hq => h1 (j + 1) p q (by simpa using hp) (by simpa using hq)) (by rw [hf.1]; exact h2) (by simpa using h3) (fun j x hx => by
        rw [getElem?_set_V] at hx
        by_cases hj : j = i
        · subst hj
          rw [if_pos ⟨rfl, by omega⟩] at hx
          cases hx
          refine ⟨u.cells.toList, by simpa using hsz, fun q c hc => ?_, hfr⟩
          have hq : q < z := by have := (List.getElem?_eq_some_iff.1 hc).1; simp at this; omega
          rw [hf.2, if_pos (by simp; omega)]
          rw [show j * z + q - (j * z + 0) = q by omega]
          exact hc
        · rw [if_neg (fun hh => hj hh.1)] at hx
          obtain ⟨ecs, e1, e2, e3⟩ := h4 j x hx
          refine ⟨ecs, e1, fun q c hc => ?_, e3⟩
          have hq : q < z := by have := (List.getElem?_eq_some_iff.1 hc).1; omega
          rw [hf.2, if_neg]
          · exact e2 q c hc
          · simp only [Array.length_toList, Nat.add_zero]
            intro hh
            have := row_apart (i := j) (j := i) (z := z) (p := q) (q := j * z + q - i * z) (by omega) hq (by omega)
            exact hj this.1)
    refine ⟨arr', ?_, g2, g3, g4⟩
    simp only [Instr.fill]
    rw [if_neg (by simp; omega)]
    rw [← hcells] at g1
    exact g1

theorem q_buildSlice (hT : TOk P T) (h : Sim T.globL U w0 F0 σ a w ow) {t : TypeId} {n : Nat} {ps : Array (Nat × Operand)} (ho : o.op = .buildSlice t n ps)
    (hk : (match T.el t with
    | some (e, z) => match T.zero e with
      | some zs => bif Nat.beq n 0 && ps.toList.isEmpty then K (.ref d none none) (.row true z []) [] else bif Nat.ble (n * z) 16777216 && !Nat.beq n 0 && ps.toList.all (fun p => Nat.blt p.1 n) then sealVs (lkE σ) (ps.toList.map fun p => nrmV T e (val T σ p.2)) fun xs s =>
        wds z xs (K (.ref d none none) (.row true z (fillE (List.replicate n (oneOr zs)) ((ps.toList.map (·.1)).zip xs))) s) else none
      | none => none
    | none => none) = some r) : Good P T U w0 F0 σ a w o d K r := by
  split at hk
  · rename_i e z hel
    split at hk
    · rename_i zs hz
      cases hn00 : (Nat.beq n 0 && ps.toList.isEmpty) with
      | true =>
        rw [hn00] at hk
        simp only [cond_true] at hk
        simp only [Bool.and_eq_true] at hn00
        have hn := beq_nat.1 hn00.1
        have hps : ps = #[] := by
          have := hn00.2
          cases ps
          simpa using this
        subst hn
        subst hps
        obtain ⟨i1, g1, g2, g3, g4⟩ := hT.el t e z hel
        obtain ⟨i2, v, f1, f2, f3, f4, f5⟩ := zero_fr (w := w) (A := Fz U w ow σ.ob) hT hz
        rw [g2] at f1
        cases f1
        refine ⟨_, _, _, hk, fun hd => ?_⟩
        have hd2 : σ.ob.getD d .none = .none ∧ F0.pn d = none := by rcases hd with hd | hd; cases hd; exact hd
        have hrun : (Instr.buildSlice t 0 #[]).run P w = .ok (.slice (some ⟨w.heap.size, 0, none⟩) 0 0) (w.alloc (.cells #[] e)) := by
          have hr : ∀ f : Nat → Value, Array.map f (Array.range 0) = #[] := fun f => Array.eq_empty_of_size_eq_zero (by simp)
          simp [Instr.buildSlice, run_underlying g1, sizeOf, typeInfo, g2, newRow, Instr.fill, hr]
        refine ⟨_, _, upd ow d (fun _ => w.heap.size), exec_buildSlice ho (by rw [Array.map_empty]; exact hrun), ?_⟩
        exact h.newRow d hd2.1 hd2.2 #[] e z 0 [] (Nat.le_refl _) (by simp) (fun i x hx => by simp at hx)
      | false =>
      rw [hn00] at hk
      simp only [cond_false] at hk
      obtain ⟨hc, hk2⟩ := bif_some hk
      simp only [Bool.and_eq_true] at hc
      obtain ⟨⟨hc1, hc2⟩, hc3⟩ := hc
      have hc1 := Nat.le_of_ble_eq_true hc1
      have hn0 : n ≠ 0 := by rintro rfl; simp at hc2
      obtain ⟨xs, s, hk3, hlen, hseal⟩ := sealVs_ok h.ho hk2
      obtain ⟨hw, hK⟩ := wds_some hk3
      obtain ⟨i1, g1, g2, g3, g4⟩ := hT.el t e z hel
      obtain ⟨i2, v, f1, f2, f3, f4, f5⟩ := zero_fr (w := w) (A := Fz U w ow (freeze σ.ob s)) hT hz
      rw [g2] at f1
      cases f1
      refine ⟨_, _, _, hK, fun hd => ?_⟩
      have hd2 : σ.ob.getD d .none = .none ∧ F0.pn d = none := by rcases hd with hd | hd; cases hd; exact hd
      have hd' := hd2.1
      rw [List.length_map] at hlen
      obtain ⟨arr, b1, b2, b3, b4⟩ := fillE_ok (w := w) (A := Fz U w ow (freeze σ.ob s)) (z := z) (n := n) (ps.toList.map fun p => (p.1, a.eval p.2)) ((ps.toList.map (·.1)).zip xs)
        (madeCells v.cells (n * z)) (List.replicate n (oneOr zs)) (by simp only [List.length_map, List.length_zip]; omega)
        (fun i p q hp hq => by
          simp only [List.getElem?_map] at hp
          cases hi : ps.toList[i]? with
          | none => rw [hi] at hp; cases hp
          | some y =>
            rw [hi] at hp
            simp only [Option.map_some, Option.some.injEq] at hp
            subst hp
            have hil := (List.getElem?_eq_some_iff.1 hi).1
            have hxi : xs[i]? = some (xs[i]'(by omega)) := List.getElem?_eq_getElem (by omega)
            have hq' : q = (y.1, xs[i]'(by omega)) := by
              rw [List.getElem?_zip_eq_some] at hq
              obtain ⟨q1, q2⟩ := hq
              simp only [List.getElem?_map, hi, Option.map_some, Option.some.injEq] at q1
              rw [hxi] at q2
              simp only [Option.some.injEq] at q2
              exact Prod.ext q1.symm q2.symm
            subst hq'
            have hsv := hseal i _ (nrmV T e (val T σ y.2)) hxi (by simp [List.getElem?_map, hi]) s (fun _ hh => hh) _ (val_sr h y.2).nrm
            have hfr := hsv.fr
            refine ⟨rfl, ?_, ?_, hfr⟩
            · have := List.all_eq_true.1 hc3 y (List.mem_of_getElem? hi)
              rw [Nat.blt_eq] at this; exact this
            · have := hfr.width
              rw [Array.length_toList] at this
              rw [this]
              exact hw _ (List.getElem_mem _)) (by rw [size_madeCells]) (by simp) (fun i x hx => by
          have := rows_made f5 i x hx
          rw [f3, g3] at this
          exact this)
      have hrun := run_buildSlice (P := P) w t e n (ps.map fun (i, x) => (i, a.eval x)) arr i1 v g1 g2 f2 (by rw [g3]; omega) (by rw [g3]; intro hh; rcases Nat.mul_eq_zero.1 hh with hh | hh <;> omega) (by
        rw [g3, Array.toList_map]
        exact b1)
      refine ⟨_, _, upd ow d (fun _ => w.heap.size), exec_buildSlice ho hrun, ?_⟩
      have hnr := (h.freeze s).newRow d (freeze_none s hd') hd2.2 arr e z n (fillE (List.replicate n (oneOr zs)) ((ps.toList.map (fun p : Nat × Operand => p.1)).zip xs)) (by rw [b4]; exact Nat.le_refl _) (by rw [b2]; exact Nat.le_refl _) b3
      rw [b4] at hnr
      exact hnr
    · cases hk
  · cases hk

/-! ### function values -/
theorem datCs_some : ∀ {vs : List V} {K : List V → Option R}, datCs vs K = some r → (∀ v ∈ vs, isC v) ∧ K vs = some r
  | [], K, h => ⟨fun v hv => by simp at hv, h⟩
  | v :: vs, K, h => by
    unfold datCs at h
    have key : isC v ∧ datCs vs (fun vs' => K (v :: vs')) = some r := by
      cases v <;> first | exact ⟨trivial, h⟩ | cases h
    obtain ⟨h1, h2⟩ := datCs_some key.2
    exact ⟨fun u hu => by rcases List.mem_cons.1 hu with rfl | hu; exact key.1; exact h1 u hu, h2⟩

theorem q_makeFunc (h : Sim T.globL U w0 F0 σ a w ow) {f : FuncId} {first caps : Array Operand} (ho : o.op = .makeFunc (.func f) first caps)
    (hk : (match first.size, caps.toList with
    | 0, [] => K (.clo f []) .none []
    | 0, [c] => match val T σ c with
      | .ptr k none 0 0 => match obBox (lkE σ) k with
        | some cs => datCs cs fun cs' => K (.clo f [.rp (oneOr cs') 0]) .none [(k, none)]
        | none => none
      | _ => none
    | _, _ => none) = some r) : Good P T U w0 F0 σ a w o d K r := by
  split at hk
  · rename_i hf hc
    have hf' : first = #[] := Array.eq_empty_of_size_eq_zero hf
    have hc' : caps = #[] := by cases caps; simpa using hc
    refine ⟨_, .none, [], hk, fun _ => done_plain h (exec_makeFunc ho) ?_⟩
    subst hf'; subst hc'
    have he : Array.map a.eval #[] = #[] := by simp
    rw [he]
    exact (FR.clo rfl (fun i v x hv => by simp at hv) : FR w (Fz U w ow σ.ob) [.func (.func f) #[] #[]] (.clo f []))
  · rename_i c hf hc
    have hf' : first = #[] := Array.eq_empty_of_size_eq_zero hf
    have hc' : caps = #[c] := by cases caps; simpa using hc
    split at hk
    · rename_i k hp
      split at hk
      · rename_i cs hb
        unfold obBox at hb
        split at hb
        · rename_i bo cs0 hlk
          cases hb
          obtain ⟨b', cs', hb', rfl⟩ := lkE_box hlk
          obtain ⟨hall, hK⟩ := datCs_some hk
          have hv := val_sr h c
          rw [hp] at hv
          have hptr : a.eval c = .pointer (some ⟨ow k none, 0, none⟩) := by
            rcases hv with ⟨o', cs'', _, _, e⟩ | ⟨o', z, xs, e, _⟩
            · exact e
            · rw [hb'] at e; cases e
          refine ⟨_, .none, _, hK, fun _ => ⟨_, w, ow, exec_makeFunc ho, (h.freeze [(k, none)]).put d fun _ => ?_⟩⟩
          subst hf'; subst hc'
          have hal : alive σ.ob k none := by unfold alive; rw [hb']; trivial
          have hA := h.ho.frozen hal (s := [(k, none)]) (by simp)
          simp only [List.map_toArray, List.map_cons, List.map_nil, hptr]
          show FR w (Fz U w ow (freeze σ.ob [(k, none)])) [.func (.func f) #[] #[.pointer (some ⟨ow k none, 0 + 0, none⟩)]] (.clo f [.rp (oneOr (cs'.map eC)) 0])
          refine FR.clo rfl fun i u x hu hx => ?_
          match i with
          | i + 1 => simp at hx
          | 0 =>
          simp at hu hx
          subst hu; subst hx
          classical
          have hex : ∀ q : Nat, ∃ u, q < cs'.length → w.cell? ⟨ow k none, q, none⟩ = some u ∧ SC w (Fz U w ow σ.ob) ow σ.ob u (viewC k q ((cs'.map eC).getD q .dead)) := fun q => by
            by_cases hq : q < cs'.length
            · obtain ⟨u, h1, h2⟩ := box_cell h hb' hq
              exact ⟨u, fun _ => ⟨h1, h2⟩⟩
            · exact ⟨undef, fun hh => absurd hh hq⟩
          obtain ⟨f', hf'⟩ := Classical.axiomOfChoice hex
          have hat : At w (ow k none) 0 ((List.range cs'.length).map f') := fun q u hu => by
            simp only [List.getElem?_map] at hu
            by_cases hq : q < cs'.length
            · rw [List.getElem?_range hq] at hu
              simp at hu; subst hu
              rw [Nat.zero_add]
              exact (hf' q hq).1
            · rw [List.getElem?_eq_none (by simp; omega)] at hu; simp at hu
          refine FR.rp (o := 0) (j := 0) hA hat (oneOr_fr (by simp) fun j u x hu hx => ?_)
          have hj : j < cs'.length := by have := (List.getElem?_eq_some_iff.1 hu).1; simpa using this
          simp only [List.getElem?_map, List.getElem?_range hj, Option.map_some, Option.some.injEq] at hu
          subst hu
          have hsc := (hf' j hj).2
          rw [List.getD_eq_getElem?_getD, hx] at hsc
          simp only [Option.getD_some] at hsc
          have hcx := hall x (List.mem_of_getElem? hx)
          have hview : viewC k j x = x := by cases x <;> first | rfl | exact hcx.elim
          rw [hview, hcx.sc] at hsc
          exact isC.freeze hsc
        · cases hb
      · cases hk
    · cases hk
  · cases hk

/-! ### builtins -/
theorem asLen_ok (hT : TOk P T) (h : Sim T.globL U w0 F0 σ a w ow) {t : TypeId} {x : Operand} {K : Nat → Option R} (hk : asLen (lkE σ) (sliceOk T t (val T σ x)) K = some r) :
    ∃ n : Nat, K n = some r ∧ ∀ ty, (Builtin.len_ #[t] ty #[a.eval x]).run P w = .ok (.int .i64 n) w := by
  have hv := val_sr h x
  rcases @sliceOk_some T t (val T σ x) with ⟨s, e1, e2, e3⟩ | ⟨z, xs, e, e1, e2, e3⟩ | ⟨k, c, m, e, z, e1, e2, e3⟩ | ⟨e, z, e1, e2, e3⟩ | e1 <;> rw [e1] at hk <;> simp only [asLen] at hk
  · refine ⟨_, hk, fun ty => ?_⟩
    obtain ⟨dd, ii, hd, _, _, _, hd2⟩ := hT.tyc t _ e3
    have hd2 : dd = .string := hd2
    subst hd2
    rw [(val_sc h e2).1]
    simp [Builtin.len_, run_underlying hd, goInt]
  · refine ⟨_, hk, fun ty => ?_⟩
    obtain ⟨i1, g1, _⟩ := hT.el t e z e3
    rw [e2] at hv
    have hv' : FR w (Fz U w ow σ.ob) [a.eval x] (.sl z xs) := hv
    obtain ⟨b, c, hu, hc⟩ := hv'.len
    rw [hu]
    simp [Builtin.len_, run_underlying g1, goInt]
  · split at hk
    · rename_i oo z' xs hr
      obtain ⟨o', hr'⟩ := obRow_eO hr
      have hr'' : obRow (fun k => σ.ob.getD k .none) k c = some (o', z', xs) := hr'
      refine ⟨_, hk, fun ty => ?_⟩
      obtain ⟨i1, g1, _⟩ := hT.el t e z e3
      rw [e2] at hv
      obtain ⟨o3, z3, xs3, cp, f1, f2, f3, f4, f5⟩ := hv
      rw [hr''] at f1
      cases f1
      rw [f2]
      simp [Builtin.len_, run_underlying g1, goInt]
    · cases hk
  · refine ⟨_, hk, fun ty => ?_⟩
    obtain ⟨i1, g1, _⟩ := hT.el t e z e3
    rw [e2] at hv
    have hv' : FR w (Fz U w ow σ.ob) [a.eval x] .nil := hv
    generalize a.eval x = u at hv'
    cases hv'
    simp [Builtin.len_, run_underlying g1, goInt]
  · cases hk

theorem q_len (hT : TOk P T) (h : Sim T.globL U w0 F0 σ a w ow) {args : Array Operand} {ts : Array TypeId} (ho : o.op = .call { callee := .builtin .len, args, argTypes := ts })
    (hk : (match args.toList, ts.toList with
      | [x], [t] => asLen (lkE σ) (sliceOk T t (val T σ x)) fun n => K (.sc (.int .i64 n)) .none []
      | _, _ => none) = some r) : Good P T U w0 F0 σ a w o d K r := by
  split at hk
  · rename_i x t hx ht
    have hx' : args = #[x] := by cases args; simpa using hx
    have ht' : ts = #[t] := by cases ts; simpa using ht
    subst hx'; subst ht'
    obtain ⟨n, hK, hrun⟩ := asLen_ok hT h hk
    exact ⟨_, .none, [], hK, fun _ => done_plain h (exec_builtin ho (u := .int .i64 n) (by
      have := hrun o.type
      simp [builtin, this])) (FR.sc rfl : FR w (Fz U w ow σ.ob) [.int .i64 n] (.sc (.int .i64 n)))⟩
  · cases hk

theorem two_sc (h : Sim T.globL U w0 F0 σ a w ow) {args : Array Operand} {u v : Value} (hx : args.toList.map (val T σ) = [.sc u, .sc v]) : args.map a.eval = #[u, v] := by
  match hl : args.toList, hx with
  | [x, y], hx2 =>
    simp only [List.map_cons, List.map_nil, List.cons.injEq, and_true] at hx2
    have : args = #[x, y] := by cases args; simpa using hl
    subst this
    simp [(val_sc h hx2.1).1, (val_sc h hx2.2).1]
  | [], hx => simp at hx
  | [_], hx => simp at hx
  | _ :: _ :: _ :: _, hx => simp at hx

theorem q_max (h : Sim T.globL U w0 F0 σ a w ow) {args : Array Operand} {ts : Array TypeId} (ho : o.op = .call { callee := .builtin .max, args, argTypes := ts })
    (hk : (match args.toList.map (val T σ) with
      | [.sc (.int k a), .sc (.int _ b)] => K (.sc (.int k (if b > a then b else a))) .none []
      | _ => none) = some r) : Good P T U w0 F0 σ a w o d K r := by
  split at hk
  · rename_i k x k' y hx
    have he := two_sc h hx
    exact ⟨_, .none, [], hk, fun _ => done_plain h (exec_builtin ho (u := .int k (if y > x then y else x)) (by
      rw [he]; simp [builtin, Builtin.max_, Builtin.max2])) (FR.sc rfl : FR w (Fz U w ow σ.ob) [.int k (if y > x then y else x)] (.sc (.int k (if y > x then y else x))))⟩
  · cases hk
theorem q_min (h : Sim T.globL U w0 F0 σ a w ow) {args : Array Operand} {ts : Array TypeId} (ho : o.op = .call { callee := .builtin .min, args, argTypes := ts })
    (hk : (match args.toList.map (val T σ) with
      | [.sc (.int k a), .sc (.int _ b)] => K (.sc (.int k (if b < a then b else a))) .none []
      | _ => none) = some r) : Good P T U w0 F0 σ a w o d K r := by
  split at hk
  · rename_i k x k' y hx
    have he := two_sc h hx
    exact ⟨_, .none, [], hk, fun _ => done_plain h (exec_builtin ho (u := .int k (if y < x then y else x)) (by
      rw [he]; simp [builtin, Builtin.min_, Builtin.min2])) (FR.sc rfl : FR w (Fz U w ow σ.ob) [.int k (if y < x then y else x)] (.sc (.int k (if y < x then y else x))))⟩
  · cases hk
end
end Go.Proofs.YtmddfhjgdhjmkaaDoor.VM
