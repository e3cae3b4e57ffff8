/- The abstract machine: what comes behind is not looked at, for the operations that write; what a call that is handed boxes does to the slots. -/
import Derived.Test.YtmddfhjgdhjmkaaDoorVMS12
set_option linter.unusedVariables false
set_option linter.unusedSimpArgs false
namespace Go.Proofs.YtmddfhjgdhjmkaaDoor.VM

section
variable {R S : Type} {g : R → Option S}
theorem wr1_bind {σ : St} {k : Nat} {c : Option Nat} {i j : Nat} {x : V} {K : St → Option R} : (wr1 σ k c i j x K).bind g = wr1 σ k c i j x fun m => (K m).bind g := by
  unfold wr1
  cases obRow (lk σ) k c with
  | some q => simp only [bif_bind, exN_bind]; rfl
  | none =>
    simp only
    rcases σ.ob.getD k .none with _ | ⟨_ | _, cs⟩ | _ <;> cases c <;> cases i <;> simp only [bif_bind] <;> rfl
theorem wrN_bind {σ : St} {k : Nat} {c : Option Nat} {i j : Nat} {ss : List Sh} {ns : List V} {x : V} {K : St → Option R} : (wrN σ k c i j ss ns x K).bind g = wrN σ k c i j ss ns x fun m => (K m).bind g := by
  unfold wrN
  cases obRow (lk σ) k c with
  | some q => simp only [bif_bind, exN_bind, wd_bind]; rfl
  | none =>
    simp only
    rcases σ.ob.getD k .none with _ | ⟨_ | _, cs⟩ | _ <;> cases c <;> cases i <;> simp only [bif_bind, unSt_bind, unCs_bind] <;> rfl
theorem mvR_bind {σ : St} {k j k' : Nat} {c m : Option Nat} {K : St → Option R} : (mvR σ k j k' c m K).bind g = mvR σ k j k' c m fun m => (K m).bind g := by
  unfold mvR
  rcases obRow (lk σ) k' c with _ | ⟨_ | _, z, xs⟩
  · rfl
  · rfl
  · simp only
    rcases (kil (kil σ k' c) k (some j)).ob.getD k .none with _ | ⟨_ | _, cs⟩ | _ <;> simp only [bif_bind] <;> rfl
theorem sto_bind {T : TT} {σ : St} {t : TypeId} {a x : V} {K : St → Option R} : (sto T σ t a x K).bind g = sto T σ t a x fun m => (K m).bind g := by
  unfold sto
  generalize T.ty t = ty
  cases a <;> cases ty <;> first | rfl | skip
  · cases x <;> simp only [bif_bind, sealC_bind, wr1_bind, mvR_bind] <;> rfl
  · simp only [sealV_bind, wrN_bind]
theorem app_bind {σ : St} {d z b : Nat} {s x : V} {K : St → Option R} : (app σ d z b s x K).bind g = app σ d z b s x fun m => (K m).bind g := by
  unfold app
  rw [bif_bind]
  congr 1
  cases s <;> first | rfl | skip
  · simp only [asList_bind, chk_bind]
  · rename_i k c m
    simp only
    rcases obRow (lk σ) k c with _ | ⟨o, z', xs⟩
    · rfl
    · simp only [bif_bind, asList_bind, chk_bind]; rfl
theorem ioSeal_bind {lk : Nat → Ob} : ∀ {vs : List V} {K : List V → List (Nat × Option Nat) → Option R}, (ioSeal lk vs K).bind g = ioSeal lk vs fun m s => (K m s).bind g := by
  intro vs
  induction vs with
  | nil => intro K; rfl
  | cons v vs ih =>
    intro K
    cases v <;> first
      | (simp only [ioSeal, sealV_bind, ih]; done)
      | skip
    rename_i k c i j
    cases c <;> cases i <;> cases j <;> simp only [ioSeal, sealV_bind, ih]
theorem ioFill_bind {ob : List Ob} : ∀ {vs : List V} {K : List V → List Nat → Option R}, (ioFill ob vs K).bind g = ioFill ob vs fun m s => (K m s).bind g := by
  intro vs
  induction vs with
  | nil => intro K; rfl
  | cons v vs ih =>
    intro K
    cases v <;> first
      | (simp only [ioFill, ih]; done)
      | skip
    rename_i k c i j
    cases c <;> cases i <;> cases j <;> simp only [ioFill, ih]
    rcases ob.getD k .none with _ | ⟨_ | _, cs⟩ | _ <;> simp only [ih] <;> rfl
theorem unOut_bind {os : List V} {K : List V → List V → Option R} : (unOut os K).bind g = unOut os fun c s => (K c s).bind g := by unfold unOut; split <;> rfl
theorem ioBack_bind : ∀ {ks : List Nat} {σ : St} {outs : List V} {K : St → Option R}, (ioBack σ ks outs K).bind g = ioBack σ ks outs fun m => (K m).bind g := by
  intro ks
  induction ks with
  | nil => intro σ outs K; cases outs <;> rfl
  | cons k ks ih =>
    intro σ outs K
    simp only [ioBack, unOut_bind]
    congr 1
    funext cs os
    rcases σ.ob.getD k .none with _ | ⟨b, cs⟩ | _ <;> simp only [bif_bind, ih] <;> rfl
end

section
variable {R S : Type} {g : R → Option S}
theorem rsC_bind {s : Sh} {old v : V} {K : V → Option R} : (rsC s old v K).bind g = rsC s old v fun m => (K m).bind g := by
  unfold rsC
  split
  · unfold unO1; split <;> first | rfl | exact bif_bind
  · unfold unNO; split <;> first | rfl | exact bif_bind
  · exact unC_bind
theorem rsCs_bind {olds cs : List V} : ∀ {ss : List Sh} {j : Nat} {K : List V → Option R}, (rsCs olds cs j ss K).bind g = rsCs olds cs j ss fun m => (K m).bind g
  | [], j, K => rfl
  | s :: ss, j, K => by unfold rsCs; rw [rsC_bind]; simp only [rsCs_bind]
theorem rsB_bind {σ0 σ : St} {k : Nat} {ss : List Sh} {K : St → Option R} : (rsB σ0 σ k ss K).bind g = rsB σ0 σ k ss fun m => (K m).bind g := by
  unfold rsB
  split
  · rw [bif_bind, rsCs_bind]; rfl
  · rfl
theorem rsA_bind {T : TT} {σ0 : St} : ∀ {as : List (V × TypeId)} {σ : St} {K : St → Option R}, (rsA T σ0 σ as K).bind g = rsA T σ0 σ as fun m => (K m).bind g := by
  intro as
  induction as with
  | nil => intro σ K; rfl
  | cons p as ih =>
    intro σ K
    unfold rsA
    split
    · rename_i e; cases e
    · rename_i k t as' e
      cases e
      split
      · rw [rsB_bind]; simp only [ih]
      · exact ih
    · rename_i e
      cases e
      exact ih
end


section
variable {R S : Type} {g : R → Option S} {T : TT} {call : FuncId → List V → Option Res}
theorem bind_bind' {α : Type} {o : Option α} {K : α → Option R} : (o.bind K).bind g = o.bind fun x => (K x).bind g := by cases o <;> rfl
theorem loud0_bind {σ : St} {o : Oper} {K : St → Option R} : (exLoud0 T call σ o K).bind g = exLoud0 T call σ o fun m => (K m).bind g := by
  obtain ⟨dst, op, type, pos, after, guard⟩ := o
  cases op <;> first
    | (cases dst <;> rfl; done)
    | skip
  case store t p q =>
    cases dst with
    | none => simp only [exLoud0]; exact sto_bind
    | some d => rfl
  case call c =>
    obtain ⟨callee, args, ts⟩ := c
    cases dst with
    | none => cases callee <;> first | rfl | (rename_i b; cases b <;> rfl)
    | some d =>
      cases callee with
      | invoke rc m => rfl
      | builtin b =>
        cases b <;> first | rfl | skip
        simp only [exLoud0]
        generalize args.toList = as
        generalize ts.toList = tl
        rcases as with _ | ⟨s, _ | ⟨x, _ | ⟨y, as⟩⟩⟩ <;> rcases tl with _ | ⟨t, _ | ⟨t', _ | ⟨y', tl⟩⟩⟩ <;> first | rfl | skip
        dsimp only
        cases T.el t with
        | none => rfl
        | some p =>
          rw [bif_bind]
          congr 1
          cases T.esz p.1 <;> cases T.zero p.1 <;> first | rfl | exact app_bind
      | value f =>
        simp only [exLoud0]
        generalize val T σ f = x
        cases x <;> first | rfl | skip
        rename_i u
        cases u <;> first | rfl | skip
        rename_i q fs cv
        cases q <;> first | rfl | skip
        rename_i q
        rw [bif_bind]
        congr 1
        rw [ioSeal_bind]
        congr 1
        funext az s
        rw [ioFill_bind]
        congr 1
        funext vs l
        rw [bif_bind]
        congr 1
        rw [bind_bind']
        congr 1
        funext r
        rw [ioBack_bind]
        congr 1
        funext σ'
        cases T.ty type with
        | c sh => exact unC_bind
        | agg ss => exact unSt_bind
        | p ss => rfl
        | tup ts => simp only [unTup_bind, unVs_bind]
theorem loud_bind {σ : St} {o : Oper} {K : St → Option R} : (exLoud T call σ o K).bind g = exLoud T call σ o fun m => (K m).bind g := by
  unfold exLoud
  rw [loud0_bind]
  congr 1
  funext σ'
  exact rsA_bind
theorem loud_at {σ σ' : St} {o : Oper} (h : exLoud T call σ o some = some σ') {K : St → Option R} : exLoud T call σ o K = K σ' := by
  have := loud_bind (T := T) (call := call) (σ := σ) (o := o) (K := some) (g := K)
  rw [h] at this
  exact this.symm
theorem loud_some {σ : St} {o : Oper} {K : St → Option R} {r : R} (h : exLoud T call σ o K = some r) : ∃ σ', exLoud T call σ o some = some σ' ∧ K σ' = some r := by
  have := loud_bind (T := T) (call := call) (σ := σ) (o := o) (K := some) (g := K)
  simp only [Option.bind_some] at this
  rw [h] at this
  exact Option.bind_eq_some_iff.1 this
end

/-! ### what a call that is handed boxes does to the slots -/
theorem memN_false {l : List Nat} {a : Nat} : memN l a = false ↔ a ∉ l := by
  rw [← memN_iff]; cases memN l a <;> simp
theorem trC_sub {ks ks' : List Nat} (hs : ∀ k ∈ ks', k ∈ ks) {v : V} (h : trC ks v = true) : trC ks' v = true := by
  cases v <;> first | rfl | skip
  · rename_i k c i j
    cases c <;> first | rfl | skip
    simp only [trC, Bool.not_eq_true', memN_false] at h ⊢
    exact fun hk => h (hs k hk)
  · rename_i k c m
    cases c <;> first | rfl | skip
    simp only [trC, Bool.not_eq_true', memN_false] at h ⊢
    exact fun hk => h (hs k hk)
theorem triv_c {ks : List Nat} {v : V} (hs : ∀ cs, v ≠ .st cs) (ht : ∀ cs, v ≠ .tup cs) : triv ks v = trC ks v := by
  cases v <;> first | rfl | exact absurd rfl (hs _) | exact absurd rfl (ht _)
theorem trT_c {ks : List Nat} {v : V} (hs : ∀ cs, v ≠ .st cs) : trT ks v = trC ks v := by
  cases v <;> first | rfl | exact absurd rfl (hs _)
theorem v_cases (v : V) : (∃ cs, v = .st cs) ∨ (∃ cs, v = .tup cs) ∨ ((∀ cs, v ≠ .st cs) ∧ ∀ cs, v ≠ .tup cs) := by
  cases v <;> first | exact .inl ⟨_, rfl⟩ | exact .inr (.inl ⟨_, rfl⟩) | exact .inr (.inr ⟨fun _ h => (by cases h), fun _ h => (by cases h)⟩)
theorem triv_sub {ks ks' : List Nat} (hs : ∀ k ∈ ks', k ∈ ks) {v : V} (h : triv ks v = true) : triv ks' v = true := by
  rcases v_cases v with ⟨cs, rfl⟩ | ⟨cs, rfl⟩ | ⟨h1, h2⟩
  · simp only [triv, List.all_eq_true] at h ⊢
    exact fun c hc => trC_sub hs (h c hc)
  · simp only [triv, List.all_eq_true] at h ⊢
    intro c hc
    have := h c hc
    rcases v_cases c with ⟨cs, rfl⟩ | ⟨cs, rfl⟩ | ⟨h1, h2⟩
    · cases this
    · rfl
    · rw [trT_c h1] at this ⊢; exact trC_sub hs this
  · rw [triv_c h1 h2] at h ⊢; exact trC_sub hs h
theorem kilC_tr {ks : List Nat} {k j : Nat} (hk : k ∈ ks) {v : V} (h : trC ks v = true) : kilC k (some j) v = v := by
  have hne : ∀ k' : Nat, (!memN ks k') = true → Nat.beq k' k = false := fun k' h => by
    cases hb : Nat.beq k' k
    · rfl
    · rw [beq_nat.1 hb] at h
      rw [memN_iff.2 hk] at h
      cases h
  cases v <;> first | rfl | skip
  · rename_i k' c i j'
    cases c with
    | none => show (bif Nat.beq k' k && false then V.dead else _) = _; rw [Bool.and_false]; rfl
    | some c => show (bif Nat.beq k' k && _ then V.dead else _) = _; rw [hne k' h]; rfl
  · rename_i k' c m
    cases c with
    | none => show (bif Nat.beq k' k && false then V.dead else _) = _; rw [Bool.and_false]; rfl
    | some c => show (bif Nat.beq k' k && _ then V.dead else _) = _; rw [hne k' h]; rfl
theorem map_id_of {α : Type} {f : α → α} : ∀ {l : List α}, (∀ x ∈ l, f x = x) → l.map f = l
  | [], _ => rfl
  | x :: l, h => by rw [List.map_cons, h x (List.mem_cons_self ..), map_id_of fun y hy => h y (List.mem_cons_of_mem _ hy)]
theorem kilV_c {k : Nat} {c : Option Nat} {v : V} (hs : ∀ cs, v ≠ .st cs) (ht : ∀ cs, v ≠ .tup cs) : kilV k c v = kilC k c v := by
  cases v <;> first | rfl | exact absurd rfl (hs _) | exact absurd rfl (ht _)
theorem kilT_c {k : Nat} {c : Option Nat} {v : V} (hs : ∀ cs, v ≠ .st cs) : kilT k c v = kilC k c v := by
  cases v <;> first | rfl | exact absurd rfl (hs _)
theorem kilV_tr {ks : List Nat} {k j : Nat} (hk : k ∈ ks) {v : V} (h : triv ks v = true) : kilV k (some j) v = v := by
  rcases v_cases v with ⟨cs, rfl⟩ | ⟨cs, rfl⟩ | ⟨h1, h2⟩
  · simp only [triv, List.all_eq_true] at h
    show V.st _ = V.st _
    rw [map_id_of fun c hc => kilC_tr hk (h c hc)]
  · simp only [triv, List.all_eq_true] at h
    show V.tup _ = V.tup _
    rw [map_id_of fun c hc => ?_]
    have := h c hc
    rcases v_cases c with ⟨cs, rfl⟩ | ⟨cs, rfl⟩ | ⟨h1, h2⟩
    · cases this
    · rfl
    · rw [trT_c h1] at this; rw [kilT_c h1]; exact kilC_tr hk this
  · rw [triv_c h1 h2] at h; rw [kilV_c h1 h2]; exact kilC_tr hk h
/-- the slots, where cells of a box are forgotten -/
def gP (k : Nat) : Nat → Nat → V → V
  | _, 0, v => v
  | j, n + 1, v => gP k (j + 1) n (kilV k (some j) v)
theorem kilP_map {k : Nat} : ∀ (n j : Nat) (σ : St), (kilP σ k j n).sl = σ.sl.map (gP k j n)
  | 0, j, σ => by
    show σ.sl = _
    exact (map_id_of (f := gP k j 0) fun _ _ => rfl).symm
  | n + 1, j, σ => by
    show (kilP (kil σ k (some j)) k (j + 1) n).sl = _
    rw [kilP_map n (j + 1)]
    show (σ.sl.map (kilV k (some j))).map _ = _
    rw [List.map_map]
    rfl
theorem gP_tr {ks : List Nat} {k : Nat} (hk : k ∈ ks) {v : V} (h : triv ks v = true) : ∀ n j, gP k j n v = v
  | 0, j => rfl
  | n + 1, j => by
    show gP k (j + 1) n (kilV k (some j) v) = v
    rw [kilV_tr hk h]
    exact gP_tr hk h n (j + 1)
theorem gP_dead {k : Nat} : ∀ n j, gP k j n .dead = .dead
  | 0, j => rfl
  | n + 1, j => gP_dead n (j + 1)

section
variable {T : TT} {call : FuncId → List V → Option Res}
theorem unOut_ex {R : Type} {rr : R} {os : List V} {K : List V → List V → Option R} (h : unOut os K = some rr) : ∃ cs os', os = .io cs :: os' ∧ K cs os' = some rr := by
  unfold unOut at h
  split at h
  · exact ⟨_, _, rfl, h⟩
  · cases h
theorem ioBack_shape : ∀ {ks : List Nat} {os sl : List V} {ob : List Ob} {σ2 : St}, ioBack ⟨sl, ob⟩ ks os some = some σ2 →
    ∃ (g : V → V) (ob' : List Ob), (∀ v, triv ks v = true → g v = v) ∧ g .dead = .dead ∧ (∀ k, k ∉ ks → ob'.getD k .none = ob.getD k .none) ∧
      ∀ (sl' : List V) (R : Type) (K : St → Option R), ioBack ⟨sl', ob⟩ ks os K = K ⟨sl'.map g, ob'⟩
  | [], [], sl, ob, σ2, h => ⟨id, ob, fun _ _ => rfl, rfl, fun _ _ => rfl, fun sl' R K => by show K _ = _; rw [List.map_id]⟩
  | [], _ :: _, sl, ob, σ2, h => by cases h
  | _ :: _, [], sl, ob, σ2, h => by cases h
  | k :: ks, x :: os, sl, ob, σ2, h => by
    unfold ioBack at h
    obtain ⟨cs, os', e0, h⟩ := unOut_ex h
    cases e0
    split at h
    · rename_i b old hb
      obtain ⟨hl0, h⟩ := bif_some h
      have hb : ob.getD k .none = .box b old := hb
      rw [kilP_map] at h
      obtain ⟨g, ob', h1, h2, h3, h4⟩ := ioBack_shape h
      refine ⟨fun v => g (gP k 0 old.length v), ob', fun v hv => ?_, ?_, fun kk hkk => ?_, fun sl' R K => ?_⟩
      · show g (gP k 0 old.length v) = v
        rw [gP_tr (List.mem_cons_self ..) hv]
        exact h1 v (triv_sub (fun k hk => List.mem_cons_of_mem _ hk) hv)
      · show g (gP k 0 old.length .dead) = _
        rw [gP_dead, h2]
      · simp only [List.mem_cons, not_or] at hkk
        rw [h3 kk hkk.2]
        exact getD_set_ob_other _ _ hkk.1
      · unfold ioBack
        show unOut (.io cs :: os) _ = _
        unfold unOut
        simp only
        rw [hb]
        simp only
        rw [hl0]
        simp only [cond_true]
        rw [kilP_map, h4]
        show K ⟨(sl'.map _).map g, ob'⟩ = _
        rw [List.map_map]
        rfl
    · cases h
theorem rsCs_ex {olds cs : List V} {R : Type} {ss : List Sh} {j : Nat} {K : List V → Option R} {r : R} (h : rsCs olds cs j ss K = some r) : ∃ c, rsCs olds cs j ss some = some c ∧ K c = some r := by
  have := rsCs_bind (olds := olds) (cs := cs) (ss := ss) (j := j) (K := some) (g := K)
  simp only [Option.bind_some] at this
  rw [h] at this
  exact Option.bind_eq_some_iff.1 this
theorem rsCs_at {olds cs : List V} {R : Type} {ss : List Sh} {j : Nat} {c : List V} (h : rsCs olds cs j ss some = some c) {K : List V → Option R} : rsCs olds cs j ss K = K c := by
  have := rsCs_bind (olds := olds) (cs := cs) (ss := ss) (j := j) (K := some) (g := K)
  rw [h] at this
  exact this.symm
theorem rsA_shape : ∀ {az : List (V × TypeId)} {sl0 sl : List V} {ob0 ob : List Ob} {σ2 : St}, rsA T ⟨sl0, ob0⟩ ⟨sl, ob⟩ az some = some σ2 →
    ∃ ob' : List Ob, (∀ k, (∀ p ∈ az, k ∉ keysN p.1) → ob'.getD k .none = ob.getD k .none) ∧ ∀ (sl0' sl' : List V) (R : Type) (K : St → Option R), rsA T ⟨sl0', ob0⟩ ⟨sl', ob⟩ az K = K ⟨sl', ob'⟩ := by
  intro az
  induction az with
  | nil => exact fun {sl0 sl ob0 ob σ2} h => ⟨ob, fun _ _ => rfl, fun _ _ _ _ => rfl⟩
  | cons p az ih =>
    intro sl0 sl ob0 ob σ2 h
    have tail : ∀ {sl : List V} {ob : List Ob} {ob1 : List Ob}, (∀ k, (∀ q ∈ az, k ∉ keysN q.1) → ob1.getD k .none = ob.getD k .none) → ∀ k, (∀ q ∈ p :: az, k ∉ keysN q.1) → ob1.getD k .none = ob.getD k .none := fun h k hk => h k fun q hq => hk q (List.mem_cons_of_mem _ hq)
    unfold rsA at h
    split at h
    · rename_i e; cases e
    · rename_i k t az' e
      cases e
      split at h
      · rename_i ss hty
        unfold rsB at h
        split at h
        · rename_i o cs hb
          have hb : ob.getD k .none = .box o cs := hb
          obtain ⟨hl, h⟩ := bif_some h
          obtain ⟨c, hc, h⟩ := rsCs_ex h
          obtain ⟨ob', h1, h2⟩ := ih h
          refine ⟨ob', fun kk hkk => ?_, fun sl0' sl' R K => ?_⟩
          · have hne : kk ≠ k := fun e => hkk _ (List.mem_cons_self ..) (by subst e; simp [keysN, keysC])
            rw [h1 kk fun q hq => hkk q (List.mem_cons_of_mem _ hq)]
            exact getD_set_ob_other _ _ hne
          · unfold rsA
            simp only
            rw [hty]
            simp only
            unfold rsB
            simp only
            rw [hb]
            simp only
            rw [hl]
            simp only [cond_true]
            rw [rsCs_at hc]
            exact h2 _ _ _ _
        · cases h
      · rename_i hty
        obtain ⟨ob', h1, h2⟩ := ih h
        refine ⟨ob', fun kk hkk => h1 kk fun q hq => hkk q (List.mem_cons_of_mem _ hq), fun sl0' sl' R K => ?_⟩
        have key : rsA T ⟨sl0', ob0⟩ ⟨sl', ob⟩ ((.ptr k none 0 0, t) :: az) K = (match T.ty t with | .p ss => rsB ⟨sl0', ob0⟩ ⟨sl', ob⟩ k ss fun σ => rsA T ⟨sl0', ob0⟩ σ az K | _ => rsA T ⟨sl0', ob0⟩ ⟨sl', ob⟩ az K) := rfl
        rw [key]
        split
        · rename_i ss e; exact absurd e (hty ss)
        · exact h2 _ _ _ _
    · rename_i q az' hn e
      cases e
      obtain ⟨ob', h1, h2⟩ := ih h
      refine ⟨ob', fun kk hkk => h1 kk fun q hq => hkk q (List.mem_cons_of_mem _ hq), fun sl0' sl' R K => ?_⟩
      unfold rsA
      split
      · rename_i e; cases e
      · rename_i k t az'' e
        cases e
        exact (hn _ _ rfl).elim
      · rename_i e; cases e; exact h2 _ _ _ _

theorem frzK_notin {s : List (Nat × Option Nat)} {k : Nat} (h : ∀ q ∈ s, q.1 ≠ k) : ∀ o, frzK s k o = o := by
  induction s with
  | nil => exact fun o => rfl
  | cons q s ih =>
    intro o
    obtain ⟨k', c⟩ := q
    have h1 := h (k', c) (List.mem_cons_self ..)
    unfold frzK
    rw [if_neg h1]
    exact ih (fun q hq => h q (List.mem_cons_of_mem _ hq)) o
theorem sealC_keys {lk : Nat → Ob} {v x : V} {s : List (Nat × Option Nat)} (h : sealC lk v (fun x s => some (x, s)) = some (x, s)) : ∀ q ∈ s, q.1 ∈ keysC v := by
  unfold sealC at h
  split at h
  · split at h
    · simp only [Option.some.injEq, Prod.mk.injEq] at h
      rw [← h.2]
      intro q hq
      simp only [List.mem_singleton] at hq
      subst hq
      simp [keysC]
    · cases h
  all_goals first
    | (simp only [Option.some.injEq, Prod.mk.injEq] at h; rw [← h.2]; intro q hq; cases hq; done)
    | (cases h; done)
theorem sealCs_keys {lk : Nat → Ob} : ∀ {vs xs : List V} {s : List (Nat × Option Nat)}, sealCs lk vs (fun x s => some (x, s)) = some (xs, s) → ∀ q ∈ s, q.1 ∈ vs.flatMap keysC
  | [], xs, s, h => by
    simp only [sealCs, Option.some.injEq, Prod.mk.injEq] at h
    rw [← h.2]; intro q hq; cases hq
  | v :: vs, xs, s, h => by
    unfold sealCs at h
    have e := sealC_bind (lk := lk) (v := v) (K := fun x s => some (x, s)) (g := fun p : V × List (Nat × Option Nat) => sealCs lk vs fun vs' s' => some (p.1 :: vs', p.2 ++ s'))
    simp only [Option.bind_some] at e
    rw [h] at e
    obtain ⟨⟨x1, s1⟩, h1, h2⟩ := Option.bind_eq_some_iff.1 e
    have e2 := sealCs_bind (lk := lk) (vs := vs) (K := fun x s => some (x, s)) (g := fun p : List V × List (Nat × Option Nat) => some (x1 :: p.1, s1 ++ p.2))
    simp only [Option.bind_some] at e2
    rw [h2] at e2
    obtain ⟨⟨x2, s2⟩, h3, h4⟩ := Option.bind_eq_some_iff.1 e2
    simp only [Option.some.injEq, Prod.mk.injEq] at h4
    rw [← h4.2]
    intro q hq
    rw [List.flatMap_cons]
    rcases List.mem_append.1 hq with hq | hq
    · exact List.mem_append_left _ (sealC_keys h1 q hq)
    · exact List.mem_append_right _ (sealCs_keys h3 q hq)
theorem keysN_c {v : V} (hs : ∀ cs, v ≠ .st cs) (ht : ∀ cs, v ≠ .tup cs) : keysN v = keysC v := by
  cases v <;> first | rfl | exact absurd rfl (hs _) | exact absurd rfl (ht _)
theorem sealV_keys {lk : Nat → Ob} {v x : V} {s : List (Nat × Option Nat)} (h : sealV lk v (fun x s => some (x, s)) = some (x, s)) : ∀ q ∈ s, q.1 ∈ keysN v := by
  rcases v_cases v with ⟨cs, rfl⟩ | ⟨cs, rfl⟩ | ⟨h1, h2⟩
  · unfold sealV at h
    simp only at h
    have e := sealCs_bind (lk := lk) (vs := cs) (K := fun x s => some (x, s)) (g := fun p : List V × List (Nat × Option Nat) => some (V.st p.1, p.2))
    simp only [Option.bind_some] at e
    rw [h] at e
    obtain ⟨⟨x1, s1⟩, h1, h2⟩ := Option.bind_eq_some_iff.1 e
    simp only [Option.some.injEq, Prod.mk.injEq] at h2
    rw [← h2.2]
    exact sealCs_keys h1
  · cases h
  · rw [keysN_c h1 h2]
    by_cases hd : ∃ y, v = .dt y
    · obtain ⟨y, rfl⟩ := hd
      simp only [sealV, Option.some.injEq, Prod.mk.injEq] at h
      rw [← h.2]; intro q hq; cases hq
    · have : sealV lk v (fun x s => some (x, s)) = sealC lk v (fun x s => some (x, s)) := by
        cases v <;> first | rfl | exact absurd rfl (h1 _) | exact absurd ⟨_, rfl⟩ hd
      rw [this] at h
      exact sealC_keys h
theorem ioSeal_keys {lk : Nat → Ob} : ∀ {vs az : List V} {s : List (Nat × Option Nat)}, ioSeal lk vs (fun x s => some (x, s)) = some (az, s) → ∀ q ∈ s, q.1 ∈ vs.flatMap keysN
  | [], az, s, h => by
    simp only [ioSeal, Option.some.injEq, Prod.mk.injEq] at h
    rw [← h.2]; intro q hq; cases hq
  | v :: vs, az, s, h => by
    by_cases hp : ∃ k, v = .ptr k none 0 0
    · obtain ⟨k, rfl⟩ := hp
      have h : ioSeal lk vs (fun vs s => some (V.ptr k none 0 0 :: vs, s)) = some (az, s) := h
      have e := ioSeal_bind (lk := lk) (vs := vs) (K := fun x s => some (x, s)) (g := fun p : List V × List (Nat × Option Nat) => some (V.ptr k none 0 0 :: p.1, p.2))
      simp only [Option.bind_some] at e
      rw [h] at e
      obtain ⟨⟨x1, s1⟩, h1, h2⟩ := Option.bind_eq_some_iff.1 e
      simp only [Option.some.injEq, Prod.mk.injEq] at h2
      rw [← h2.2]
      intro q hq
      rw [List.flatMap_cons]
      exact List.mem_append_right _ (ioSeal_keys h1 q hq)
    · have hu : ioSeal lk (v :: vs) (fun x s => some (x, s)) = sealV lk v fun v s => ioSeal lk vs fun vs s' => some (v :: vs, s ++ s') := by
        conv => lhs; unfold ioSeal
        split
        · rename_i e; cases e
        · rename_i k vs' e; cases e; exact absurd ⟨k, rfl⟩ hp
        · rename_i e; cases e; rfl
      rw [hu] at h
      have e := sealV_bind (lk := lk) (v := v) (K := fun x s => some (x, s)) (g := fun p : V × List (Nat × Option Nat) => ioSeal lk vs fun vs' s' => some (p.1 :: vs', p.2 ++ s'))
      simp only [Option.bind_some] at e
      rw [h] at e
      obtain ⟨⟨x1, s1⟩, h1, h2⟩ := Option.bind_eq_some_iff.1 e
      have e2 := ioSeal_bind (lk := lk) (vs := vs) (K := fun x s => some (x, s)) (g := fun p : List V × List (Nat × Option Nat) => some (x1 :: p.1, s1 ++ p.2))
      simp only [Option.bind_some] at e2
      rw [h2] at e2
      obtain ⟨⟨x2, s2⟩, h3, h4⟩ := Option.bind_eq_some_iff.1 e2
      simp only [Option.some.injEq, Prod.mk.injEq] at h4
      rw [← h4.2]
      intro q hq
      rw [List.flatMap_cons]
      rcases List.mem_append.1 hq with hq | hq
      · exact List.mem_append_left _ (sealV_keys h1 q hq)
      · exact List.mem_append_right _ (ioSeal_keys h3 q hq)
theorem ioFill_keys {ob : List Ob} {as : List V} {vs : List V} {l : List Nat} (h : ioFill ob as (fun vs q => some (vs, q)) = some (vs, l)) : ∀ k ∈ l, ∃ x ∈ as, x = .ptr k none 0 0 := by
  induction as generalizing vs l with
  | nil =>
    simp only [ioFill, Option.some.injEq, Prod.mk.injEq] at h
    rw [← h.2]; intro k hk; cases hk
  | cons v as ih =>
    by_cases hp : ∃ k, v = .ptr k none 0 0
    · obtain ⟨k, rfl⟩ := hp
      have h : (match ob.getD k .none with | .box true cs => ioFill ob as fun vs q => some (V.io (cs.map unO) :: vs, k :: q) | _ => none) = some (vs, l) := h
      split at h
      · rename_i cs hb
        have e := ioFill_bind (ob := ob) (vs := as) (K := fun x s => some (x, s)) (g := fun p : List V × List Nat => some (V.io (cs.map unO) :: p.1, k :: p.2))
        simp only [Option.bind_some] at e
        rw [h] at e
        obtain ⟨⟨x1, s1⟩, h1, h2⟩ := Option.bind_eq_some_iff.1 e
        simp only [Option.some.injEq, Prod.mk.injEq] at h2
        rw [← h2.2]
        intro q hq
        rcases List.mem_cons.1 hq with rfl | hq
        · exact ⟨_, List.mem_cons_self .., rfl⟩
        · obtain ⟨x, hx, e⟩ := ih h1 q hq
          exact ⟨x, List.mem_cons_of_mem _ hx, e⟩
      · cases h
    · have hu : ioFill ob (v :: as) (fun x s => some (x, s)) = ioFill ob as fun vs q => some (v :: vs, q) := by
        conv => lhs; unfold ioFill
        split
        · rename_i e; cases e
        · rename_i k vs' e; cases e; exact absurd ⟨k, rfl⟩ hp
        · rename_i e; cases e; rfl
      rw [hu] at h
      have e := ioFill_bind (ob := ob) (vs := as) (K := fun x s => some (x, s)) (g := fun p : List V × List Nat => some (v :: p.1, p.2))
      simp only [Option.bind_some] at e
      rw [h] at e
      obtain ⟨⟨x1, s1⟩, h1, h2⟩ := Option.bind_eq_some_iff.1 e
      simp only [Option.some.injEq, Prod.mk.injEq] at h2
      rw [← h2.2]
      intro q hq
      obtain ⟨x, hx, e⟩ := ih h1 q hq
      exact ⟨x, List.mem_cons_of_mem _ hx, e⟩
/-- a pointer that stays is one of those that were handed over -/
theorem ioSeal_ptr {lk : Nat → Ob} : ∀ {vs az : List V} {s : List (Nat × Option Nat)}, (∀ v ∈ vs, noDt v = true) → ioSeal lk vs (fun x s => some (x, s)) = some (az, s) → ∀ k, (V.ptr k none 0 0) ∈ az → k ∈ vs.flatMap keysN
  | [], az, s, _, h, k, hk => by
    simp only [ioSeal, Option.some.injEq, Prod.mk.injEq] at h
    rw [← h.1] at hk; cases hk
  | v :: vs, az, s, hnd, h, k, hk => by
    have hnd' : ∀ v ∈ vs, noDt v = true := fun u hu => hnd u (List.mem_cons_of_mem _ hu)
    rw [List.flatMap_cons]
    by_cases hp : ∃ k, v = .ptr k none 0 0
    · obtain ⟨k0, rfl⟩ := hp
      have h : ioSeal lk vs (fun vs s => some (V.ptr k0 none 0 0 :: vs, s)) = some (az, s) := h
      have e := ioSeal_bind (lk := lk) (vs := vs) (K := fun x s => some (x, s)) (g := fun p : List V × List (Nat × Option Nat) => some (V.ptr k0 none 0 0 :: p.1, p.2))
      simp only [Option.bind_some] at e
      rw [h] at e
      obtain ⟨⟨x1, s1⟩, h1, h2⟩ := Option.bind_eq_some_iff.1 e
      simp only [Option.some.injEq, Prod.mk.injEq] at h2
      rw [← h2.1] at hk
      rcases List.mem_cons.1 hk with e | hk
      · cases e; exact List.mem_append_left _ (by simp [keysN, keysC])
      · exact List.mem_append_right _ (ioSeal_ptr hnd' h1 k hk)
    · have hu : ioSeal lk (v :: vs) (fun x s => some (x, s)) = sealV lk v fun v s => ioSeal lk vs fun vs s' => some (v :: vs, s ++ s') := by
        conv => lhs; unfold ioSeal
        split
        · rename_i e; cases e
        · rename_i k vs' e; cases e; exact absurd ⟨k, rfl⟩ hp
        · rename_i e; cases e; rfl
      rw [hu] at h
      have e := sealV_bind (lk := lk) (v := v) (K := fun x s => some (x, s)) (g := fun p : V × List (Nat × Option Nat) => ioSeal lk vs fun vs' s' => some (p.1 :: vs', p.2 ++ s'))
      simp only [Option.bind_some] at e
      rw [h] at e
      obtain ⟨⟨x1, s1⟩, h1, h2⟩ := Option.bind_eq_some_iff.1 e
      have e2 := ioSeal_bind (lk := lk) (vs := vs) (K := fun x s => some (x, s)) (g := fun p : List V × List (Nat × Option Nat) => some (x1 :: p.1, s1 ++ p.2))
      simp only [Option.bind_some] at e2
      rw [h2] at e2
      obtain ⟨⟨x2, s2⟩, h3, h4⟩ := Option.bind_eq_some_iff.1 e2
      simp only [Option.some.injEq, Prod.mk.injEq] at h4
      rw [← h4.1] at hk
      rcases List.mem_cons.1 hk with e | hk
      · exfalso
        rw [← e] at h1
        -- what is made fit is no pointer
        have nop : ∀ {u : V} {s : List (Nat × Option Nat)}, sealC lk u (fun x s => some (x, s)) = some (V.ptr k none 0 0, s) → False := fun {u s} hh => by
          unfold sealC at hh
          split at hh <;> first | cases hh; done | (split at hh <;> cases hh)
        rcases v_cases v with ⟨cs, rfl⟩ | ⟨cs, rfl⟩ | ⟨g1, g2⟩
        · unfold sealV at h1
          simp only at h1
          have e := sealCs_bind (lk := lk) (vs := cs) (K := fun x s => some (x, s)) (g := fun p : List V × List (Nat × Option Nat) => some (V.st p.1, p.2))
          simp only [Option.bind_some] at e
          rw [h1] at e
          obtain ⟨⟨y1, t1⟩, _, h6⟩ := Option.bind_eq_some_iff.1 e
          cases h6
        · cases h1
        · by_cases hd : ∃ y, v = .dt y
          · obtain ⟨y, rfl⟩ := hd
            have := hnd _ (List.mem_cons_self ..)
            cases this
          · have : sealV lk v (fun x s => some (x, s)) = sealC lk v (fun x s => some (x, s)) := by
              cases v <;> first | rfl | exact absurd rfl (g1 _) | exact absurd ⟨_, rfl⟩ hd
            rw [this] at h1
            exact nop h1
      · exact List.mem_append_right _ (ioSeal_ptr hnd' h3 k hk)
end

section
variable {R : Type}
theorem ioSeal_some {lk : Nat → Ob} {vs : List V} {K : List V → List (Nat × Option Nat) → Option R} {r : R} (h : ioSeal lk vs K = some r) : ∃ az s, ioSeal lk vs (fun x s => some (x, s)) = some (az, s) ∧ K az s = some r := by
  have e := ioSeal_bind (lk := lk) (vs := vs) (K := fun x s => some (x, s)) (g := fun p : List V × List (Nat × Option Nat) => K p.1 p.2)
  simp only [Option.bind_some] at e
  rw [h] at e
  obtain ⟨⟨x1, s1⟩, h1, h2⟩ := Option.bind_eq_some_iff.1 e
  exact ⟨x1, s1, h1, h2⟩
theorem ioSeal_at {lk : Nat → Ob} {vs az : List V} {s : List (Nat × Option Nat)} (h : ioSeal lk vs (fun x s => some (x, s)) = some (az, s)) {K : List V → List (Nat × Option Nat) → Option R} : ioSeal lk vs K = K az s := by
  have e := ioSeal_bind (lk := lk) (vs := vs) (K := fun x s => some (x, s)) (g := fun p : List V × List (Nat × Option Nat) => K p.1 p.2)
  rw [h] at e
  exact e.symm
theorem ioFill_some {ob : List Ob} {vs : List V} {K : List V → List Nat → Option R} {r : R} (h : ioFill ob vs K = some r) : ∃ az s, ioFill ob vs (fun x s => some (x, s)) = some (az, s) ∧ K az s = some r := by
  have e := ioFill_bind (ob := ob) (vs := vs) (K := fun x s => some (x, s)) (g := fun p : List V × List Nat => K p.1 p.2)
  simp only [Option.bind_some] at e
  rw [h] at e
  obtain ⟨⟨x1, s1⟩, h1, h2⟩ := Option.bind_eq_some_iff.1 e
  exact ⟨x1, s1, h1, h2⟩
theorem ioFill_at {ob : List Ob} {vs az : List V} {s : List Nat} (h : ioFill ob vs (fun x s => some (x, s)) = some (az, s)) {K : List V → List Nat → Option R} : ioFill ob vs K = K az s := by
  have e := ioFill_bind (ob := ob) (vs := vs) (K := fun x s => some (x, s)) (g := fun p : List V × List Nat => K p.1 p.2)
  rw [h] at e
  exact e.symm
theorem ioBack_some {ks : List Nat} {σ : St} {os : List V} {K : St → Option R} {r : R} (h : ioBack σ ks os K = some r) : ∃ σ', ioBack σ ks os some = some σ' ∧ K σ' = some r := by
  have e := ioBack_bind (ks := ks) (σ := σ) (outs := os) (K := some) (g := K)
  simp only [Option.bind_some] at e
  rw [h] at e
  exact Option.bind_eq_some_iff.1 e
theorem unC_at {s : Sh} {v c : V} (h : unC s v some = some c) {K : V → Option R} : unC s v K = K c := by
  have e := unC_bind (s := s) (v := v) (K := some) (g := K)
  rw [h] at e
  exact e.symm
theorem unC_ex {s : Sh} {v : V} {K : V → Option R} {r : R} (h : unC s v K = some r) : ∃ c, unC s v some = some c ∧ K c = some r := by
  have e := unC_bind (s := s) (v := v) (K := some) (g := K)
  simp only [Option.bind_some] at e
  rw [h] at e
  exact Option.bind_eq_some_iff.1 e
theorem unVs_at {ts : List Ty} {j : Nat} {vs c : List V} (h : unVs vs j ts some = some c) {K : List V → Option R} : unVs vs j ts K = K c := by
  have e := unVs_bind (ts := ts) (j := j) (vs := vs) (K := some) (g := K)
  rw [h] at e
  exact e.symm
theorem unVs_ex {ts : List Ty} {j : Nat} {vs : List V} {K : List V → Option R} {r : R} (h : unVs vs j ts K = some r) : ∃ c, unVs vs j ts some = some c ∧ K c = some r := by
  have e := unVs_bind (ts := ts) (j := j) (vs := vs) (K := some) (g := K)
  simp only [Option.bind_some] at e
  rw [h] at e
  exact Option.bind_eq_some_iff.1 e
end
/-- what is put where the call was -/
def finK {R : Type} (y : Ty) (v : V) (d : Nat) (K : St → Option R) (σ : St) : Option R :=
  match y with
  | .c sh => unC sh v fun x => K ⟨σ.sl.set d x, σ.ob⟩
  | .agg ss => unSt ss.length v (K ⟨σ.sl.set d (.dt v), σ.ob⟩)
  | .tup ts => unTup ts.length v fun vs => unVs vs 0 ts fun vs => K ⟨σ.sl.set d (.tup vs), σ.ob⟩
  | .p _ => none
theorem finK_shape {R : Type} {y : Ty} {v : V} {d : Nat} {K : St → Option R} {σ : St} {r : R} (h : finK y v d K σ = some r) : ∃ x, K ⟨σ.sl.set d x, σ.ob⟩ = some r ∧ ∀ (R' : Type) (K' : St → Option R') (σ' : St), finK y v d K' σ' = K' ⟨σ'.sl.set d x, σ'.ob⟩ := by
  cases y with
  | c sh =>
    have h : (unC sh v fun x => K ⟨σ.sl.set d x, σ.ob⟩) = some r := h
    obtain ⟨c, h1, h2⟩ := unC_ex h
    refine ⟨c, h2, fun R' K' σ' => ?_⟩
    show (unC sh v fun x => K' ⟨σ'.sl.set d x, σ'.ob⟩) = _
    exact unC_at h1
  | agg ss =>
    replace h : unSt ss.length v (K ⟨σ.sl.set d (.dt v), σ.ob⟩) = some r := h
    unfold unSt at h
    split at h
    · rename_i cs
      obtain ⟨h1, h2⟩ := bif_some h
      refine ⟨_, h2, fun R' K' σ' => ?_⟩
      show unSt ss.length (.st cs) (K' ⟨σ'.sl.set d (.dt (.st cs)), σ'.ob⟩) = _
      unfold unSt
      simp only
      rw [h1]; rfl
    · cases h
  | p ss => cases h
  | tup ts =>
    replace h : (unTup ts.length v fun vs => unVs vs 0 ts fun vs => K ⟨σ.sl.set d (.tup vs), σ.ob⟩) = some r := h
    unfold unTup at h
    split at h
    · rename_i vs
      obtain ⟨h1, h2⟩ := bif_some h
      obtain ⟨c, h3, h4⟩ := unVs_ex h2
      refine ⟨_, h4, fun R' K' σ' => ?_⟩
      show (unTup ts.length (.tup vs) fun vs => unVs vs 0 ts fun vs => K' ⟨σ'.sl.set d (.tup vs), σ'.ob⟩) = _
      unfold unTup
      simp only
      rw [h1]
      exact unVs_at h3
    · cases h
theorem exLoud_call {T : TT} {call : FuncId → List V → Option Res} {σ : St} {d : Nat} {f : Operand} {args : Array Operand} {ts : Array TypeId} {ty : TypeId} {pos : String} {after : Array Edge} {guard : Option (Nat × Bool)} {R : Type} {K : St → Option R} :
    exLoud T call σ ⟨some d, .call ⟨.value f, args, ts⟩, ty, pos, after, guard⟩ K = match val T σ f with
    | .sc (.func (.func f) fs cv) => bif Nat.beq fs.size 0 && Nat.beq cv.size 0 then ioSeal (lkE σ) (nrmA T ts.toList (args.toList.map (val T σ))) fun az s => ioFill (freeze σ.ob s) az fun vs q => bif nodup q then
        (call f vs).bind fun r => ioBack ⟨σ.sl, freeze σ.ob s⟩ q r.2 (finK (T.ty ty) r.1 d fun σ' => rsA T σ σ' ((args.toList.map (val T σ)).zip ts.toList) K)
        else none
      else none
    | _ => none := rfl
theorem call_operands {f : Operand} {args : Array Operand} {ts : Array TypeId} : f ∈ (Op.call ⟨.value f, args, ts⟩).operands.toList ∧ ∀ x ∈ args.toList, x ∈ (Op.call ⟨.value f, args, ts⟩).operands.toList := by
  constructor
  · simp [Op.operands, Call.operands]
  · intro x hx
    simp only [Op.operands, Call.operands]
    simp [Array.mem_toList_iff.1 hx]
theorem keysC_nrm {s : Sh} {c : V} : keysC (nrmC s c) = keysC c := by
  unfold nrmC
  split <;> rfl
theorem keysN_nrm {T : TT} {t : TypeId} {v : V} : keysN (nrmV T t v) = keysN v := by
  by_cases hs : ∃ cs, v = .st cs
  · obtain ⟨cs, rfl⟩ := hs
    rcases nrmV_st (T := T) (t := t) (cs := cs) with e | ⟨ss, e⟩
    · rw [e]
    · rw [e]
      show (nrmCs ss cs).flatMap keysC = cs.flatMap keysC
      clear e
      induction ss generalizing cs with
      | nil => rfl
      | cons s ss ih =>
        cases cs with
        | nil => rfl
        | cons c cs => unfold nrmCs; rw [List.flatMap_cons, List.flatMap_cons, keysC_nrm, ih]
  · rw [nrmV_el fun cs e => hs ⟨cs, e⟩]
theorem nrmA_keys {T : TT} : ∀ (ts : List TypeId) (vs : List V), (nrmA T ts vs).flatMap keysN = vs.flatMap keysN
  | [], _ => rfl
  | _ :: _, [] => rfl
  | t :: ts, v :: vs => by unfold nrmA; rw [List.flatMap_cons, List.flatMap_cons, keysN_nrm, nrmA_keys ts vs]
theorem nrmV_dt {T : TT} {t : TypeId} {v : V} : noDt (nrmV T t v) = noDt v := by
  by_cases hs : ∃ cs, v = .st cs
  · obtain ⟨cs, rfl⟩ := hs
    rcases nrmV_st (T := T) (t := t) (cs := cs) with e | ⟨ss, e⟩ <;> rw [e] <;> rfl
  · rw [nrmV_el fun cs e => hs ⟨cs, e⟩]
theorem nrmA_dt {T : TT} {ts : List TypeId} {vs : List V} (h : ∀ v ∈ vs, noDt v = true) : ∀ v ∈ nrmA T ts vs, noDt v = true := fun v hv => by
  obtain ⟨i, hi, rfl⟩ := List.getElem_of_mem hv
  obtain ⟨v0, hv0, e0⟩ := nrmA_get _ _ i (List.getElem?_eq_getElem hi)
  have h0 := h v0 (List.mem_of_getElem? hv0)
  rcases e0 with e0 | ⟨t, e0⟩
  · rw [e0]; exact h0
  · rw [e0, nrmV_dt]; exact h0
theorem io_shape {T : TT} {call : FuncId → List V → Option Res} {σ σ2 : St} {o : Oper} (hio : isIo o = true) (hnd : ∀ x ∈ o.op.operands.toList, noDt (val T σ x) = true) (h : exLoud T call σ o some = some σ2) :
    ∃ (d : Nat) (g : V → V) (x : V) (ob' : List Ob), o.dst = some d ∧ (∀ v, triv (opKeys T σ o) v = true → g v = v) ∧ g .dead = .dead ∧ (∀ k, k ∉ opKeys T σ o → ob'.getD k .none = σ.ob.getD k .none) ∧
      ∀ (sl' : List V), (∀ y ∈ o.op.operands.toList, val T ⟨sl', σ.ob⟩ y = val T σ y) → ∀ (R : Type) (K : St → Option R), exLoud T call ⟨sl', σ.ob⟩ o K = K ⟨(sl'.map g).set d x, ob'⟩ := by
  obtain ⟨dst, op, ty, pos, after, guard⟩ := o
  cases op <;> first | (cases hio; done) | skip
  rename_i c
  obtain ⟨callee, args, ts⟩ := c
  cases callee <;> first | (cases hio; done) | skip
  rename_i f
  cases dst with
  | none => cases hio
  | some d =>
  rw [exLoud_call] at h
  obtain ⟨mf, ma⟩ := call_operands (f := f) (args := args) (ts := ts)
  split at h
  · rename_i q fs cv hf
    obtain ⟨h0, h⟩ := bif_some h
    obtain ⟨az, s, h1, h⟩ := ioSeal_some h
    obtain ⟨vs, l, h2, h⟩ := ioFill_some h
    obtain ⟨h3, h⟩ := bif_some h
    obtain ⟨r, h4, h⟩ := Option.bind_eq_some_iff.1 h
    obtain ⟨σ3, h5, h⟩ := ioBack_some h
    obtain ⟨g, ob3, g1, g2, g3, g4⟩ := ioBack_shape h5
    obtain ⟨x, h, h6⟩ := finK_shape h
    have e3 := g4 σ.sl _ some
    rw [h5] at e3
    cases e3
    obtain ⟨ob', h7, h8⟩ := rsA_shape (sl0 := σ.sl) (ob0 := σ.ob) h
    have hkeys : ∀ k, k ∈ (args.toList.map (val T σ)).flatMap keysN → k ∈ opKeys T σ ⟨some d, .call ⟨.value f, args, ts⟩, ty, pos, after, guard⟩ := fun k hk => by
      obtain ⟨v, hv, hk⟩ := List.mem_flatMap.1 hk
      obtain ⟨y, hy, rfl⟩ := List.mem_map.1 hv
      exact List.mem_flatMap.2 ⟨y, ma y hy, hk⟩
    have hl : ∀ k ∈ l, k ∈ opKeys T σ ⟨some d, .call ⟨.value f, args, ts⟩, ty, pos, after, guard⟩ := fun k hk => by
      obtain ⟨y, hy, e⟩ := ioFill_keys h2 k hk
      subst e
      exact hkeys k (by rw [← nrmA_keys ts.toList]; exact ioSeal_ptr (nrmA_dt fun v hv => by obtain ⟨y, hy, rfl⟩ := List.mem_map.1 hv; exact hnd y (ma y hy)) h1 k hy)
    refine ⟨d, g, x, ob', rfl, fun v hv => g1 v (triv_sub hl hv), g2, fun k hk => ?_, fun sl' hsl R K => ?_⟩
    · rw [h7 k (fun p hp hkp => hk (hkeys k (List.mem_flatMap.2 ⟨p.1, (List.of_mem_zip hp).1, hkp⟩)))]
      show ob3.getD k .none = _
      rw [g3 k (fun hkl => hk (hl k hkl)), getD_freeze, frzK_notin fun q hq e => hk (hkeys k (by rw [← e, ← nrmA_keys ts.toList]; exact ioSeal_keys h1 q hq))]
    · rw [exLoud_call, hsl f mf, hf]
      simp only
      rw [h0]
      simp only [cond_true]
      have ea : args.toList.map (val T ⟨sl', σ.ob⟩) = args.toList.map (val T σ) := List.map_congr_left fun y hy => hsl y (ma y hy)
      rw [ea, show lkE ⟨sl', σ.ob⟩ = lkE σ from rfl, ioSeal_at h1, ioFill_at h2, h3]
      simp only [cond_true]
      rw [h4, Option.bind_some, g4, h6]
      exact h8 _ _ _ _
  · cases h
end Go.Proofs.YtmddfhjgdhjmkaaDoor.VM
