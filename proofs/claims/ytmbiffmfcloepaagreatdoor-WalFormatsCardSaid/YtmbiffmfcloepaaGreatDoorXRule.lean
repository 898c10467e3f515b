/- A walk of a function's code that computes what is to be shown: whoever shows it has shown what the call comes to. -/
import Derived.Test.YtmbiffmfcloepaaGreatDoorXSound
namespace Go.X

section
variable {P : Program}

/-- What is known behind a code, by the way it was left. -/
def XQ (Q : XExit → Fr → World → Prop) (c : Code) (a : Act) : Exit → Act → World → Prop
  | .normal, a', w' => ∃ fr', Q .normal fr' w' ∧ Agree fr' a' ∧ a'.tmps.size = a.tmps.size ∧ ∀ t, writes t c = false → a'.tmps[t]? = a.tmps[t]?
  | .exit id, a', w' => ∃ fr', Q (.exit id) fr' w' ∧ Agree fr' a' ∧ a'.tmps.size = a.tmps.size ∧ ∀ t, writes t c = false → a'.tmps[t]? = a.tmps[t]?
  | .ret, a', w' => ∃ fr', Q .ret fr' w' ∧ Agree fr' a' ∧ a'.tmps.size = a.tmps.size ∧ ∀ t, writes t c = false → a'.tmps[t]? = a.tmps[t]?
  | _, _, _ => False

theorem zip_range {ops : Array Oper} : List.range ops.size = List.range' 0 ops.toList.length := by
  rw [List.range_eq_range']; simp

theorem outs_agree {fr : Fr} {a a' : Act} {ops : List Oper} (h : Agree fr a) (hs : Same (dsts ops) a a') (hd : a'.defers = []) (keep : List Nat) : Agree ((fr.without (dsts ops)).keep keep) a' := by
  refine ⟨fun t v ht => ?_, hd⟩
  obtain ⟨h1, h2⟩ := without_find fr (keep_find keep ht)
  rw [hs.2 t h1]
  exact h.vals t v h2

theorem xrun_ok (hm : P.follows .mixedOrders = true) {id : Nat} {ops : Array Oper} {draw : Bool} {n : Nat} (hok : opsOk n ops.toList = true) {K : Fr → World → Prop} {fr : Fr} {a : Act} {w : World}
    (hn : a.tmps.size = n) (ha : Agree fr a) (h : xrun P ops draw K fr w) {Q : Exit → Act → World → Prop} (hpan : ∀ c a w, ¬ Q (.panic c) a w)
    (hK : ∀ fr' a' w', Agree fr' a' → Same (dsts ops.toList) a a' → K fr' w' → Q .normal a' w') : (Code.region id ops draw).wp P Q a w := by
  cases draw with
  | false =>
    refine wp_region ?_
    rw [zip_range]
    exact xops_ok hok hK ops.toList 0 fr a w (fun j => by rw [Nat.zero_add, Array.getElem?_toList]) hn ha (Same.refl _ _) h
  | true =>
    refine wp_region_any hm (wpAny_of_V _ _ [] _ _ ?_)
    have hL : Listed ops (Array.replicate ops.size false) 0 := by
      refine ⟨by simp, fun i => ?_⟩
      rw [bit_testBit, Nat.zero_testBit]
      by_cases hi : i < ops.size <;> simp [hi]
    have := xdraw_ok hok hpan hK ops.toList.length 0 _ [] fr a w.drew hL hn ha (Same.refl _ _) trivial h
    simpa using this

theorem region_writes {t id : Nat} {ops : Array Oper} {draw : Bool} (h : writes t (.region id ops draw) = false) : memB t (dsts ops.toList) = false := h

theorem xregion_ok (hm : P.follows .mixedOrders = true) {keep : List Nat} {id : Nat} {ops : Array Oper} {draw : Bool} {n : Nat} (hok : opsOk n ops.toList = true) {Q : XExit → Fr → World → Prop} {fr : Fr} {a : Act} {w : World}
    (hn : a.tmps.size = n) (ha : Agree fr a) (h : xregion P keep ops draw (Q .normal) fr w) : (Code.region id ops draw).wp P (XQ Q (.region id ops draw) a) a w := by
  unfold xregion at h
  split at h
  · refine xrun_ok hm hok hn ha h (fun _ _ _ h => h) fun fr' a' w' ha' hs hk => ?_
    exact ⟨_, hk, ha'.keep keep, hs.1, fun t ht => hs.2 t (region_writes ht)⟩
  · simp only [XJoin] at h
    refine xrun_ok hm hok hn ha h (fun _ _ _ h => h) fun fr' a' w' ha' hs hk => ?_
    obtain ⟨s, hg, hk⟩ := getH_spec hk
    exact ⟨_, hk, Agree.puts (outs_agree ha hs ha'.defers keep) ha' _ _ hg, hs.1, fun t ht => hs.2 t (region_writes ht)⟩

theorem XQ_trans {Q : XExit → Fr → World → Prop} {c d : Code} {a a1 : Act} (hs : a1.tmps.size = a.tmps.size) (hu : ∀ t, writes t d = false → a1.tmps[t]? = a.tmps[t]?)
    (hc : ∀ t, writes t d = false → writes t c = false) : ∀ e a' w', XQ Q c a1 e a' w' → XQ Q d a e a' w' := by
  intro e a' w' h
  cases e with
  | normal => obtain ⟨fr', h1, h2, h3, h4⟩ := h; exact ⟨fr', h1, h2, h3.trans hs, fun t ht => (h4 t (hc t ht)).trans (hu t ht)⟩
  | exit id => obtain ⟨fr', h1, h2, h3, h4⟩ := h; exact ⟨fr', h1, h2, h3.trans hs, fun t ht => (h4 t (hc t ht)).trans (hu t ht)⟩
  | ret => obtain ⟨fr', h1, h2, h3, h4⟩ := h; exact ⟨fr', h1, h2, h3.trans hs, fun t ht => (h4 t (hc t ht)).trans (hu t ht)⟩
  | goto l => exact h
  | panic c => exact h
  | outgrown => exact h

theorem seq_l {a b : Code} {t : Nat} (h : writes t (.seq a b) = false) : writes t a = false := by
  simp only [writes] at h
  split at h
  · cases h
  · assumption

theorem seq_r {a b : Code} {t : Nat} (h : writes t (.seq a b) = false) : writes t b = false := by
  simp only [writes] at h
  split at h
  · cases h
  · assumption

theorem cond_l {c : Operand} {a b : Code} {t : Nat} (h : writes t (.cond c a b) = false) : writes t a = false := by
  simp only [writes] at h
  split at h
  · cases h
  · assumption

theorem cond_r {c : Operand} {a b : Code} {t : Nat} (h : writes t (.cond c a b) = false) : writes t b = false := by
  simp only [writes] at h
  split at h
  · cases h
  · assumption

theorem both_ok {x y : Bool} (h : (match x with | true => y | false => false) = true) : x = true ∧ y = true := by
  cases x <;> cases y <;> first | exact ⟨rfl, rfl⟩ | cases h

theorem agree_kept {c : Code} {fr : Fr} {a a' : Act} (h : Agree fr a) (hu : ∀ t, writes t c = false → a'.tmps[t]? = a.tmps[t]?) (hd : a'.defers = []) : Agree (kept c fr) a' := by
  refine ⟨fun t v ht => ?_, hd⟩
  obtain ⟨h1, h2⟩ := kept_find fr ht
  rw [hu t h1]
  exact h.vals t v h2

theorem carried_get {c : Code} : ∀ (fr : Fr) (s : HT (tysOf (snds (carried c fr)))), HT.un (tysOf (snds (carried c fr))) (snds (carried c fr)) = some s → HT.vals _ s = snds (carried c fr) :=
  fun _ s h => HT.vals_un _ _ s h

theorem XQ_exit {Q Q' : XExit → Fr → World → Prop} {c d : Code} {a : Act} (hc : ∀ t, writes t d = false → writes t c = false) (hQ : ∀ e fr w, e ≠ .normal → Q e fr w → Q' e fr w) :
    ∀ e a' w', e ≠ .normal → XQ Q c a e a' w' → XQ Q' d a e a' w' := by
  intro e a' w' he h
  cases e with
  | normal => exact absurd rfl he
  | exit id => obtain ⟨fr', h1, h2, h3, h4⟩ := h; exact ⟨fr', hQ _ _ _ (by intro h; cases h) h1, h2, h3, fun t ht => h4 t (hc t ht)⟩
  | ret => obtain ⟨fr', h1, h2, h3, h4⟩ := h; exact ⟨fr', hQ _ _ _ (by intro h; cases h) h1, h2, h3, fun t ht => h4 t (hc t ht)⟩
  | goto l => exact h
  | panic c => exact h
  | outgrown => exact h

theorem thenQ_other {K : Fr → World → Prop} {Q : XExit → Fr → World → Prop} : ∀ e fr w, e ≠ .normal → thenQ K Q e fr w → Q e fr w := by
  intro e fr w he h
  cases e with
  | normal => exact absurd rfl he
  | exit id => exact h
  | ret => exact h

theorem loop_key {b : Code} {n : Nat} {keep : List Nat} {Q : XExit → Fr → World → Prop} {fr : Fr} {a0 : Act} (h0 : Agree fr a0)
    (ih : ∀ (Q : XExit → Fr → World → Prop) (fr : Fr) (a : Act) (w : World), a.tmps.size = n → Agree fr a → xcode P keep b Q fr w → b.wp P (XQ Q b a) a w)
    (slots : List Nat) (ts : List Ty) :
    ∀ (m : Nat) (s : HT ts) (a : Act) (w : World), a.tmps.size = n → a.tmps.size = a0.tmps.size → (∀ t, writes t b = false → a.tmps[t]? = a0.tmps[t]?) → Agree (Fr.puts slots (HT.vals ts s) (kept b fr)) a →
      iterL (fun next s w' => xcode P keep b (thenQ (fun fr' w'' => getH ts slots fr' fun s' => next s' w'') Q) (Fr.puts slots (HT.vals ts s) (kept b fr)) w') m s w →
      ∀ (bf : Frame) (k : List Item) (cs : List Frame), ∃ e a' w', XQ Q (.loop b) a0 e a' w' ∧ Arrives P (lone (bf.at a (.code b :: .inLoop b :: k)) cs w) bf k cs e a' w' := by
  intro m
  induction m with
  | zero => intro s a w _ _ _ _ h; exact h.elim
  | succ m ihm =>
    intro s a w hn hsz hu ha h bf k cs
    obtain ⟨e, a₁, w₁, hq, harr⟩ := ih _ _ a w hn ha h bf (.inLoop b :: k) cs
    have hback : e ≠ .normal → XQ Q (.loop b) a0 e a₁ w₁ := fun he =>
      XQ_trans (c := b) hsz hu (fun t ht => ht) _ _ _ (XQ_exit (d := b) (fun t ht => ht) thenQ_other e a₁ w₁ he hq)
    cases e with
    | normal =>
      obtain ⟨fr', hq', ha', hs', hu'⟩ := hq
      obtain ⟨s', hg, hk⟩ := getH_spec (K := fun s' => iterL _ m s' w₁) hq'
      have hu1 : ∀ t, writes t b = false → a₁.tmps[t]? = a0.tmps[t]? := fun t ht => (hu' t ht).trans (hu t ht)
      obtain ⟨e₂, a₂, w₂, hq₂, harr₂⟩ := ihm s' a₁ w₁ (hs'.trans hn) (hs'.trans hsz) hu1 (Agree.puts (agree_kept h0 hu1 ha'.defers) ha' slots _ hg) hk bf k cs
      exact ⟨e₂, a₂, w₂, hq₂, .of_steps (Steps.trans harr (.one step_inLoop)) harr₂⟩
    | exit id => exact ⟨_, a₁, w₁, hback (by intro h; cases h), .pass (x := .inLoop b) rfl (fun _ _ => .inl (by simp)) harr⟩
    | goto l => exact ⟨_, a₁, w₁, hback (by intro h; cases h), .pass (x := .inLoop b) rfl (fun _ _ => .inl (by simp)) harr⟩
    | ret => exact ⟨_, a₁, w₁, hback (by intro h; cases h), .pass (x := .inLoop b) rfl (fun _ _ => .inl (by simp)) harr⟩
    | panic ch => exact ⟨_, a₁, w₁, hback (by intro h; cases h), .pass (x := .inLoop b) rfl (fun _ _ => .inl (by simp)) harr⟩
    | outgrown => exact ⟨_, a₁, w₁, hback (by intro h; cases h), .pass (x := .inLoop b) rfl (fun _ _ => .inl (by simp)) harr⟩

theorem agree_carried {c : Code} {fr : Fr} {a : Act} (h : Agree fr a) : Agree (Fr.puts (fsts (carried c fr)) (snds (carried c fr)) (kept c fr)) a := by
  refine ⟨fun t v ht => ?_, h.defers⟩
  have key : ∀ (fr : Fr), (Fr.puts (fsts (carried c fr)) (snds (carried c fr)) (kept c fr)).find t = some v → fr.find t = some v := by
    intro fr
    induction fr with
    | nil => intro h; cases h
    | cons p fr ih =>
      intro h
      simp only [carried, kept] at h
      cases hw : writes p.1 c with
      | true =>
        rw [hw] at h
        simp only [fsts, snds, Fr.puts] at h
        rw [find_cons] at h
        rw [find_cons]
        split at h
        · rename_i e; simp only [e]; exact h
        · rename_i e; simp only [e]; exact ih h
      | false =>
        rw [hw] at h
        simp only at h
        rw [find_cons]
        -- 't' is either carried or kept
        have : ∀ (l : Fr) (base : Fr), (Fr.puts (fsts l) (snds l) base).find t = match l.find t with | some u => some u | none => base.find t := by
          intro l
          induction l with
          | nil => intro base; rfl
          | cons q l ihl =>
            intro base
            simp only [fsts, snds, Fr.puts]
            rw [find_cons, find_cons]
            cases hq : Nat.beq q.1 t with
            | true => rfl
            | false => exact ihl base
        rw [this] at h ih
        cases hc : (carried c fr).find t with
        | some u =>
          rw [hc] at h ih
          simp only at h ih
          have hwt : writes t c = true := by
            have : ∀ (l : Fr), (carried c l).find t = some u → writes t c = true := by
              intro l
              induction l with
              | nil => intro h; cases h
              | cons q l ihl =>
                intro h
                simp only [carried] at h
                cases hq : writes q.1 c with
                | true =>
                  rw [hq] at h
                  rw [find_cons] at h
                  cases hb : Nat.beq q.1 t with
                  | true => rw [← beq_true hb]; exact hq
                  | false => rw [hb] at h; exact ihl h
                | false => rw [hq] at h; exact ihl h
            exact this fr hc
          cases hb : Nat.beq p.1 t with
          | true => rw [beq_true hb, hwt] at hw; cases hw
          | false => exact ih h
        | none =>
          rw [hc] at h ih
          simp only at h ih
          rw [find_cons] at h
          cases hb : Nat.beq p.1 t with
          | true => rw [hb] at h; exact h
          | false => rw [hb] at h; exact ih h
  exact h.vals t v (key fr ht)

theorem xcode_ok (hm : P.follows .mixedOrders = true) {keep : List Nat} {n : Nat} : ∀ (c : Code) (Q : XExit → Fr → World → Prop) (fr : Fr) (a : Act) (w : World), codeOk n c = true → a.tmps.size = n → Agree fr a →
    xcode P keep c Q fr w → c.wp P (XQ Q c a) a w := by
  intro c
  induction c with
  | skip => intro Q fr a w _ _ ha h; exact Go.wp_skip ⟨fr, h, ha, rfl, fun _ _ => rfl⟩
  | label l => intro Q fr a w _ _ ha h; exact wp_label ⟨fr, h, ha, rfl, fun _ _ => rfl⟩
  | ret => intro Q fr a w _ _ ha h; exact wp_ret ⟨fr, h, ha, rfl, fun _ _ => rfl⟩
  | exit id => intro Q fr a w _ _ ha h; exact wp_exit ⟨fr, h, ha, rfl, fun _ _ => rfl⟩
  | region id ops draw => intro Q fr a w hok hn ha h; exact xregion_ok hm hok hn ha h
  | cond c x y ihx ihy =>
    intro Q fr a w hok hn ha h
    obtain ⟨hx, hy⟩ := both_ok hok
    simp only [xcode] at h
    split at h
    · rename_i t ht
      refine wp_cond_split (t := t) (ha.eval c _ ht) (fun e => ?_) fun e => ?_
      · subst e; exact wp_mono (ihx Q fr a w hx hn ha h) (XQ_trans rfl (fun _ _ => rfl) fun t ht => cond_l ht)
      · subst e; exact wp_mono (ihy Q fr a w hy hn ha h) (XQ_trans rfl (fun _ _ => rfl) fun t ht => cond_r ht)
    · exact h.elim
  | block id b ih =>
    intro Q fr a w hok hn ha h
    simp only [xcode] at h
    refine wp_block (wp_mono (ih _ fr a w hok hn ha h) fun e a' w' hq => ?_)
    cases e with
    | normal => obtain ⟨fr', h1, h2, h3, h4⟩ := hq; exact ⟨fr', h1, h2, h3, h4⟩
    | exit i =>
      obtain ⟨fr', h1, h2, h3, h4⟩ := hq
      simp only [Exit.inBlock]
      split
      · rename_i e
        subst e
        simp only [blockQ, Nat.beq_refl] at h1
        exact ⟨fr', h1, h2, h3, h4⟩
      · rename_i e
        have hb : Nat.beq i id = false := by cases hb : Nat.beq i id with
          | false => rfl
          | true => exact absurd (beq_true hb) e
        simp only [blockQ, hb] at h1
        exact ⟨fr', h1, h2, h3, h4⟩
    | ret => obtain ⟨fr', h1, h2, h3, h4⟩ := hq; exact ⟨fr', h1, h2, h3, h4⟩
    | goto l => exact hq
    | panic c => exact hq
    | outgrown => exact hq
  | seq x y ihx ihy =>
    intro Q fr a w hok hn ha h
    obtain ⟨hx, hy⟩ := both_ok hok
    simp only [xcode] at h
    split at h
    · refine wp_seq (wp_mono (ihx _ fr a w hx hn ha h) fun e a' w' hq => ?_)
      have hother := fun he => XQ_exit (Q' := Q) (c := x) (d := .seq x y) (a := a) (fun t ht => seq_l ht) thenQ_other e a' w' he hq
      cases e with
      | normal =>
        obtain ⟨fr', h1, h2, h3, h4⟩ := hq
        exact wp_mono (ihy Q fr' a' w' hy (h3.trans hn) h2 h1) (XQ_trans h3 (fun t ht => h4 t (seq_l ht)) fun t ht => seq_r ht)
      | exit i => exact hother (by intro h; cases h)
      | ret => exact hother (by intro h; cases h)
      | goto l => exact hq
      | panic c => exact hq
      | outgrown => exact hq
    · simp only [XJoin] at h
      refine wp_seq (wp_mono (ihx _ fr a w hx hn ha h) fun e a' w' hq => ?_)
      have hother := fun he => XQ_exit (Q' := Q) (c := x) (d := .seq x y) (a := a) (fun t ht => seq_l ht) thenQ_other e a' w' he hq
      cases e with
      | normal =>
        obtain ⟨fr', h1, h2, h3, h4⟩ := hq
        obtain ⟨s, hg, hk⟩ := getH_spec (K := fun s => xcode P keep y Q (Fr.puts (fsts (carried x fr) ++ newSlots x fr (condsOf y)) (HT.vals _ s) (kept x fr)) w') h1
        have ha' := Agree.puts (agree_kept ha h4 h2.defers) h2 _ _ hg
        exact wp_mono (ihy Q _ a' w' hy (h3.trans hn) ha' hk) (XQ_trans h3 (fun t ht => h4 t (seq_l ht)) fun t ht => seq_r ht)
      | exit i => exact hother (by intro h; cases h)
      | ret => exact hother (by intro h; cases h)
      | goto l => exact hq
      | panic c => exact hq
      | outgrown => exact hq
  | loop b ih =>
    intro Q fr a w hok hn ha h
    simp only [xcode] at h
    split at h
    · rename_i s0 hs0
      obtain ⟨m, hm'⟩ := h
      intro bf k cs
      have hv := HT.vals_un _ _ s0 hs0
      obtain ⟨e, a', w', hq, harr⟩ := loop_key (P := P) (b := b) (n := n) (keep := keep) (Q := Q) ha (fun Q fr a w hn ha h => ih Q fr a w hok hn ha h) (fsts (carried b fr)) (tysOf (snds (carried b fr))) m s0 a w hn rfl
        (fun _ _ => rfl) (by rw [hv]; exact agree_carried ha) hm' bf k cs
      exact ⟨e, a', w', hq, .of_steps (.one step_loop) harr⟩
    · exact h.elim
  | scope b _ => intro Q fr a w _ _ _ h; exact h.elim
  | goto l => intro Q fr a w _ _ _ h; exact h.elim
  | refuse why => intro Q fr a w _ _ _ h; exact h.elim
  | rangeFunc f ps x b _ _ => intro Q fr a w _ _ _ h; exact h.elim

theorem zip_find : ∀ (vs : List Value) (i t : Nat) (v : Value), (zipFrom i vs).find t = some v → i ≤ t ∧ vs[t - i]? = some v
  | [], _, _, _, h => by cases h
  | u :: us, i, t, v, h => by
    simp only [zipFrom] at h
    rw [find_cons] at h
    split at h
    · rename_i e; have := beq_true e; simp only at this; subst this; cases h; simp
    · obtain ⟨h1, h2⟩ := zip_find us (i + 1) t v h
      refine ⟨by omega, ?_⟩
      rw [show t - i = (t - (i + 1)) + 1 by omega]
      simpa using h2

/-- What a result's place holds. -/
def resOf (tmps : Array Value) : ResultVar → Sem Value
  | .tmp t => pure (tmps.getD t undef)
  | .cell b t => do loadVar t (← asAddr (tmps.getD b undef))

theorem results_eq (fn : Func) (tmps : Array Value) : results fn tmps = (do
    let vs ← fn.results.mapM (resOf tmps)
    pure (if h : vs.size = 1 then vs[0] else .tuple vs)) := by
  unfold results
  congr 1

theorem xresults_ok {fr : Fr} {a : Act} {w : World} (ha : Agree fr a) : ∀ (rs : List ResultVar) (K : List Value → Prop), xresults P fr w rs K →
    ∃ vs, (rs.mapM (resOf a.tmps) : Sem (List Value)).run P w = .ok vs w ∧ K vs
  | [], K, h => ⟨[], by simp, h⟩
  | .tmp t :: rs, K, h => by
    simp only [xresults] at h
    split at h
    · rename_i v hv
      obtain ⟨vs, hr, hk⟩ := xresults_ok ha rs _ h
      refine ⟨v :: vs, ?_, hk⟩
      have := ha.vals t v hv
      have hget : a.tmps.getD t undef = v := by simp [this]
      simp only [List.mapM_cons, Sem.run_bind, Sem.run_pure, Result.andThen, resOf, hget, hr]
    · exact h.elim
  | .cell t u :: rs, K, h => by
    simp only [xresults] at h
    split at h
    · rename_i b hb
      obtain ⟨v, S, hv, hS, hk⟩ := xread_ok (P := P) (ρ := fun | .const v => some v | _ => none) (ρ' := fun | .const v => v | _ => undef) (fun x v hx => by cases x <;> simp at hx ⊢; exact hx)
        { dst := none, op := .load u (.const (.pointer (some b))), type := 0, pos := "", after := #[], guard := none } w _ h
      obtain ⟨vs, hr, hk'⟩ := xresults_ok ha rs _ hk
      refine ⟨v :: vs, ?_, hk'⟩
      have := ha.vals t _ hb
      have hget : a.tmps.getD t undef = .pointer (some b) := by simp [this]
      have hl := hv w hS
      simp only [execOp, Instr.loadAt, Instr.sureAddr, Sem.run_bind, Sem.run_pure, Result.andThen] at hl
      have hl' : (loadVar u b).run P w = .ok v w := by
        cases hx : (loadVar u b).run P w with
        | ok x w1 => rw [hx] at hl; simp only at hl; cases hl; rfl
        | halt x w1 => rw [hx] at hl; cases hl
      have has : (asAddr (.pointer (some b))).run P w = .ok b w := rfl
      simp only [List.mapM_cons, Sem.run_bind, resOf, hget, has, Sem.run_pure, Result.andThen, hl', hr]
    · exact h.elim

/-- **Whoever shows what a function's code comes to has shown what the call does.** -/
theorem calls_of_xfunc {f : FuncId} {fn : Func} {c : Code} {args : List Value} {w : World} {K : Value → World → Prop} (keep : List Nat) (hm : P.follows .mixedOrders = true)
    (hf : P.funcs[f]? = some fn) (hb : fn.body = some c) (hok : (codeOk fn.ntmps c && Nat.ble args.length fn.ntmps) = true) (h : xfunc P keep c fn.results.toList args K w) :
    Calls P f ⟨args⟩ w fun e w' => ∃ v, e = .returned v ∧ K v w' := by
  obtain ⟨hok, hargs⟩ := Bool.and_eq_true_iff.1 hok
  have hargs := Nat.le_of_ble_eq_true hargs
  refine calls_of_wp hf hb ?_
  have hagree : Agree (zipFrom 0 args) { tmps := (⟨args⟩ : Array Value) ++ Array.replicate (fn.ntmps - (⟨args⟩ : Array Value).size) undef, defers := [] } := by
    refine ⟨fun t v ht => ?_, rfl⟩
    obtain ⟨_, h2⟩ := zip_find args 0 t v ht
    rw [Nat.sub_zero] at h2
    have hlt : t < args.length := (List.getElem?_eq_some_iff.1 h2).1
    show ((⟨args⟩ : Array Value) ++ _)[t]? = some v
    rw [Array.getElem?_append_left (by simpa using hlt)]
    simpa using h2
  have hsize : ((⟨args⟩ : Array Value) ++ Array.replicate (fn.ntmps - (⟨args⟩ : Array Value).size) undef).size = fn.ntmps := by
    simp only [Array.size_append, Array.size_replicate]
    show args.length + (fn.ntmps - args.length) = fn.ntmps
    omega
  refine wp_mono (xcode_ok hm (n := fn.ntmps) c _ _ _ w hok hsize hagree h) fun e a' w' hq => ?_
  have fin : ∀ fr', xresults P fr' w' fn.results.toList (fun vs => match vs with | [v] => K v w' | vs => K (.tuple ⟨vs⟩) w') → Agree fr' a' →
      a'.defers = [] ∧ ∃ v, (results fn a'.tmps).run P w' = .ok v w' ∧ ∃ u, Ending.returned v = .returned u ∧ K u w' := by
    intro fr' hx ha'
    obtain ⟨vs, hr, hk⟩ := xresults_ok ha' _ _ hx
    refine ⟨ha'.defers, ?_⟩
    have hmap : (fn.results.mapM (resOf a'.tmps) : Sem (Array Value)).run P w' = .ok ⟨vs⟩ w' := by
      rw [← Array.toArray_toList (xs := fn.results), List.mapM_toArray]
      simp only [Sem.run_map, hr]
      rfl
    refine ⟨if h : (⟨vs⟩ : Array Value).size = 1 then (⟨vs⟩ : Array Value)[0] else .tuple ⟨vs⟩, ?_, _, rfl, ?_⟩
    · rw [results_eq]
      simp only [Sem.run_bind, hmap, Result.andThen, Sem.run_pure]
    · match vs, hk with
      | [], hk => exact hk
      | [v], hk => exact hk
      | _ :: _ :: _, hk => exact hk
  cases e with
  | normal => obtain ⟨fr', h1, h2, _, _⟩ := hq; exact fin fr' h1 h2
  | ret => obtain ⟨fr', h1, h2, _, _⟩ := hq; exact fin fr' h1 h2
  | exit id => obtain ⟨fr', h1, _⟩ := hq; exact h1.elim
  | goto l => exact hq.elim
  | panic ch => exact hq.elim
  | outgrown => exact hq.elim

/-- A function's code, walked. -/
def xfn (P : Program) (keep : List Nat) (fn : Func) (args : List Value) (K : Value → World → Prop) (w : World) : Prop :=
  match fn.body with
  | some c => xfunc P keep c fn.results.toList args K w
  | none => False

def okFn (fn : Func) (n : Nat) : Bool :=
  match fn.body with
  | some c => codeOk fn.ntmps c && Nat.ble n fn.ntmps
  | none => false

theorem calls_x {f : FuncId} {fn : Func} {args : List Value} {w : World} {K : Value → World → Prop} (keep : List Nat) (hm : P.follows .mixedOrders = true)
    (hf : P.funcs[f]? = some fn) (hok : okFn fn args.length = true) (h : xfn P keep fn args K w) :
    Calls P f ⟨args⟩ w fun e w' => ∃ v, e = .returned v ∧ K v w' := by
  unfold xfn at h
  unfold okFn at hok
  split at h
  · rename_i c hc
    rw [hc] at hok
    exact calls_of_xfunc keep hm hf hc hok h
  · exact h.elim

end
end Go.X
