/- A region whose order is drawn is walked in one order: reads are taken as early as they may be, and are asked again behind each operation that may come ahead of them. -/
import Derived.Orders
import Derived.Laws.World
import Derived.KernelRfl
namespace Go.X

section
variable {P : Program} {ops : Array Oper} {Q : Exit → Act → World → Prop}

/-- What has been read early: by which operation, and in which worlds it reads the same. -/
abbrev Watch := List (Nat × (World → Prop))

/-- Does operation 'j' wait for 'i' directly? -/
def waitsFor (ops : Array Oper) (j i : Nat) : Bool :=
  match ops[j]? with
  | some o => o.after.toList.any fun e => Region.binds .any e && Nat.beq e.on i
  | none => false

def Watch.drop (ops : Array Oper) (j : Nat) : Watch → Watch
  | [] => []
  | p :: V => match waitsFor ops j p.1 with
    | true => Watch.drop ops j V
    | false => p :: Watch.drop ops j V

theorem Watch.drop_cons {ops : Array Oper} {j : Nat} {p : Nat × (World → Prop)} {V : Watch} :
    Watch.drop ops j (p :: V) = match waitsFor ops j p.1 with | true => Watch.drop ops j V | false => p :: Watch.drop ops j V := rfl

def Watch.holds (w : World) : Watch → Prop
  | [] => True
  | p :: V => p.2 w ∧ Watch.holds w V

theorem Watch.holds_drop {ops : Array Oper} {j : Nat} {w : World} : ∀ {V : Watch}, V.holds w → (V.drop ops j).holds w
  | [], _ => trivial
  | p :: V, h => by
    unfold Watch.drop
    split
    · exact holds_drop h.2
    · exact ⟨h.1, holds_drop h.2⟩

/-- Whatever order is picked from here on; what was read early reads the same behind each operation that does not wait for the read. -/
def wpAnyV (P : Program) (ops : Array Oper) (Q : Exit → Act → World → Prop) : Nat → Array Bool → Watch → Act → World → Prop
  | 0, listed, _, a, w => Region.ready .any ops listed = [] ∧ Q .normal a w
  | fuel + 1, listed, V, a, w =>
    (Region.ready .any ops listed = [] → Q .normal a w) ∧
    ∀ i ∈ Region.ready .any ops listed, wpOp P ops Q i (fun a' w' => (V.drop ops i).holds w' ∧ wpAnyV P ops Q fuel (listed.setIfInBounds i true) (V.drop ops i) a' w') a w

theorem wpAny_of_V : ∀ (fuel : Nat) (listed : Array Bool) (V : Watch) (a : Act) (w : World), wpAnyV P ops Q fuel listed V a w → wpAny P .any ops Q fuel listed a w
  | 0, _, _, _, _, h => h
  | fuel + 1, _, _, _, _, h => ⟨h.1, fun i hi => wpOp_mono (fun a' w' h' => wpAny_of_V fuel _ _ a' w' h'.2) (h.2 i hi)⟩

/-- Fewer watched reads ask less. -/
inductive Watch.Sub : Watch → Watch → Prop
  | nil : Watch.Sub [] []
  | skip {V V' : Watch} (p) : Watch.Sub V V' → Watch.Sub V (p :: V')
  | keep {V V' : Watch} (p) : Watch.Sub V V' → Watch.Sub (p :: V) (p :: V')

theorem Watch.Sub.refl : ∀ (V : Watch), V.Sub V
  | [] => .nil
  | p :: V => .keep p (refl V)

theorem Watch.Sub.drop {ops : Array Oper} {j : Nat} {V V' : Watch} (h : V.Sub V') : (V.drop ops j).Sub (V'.drop ops j) := by
  induction h with
  | nil => exact .nil
  | skip p _ ih =>
    rw [Watch.drop_cons (p := p)]
    cases waitsFor ops j p.1
    · exact .skip p ih
    · exact ih
  | keep p _ ih =>
    rw [Watch.drop_cons, Watch.drop_cons]
    cases waitsFor ops j p.1
    · exact .keep p ih
    · exact ih

theorem Watch.Sub.drop_self {ops : Array Oper} {j : Nat} : ∀ (V : Watch), (V.drop ops j).Sub V
  | [] => .nil
  | p :: V => by
    unfold Watch.drop
    split
    · exact .skip p (drop_self V)
    · exact .keep p (drop_self V)

theorem Watch.Sub.trans {V V' V'' : Watch} (h : V.Sub V') (h' : V'.Sub V'') : V.Sub V'' := by
  induction h' generalizing V with
  | nil => exact h
  | skip p _ ih => exact .skip p (ih h)
  | keep p _ ih =>
    cases h with
    | skip _ h => exact .skip p (ih h)
    | keep _ h => exact .keep p (ih h)

theorem Watch.Sub.holds {w : World} {V V' : Watch} (h : V.Sub V') : V'.holds w → V.holds w := by
  induction h with
  | nil => exact id
  | skip p _ ih => exact fun h => ih h.2
  | keep p _ ih => exact fun h => ⟨h.1, ih h.2⟩

theorem wpAnyV_sub : ∀ (fuel : Nat) (listed : Array Bool) {V V' : Watch} (a : Act) (w : World), V.Sub V' → wpAnyV P ops Q fuel listed V' a w → wpAnyV P ops Q fuel listed V a w
  | 0, _, _, _, _, _, _, h => h
  | fuel + 1, _, _, _, _, _, hs, h => ⟨h.1, fun i hi => wpOp_mono (fun a' w' h' => ⟨hs.drop.holds h'.1, wpAnyV_sub fuel _ a' w' hs.drop h'.2⟩) (h.2 i hi)⟩

/-- In state 'a', in every world that meets 'S', operation 'o' leaves 'v' in its temporary and does nothing else. -/
def YieldsIf (P : Program) (ops : Array Oper) (S : World → Prop) (o : Oper) (v : Value) (a : Act) : Prop :=
  (Region.wanted o (yielded ops a.tmps) = true ∧ ∀ w, S w → (execOp a.eval o).run P w = .ok (.value v) w) ∨
  (Region.wanted o (yielded ops a.tmps) = false ∧ v = undef)

theorem YieldsIf.wpOp {S : World → Prop} {i : Nat} {o : Oper} {v : Value} {a : Act} (hi : ops[i]? = some o) (hy : YieldsIf P ops S o v a)
    {K : Act → World → Prop} {w : World} (hS : S w) (h : K (a.put o.dst v) w) : wpOp P ops Q i K a w := by
  unfold Go.wpOp
  simp only [hi]
  rcases hy with ⟨hw, hv⟩ | ⟨hw, rfl⟩
  · simp only [hw, if_true, Oper.wp, hv w hS, Oper.upon]; exact .inl h
  · simp only [hw, Bool.false_eq_true, if_false]; exact h

theorem YieldsIf.of_same {S : World → Prop} {o : Oper} {v : Value} {a a' : Act} (hy : YieldsIf P ops S o v a) (he : execOp a'.eval o = execOp a.eval o)
    (hw : Region.wanted o (yielded ops a'.tmps) = Region.wanted o (yielded ops a.tmps)) : YieldsIf P ops S o v a' := by
  unfold YieldsIf at *
  rw [he, hw]
  exact hy

theorem wpOp_putV {S : World → Prop} {j : Nat} {oi oj : Oper} {v : Value} (hj : ops[j]? = some oj) (hap : oi.apart ops oj = true)
    (hsi : ∀ cs b, oi.op ≠ .select cs b) (hsj : ∀ cs b, oj.op ≠ .select cs b)
    (hQ : ∀ c a w, Q (.panic c) (a.put oi.dst v) w → Q (.panic c) a w) {K : Act → World → Prop} {a : Act} {w : World}
    (hy : YieldsIf P ops S oi v a) (h : wpOp P ops Q j K (a.put oi.dst v) w) :
    wpOp P ops Q j (fun a' w' => YieldsIf P ops S oi v a' ∧ K (a'.put oi.dst v) w') a w := by
  obtain ⟨h1, h2, h3⟩ := Oper.apart_spec hap
  have keep : ∀ (a : Act), YieldsIf P ops S oi v a → ∀ u, YieldsIf P ops S oi v (a.put oj.dst u) := fun a hy u =>
    hy.of_same (execOp_put oi hsi a oj.dst u h3) (wanted_put oi a oj.dst u h3)
  have keepD : ∀ d, YieldsIf P ops S oi v { a with defers := d :: a.defers } := fun d => hy.of_same rfl rfl
  unfold wpOp at *
  simp only [hj] at *
  rw [wanted_put oj a oi.dst v h1] at h
  split
  · rename_i hw
    simp only [hw, if_true] at h
    rcases h with h | ⟨hasks, hlets⟩
    case inr => exact .inr ⟨by unfold Oper.asks at *; rw [execOp_put oj hsj a oi.dst v h1] at hasks; exact hasks, hlets⟩
    refine .inl ?_
    unfold Oper.wp at *
    rw [execOp_put oj hsj a oi.dst v h1] at h
    generalize (execOp a.eval oj).run P w = r at *
    cases r with
    | ok n w' =>
      cases n <;> simp only [Oper.upon] at h ⊢
      case value u => exact ⟨keep a hy u, by rw [← Act.put_comm a v u h2]; exact h⟩
      case skip => exact ⟨keep a hy _, by rw [← Act.put_comm a v undef h2]; exact h⟩
      case defer d =>
        refine ⟨keep _ (keepD d) _, ?_⟩
        rw [← Act.put_comm _ v undef h2, ← Act.put_defers]
        exact h
      case enter f args =>
        refine Calls.mono h fun e w'' he => ?_
        cases e with
        | returned u => exact ⟨keep a hy u, by rw [← Act.put_comm a v u h2]; exact he⟩
        | panicked c => exact hQ _ _ _ he
        | outgrown => exact he
      case row row args => exact Rows.mono h fun u w'' he => ⟨keep a hy u, by rw [← Act.put_comm a v u h2]; exact he⟩
    | halt x w' =>
      cases x <;> simp only [Oper.upon] at h ⊢
      case panic u => exact hQ _ _ _ h
  · rename_i hw
    simp only [hw] at h
    exact ⟨keep a hy _, by rw [← Act.put_comm a v undef h2]; exact h⟩

/-- An operation that may come up now may be taken first, and is watched from then on. -/
theorem wpAnyV_first {S : World → Prop} {i : Nat} {oi : Oper} {v : Value} (hi : ops[i]? = some oi) (hsel : ∀ (j : Nat) (o : Oper) cs b, ops[j]? = some o → o.op ≠ .select cs b)
    (hQ : ∀ c a w, Q (.panic c) (a.put oi.dst v) w → Q (.panic c) a w) :
    ∀ (fuel : Nat) (listed : Array Bool) (V : Watch) (a : Act) (w : World),
      (∀ j oj, ops[j]? = some oj → j ≠ i → listed.getD j true = false → (∀ e ∈ oj.after, Region.binds .any e = true → e.on ≠ i) → oi.apart ops oj = true) →
      i ∈ Region.ready .any ops listed → YieldsIf P ops S oi v a → S w → V.holds w →
      wpAnyV P ops Q fuel (listed.setIfInBounds i true) ((i, S) :: V) (a.put oi.dst v) w → wpAnyV P ops Q (fuel + 1) listed V a w := by
  intro fuel
  induction fuel with
  | zero =>
    intro listed V a w _ hr hy hS hV H
    refine ⟨fun h => (by rw [h] at hr; cases hr), fun j hj => ?_⟩
    by_cases hji : j = i
    · subst hji; exact hy.wpOp hi hS ⟨Watch.holds_drop hV, H⟩
    · have := ready_mono hj hji
      rw [H.1] at this
      cases this
  | succ fuel ih =>
    intro listed V a w hfree hr hy hS hV H
    refine ⟨fun h => (by rw [h] at hr; cases hr), fun j hj => ?_⟩
    by_cases hji : j = i
    · subst hji; exact hy.wpOp hi hS ⟨Watch.holds_drop hV, wpAnyV_sub _ _ _ _ ((Watch.Sub.drop_self V).trans (.skip _ (.refl V))) H⟩
    · have h1 := H.2 j (ready_mono hj hji)
      obtain ⟨hjun, oj, hoj, hall⟩ := mem_ready.1 hj
      have hnot : ∀ e ∈ oj.after, Region.binds .any e = true → e.on ≠ i := fun e he hb heq => by
        have h1 := hall e he hb
        have h0 := (mem_ready.1 hr).1
        rw [heq] at h1
        rcases Nat.lt_or_ge i listed.size with h' | h'
        · simp [h'] at h0 h1; rw [h0] at h1; cases h1
        · simp [Array.getElem?_eq_none h'] at h1
      have hw : waitsFor ops j i = false := by
        unfold waitsFor
        simp only [hoj, List.any_eq_false, Bool.not_eq_true, Bool.and_eq_false_iff]
        intro e he
        cases hb : Region.binds .any e
        · exact .inl rfl
        · exact .inr (Bool.eq_false_iff.2 fun h => hnot e (Array.mem_toList_iff.1 he) hb (Nat.eq_of_beq_eq_true h))
      have hd : Watch.drop ops j ((i, S) :: V) = (i, S) :: V.drop ops j := by rw [Watch.drop]; simp only [hw]
      rw [hd] at h1
      have h2 := wpOp_putV hoj (hfree j oj hoj hji hjun hnot) (fun cs b => hsel i oi cs b hi) (fun cs b => hsel j oj cs b hoj) hQ hy h1
      have hfree' : ∀ k ok, ops[k]? = some ok → k ≠ i → (listed.setIfInBounds j true).getD k true = false →
          (∀ e ∈ ok.after, Region.binds .any e = true → e.on ≠ i) → oi.apart ops ok = true := fun k ok hk hki hun hno => by
        refine hfree k ok hk hki ?_ hno
        by_cases hjk : j = k
        · subst hjk; exact hjun
        · rw [getD_set_ne true hjk] at hun; exact hun
      refine wpOp_mono (fun a' w' h3 => ⟨h3.2.1.2, ih (listed.setIfInBounds j true) (V.drop ops j) a' w' hfree' (ready_mono hr (Ne.symm hji)) h3.1 h3.2.1.1 h3.2.1.2 ?_⟩) h2
      rw [Array.setIfInBounds_comm _ _ hji]
      exact h3.2.2

end
end Go.X
