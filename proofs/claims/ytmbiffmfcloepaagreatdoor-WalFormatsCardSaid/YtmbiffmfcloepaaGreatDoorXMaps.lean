/- Maps from texts to numbers; objects in blocks of their own. -/
import Derived.Test.YtmbiffmfcloepaaGreatDoorXGen
import Derived.MapKept
namespace Go.X
open Go.Proofs

section
variable {P : Program} {W w : World} {L : List SP}

/-- The block 'b' holds just this. -/
def objP (b : Nat) (o : Obj) : SP := fun h => h b = some o

theorem Sat.obj_heap {b : Nat} {o : Obj} (hs : Sat W w (objP b o :: L)) : w.heap[b]? = some o ∧ W.heap.size ≤ b := by
  obtain ⟨f, g, d, e, h1, hb⟩ := hs.new
  have : World.fresh W w b = some o := by rw [e]; unfold join; rw [show f b = some o from h1]
  unfold World.fresh at this
  split at this
  · cases this
  · exact ⟨this, by omega⟩

theorem Sat.set_obj {b : Nat} {o o' : Obj} (hs : Sat W w (objP b o :: L)) : Sat W { w with heap := w.heap.setIfInBounds b o' } (objP b o' :: L) := by
  obtain ⟨h1, h3⟩ := hs.obj_heap
  obtain ⟨f, g, d, e, h1', hb⟩ := hs.new
  have hset := MapKept.heap_set (w := w) (o' := o') h1
  obtain ⟨f', d', e', hf'⟩ := fresh_set (w := w) h3 { w with heap := w.heap.setIfInBounds b o' } hset.1 hset.2 f g d e _ h1'
  refine ⟨hs.os, hs.tape, hs.output, by simpa using hs.size, fun k hk => ?_, f', g, d', e', hf', hb⟩
  have : k ≠ b := by omega
  rw [hset.2 k this]
  exact hs.old k hk

theorem Sat.new_obj {o : Obj} (hs : Sat W w L) : Sat W (w.alloc o) (objP w.heap.size o :: L) := by
  have hold : ∀ k, k < w.heap.size → (w.alloc o).heap[k]? = w.heap[k]? := fun k hk => by
    show (w.heap.push _)[k]? = _
    rw [Array.getElem?_push, if_neg (by omega)]
  have hnew : (w.alloc o).heap[w.heap.size]? = some o := by
    show (w.heap.push _)[w.heap.size]? = _
    simp
  refine ⟨hs.os, hs.tape, hs.output, ?_, fun k hk => ?_, fun k => if k = w.heap.size then some o else none, World.fresh W w, ?_, ?_, if_pos rfl, hs.new⟩
  · rw [World.size_alloc]; exact Nat.le_succ_of_le hs.size
  · rw [hold k (Nat.lt_of_lt_of_le hk hs.size)]; exact hs.old k hk
  · intro k
    by_cases hk : k = w.heap.size
    · right
      subst hk
      unfold World.fresh
      split
      · rfl
      · simp
    · exact .inl (if_neg hk)
  · funext k
    unfold World.fresh join
    by_cases hk : k = w.heap.size
    · subst hk
      simp only [if_true, hnew, if_neg (Nat.not_lt.2 hs.size)]
    · simp only [if_neg hk]
      split
      · rfl
      · by_cases hlt : k < w.heap.size
        · exact hold k hlt
        · have h1 : (w.alloc o).heap[k]? = none := by rw [Array.getElem?_eq_none]; rw [World.size_alloc]; omega
          have h2 : w.heap[k]? = none := by rw [Array.getElem?_eq_none]; omega
          rw [h1, h2]

/-- A map from texts to numbers: its entries, as they came. -/
def MapP (r : Nat) (es : List (ByteArray × Int)) : SP := fun h => ∃ a clock, h r = some (.map a clock) ∧ a.toList.map (fun e => (e.key, e.val)) = es.map fun x => (Value.string x.1, Value.int .i64 x.2)

theorem Sat.map_open {r : Nat} {es : List (ByteArray × Int)} (hs : Sat W w (MapP r es :: L)) : ∃ a clock, a.toList.map (fun e => (e.key, e.val)) = es.map (fun x => (Value.string x.1, Value.int .i64 x.2)) ∧ Sat W w (objP r (.map a clock) :: L) := by
  obtain ⟨f, g, d, e, ⟨a, clock, h1, h2⟩, hb⟩ := hs.new
  exact ⟨a, clock, h2, hs.os, hs.tape, hs.output, hs.size, hs.old, f, g, d, e, h1, hb⟩

theorem Sat.map_shut {r : Nat} {es : List (ByteArray × Int)} {a : Array MapEntry} {clock : Nat} (he : a.toList.map (fun e => (e.key, e.val)) = es.map (fun x => (Value.string x.1, Value.int .i64 x.2))) (hs : Sat W w (objP r (.map a clock) :: L)) :
    Sat W w (MapP r es :: L) := hs.head fun _ h => ⟨a, clock, h, he⟩

/-- What a text's first entry holds. -/
def findE (s : ByteArray) : List (ByteArray × Int) → Option Int
  | [] => none
  | x :: es => if x.1 = s then some x.2 else findE s es

theorem findNow_E (s : ByteArray) : ∀ (l : List MapEntry) (es : List (ByteArray × Int)) (i : Nat), l.map (fun e => (e.key, e.val)) = es.map (fun x => (Value.string x.1, Value.int .i64 x.2)) →
    ∃ j, Instr.findNow .string (.string s) l i = some ((findE s es).map fun n => (i + j, Value.int .i64 n)) ∧ (findE s es = none → ∀ x ∈ l, x.key ≠ .string s)
  | [], [], i, _ => ⟨0, rfl, fun _ x hx => by cases hx⟩
  | [], _ :: _, _, h => by simp at h
  | _ :: _, [], _, h => by simp at h
  | e :: l, x :: es, i, h => by
    simp only [List.map_cons, List.cons.injEq, Prod.mk.injEq] at h
    obtain ⟨⟨hk, hv⟩, ht⟩ := h
    unfold Instr.findNow findE
    rw [hk, hv]
    simp only [Instr.sameNow]
    by_cases hx : x.1 = s
    · have : (s == x.1) = true := (MapKept.bytes_beq _ _).2 hx.symm
      rw [this, if_pos hx]
      exact ⟨0, rfl, fun h => by cases h⟩
    · have : (s == x.1) = false := by
        cases hb : s == x.1 with
        | false => rfl
        | true => exact absurd ((MapKept.bytes_beq _ _).1 hb).symm hx
      rw [this, if_neg hx]
      obtain ⟨j, h1, h2⟩ := findNow_E s l es (i + 1) ht
      refine ⟨j + 1, ?_, fun h y hy => ?_⟩
      · rw [show i + (j + 1) = i + 1 + j by omega]; exact h1
      · rcases List.mem_cons.1 hy with rfl | hy
        · rw [hk]
          intro hc
          exact hx (Value.string.inj hc)
        · exact h2 h y hy

/-- The closed facts that a look-up asks of the types. -/
def okMapSI (P : Program) (t : TypeId) : Bool :=
  match under P t with
  | some (.map k e) => (match under P k with
    | some .string => true
    | _ => false) && (match ti P e with
    | some i => match i.zero with
      | some (.int .i64 0) => true
      | _ => false
    | none => false)
  | _ => false

theorem okMapSI_spec {t : TypeId} (h : okMapSI P t = true) : ∃ k e i, P.underlying t = some (.map k e) ∧ P.underlying k = some .string ∧ P.info? e = some i ∧ i.zero = some (.int .i64 0) := by
  unfold okMapSI at h
  split at h
  · rename_i k e h1
    obtain ⟨h2, h3⟩ := Bool.and_eq_true_iff.1 h
    split at h2
    · rename_i hk
      split at h3
      · rename_i i hi
        split at h3
        · rename_i hz
          exact ⟨k, e, i, under_eq h1, under_eq hk, ti_info hi, hz⟩
        · cases h3
      · cases h3
    · cases h2
  · cases h

theorem xmakeMap {t : TypeId} {K : Option Nat → World → Prop} (hs : Sat W w L) (hk : ∀ r w', Sat W w' (MapP r [] :: L) → K (some r) w') : XDo P (Instr.makeMap t none) (.leaf .map) w K :=
  ⟨some w.heap.size, _, rfl, hk _ _ (Sat.map_shut (a := #[]) (clock := 0) rfl hs.new_obj)⟩

theorem xlookup {t : TypeId} {r : Nat} {es : List (ByteArray × Int)} {s : ByteArray} {K : HT [.leaf (.int .i64), .leaf .bool] → World → Prop} (hok : okMapSI P t = true) (hs : Sat W w (MapP r es :: L))
    (hk : K ((findE s es).getD 0, (findE s es).isSome, ()) w) : XDos P (Instr.lookup t (.map (some r)) (.string s) true) [.leaf (.int .i64), .leaf .bool] w K := by
  obtain ⟨k, e, i, h1, h2, h3, h4⟩ := okMapSI_spec hok
  obtain ⟨a, clock, he, ho⟩ := hs.map_open
  have hb := ho.obj_heap.1
  obtain ⟨j, hf, _⟩ := findNow_E s a.toList es 0 he
  refine ⟨((findE s es).getD 0, (findE s es).isSome, ()), w, ?_, hk⟩
  have hkey : MapKept.IsKey .string (.string s) := trivial
  cases hE : findE s es with
  | some n =>
    rw [hE] at hf
    simp [Instr.lookup, run_underlying h1, MapKept.run_getObj_map hb, MapKept.run_checkKey h2 hkey, MapKept.run_findKey h2 hf, Result.andThen, HT.vals, Ty.mk, Leaf.mk]
  | none =>
    rw [hE] at hf
    have hz : (zeroValue e).run P w = .ok (.int .i64 0) w := by simp [zeroValue, typeInfo, h3, h4]
    simp [Instr.lookup, run_underlying h1, MapKept.run_getObj_map hb, MapKept.run_checkKey h2 hkey, MapKept.run_findKey h2 hf, hz, Result.andThen, HT.vals, Ty.mk, Leaf.mk]

/-- A text that has no entry yet gets one. -/
theorem xmapNew {t : TypeId} {r : Nat} {es : List (ByteArray × Int)} {s : ByteArray} {n : Int} {K : World → Prop} (hok : okMapSI P t = true) (hs : Sat W w (MapP r es :: L)) (hno : findE s es = none)
    (hk : ∀ w', Sat W w' (MapP r (es ++ [(s, n)]) :: L) → K w') : XDoU P (Instr.mapUpdate t (.map (some r)) (.string s) (.int .i64 n)) w K := by
  obtain ⟨k, e, i, h1, h2, h3, h4⟩ := okMapSI_spec hok
  obtain ⟨a, clock, he, ho⟩ := hs.map_open
  have hb := ho.obj_heap.1
  obtain ⟨j, hf, _⟩ := findNow_E s a.toList es 0 he
  rw [hno] at hf
  have hkey : MapKept.IsKey .string (.string s) := trivial
  refine ⟨_, ?_, hk { w with heap := w.heap.setIfInBounds r (.map (a.push { key := .string s, val := .int .i64 n, born := clock }) (clock + 1)) } (Sat.map_shut ?_ (ho.set_obj (o' := .map (a.push { key := .string s, val := .int .i64 n, born := clock }) (clock + 1))))⟩
  · simp [Instr.mapUpdate, run_underlying h1, MapKept.run_getObj_map hb, MapKept.run_checkKey h2 hkey, MapKept.run_findKey h2 hf, MapKept.run_setObj_map _ hb, Result.andThen]
  · simp [he]

theorem xmapLen {t ty : TypeId} {r : Nat} {es : List (ByteArray × Int)} {K : Int → World → Prop} (hok : okMapSI P t = true) (hs : Sat W w (MapP r es :: L)) (hk : K es.length w) :
    XDo P (Builtin.len_ #[t] ty ⟨[.map (some r)]⟩) (.leaf (.int .i64)) w K := by
  obtain ⟨k, e, i, h1, h2, h3, h4⟩ := okMapSI_spec hok
  obtain ⟨a, clock, he, ho⟩ := hs.map_open
  have hb := ho.obj_heap.1
  refine ⟨(es.length : Int), w, ?_, hk⟩
  have hl : a.size = es.length := by
    have := congrArg List.length he
    simpa using this
  simp [Builtin.len_, run_underlying h1, MapKept.run_getObj_map hb, Result.andThen, Ty.mk, Leaf.mk, hl, goInt]

end
end Go.X
