/- Functions of the model's own: how two texts stand to each other, and whether two slices overlap. -/
import Derived.Test.YtmbiffmfcloepaaGreatDoorXMem
import Derived.Test.YtmbiffmfcloepaaGreatDoorSIds
import Derived.Laws.Strings
namespace Go.X
open Go.Proofs

section
variable {P : Program} {W w : World} {L : List SP}

theorem ext_run {f : FuncId} {fn : Func} {e : Array Value → Sem Value} {args : Array Value} (hf : P.funcs[f]? = some fn) (hb : fn.body.isNone = true) (hn : (fn.name == "runtime.NumGoroutine") = false)
    (h1 : (Extern.findNext fn).isNone = true) (h2 : Extern.find fn = some e) (w : World) : (extRun P f args).run P w = (e args).run P w := by
  have h1' : Extern.findNext fn = none := by cases h : Extern.findNext fn with
    | none => rfl
    | some x => rw [h] at h1; cases h1
  unfold extRun
  simp only [Sem.run_bind, callFunc, run_program, Result.andThen, hf, hn, hb, Bool.false_eq_true, if_false, if_true, run_mark, h1', h2, Sem.run_pure]
  cases (e args).run P w <;> rfl

/-- How two lists of bytes stand to each other. -/
def cmpL : List UInt8 → List UInt8 → Int
  | [], [] => 0
  | [], _ :: _ => -1
  | _ :: _, [] => 1
  | a :: x, b :: y => if a < b then -1 else if b < a then 1 else cmpL x y

def cmpS (a b : ByteArray) : Int := cmpL a.data.toList b.data.toList

theorem find_range_succ' (p : Nat → Bool) (n : Nat) : (List.range (n + 1)).find? p = if p 0 then some 0 else ((List.range n).find? fun i => p (i + 1)).map (· + 1) := by
  rw [List.range_succ_eq_map, List.find?_cons]
  cases p 0
  · simp only [Bool.false_eq_true, if_false, List.find?_map]; rfl
  · rfl

theorem u8_lt_irrefl (a : UInt8) : ¬ a < a := by
  rw [UInt8.lt_iff_toNat_lt]; omega

theorem u8_eq_of_not {a b : UInt8} (h1 : ¬ a < b) (h2 : ¬ b < a) : a = b := by
  rw [UInt8.lt_iff_toNat_lt] at *
  exact UInt8.toNat.inj (by omega)

theorem cmp_lists : ∀ (x y : List UInt8) (f : Nat → UInt8) (g : Nat → UInt8), (∀ i, i < x.length → f i = x.getD i 0) → (∀ i, i < y.length → g i = y.getD i 0) →
    (match (List.range (min x.length y.length)).find? fun i => f i != g i with
      | some i => if f i < g i then (-1 : Int) else 1
      | none => if x.length < y.length then -1 else if x.length > y.length then 1 else 0) = cmpL x y
  | [], [], f, g, _, _ => by simp [cmpL]
  | [], b :: y, f, g, _, _ => by simp [cmpL]
  | a :: x, [], f, g, _, _ => by simp [cmpL]
  | a :: x, b :: y, f, g, hf, hg => by
    have hf0 : f 0 = a := by have := hf 0 (by simp); simpa using this
    have hg0 : g 0 = b := by have := hg 0 (by simp); simpa using this
    have ih := cmp_lists x y (fun i => f (i + 1)) (fun i => g (i + 1)) (fun i hi => by have := hf (i + 1) (by simp; omega); simpa using this) (fun i hi => by have := hg (i + 1) (by simp; omega); simpa using this)
    have hmin : min (a :: x).length (b :: y).length = min x.length y.length + 1 := by simp only [List.length_cons]; omega
    rw [hmin, find_range_succ']
    simp only [hf0, hg0, cmpL]
    by_cases hab : a = b
    · subst hab
      simp only [bne_self_eq_false, Bool.false_eq_true, if_false, u8_lt_irrefl]
      rw [← ih]
      cases (List.range (min x.length y.length)).find? (fun i => f (i + 1) != g (i + 1)) with
      | some i => simp
      | none =>
        simp only [Option.map_none, List.length_cons]
        by_cases h1 : x.length < y.length
        · rw [if_pos h1, if_pos (by omega)]
        · rw [if_neg h1, if_neg (by omega)]
          by_cases h2 : x.length > y.length
          · rw [if_pos h2, if_pos (by omega)]
          · rw [if_neg h2, if_neg (by omega)]
    · have : (a != b) = true := by simpa using hab
      simp only [this, if_true]
      by_cases hlt : a < b
      · simp [hlt, hf0, hg0]
      · have : b < a := by
          rcases Nat.lt_trichotomy a.toNat b.toNat with h | h | h
          · exact absurd (UInt8.lt_iff_toNat_lt.2 h) hlt
          · exact absurd (UInt8.toNat.inj h) hab
          · exact UInt8.lt_iff_toNat_lt.2 h
        simp [hlt, this, hf0, hg0]

theorem cmp_eq (a b : ByteArray) : Extern.BytealgCompare.cmp a b = cmpS a b := by
  have h := cmp_lists a.data.toList b.data.toList (fun i => a[i]!) (fun i => b[i]!) (fun i hi => ?_) (fun i hi => ?_)
  · unfold Extern.BytealgCompare.cmp cmpS
    exact h
  · have hi' : i < a.size := by simpa using hi
    have hi'' : i < a.data.size := hi'
    rw [getElem!_pos a i hi', List.getD_eq_getElem?_getD, Array.getElem?_toList, Array.getElem?_eq_getElem hi'']
    rfl
  · have hi' : i < b.size := by simpa using hi
    have hi'' : i < b.data.size := hi'
    rw [getElem!_pos b i hi', List.getD_eq_getElem?_getD, Array.getElem?_toList, Array.getElem?_eq_getElem hi'']
    rfl

theorem run_compare (a b : ByteArray) (w : World) : (Extern.BytealgCompare.compare #[.string a, .string b]).run P w = .ok (.int .i64 (cmpS a b)) w := by
  have hc : Extern.BytealgCompare.compare #[.string a, .string b] = (do pure (goInt (Extern.BytealgCompare.cmp (← Extern.Bytes.bytesOf (.string a)) (← Extern.Bytes.bytesOf (.string b))))) := rfl
  rw [hc]
  simp only [Sem.run_bind]
  have h : ∀ s : ByteArray, (Extern.Bytes.bytesOf (.string s)).run P w = .ok s w := fun s => rfl
  simp only [h, Result.andThen, Sem.run_pure, cmp_eq]
  rfl

end

theorem cmpstring_run (a b : ByteArray) (w : World) : (extRun Tryz.prog F.internal_bytealg_abigen_runtime_cmpstring ⟨[.string a, .string b]⟩).run Tryz.prog w = .ok (.int .i64 (cmpS a b)) w := by
  rw [ext_run Fu.internal_bytealg_abigen_runtime_cmpstring (by kernel_rfl) (by kernel_rfl) (by kernel_rfl) (e := Extern.BytealgCompare.compare) (by kernel_rfl)]
  exact run_compare a b w

end Go.X
