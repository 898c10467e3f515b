/- The document's device: List; two lists of names. -/
import Derived.Test.YthljhmjigpfpnaaERef10
namespace Go.X
open Go.Proofs

/-! ### Names put in order -/

/-- A round of the search for a name's place. -/
def insStep (name : ByteArray) (s : List ByteArray × Bool) (x : ByteArray) : List ByteArray × Bool :=
  if s.2 = false ∧ sLt name x = true then (s.1 ++ [name, x], true) else (s.1 ++ [x], s.2)

def insS (name : ByteArray) (l : List ByteArray) : List ByteArray × Bool := l.foldl (insStep name) ([], false)

/-- A name among names. -/
def insN (name : ByteArray) (l : List ByteArray) : List ByteArray := if (insS name l).2 = false then (insS name l).1 ++ [name] else (insS name l).1

def sortN (l : List ByteArray) : List ByteArray := l.foldl (fun out n => insN n out) []

theorem insS_len (name : ByteArray) (l : List ByteArray) : (insS name l).1.length = l.length + (if (insS name l).2 then 1 else 0) := by
  unfold insS
  suffices H : ∀ (l : List ByteArray) (s : List ByteArray × Bool) (n : Nat), s.1.length = n + (if s.2 then 1 else 0) → (l.foldl (insStep name) s).1.length = n + l.length + (if (l.foldl (insStep name) s).2 then 1 else 0) by
    have := H l ([], false) 0 rfl
    rw [this]; omega
  intro l
  induction l with
  | nil => intro s n h; exact h
  | cons x l ih =>
    intro s n h
    have := ih (insStep name s x) (n + 1) (by
      unfold insStep
      split
      · rename_i hc
        rw [hc.1] at h
        simp only [List.length_append, h, List.length_cons, List.length_nil]
        simp
      · simp only [List.length_append, h, List.length_cons, List.length_nil]
        omega)
    rw [List.foldl_cons, this, List.length_cons]
    omega

theorem insS_snoc (name : ByteArray) (l : List ByteArray) (x : ByteArray) : insS name (l ++ [x]) = insStep name (insS name l) x := by
  unfold insS
  rw [List.foldl_append]; rfl

theorem ins_done (name : ByteArray) : ∀ (l acc : List ByteArray), l.foldl (insStep name) (acc, true) = (acc ++ l, true)
  | [], acc => by simp
  | x :: l, acc => by
    rw [List.foldl_cons]
    have : insStep name (acc, true) x = (acc ++ [x], true) := by unfold insStep; rw [if_neg (by simp)]
    rw [this, ins_done name l]
    simp

theorem insN_eq (name : ByteArray) (l : List ByteArray) : insN name l = l.takeWhile (fun x => !sLt name x) ++ name :: l.dropWhile (fun x => !sLt name x) := by
  suffices H : ∀ (l acc : List ByteArray), (if (l.foldl (insStep name) (acc, false)).2 = false then (l.foldl (insStep name) (acc, false)).1 ++ [name] else (l.foldl (insStep name) (acc, false)).1)
      = acc ++ (l.takeWhile (fun x => !sLt name x) ++ name :: l.dropWhile (fun x => !sLt name x)) by
    unfold insN insS
    exact (H l []).trans (List.nil_append _)
  intro l
  induction l with
  | nil => intro acc; simp
  | cons x l ih =>
    intro acc
    rw [List.foldl_cons]
    cases hx : sLt name x with
    | true =>
      have : insStep name (acc, false) x = (acc ++ [name, x], true) := by unfold insStep; rw [if_pos ⟨rfl, hx⟩]
      rw [this, ins_done]
      simp [hx]
    | false =>
      have : insStep name (acc, false) x = (acc ++ [x], false) := by unfold insStep; rw [if_neg (by simp [hx])]
      rw [this, ih]
      simp [hx]

theorem insN_perm (name : ByteArray) (l : List ByteArray) : (insN name l).Perm (name :: l) := by
  rw [insN_eq]
  have h : (l.takeWhile (fun x => !sLt name x) ++ name :: l.dropWhile (fun x => !sLt name x)).Perm (name :: (l.takeWhile (fun x => !sLt name x) ++ l.dropWhile (fun x => !sLt name x))) := List.perm_middle
  rwa [List.takeWhile_append_dropWhile] at h

theorem insN_len (name : ByteArray) (l : List ByteArray) : (insN name l).length = l.length + 1 := (insN_perm name l).length_eq

theorem sortN_perm : ∀ (l acc : List ByteArray), (l.foldl (fun out n => insN n out) acc).Perm (l ++ acc)
  | [], _ => List.Perm.refl _
  | n :: l, acc => by
    rw [List.foldl_cons]
    refine (sortN_perm l (insN n acc)).trans ?_
    refine ((List.Perm.refl l).append (insN_perm n acc)).trans ?_
    exact List.perm_middle

theorem bytesLess_cmp : ∀ (x y : List UInt8), Op.bytesLess x y = decide (cmpL x y < 0)
  | [], [] => rfl
  | [], _ :: _ => rfl
  | _ :: _, [] => rfl
  | a :: x, b :: y => by
    unfold Op.bytesLess cmpL
    by_cases h1 : a < b
    · simp [h1]
    · by_cases h2 : b < a
      · have : ¬ a = b := fun e => by subst e; exact h1 h2
        simp [h1, h2, this]
      · have := u8_eq_of_not h1 h2
        subst this
        simp [h1, bytesLess_cmp x y]

theorem sLt_cmp (a b : ByteArray) : sLt a b = decide (cmpS a b < 0) := by
  unfold sLt cmpS
  rw [ByteArray.toList_eq, ByteArray.toList_eq, bytesLess_cmp]

abbrev Rise (l : List ByteArray) : Prop := l.Pairwise fun a b => cmpS a b < 0

theorem insN_rise {name : ByteArray} {l : List ByteArray} (h : Rise l) (hn : name ∉ l) : Rise (insN name l) := by
  rw [insN_eq]
  induction l with
  | nil => simp
  | cons x l ih =>
    have h := List.pairwise_cons.1 h
    have hx : name ≠ x := fun e => hn (by rw [e]; exact List.mem_cons_self)
    have hl : name ∉ l := fun e => hn (List.mem_cons_of_mem _ e)
    cases hs : sLt name x with
    | true =>
      rw [sLt_cmp, decide_eq_true_iff] at hs
      have e : sLt name x = true := by rw [sLt_cmp]; exact decide_eq_true hs
      simp only [List.takeWhile_cons, List.dropWhile_cons, e, Bool.not_true, Bool.false_eq_true, if_false, List.nil_append]
      refine List.pairwise_cons.2 ⟨fun y hy => ?_, List.pairwise_cons.2 h⟩
      rcases List.mem_cons.1 hy with rfl | hy
      · exact hs
      · exact cmpS_trans hs (h.1 y hy)
    | false =>
      have hs' := hs
      rw [sLt_cmp, decide_eq_false_iff_not] at hs
      have hlt : cmpS x name < 0 := by
        have h0 : cmpS name x ≠ 0 := fun e => hx (cmpS_eq e)
        rw [cmpS_swap]; omega
      simp only [List.takeWhile_cons, List.dropWhile_cons, hs', Bool.not_false, if_true, List.cons_append]
      refine List.pairwise_cons.2 ⟨fun y hy => ?_, ih h.2 hl⟩
      rcases List.mem_append.1 hy with hy | hy
      · exact h.1 y ((List.takeWhile_sublist _).subset hy)
      · rcases List.mem_cons.1 hy with rfl | hy
        · exact hlt
        · exact h.1 y ((List.dropWhile_sublist _).subset hy)

theorem sortN_rise : ∀ (l acc : List ByteArray), Rise acc → (l ++ acc).Nodup → Rise (l.foldl (fun out n => insN n out) acc)
  | [], _, h, _ => h
  | n :: l, acc, h, hd => by
    rw [List.foldl_cons]
    have hd' : (l ++ n :: acc).Nodup := (List.perm_middle.nodup_iff).2 hd
    refine sortN_rise l _ (insN_rise h ?_) (((List.Perm.refl l).append (insN_perm n acc)).nodup_iff.2 hd')
    have := (List.nodup_append.1 hd').2.1
    exact (List.nodup_cons.1 this).1

theorem rise_irrefl {a : ByteArray} (h : cmpS a a < 0) : False := by rw [cmpS_refl] at h; omega

theorem rise_unique : ∀ {l m : List ByteArray}, Rise l → Rise m → (∀ x, x ∈ l ↔ x ∈ m) → l = m
  | [], [], _, _, _ => rfl
  | [], y :: m, _, _, h => by have := (h y).2 List.mem_cons_self; cases this
  | x :: l, [], _, _, h => by have := (h x).1 List.mem_cons_self; cases this
  | x :: l, y :: m, hl, hm, h => by
    have hl := List.pairwise_cons.1 hl
    have hm := List.pairwise_cons.1 hm
    have hxy : x = y := by
      rcases List.mem_cons.1 ((h x).1 List.mem_cons_self) with e | hx
      · exact e
      · rcases List.mem_cons.1 ((h y).2 List.mem_cons_self) with e | hy
        · exact e.symm
        · have := cmpS_trans (hl.1 y hy) (hm.1 x hx)
          exact (rise_irrefl this).elim
    subst hxy
    congr 1
    refine rise_unique hl.2 hm.2 fun z => ⟨fun hz => ?_, fun hz => ?_⟩
    · rcases List.mem_cons.1 ((h z).1 (List.mem_cons_of_mem _ hz)) with rfl | hz'
      · exact (rise_irrefl (hl.1 _ hz)).elim
      · exact hz'
    · rcases List.mem_cons.1 ((h z).2 (List.mem_cons_of_mem _ hz)) with rfl | hz'
      · exact (rise_irrefl (hm.1 _ hz)).elim
      · exact hz'

theorem rising_rise : ∀ {fs : List DF}, Rising fs → Rise (fs.map (·.name))
  | [], _ => List.Pairwise.nil
  | f :: fs, h => List.pairwise_cons.2 ⟨fun y hy => by
      obtain ⟨g, hg, rfl⟩ := List.mem_map.1 hy
      exact h.1 g hg, rising_rise h.2⟩

theorem rise_nodup {l : List ByteArray} (h : Rise l) : l.Nodup :=
  h.imp fun {a b} hab e => by subst e; exact rise_irrefl hab

/-- Put in order, the names are those that rise. -/
theorem sortN_eq {l m : List ByteArray} (hm : Rise m) (hp : l.Perm m) : sortN l = m := by
  have hd : (l ++ []).Nodup := by rw [List.append_nil]; exact hp.nodup_iff.2 (rise_nodup hm)
  refine rise_unique (sortN_rise l [] List.Pairwise.nil hd) hm fun x => ?_
  have h2 : (l ++ []).Perm m := by rw [List.append_nil]; exact hp
  exact ((sortN_perm l []).trans h2).mem_iff

theorem names_get (l : List ByteArray) (k : Nat) (h : k < l.length) : readL .str (l.map Value.string) k = some l[k] := by
  simp [readL, List.getElem?_map, List.getElem?_eq_getElem h, Leaf.un]

section
variable {W w : World} {L : List SP} {q : Nat} {R : DD}

theorem ListR_spec (hs : Sat W w (RefP q R :: L)) (hn : R.files.length ≤ 2 ^ 30) :
    Ret Try.prog F.barqueref14_Disk_List [ptr q] w fun v w' => (R.off = true → v = .tuple ⟨[.slice none 0 0, .int .i64 14]⟩ ∧ Sat W w' (RefP q R :: L)) ∧
      (R.off = false → ∃ s : Sl, v = .tuple ⟨[.slice s.a s.len s.cap, .int .i64 0]⟩ ∧ Sat W w' (own 1 s ((sortN R.names).map Value.string) :: RefP q R :: L)) := by
  suffices H : ∀ K : Value → World → Prop, (R.off = true → ∀ w', Sat W w' (RefP q R :: L) → K (.tuple ⟨[.slice none 0 0, .int .i64 14]⟩) w') →
      (R.off = false → ∀ (s : Sl) w', Sat W w' (own 1 s ((sortN R.names).map Value.string) :: RefP q R :: L) → K (.tuple ⟨[.slice s.a s.len s.cap, .int .i64 0]⟩) w') → S.barqueref14_Disk_List (some ⟨q, 0, none⟩) K w from
    S.barqueref14_Disk_List_ok _ _ _ (H _ (fun ho w' h => ⟨fun _ => ⟨rfl, h⟩, fun h => (by rw [ho] at h; cases h)⟩) fun ho s w' h => ⟨fun h => (by rw [ho] at h; cases h), fun _ => ⟨s, rfl, h⟩⟩)
  intro K hK1 hK2
  refine xnil ?_
  obtain ⟨fs, ws, h⟩ := RefP.open hs
  have hfl : R.files.length = fs.len := by have := (h.bring 1).own_len; rw [rcells_len] at this; omega
  refine xload h 4 rfl rfl ?_
  by_cases hoff : R.off = true
  · exact XIf.yes hoff (hK1 hoff _ hs)
  refine XIf.no (by simpa using hoff) ?_
  have hK3 := hK2 (by simpa using hoff)
  clear hK1 hK2
  obtain ⟨PQ, hPQ⟩ : ∃ PQ : List Value, PQ = [.slice fs.a fs.len fs.cap, .slice ws.a ws.len ws.cap, .int .i64 R.most, .int .i64 R.fuse, .bool R.off, .int .i64 R.count, .int .i64 R.made] := ⟨_, rfl⟩
  rw [← hPQ] at h
  have hrd : readL .slice PQ 0 = some fs := by rw [hPQ]; rfl
  refine xloop (fun (st : Sl × Int × Unit) w => ∃ (l1 l2 : List DF) (g : Sl), R.files = l1 ++ l2 ∧ st = (g, (l1.length : Int), ()) ∧
      Sat W w (own 1 g ((sortN (l1.map (·.name))).map Value.string) :: pts q PQ :: own 4 fs (R.files.flatMap rcells) :: own 3 ws (R.wait.flatMap vcells) :: L))
    (fun st => ((fs.len : Int) - st.2.1).toNat) ⟨[], R.files, ⟨none, 0, 0⟩, rfl, rfl, h.own_nil⟩ ?_
  clear h hs
  rintro next _ w ⟨l1, l2, g, e, rfl, h⟩ hnext
  refine xnil (xload (h.bring 1) 0 rfl hrd ?_)
  cases l2 with
  | nil =>
    rw [List.append_nil] at e
    refine XIf.no (decide_eq_false (show ¬ ((l1.length : Int) < (fs.len : Int)) by rw [← e]; omega)) (hK3 g w ?_)
    have e2 : l1.map (·.name) = R.names := by unfold DD.names; rw [e]
    rw [e2] at h
    rw [hPQ] at h
    exact (RefP.shut (R := R) (fs := fs) (ws := ws) (h.arr [1, 2, 3, 0])).swap
  | cons f l2 =>
    have hlt : l1.length < R.files.length := by rw [e]; simp
    have hf : R.files[l1.length]? = some f := by rw [e]; simp
    obtain ⟨out, ho⟩ : ∃ out, sortN (l1.map (·.name)) = out := ⟨_, rfl⟩
    rw [ho] at h
    have holen : out.length = l1.length := by
      rw [← ho]
      have := (sortN_perm (l1.map (·.name)) []).length_eq
      unfold sortN
      simpa using this
    have hgl : g.len = out.length := by have := h.own_len; simpa using this.symm
    refine XIf.yes (decide_eq_true (show (l1.length : Int) < (fs.len : Int) by omega)) ?_
    refine xloop (fun (st : Sl × Bool × Int × Unit) w => ∃ (o1 o2 : List ByteArray) (n : Sl), out = o1 ++ o2 ∧ st = (n, (insS f.name o1).2, (o1.length : Int), ()) ∧
        Sat W w (own 1 n ((insS f.name o1).1.map Value.string) :: own 1 g (out.map Value.string) :: pts q PQ :: own 4 fs (R.files.flatMap rcells) :: own 3 ws (R.wait.flatMap vcells) :: L))
      (fun st => ((g.len : Int) - st.2.2.1).toNat) ⟨[], out, ⟨none, 0, 0⟩, rfl, rfl, h.own_nil⟩ ?_
    clear h
    rintro next2 _ w ⟨o1, o2, n, eo, rfl, h⟩ hnext2
    have hfield : ∀ {w : World} {L' : List SP} {K' : ByteArray → Prop}, Sat W w (pts q PQ :: own 4 fs (R.files.flatMap rcells) :: L') → K' f.name →
        XLoad .slice ⟨q, 0, none⟩ w fun (x : Sl) => XNil x.a fun a => ((0 : Int) ≤ (l1.length : Int) ∧ (l1.length : Int) < ((x.len : Nat) : Int)) ∧ XLoad .str (Addr.add (Addr.add a ((Int.toNat (l1.length : Int)) * 4)) 1) w K' := fun h hk =>
      xload h 0 rfl hrd (xfield (l := .str) (sz := 4) (h.bring 1) l1.length rfl (by (try dsimp only); omega) (by rw [Int.toNat_natCast]) (x := f.name) (rget R.files l1.length 1 f _ hf rfl) fun _ _ => hk)
    have hnl : n.len = (insS f.name o1).1.length := by have := h.own_len; simpa using this.symm
    have hil := insS_len f.name o1
    have hol : o1.length ≤ out.length := by rw [eo]; simp
    have hnsz : n.len + 1 ≤ 2 ^ 40 := by rw [hnl, hil]; split <;> omega
    cases o2 with
    | nil =>
      rw [List.append_nil] at eo
      subst eo
      refine XIf.no (decide_eq_false (show ¬ ((out.length : Int) < (g.len : Int)) by omega)) (xjoin (fun (st : Sl × Unit) w' => ∃ s : Sl, st = (s, ()) ∧ Sat W w' (own 1 s ((insN f.name out).map Value.string) :: pts q PQ :: own 4 fs (R.files.flatMap rcells) :: own 3 ws (R.wait.flatMap vcells) :: L)) (fun J hJ => ?_) ?_)
      · cases hd : (insS f.name out).2 with
        | false =>
          refine XIf.yes rfl (xnil (hfield (h.arr [2, 3]) ?_))
          refine xappend1 (by kernel_rfl) h rfl rfl hnsz fun a s' w' h4 hl4 => hJ _ _ ⟨s', rfl, ?_⟩
          have e5 : insN f.name out = (insS f.name out).1 ++ [f.name] := by unfold insN; rw [if_pos hd]
          rw [e5, List.map_append]
          exact (h4.bring 1).drop
        | true =>
          refine XIf.no rfl (hJ _ _ ⟨n, rfl, ?_⟩)
          have e5 : insN f.name out = (insS f.name out).1 := by unfold insN; rw [if_neg (by rw [hd]; simp)]
          rw [e5]
          exact (h.bring 1).drop
      · rintro _ w' ⟨s, rfl, h⟩
        refine xlet ((l1.length + 1 : Nat) : Int) (by dsimp only; rw [wi (by omega) (by omega)]; omega) (hnext _ _ ⟨l1 ++ [f], l2, s, by rw [e]; simp, by simp, ?_⟩ (by dsimp only; omega))
        have e6 : sortN ((l1 ++ [f]).map (·.name)) = insN f.name out := by
          unfold sortN
          rw [List.map_append, List.foldl_append]
          show insN f.name (sortN (l1.map (·.name))) = _
          rw [ho]
        rw [e6]
        exact h
    | cons x o2 =>
      have hlt2 : o1.length < out.length := by rw [eo]; simp
      have hx : out[o1.length]'hlt2 = x := by simp [eo]
      have hgx : ∀ {w : World} {L' : List SP} {K' : ByteArray → Prop}, Sat W w (own 1 g (out.map Value.string) :: L') → K' x →
          XNil g.a fun a => ((0 : Int) ≤ (o1.length : Int) ∧ (o1.length : Int) < ((g.len : Nat) : Int)) ∧ XLoad .str (Addr.add a ((Int.toNat (o1.length : Int)) * 1)) w K' := fun h hk =>
        xelem h o1.length rfl (x := x) (by rw [names_get _ _ hlt2, hx]) (by show Int.toNat _ * 1 = _; simp) fun a => hk
      refine XIf.yes (decide_eq_true (show (o1.length : Int) < (g.len : Int) by omega)) (xjoin (fun (st : Sl × Bool × Unit) w' => ∃ s : Sl, st = (s, (insS f.name (o1 ++ [x])).2, ()) ∧
          ∃ pre, (insS f.name (o1 ++ [x])).1 = pre ++ [x] ∧ pre.length ≤ out.length + 1 ∧ Sat W w' (own 1 s (pre.map Value.string) :: own 1 g (out.map Value.string) :: pts q PQ :: own 4 fs (R.files.flatMap rcells) :: own 3 ws (R.wait.flatMap vcells) :: L)) (fun J hJ => ?_) ?_)
      · refine xjoin (fun (st : Bool × Unit) w' => st = (decide ((insS f.name o1).2 = false ∧ sLt f.name x = true), ()) ∧ Sat W w' (own 1 n ((insS f.name o1).1.map Value.string) :: own 1 g (out.map Value.string) :: pts q PQ :: own 4 fs (R.files.flatMap rcells) :: own 3 ws (R.wait.flatMap vcells) :: L)) (fun J2 hJ2 => ?_) ?_
        · cases hd : (insS f.name o1).2 with
          | false =>
            have hd' := h.drew
            refine XIf.yes rfl (xnil (hfield (hd'.arr [2, 3]) (hgx (hd'.bring 1) (hJ2 _ _ ⟨?_, hd'⟩))))
            simp [hd]
          | true =>
            refine XIf.no rfl (hJ2 _ _ ⟨?_, h.drew⟩)
            simp [hd]
        clear h
        rintro _ w' ⟨rfl, h⟩
        by_cases hc : (insS f.name o1).2 = false ∧ sLt f.name x = true
        · have es : insS f.name (o1 ++ [x]) = ((insS f.name o1).1 ++ [f.name, x], true) := by rw [insS_snoc]; unfold insStep; rw [if_pos hc]
          refine XIf.yes (decide_eq_true hc) (xnil (hfield (h.arr [2, 3]) ?_))
          refine xappend1 (by kernel_rfl) h rfl rfl hnsz fun a s' w' h4 hl4 => hJ _ _ ⟨s', by rw [es], (insS f.name o1).1 ++ [f.name], by rw [es]; simp, ?_, ?_⟩
          · rw [List.length_append, hil, hc.1]
            simp only [List.length_cons, List.length_nil, Bool.false_eq_true, if_false]; omega
          · rw [List.map_append]
            exact h4
        · have es : insS f.name (o1 ++ [x]) = ((insS f.name o1).1 ++ [x], (insS f.name o1).2) := by rw [insS_snoc]; unfold insStep; rw [if_neg hc]
          refine XIf.no (decide_eq_false hc) (hJ _ _ ⟨n, by rw [es], (insS f.name o1).1, by rw [es], ?_, h⟩)
          rw [hil]; split <;> omega
      · clear h
        rintro _ w' ⟨s, rfl, pre, epre, hpl, h⟩
        have hsl : s.len = pre.length := by have := h.own_len; simpa using this.symm
        refine hgx (h.bring 1) ?_
        refine xappend1 (by kernel_rfl) h rfl rfl (by show s.len + 1 ≤ _; omega) fun a s' w' h4 hl4 => xlet ((o1.length + 1 : Nat) : Int) (by dsimp only; rw [wi (by omega) (by omega)]; omega) (hnext2 _ _ ⟨o1 ++ [x], o2, s', by rw [eo]; simp, by simp, ?_⟩ (by dsimp only; omega))
        rw [epre, List.map_append]
        exact h4

/-! ### The law's own -/

theorem names_spec {s1 s2 : Sl} {l : List ByteArray} (hs : Sat W w (own 1 s1 (l.map Value.string) :: own 1 s2 (l.map Value.string) :: L)) (hl : l.length ≤ 2 ^ 40) :
    Ret Try.prog F.barquelaw14_names [.slice s1.a s1.len s1.cap, .slice s2.a s2.len s2.cap] w fun v w' => v = .bool true ∧ Sat W w' (own 1 s1 (l.map Value.string) :: own 1 s2 (l.map Value.string) :: L) := by
  have h1 : s1.len = l.length := by have := hs.own_len; simpa using this.symm
  have h2 : s2.len = l.length := by have := (hs.bring 1).own_len; simpa using this.symm
  refine S.barquelaw14_names_ok s1 s2 _ _ (XIf.no (by rw [h1, h2]; simp) ?_)
  refine xloop (fun (st : Bool × Int × Unit) w => ∃ i : Nat, st = (false, (i : Int), ()) ∧ i ≤ l.length ∧ Sat W w (own 1 s1 (l.map Value.string) :: own 1 s2 (l.map Value.string) :: L))
    (fun st => ((s1.len : Int) - st.2.1).toNat) ⟨0, rfl, Nat.zero_le _, hs⟩ ?_
  rintro next _ w ⟨i, rfl, hi, h⟩ hnext
  by_cases hlt : i < l.length
  · have hd := h.drew
    refine XIf.yes (decide_eq_true (show (i : Int) < (s1.len : Int) by omega)) (xelem hd i rfl (names_get l i hlt) (by show Int.toNat _ * 1 = _; simp) fun a => xelem (hd.bring 1) i rfl (names_get l i hlt) (by show Int.toNat _ * 1 = _; simp) fun a => XIf.no (by rw [sEq_self]; rfl) ?_)
    exact xlet ((i + 1 : Nat) : Int) (by dsimp only; rw [wi (by omega) (by omega)]; omega) (hnext _ _ ⟨i + 1, rfl, hlt, hd⟩ (by dsimp only; omega))
  · exact XIf.no (decide_eq_false (show ¬ (i : Int) < (s1.len : Int) by omega)) ⟨rfl, h⟩

def lowZ (n : Int) : Int := if 5000 < n ∧ n ≤ 2097152 then Int.tmod n 5000 else n

theorem low_spec (n : Int) : Ret Try.prog F.barquelaw14_low [.int .i64 n] w fun v w' => v = .int .i64 (lowZ n) ∧ w' = w := by
  refine S.barquelaw14_low_ok _ _ _ (xjoin (fun (st : Bool × Unit) w' => st = (decide (5000 < n ∧ n ≤ 2097152), ()) ∧ w' = w) (fun J hJ => ?_) ?_)
  · by_cases h : n > 5000
    · refine XIf.yes (decide_eq_true h) (hJ _ _ ⟨?_, rfl⟩)
      have : (n ≤ 2097152) ↔ (5000 < n ∧ n ≤ 2097152) := by omega
      exact Prod.ext (decide_eq_decide.2 this) rfl
    · refine XIf.no (decide_eq_false h) (hJ _ _ ⟨?_, rfl⟩)
      have : ¬ (5000 < n ∧ n ≤ 2097152) := by omega
      simp [this]
  · rintro _ w' ⟨rfl, rfl⟩
    by_cases h : 5000 < n ∧ n ≤ 2097152
    · refine XIf.yes (decide_eq_true h) ⟨by decide, xlet0 ⟨?_, rfl⟩⟩
      unfold lowZ; rw [if_pos h]
    · refine XIf.no (decide_eq_false h) ⟨?_, rfl⟩
      unfold lowZ; rw [if_neg h]

end
end Go.X
