/- A plain model of the device: its files by name, what waits, its counts. -/
import Derived.Test.YtmbiffmfcloepaaGreatDoorXExt
namespace Go.X

structure DF where
  id : Int
  name : ByteArray
  last : List UInt8
  seen : List UInt8

/-- A piece that waits: of which file, at which byte, what. -/
structure DW where
  id : Int
  at_ : Nat
  text : List UInt8

structure DD where
  files : List DF
  wait : List DW
  most : Int
  fuse : Int
  off : Bool
  count : Int
  made : Int

def secs (n : Nat) : Nat := (n + 63) / 64
def DF.takes (f : DF) : Nat := secs (max f.seen.length f.last.length)
def takesAll : List DF → Nat
  | [] => 0
  | f :: fs => f.takes + takesAll fs
def DD.free (D : DD) : Int := D.most - takesAll D.files

def bcells (l : List UInt8) : List Value := l.map fun b => .int .u8 b.toNat
def wcells (p : DW) : List Value := [.int .i64 p.id, .int .i64 (p.at_ / 64 : Nat), .int .i64 (p.at_ % 64 : Nat), .string ⟨p.text.toArray⟩]
def ptr (p : Nat) : Value := .pointer (some ⟨p, 0, none⟩)

/-- A file in memory. -/
def FileP (x : Nat × DF) : SP := ex fun (g : Sl × Sl) => all [pts x.1 [.int .i64 x.2.id, .string x.2.name, .slice g.1.a g.1.len g.1.cap, .slice g.2.a g.2.len g.2.cap], own 1 g.1 (bcells x.2.last), own 1 g.2 (bcells x.2.seen)]

def FilesP (l : List (Nat × DF)) : SP := all (l.map FileP)

/-- The device in memory. -/
def DiskP (d : Nat) (D : DD) : SP := ex fun (g : List (Nat × DF) × Sl × Sl) => all [fact (g.1.map (·.2) = D.files),
  pts d [.slice g.2.1.a g.2.1.len g.2.1.cap, .slice g.2.2.a g.2.2.len g.2.2.cap, .int .i64 D.most, .int .i64 D.fuse, .bool D.off, .int .i64 D.count, .int .i64 D.made],
  own 1 g.2.1 (g.1.map fun x => ptr x.1), FilesP g.1, own 4 g.2.2 (D.wait.flatMap wcells)]

section
variable {W w : World} {L : List SP}

theorem DiskP.open {d : Nat} {D : DD} (hs : Sat W w (DiskP d D :: L)) : ∃ (l : List (Nat × DF)) (fs ws : Sl), l.map (·.2) = D.files ∧
    Sat W w (pts d [.slice fs.a fs.len fs.cap, .slice ws.a ws.len ws.cap, .int .i64 D.most, .int .i64 D.fuse, .bool D.off, .int .i64 D.count, .int .i64 D.made] ::
      own 1 fs (l.map fun x => ptr x.1) :: FilesP l :: own 4 ws (D.wait.flatMap wcells) :: L) := by
  obtain ⟨⟨l, fs, ws⟩, h⟩ := hs.open_ex
  obtain ⟨h1, h⟩ := h.open_all.open_fact
  exact ⟨l, fs, ws, h1, h⟩

theorem DiskP.shut {d : Nat} {D : DD} {l : List (Nat × DF)} {fs ws : Sl} (hl : l.map (·.2) = D.files)
    (hs : Sat W w (pts d [.slice fs.a fs.len fs.cap, .slice ws.a ws.len ws.cap, .int .i64 D.most, .int .i64 D.fuse, .bool D.off, .int .i64 D.count, .int .i64 D.made] ::
      own 1 fs (l.map fun x => ptr x.1) :: FilesP l :: own 4 ws (D.wait.flatMap wcells) :: L)) : Sat W w (DiskP d D :: L) :=
  Sat.shut_ex (l, fs, ws) (Sat.shut_all (As := [_, _, _, _, _]) (Sat.shut_fact hl hs))

theorem FileP.open {x : Nat × DF} (hs : Sat W w (FileP x :: L)) : ∃ ls ss : Sl,
    Sat W w (pts x.1 [.int .i64 x.2.id, .string x.2.name, .slice ls.a ls.len ls.cap, .slice ss.a ss.len ss.cap] :: own 1 ls (bcells x.2.last) :: own 1 ss (bcells x.2.seen) :: L) := by
  obtain ⟨⟨ls, ss⟩, h⟩ := hs.open_ex
  exact ⟨ls, ss, h.open_all⟩

theorem FileP.shut {p : Nat} {f : DF} {ls ss : Sl}
    (hs : Sat W w (pts p [.int .i64 f.id, .string f.name, .slice ls.a ls.len ls.cap, .slice ss.a ss.len ss.cap] :: own 1 ls (bcells f.last) :: own 1 ss (bcells f.seen) :: L)) : Sat W w (FileP (p, f) :: L) :=
  Sat.shut_ex (ls, ss) (Sat.shut_all (As := [_, _, _]) hs)

theorem star_perm {A : SP} : ∀ (l1 l2 L : List SP) (h : Hp), star (l1 ++ A :: l2 ++ L) h ↔ star (A :: (l1 ++ l2 ++ L)) h
  | [], _, _, _ => Iff.rfl
  | B :: l1, l2, L, h => by
    constructor
    · intro s
      exact sep_swap (star_mono (fun h s => (star_perm l1 l2 L h).1 s) s)
    · intro s
      exact star_mono (fun h s => (star_perm l1 l2 L h).2 s) (sep_swap s)

/-- One of the files, ahead of the others. -/
theorem FilesP.take {l1 l2 : List (Nat × DF)} {x : Nat × DF} (hs : Sat W w (FilesP (l1 ++ x :: l2) :: L)) : Sat W w (FileP x :: FilesP (l1 ++ l2) :: L) := by
  have h := hs.open_all
  simp only [List.map_append, List.map_cons] at h
  have h' := h.of_star fun h s => (star_perm (l1.map FileP) (l2.map FileP) L h).1 s
  rw [← List.map_append] at h'
  exact h'.of_star fun h s => star_mono (fun h s => star_unall _ _ h s) s

theorem FilesP.put {l1 l2 : List (Nat × DF)} {x : Nat × DF} (hs : Sat W w (FileP x :: FilesP (l1 ++ l2) :: L)) : Sat W w (FilesP (l1 ++ x :: l2) :: L) := by
  refine Sat.shut_all ?_
  simp only [List.map_append, List.map_cons]
  refine (hs.of_star fun h s => star_mono (fun h s => star_all _ _ h s) s).of_star fun h s => ?_
  rw [List.map_append] at s
  exact (star_perm (l1.map FileP) (l2.map FileP) L h).2 s

theorem split_at {α : Type} {l : List α} {k : Nat} (h : k < l.length) : ∃ l1 l2, l = l1 ++ l[k] :: l2 ∧ l1.length = k := by
  refine ⟨l.take k, l.drop (k + 1), ?_, by simp; omega⟩
  simp

end

theorem wi {n : Int} (h1 : -9223372036854775808 ≤ n) (h2 : n ≤ 9223372036854775807) : IntKind.wrap .i64 n = n := by
  unfold IntKind.wrap
  have hb : IntKind.bits .i64 = 64 := rfl
  have hs : IntKind.signed .i64 = true := rfl
  simp only [hb, hs, Bool.true_and, decide_eq_true_eq]
  by_cases h : n % 2 ^ 64 ≥ 2 ^ (64 - 1)
  · rw [if_pos h]; omega
  · rw [if_neg h]; omega

theorem wu {n : Int} (h1 : 0 ≤ n) (h2 : n ≤ 18446744073709551615) : IntKind.wrap .u64 n = n := by
  unfold IntKind.wrap
  have hb : IntKind.bits .u64 = 64 := rfl
  have hs : IntKind.signed .u64 = false := rfl
  simp only [hb, hs, Bool.false_and, Bool.false_eq_true, if_false]
  omega

end Go.X
