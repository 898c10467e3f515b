/- The document's device: Copy, Write. -/
import Derived.Test.YthljhmjigpfpnaaERef8
namespace Go.X
open Go.Proofs

section
variable {W w : World} {L : List SP} {q : Nat} {R : DD}

theorem CopyR_spec (hs : Sat W w (RefP q R :: L)) (hn : R.files.length ≤ 2 ^ 30) (hwl : R.wait.length ≤ 2 ^ 38) :
    Ret Try.prog F.barqueref14_Disk_Copy [ptr q] w fun v w' => ∃ o, v = ptr o ∧ Sat W w' (RefP o R :: RefP q R :: L) := by
  suffices H : ∀ K : Value → World → Prop, (∀ o w', Sat W w' (RefP o R :: RefP q R :: L) → K (ptr o) w') → S.barqueref14_Disk_Copy (some ⟨q, 0, none⟩) K w from S.barqueref14_Disk_Copy_ok _ _ _ (H _ fun o _ h => ⟨o, rfl, h⟩)
  intro K hK
  obtain ⟨fs, ws, h0⟩ := RefP.open hs
  have hfl : R.files.length = fs.len := by have := (h0.bring 1).own_len; rw [rcells_len] at this; omega
  have hwlen : R.wait.length = ws.len := by have := (h0.bring 2).own_len; rw [vcells_len] at this; omega
  have h := h0.drew
  refine xnil (xload h 0 rfl rfl (xnil (xload h 1 rfl rfl (xnil (xload h 2 rfl rfl (xnil (xload h 3 rfl rfl (xnil (xload h 4 rfl rfl (xnil (xload h 5 rfl rfl (xnil (xload h 6 rfl rfl ?_)))))))))))))
  -- the files' copy, and the pieces' copy, wherever the device stands
  have hfiles : ∀ {w : World} {b : Nat} {L' : List SP} {K : Sl → World → Prop}, Sat W w (pts b [] :: pts q [.slice fs.a fs.len fs.cap, .slice ws.a ws.len ws.cap, .int .i64 R.most, .int .i64 R.fuse, .bool R.off, .int .i64 R.count, .int .i64 R.made] :: own 4 fs (R.files.flatMap rcells) :: own 3 ws (R.wait.flatMap vcells) :: L') →
      (∀ g w', Sat W w' (own 4 g (R.files.flatMap rcells) :: pts q [.slice fs.a fs.len fs.cap, .slice ws.a ws.len ws.cap, .int .i64 R.most, .int .i64 R.fuse, .bool R.off, .int .i64 R.count, .int .i64 R.made] :: own 4 fs (R.files.flatMap rcells) :: own 3 ws (R.wait.flatMap vcells) :: L') → K g w') →
      ∀ {t u ty : TypeId}, okApp Try.prog t u 4 = true → XDo Try.prog (Builtin.append_ #[t, u] ty ⟨[.slice (some ⟨b, 0, none⟩) 0 0, .slice fs.a fs.len fs.cap]⟩) (.leaf .slice) w K := by
    intro w b L' K h hk t u ty hok
    have h1 : Sat W w (own 4 ⟨some ⟨b, 0, none⟩, 0, 0⟩ [] :: _) := Sat.shut_own (rest := []) rfl rfl rfl (Nat.le_refl _) h
    exact xappend (s := ⟨some ⟨b, 0, none⟩, 0, 0⟩) (x := fs) hok h1 (reads_own (h1.bring 2)) (h1.bring 2).own_len (fun ha => by
      rcases (h1.bring 2).open_own with ⟨_, _, _, hx, _⟩ | ⟨b', rest, ha', _⟩
      · exact hx
      · have ha' : fs.a = some ⟨b', 0, none⟩ := ha'
        rw [ha] at ha'; cases ha') (rcells_one _) (by show 0 + fs.len ≤ _; omega) fun g w' h2 _ => hk g w' h2
  have hpieces : ∀ {w : World} {b : Nat} {L' : List SP} {K : Sl → World → Prop}, Sat W w (pts b [] :: pts q [.slice fs.a fs.len fs.cap, .slice ws.a ws.len ws.cap, .int .i64 R.most, .int .i64 R.fuse, .bool R.off, .int .i64 R.count, .int .i64 R.made] :: own 4 fs (R.files.flatMap rcells) :: own 3 ws (R.wait.flatMap vcells) :: L') →
      (∀ g w', Sat W w' (own 3 g (R.wait.flatMap vcells) :: pts q [.slice fs.a fs.len fs.cap, .slice ws.a ws.len ws.cap, .int .i64 R.most, .int .i64 R.fuse, .bool R.off, .int .i64 R.count, .int .i64 R.made] :: own 4 fs (R.files.flatMap rcells) :: own 3 ws (R.wait.flatMap vcells) :: L') → K g w') →
      ∀ {t u ty : TypeId}, okApp Try.prog t u 3 = true → XDo Try.prog (Builtin.append_ #[t, u] ty ⟨[.slice (some ⟨b, 0, none⟩) 0 0, .slice ws.a ws.len ws.cap]⟩) (.leaf .slice) w K := by
    intro w b L' K h hk t u ty hok
    have h1 : Sat W w (own 3 ⟨some ⟨b, 0, none⟩, 0, 0⟩ [] :: _) := Sat.shut_own (rest := []) rfl rfl rfl (Nat.le_refl _) h
    exact xappend (s := ⟨some ⟨b, 0, none⟩, 0, 0⟩) (x := ws) hok h1 (reads_own (h1.bring 3)) (h1.bring 3).own_len (fun ha => by
      rcases (h1.bring 3).open_own with ⟨_, _, _, hx, _⟩ | ⟨b', rest, ha', _⟩
      · exact hx
      · have ha' : ws.a = some ⟨b', 0, none⟩ := ha'
        rw [ha] at ha'; cases ha') (vcells_one _) (by show 0 + ws.len ≤ _; omega) fun g w' h2 _ => hk g w' h2
  have hend : ∀ {w : World} {o : Nat} {g1 g2 : Sl}, Sat W w (pts o [.slice g1.a g1.len g1.cap, .slice g2.a g2.len g2.cap, .int .i64 R.most, .int .i64 R.fuse, .bool R.off, .int .i64 R.count, .int .i64 R.made] :: own 4 g1 (R.files.flatMap rcells) :: own 3 g2 (R.wait.flatMap vcells) ::
      pts q [.slice fs.a fs.len fs.cap, .slice ws.a ws.len ws.cap, .int .i64 R.most, .int .i64 R.fuse, .bool R.off, .int .i64 R.count, .int .i64 R.made] :: own 4 fs (R.files.flatMap rcells) :: own 3 ws (R.wait.flatMap vcells) :: L) → K (.pointer (some ⟨o, 0, none⟩)) w := by
    intro w o g1 g2 h
    have h1 := RefP.shut (R := R) (h.arr [3, 4, 5])
    exact hK o w (RefP.shut (R := R) (h1.arr [1, 2, 3, 0]))
  -- behind the files' copy
  have hlast : ∀ {w : World} {b2 : Nat} {g1 : Sl} {K' : Sl → World → Prop} {t u ty : TypeId}, okApp Try.prog t u 3 = true → Sat W w (own 4 g1 (R.files.flatMap rcells) :: pts q [.slice fs.a fs.len fs.cap, .slice ws.a ws.len ws.cap, .int .i64 R.most, .int .i64 R.fuse, .bool R.off, .int .i64 R.count, .int .i64 R.made] :: own 4 fs (R.files.flatMap rcells) :: own 3 ws (R.wait.flatMap vcells) :: pts b2 [] :: L) →
      (∀ g2 w', Sat W w' (own 3 g2 (R.wait.flatMap vcells) :: pts q [.slice fs.a fs.len fs.cap, .slice ws.a ws.len ws.cap, .int .i64 R.most, .int .i64 R.fuse, .bool R.off, .int .i64 R.count, .int .i64 R.made] :: own 4 fs (R.files.flatMap rcells) :: own 3 ws (R.wait.flatMap vcells) :: own 4 g1 (R.files.flatMap rcells) :: L) → K' g2 w') →
      XDo Try.prog (Builtin.append_ #[t, u] ty ⟨[.slice (some ⟨b2, 0, none⟩) 0 0, .slice ws.a ws.len ws.cap]⟩) (.leaf .slice) w K' := fun hok h hk => hpieces (h.arr [4, 1, 2, 3, 0]) hk hok
  refine ⟨xnew h fun b w1 h1 => ⟨(h1.bring 1).cell rfl, (h1.bring 1).cell rfl, (h1.bring 1).cell rfl, (h1.bring 1).cell rfl, (h1.bring 1).cell rfl, (h1.bring 1).cell rfl, (h1.bring 1).cell rfl, ?_, ?_⟩, ?_⟩
  · refine hfiles h1 (fun g1 w2 h2 => ⟨(h2.bring 1).cell rfl, (h2.bring 1).cell rfl, (h2.bring 1).cell rfl, (h2.bring 1).cell rfl, (h2.bring 1).cell rfl, (h2.bring 1).cell rfl, xnew h2 fun b2 w3 h3 => ⟨(h3.bring 2).cell rfl, (h3.bring 2).cell rfl, (h3.bring 2).cell rfl, (h3.bring 2).cell rfl, (h3.bring 2).cell rfl, (h3.bring 2).cell rfl, ?_⟩⟩) (by kernel_rfl)
    exact hlast (by kernel_rfl) (h3.arr [1, 2, 3, 4, 0]) fun g2 w4 h4 => ⟨(h4.bring 1).cell rfl, (h4.bring 1).cell rfl, (h4.bring 1).cell rfl, (h4.bring 1).cell rfl, (h4.bring 1).cell rfl, xnew h4 fun o w5 h5 => ⟨(h5.bring 2).cell rfl, (h5.bring 2).cell rfl, (h5.bring 2).cell rfl, (h5.bring 2).cell rfl, (h5.bring 2).cell rfl, hend (h5.arr [0, 5, 1, 2, 3, 4])⟩⟩
  · refine xnew h1 fun b2 w2 h2 => ⟨(h2.bring 2).cell rfl, (h2.bring 2).cell rfl, (h2.bring 2).cell rfl, (h2.bring 2).cell rfl, (h2.bring 2).cell rfl, (h2.bring 2).cell rfl, (h2.bring 2).cell rfl, ?_⟩
    refine hfiles (L' := pts b2 [] :: L) (h2.arr [1, 2, 3, 4, 0]) (fun g1 w3 h3 => ⟨(h3.bring 1).cell rfl, (h3.bring 1).cell rfl, (h3.bring 1).cell rfl, (h3.bring 1).cell rfl, (h3.bring 1).cell rfl, (h3.bring 1).cell rfl, ?_⟩) (by kernel_rfl)
    exact hlast (by kernel_rfl) h3 fun g2 w4 h4 => ⟨(h4.bring 1).cell rfl, (h4.bring 1).cell rfl, (h4.bring 1).cell rfl, (h4.bring 1).cell rfl, (h4.bring 1).cell rfl, xnew h4 fun o w5 h5 => ⟨(h5.bring 2).cell rfl, (h5.bring 2).cell rfl, (h5.bring 2).cell rfl, (h5.bring 2).cell rfl, (h5.bring 2).cell rfl, hend (h5.arr [0, 5, 1, 2, 3, 4])⟩⟩
  · refine xnew h fun b2 w1 h1 => ⟨(h1.bring 1).cell rfl, (h1.bring 1).cell rfl, (h1.bring 1).cell rfl, (h1.bring 1).cell rfl, (h1.bring 1).cell rfl, (h1.bring 1).cell rfl, (h1.bring 1).cell rfl, xnew h1 fun b w2 h2 => ⟨(h2.bring 2).cell rfl, (h2.bring 2).cell rfl, (h2.bring 2).cell rfl, (h2.bring 2).cell rfl, (h2.bring 2).cell rfl, (h2.bring 2).cell rfl, (h2.bring 2).cell rfl, ?_⟩⟩
    refine hfiles (L' := pts b2 [] :: L) (h2.arr [0, 2, 3, 4, 1]) (fun g1 w3 h3 => ⟨(h3.bring 1).cell rfl, (h3.bring 1).cell rfl, (h3.bring 1).cell rfl, (h3.bring 1).cell rfl, (h3.bring 1).cell rfl, (h3.bring 1).cell rfl, ?_⟩) (by kernel_rfl)
    exact hlast (by kernel_rfl) h3 fun g2 w4 h4 => ⟨(h4.bring 1).cell rfl, (h4.bring 1).cell rfl, (h4.bring 1).cell rfl, (h4.bring 1).cell rfl, (h4.bring 1).cell rfl, xnew h4 fun o w5 h5 => ⟨(h5.bring 2).cell rfl, (h5.bring 2).cell rfl, (h5.bring 2).cell rfl, (h5.bring 2).cell rfl, (h5.bring 2).cell rfl, hend (h5.arr [0, 5, 1, 2, 3, 4])⟩⟩

end
end Go.X
