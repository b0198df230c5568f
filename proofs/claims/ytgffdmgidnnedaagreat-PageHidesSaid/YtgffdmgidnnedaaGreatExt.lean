/- Functions that have no body. -/
import Derived.Test.YtgffdmgidnnedaaGreatSlc
import Derived.Lib.Bytealg
import Derived.Lib.BytesEntry
namespace Go.Proofs.YtgffdmgidnnedaaGreat.V
open Go
set_option linter.unusedVariables false
set_option linter.unusedSimpArgs false
section
variable {G : Prg} {w : World} {Fz : Nat → Prop} {ι : Nat → Loc} {H : List (Blk G.E.T)}
theorem lt_u8 {x y : Int} (hx : IntKind.u8.has x) (hy : IntKind.u8.has y) : (x.toNat.toUInt8 < y.toNat.toUInt8) = (x < y) := by
 rw [has_iff] at hx hy
 simp only at hx hy
 rw [eq_iff_iff, UInt8.lt_iff_toNat_lt]
 simp only [Nat.toUInt8, UInt8.toNat_ofNat']
 omega
theorem cmpI_eq : ∀ {xs ys : List Int}, (∀ x ∈ xs, IntKind.u8.has x) → (∀ x ∈ ys, IntKind.u8.has x) → Lib.compareBytes (Lib.bytesOf xs) (Lib.bytesOf ys) = cmpI xs ys
 | [], [], _, _ => rfl
 | [], _ :: _, _, _ => rfl
 | _ :: _, [], _, _ => rfl
 | a :: l, b :: m, h1, h2 => by
  have ha := h1 a (List.mem_cons_self ..)
  have hb := h2 b (List.mem_cons_self ..)
  show (if a.toNat.toUInt8 < b.toNat.toUInt8 then (-1 : Int) else if b.toNat.toUInt8 < a.toNat.toUInt8 then 1 else Lib.compareBytes (Lib.bytesOf l) (Lib.bytesOf m)) = _
  rw [cmpI_eq (fun x hx => h1 x (List.mem_cons_of_mem _ hx)) fun x hx => h2 x (List.mem_cons_of_mem _ hx)]
  simp only [lt_u8 ha hb, lt_u8 hb ha, cmpI]
theorem run_bytesOf {xs : List Int} {x : Value} (h : FRep G.E w anyB (.ints .u8 xs) x) : (Extern.Bytes.bytesOf x).run G.P w = .ok ⟨(Lib.bytesOf xs).toArray⟩ w ∧ ∀ y ∈ xs, IntKind.u8.has y := by
 cases h with
 | ints h1 h2 h0 h3 =>
  rename_i a cap
  refine ⟨?_, h1⟩
  by_cases hne : xs = []
  ·subst hne
   cases a with
   | none => rfl
   | some A => simp [Extern.Bytes.bytesOf, Extern.Bytes.loadBytes, Lib.bytesOf]; rfl
  ·obtain ⟨B, o, rfl, _, hc⟩ := h3 hne
   have := Lib.run_loadBytesX (P := G.P) (w := w) xs ⟨B, o, none⟩ .empty (fun j x hj => by
    have e : (⟨B, o, none⟩ : Addr).add j = ⟨B, o + j, none⟩ := by unfold Addr.add; split <;> simp_all
    rw [e]; exact hc j x hj)
   simpa [Extern.Bytes.bytesOf] using this
theorem cmpV_sound (ok : PrgOk G) {f : Nat} {args : List (PV G.E.T)} {vs : List Value} {p : PV G.E.T} (h : cmpV G H f args = some p) (hH : HRep G.E w Fz ι H) (ha : PReps G.E w Fz ι H args vs) :
  ∃ v, (callFunc f vs.toArray).run G.P w = .ok (.value v) w ∧ PRep G.E w Fz ι H p v := by
 unfold cmpV at h
 split at h
 ·rename_i x y hf
  split at h
  ·rename_i xs l1 ys l2 h1 h2
   cases h
   rcases vs with _ | ⟨vx, _ | ⟨vy, _ | ⟨_, _⟩⟩⟩ <;> simp only [PReps, and_true, and_false] at ha
   obtain ⟨e1, b1⟩ := run_bytesOf (intsOf_read hH h1 ha.1)
   obtain ⟨e2, b2⟩ := run_bytesOf (intsOf_read hH h2 ha.2)
   obtain ⟨fn, q1, q2, q3, q4, q5⟩ := ok.cmp f hf
   refine ⟨.int .i64 (cmpI xs ys), ?_, ?_⟩
   ·rw [run_callFunc_extern q1 q2 q3 q4 q5]
    change ((Sem.run G.P (do pure (goInt (Extern.BytealgCompare.cmp (← Extern.Bytes.bytesOf vx) (← Extern.Bytes.bytesOf vy))))) w).andThen _ = _
    simp only [Sem.run_bind, e1, e2, Sem.run_pure, Result.andThen_ok, Lib.cmp_eq, cmpI_eq b1 b2]
    rfl
   ·simp only [PRep]
    refine .int ?_
    have : ∀ xs ys : List Int, -1 ≤ cmpI xs ys ∧ cmpI xs ys ≤ 1 := by
     intro xs
     induction xs with
     | nil => intro ys; cases ys <;> simp [cmpI]
     | cons a l ih =>
      intro ys
      cases ys with
      | nil => simp [cmpI]
      | cons b m =>
       simp only [cmpI]
       split
       ·omega
       ·split
        ·omega
        ·exact ih m
    have := this xs ys
    rw [has_iff]
    simp only
    omega
  ·cases h
 ·cases h
end
end Go.Proofs.YtgffdmgidnnedaaGreat.V
