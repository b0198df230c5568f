/- Runs of lines in two dimensions: the program against its reference. -/
import Derived.Test.YtkccnhkhjncpkaaGreatPureRun2
namespace Go.Proofs.YtkccnhkhjncpkaaGreat.P
open Go Go.Proofs.YtkccnhkhjncpkaaGreat.V
set_option linter.unusedVariables false
set_option linter.unusedSimpArgs false

theorem at_is {p : List Int} (hp : ∀ x ∈ p, x = 0 ∨ x = 1) {x : Int} (hx : x < (p.length : Int)) : ref06_at p x = some (if x < 0 then 0 else rd p x) := by
  rw [ref06_at_eq]
  simp only [iteD]
  by_cases h : x < 0
  · rw [if_pos h, if_pos h]
  · have := hp _ (rd_mem (show 0 ≤ x by omega) hx)
    rw [if_neg h, if_neg h, if_pos (by omega), w64 (by omega)]
/-- the first place behind a with a colour -/
theorem first_is {p : List Int} (hl : p.length ≤ 200) (hp : ∀ x ∈ p, x = 0 ∨ x = 1) {a c : Int} (ha : -1 ≤ a ∧ a ≤ (p.length : Int)) :
    ∃ x, runs_change p a c = some x ∧ ref06_first p a c = some x ∧ x ≤ (p.length : Int) ∧ (a < (p.length : Int) → a < x) ∧ 0 ≤ x ∧ a ≤ x := by
  have hB : Both (loop (runs_change_loop2 p c) (a + 1)) (loop (ref06_first_loop2 p c) (a + 1)) (fun q r => imin q (p.length : Int) = Sum.elim (fun _ => (p.length : Int)) (fun v => v) r ∧ a < q) := by
    refine Both.loop (fun s r => s = r ∧ a + 1 ≤ s) _ (fun s => ((p.length : Int) - s).toNat) ?_ _ _ ⟨rfl, by omega⟩
    rintro x _ ⟨rfl, hx⟩
    unfold runs_change_loop2 ref06_first_loop2
    simp only [iteD, iteND]
    by_cases hlt : x < (p.length : Int)
    · have h0 : 0 ≤ x := by omega
      rw [at_is hp hlt]
      have hn : ¬ x < 0 := by omega
      simp only [hlt, h0, hn, and_self, if_true, if_false, Option.bind_some]
      by_cases hc : rd p x = c
      · simp only [hc, if_true]
        exact .mk ⟨by rw [imin_eq]; simp; omega, by omega⟩
      · simp only [hc, if_false]
        rw [w64 (n := x + 1) (by omega)]
        exact .mk ⟨⟨rfl, by omega⟩, by omega⟩
    · simp only [hlt, if_false]
      exact .mk ⟨by rw [imin_eq]; simp; omega, by omega⟩
  obtain ⟨q, r, e1, e2, h1, h2⟩ := hB
  refine ⟨imin q (p.length : Int), ?_, ?_, by rw [imin_eq]; omega, fun h => by rw [imin_eq]; omega, by rw [imin_eq]; omega, by rw [imin_eq]; omega⟩
  · rw [runs_change_eq, w64 (n := a + 1) (by omega)]; simp only [e1]; rfl
  · rw [ref06_first_eq, w64 (n := a + 1) (by omega)]; simp only [e2, h1]
    cases r <;> rfl
/-- b1 and b2 -/
theorem marks_is {p : List Int} (hl : p.length ≤ 200) (hp : ∀ x ∈ p, x = 0 ∨ x = 1) {a c : Int} (ha : -1 ≤ a ∧ a < (p.length : Int)) :
    ∃ b1 b2, runs_marks p a c = some (b1, b2) ∧ ref06_change p a c = some b1 ∧ ref06_first p b1 c = some b2 ∧ a < b1 ∧ b1 ≤ (p.length : Int) ∧ b2 ≤ (p.length : Int) ∧ b1 ≤ b2 ∧ 0 ≤ b2 := by
  have hB : Both (loop (runs_marks_loop2 p c) (a + 1)) (loop (ref06_change_loop2 p c) (a + 1)) (fun q r => imin q (p.length : Int) = Sum.elim (fun _ => (p.length : Int)) (fun v => v) r ∧ a < q) := by
    refine Both.loop (fun s r => s = r ∧ a + 1 ≤ s) _ (fun s => ((p.length : Int) - s).toNat) ?_ _ _ ⟨rfl, by omega⟩
    rintro x _ ⟨rfl, hx⟩
    unfold runs_marks_loop2 ref06_change_loop2
    simp only [iteD, iteND]
    by_cases hlt : x < (p.length : Int)
    · have h0 : 0 ≤ x := by omega
      have hn : ¬ x < 0 := by omega
      rw [w64 (n := x - 1) (by omega), at_is hp hlt, at_is hp (show x - 1 < (p.length : Int) by omega)]
      have el : ((if x > 0 then (if 0 ≤ x - 1 ∧ x - 1 < (p.length : Int) then some (rd p (x - 1)) else none) else some 0) : Option Int) = some (if x - 1 < 0 then 0 else rd p (x - 1)) := by
        by_cases hz : x > 0
        · rw [if_pos hz, if_pos (by omega), if_neg (by omega)]
        · rw [if_neg hz, if_pos (by omega)]
      rw [el]
      simp only [hlt, h0, hn, and_self, if_true, if_false, Option.bind_some]
      rw [w64 (n := x + 1) (by omega)]
      by_cases hc : rd p x = c
      · simp only [hc, if_true]
        exact .mk ⟨⟨rfl, by omega⟩, by omega⟩
      · simp only [hc, if_false]
        by_cases hd : (if x - 1 < 0 then 0 else rd p (x - 1)) = c
        · simp only [hd, if_true]
          exact .mk ⟨by rw [imin_eq]; simp; omega, by omega⟩
        · simp only [hd, if_false]
          exact .mk ⟨⟨rfl, by omega⟩, by omega⟩
    · simp only [hlt, if_false]
      exact .mk ⟨by rw [imin_eq]; simp; omega, by omega⟩
  obtain ⟨q, r, e1, e2, h1, h2⟩ := hB
  have hb1 : a < imin q (p.length : Int) ∧ imin q (p.length : Int) ≤ (p.length : Int) := by rw [imin_eq]; omega
  obtain ⟨x, x1, x2, x3, _, x5, x4⟩ := first_is hl hp (a := imin q (p.length : Int)) (c := c) (by omega)
  refine ⟨imin q (p.length : Int), x, ?_, ?_, x2, hb1.1, hb1.2, x3, x4, x5⟩
  · rw [runs_marks_eq, w64 (n := a + 1) (by omega)]
    simp only [e1, Option.bind_some, x1]
  · rw [ref06_change_eq, w64 (n := a + 1) (by omega)]; simp only [e2, h1]
    cases r <;> rfl

/-! ### Modes -/
def ModeR (m : Mode) (m' : Mode') : Prop := runs_mode_bits m.kind m.d m.runs_0 m.runs_1 m.colour = some m'.bits ∧ m'.bits.length ≤ 130 ∧ allBit m'.bits = true
def ModesR : List Mode → List Mode' → Prop
  | [], [] => True
  | m :: l, m' :: l' => ModeR m m' ∧ ModesR l l'
  | _, _ => False
theorem ModesR.snoc {m : Mode} {m' : Mode'} : ∀ {l : List Mode} {l' : List Mode'}, ModesR l l' → ModeR m m' → ModesR (l ++ [m]) (l' ++ [m'])
  | [], [], _, h => ⟨h, trivial⟩
  | _ :: _, _ :: _, h, g => ⟨h.1, ModesR.snoc h.2 g⟩
  | [], _ :: _, h, _ => h.elim
  | _ :: _, [], h, _ => h.elim
theorem ModesR.len : ∀ {l : List Mode} {l' : List Mode'}, ModesR l l' → l.length = l'.length
  | [], [], _ => rfl
  | _ :: _, _ :: _, h => by simp [ModesR.len h.2]
  | [], _ :: _, h => h.elim
  | _ :: _, [], h => h.elim
theorem ModesR.at_ : ∀ {l : List Mode} {l' : List Mode'} {i : Nat}, ModesR l l' → i < l.length → ∃ m m', l[i]? = some m ∧ l'[i]? = some m' ∧ ModeR m m'
  | m :: _, m' :: _, 0, h, _ => ⟨m, m', rfl, rfl, h.1⟩
  | _ :: l, _ :: l', i + 1, h, hi => by
    obtain ⟨m, m', h1, h2, h3⟩ := ModesR.at_ h.2 (i := i) (by simpa using hi)
    exact ⟨m, m', by simpa using h1, by simpa using h2, h3⟩
  | [], [], _, _, hi => by simp at hi
  | [], _ :: _, _, h, _ => h.elim
  | _ :: _, [], _, h, _ => h.elim

theorem pass_list : runs_list [48, 48, 48, 49] = some [0, 0, 0, 1] := runs_list_F_le 20 _ _ (by kernel_rfl)
theorem pass_bits : ref06_bitsOf [48, 48, 48, 49] = some [0, 0, 0, 1] := ref06_bitsOf_F_le 20 _ _ (by kernel_rfl)
theorem flat_list : runs_list [48, 48, 49] = some [0, 0, 1] := runs_list_F_le 20 _ _ (by kernel_rfl)
theorem flat_bits : ref06_bitsOf [48, 48, 49] = some [0, 0, 1] := ref06_bitsOf_F_le 20 _ _ (by kernel_rfl)
theorem up_is {d : Int} (hd : -3 ≤ d ∧ d ≤ 3) : ∃ n s b, ref06_name d = some n ∧ ref06_upright d = some s ∧ ref06_bitsOf s = some b ∧ runs_mode_bits [117, 112] d 0 0 0 = some b ∧ b.length ≤ 130 ∧ allBit b = true := by
  have key : ∀ (s b : List Int) (k : Int), runs_list s = some b → runs_uprights = some [[48, 48, 48, 48, 48, 49, 48], [48, 48, 48, 48, 49, 48], [48, 49, 48], [49], [48, 49, 49], [48, 48, 48, 48, 49, 49], [48, 48, 48, 48, 48, 49, 49]] →
      IntKind.i64.wrap (k + 3) = k + 3 → 0 ≤ k + 3 → ([[48, 48, 48, 48, 48, 49, 48], [48, 48, 48, 48, 49, 48], [48, 49, 48], [49], [48, 49, 49], [48, 48, 48, 48, 49, 49], [48, 48, 48, 48, 48, 49, 49]] : List (List Int))[(k + 3).toNat]? = some s → runs_mode_bits [117, 112] k 0 0 0 = some b := by
    intro s b k h1 h2 h3 h4 h5
    rw [runs_mode_bits_eq, h2, if_neg (by decide), if_pos (by decide)]
    simp only [Option.bind_some]
    rw [h3, if_pos h4, h5]
    simp only [Option.bind_some]
    rw [h1]; rfl
  have hd' : d = -3 ∨ d = -2 ∨ d = -1 ∨ d = 0 ∨ d = 1 ∨ d = 2 ∨ d = 3 := by omega
  rcases hd' with rfl | rfl | rfl | rfl | rfl | rfl | rfl
  · exact ⟨_, [48, 48, 48, 48, 48, 49, 48], [0, 0, 0, 0, 0, 1, 0], ref06_name_eq _, (ref06_upright_eq _).trans rfl, ref06_bitsOf_F_le 20 _ _ (by kernel_rfl), key [48, 48, 48, 48, 48, 49, 48] _ _ (runs_list_F_le 20 _ _ (by kernel_rfl)) runs_uprights_eq (by decide) (by decide) rfl, by decide, by decide⟩
  · exact ⟨_, [48, 48, 48, 48, 49, 48], [0, 0, 0, 0, 1, 0], ref06_name_eq _, (ref06_upright_eq _).trans rfl, ref06_bitsOf_F_le 20 _ _ (by kernel_rfl), key [48, 48, 48, 48, 49, 48] _ _ (runs_list_F_le 20 _ _ (by kernel_rfl)) runs_uprights_eq (by decide) (by decide) rfl, by decide, by decide⟩
  · exact ⟨_, [48, 49, 48], [0, 1, 0], ref06_name_eq _, (ref06_upright_eq _).trans rfl, ref06_bitsOf_F_le 20 _ _ (by kernel_rfl), key [48, 49, 48] _ _ (runs_list_F_le 20 _ _ (by kernel_rfl)) runs_uprights_eq (by decide) (by decide) rfl, by decide, by decide⟩
  · exact ⟨_, [49], [1], ref06_name_eq _, (ref06_upright_eq _).trans rfl, ref06_bitsOf_F_le 20 _ _ (by kernel_rfl), key [49] _ _ (runs_list_F_le 20 _ _ (by kernel_rfl)) runs_uprights_eq (by decide) (by decide) rfl, by decide, by decide⟩
  · exact ⟨_, [48, 49, 49], [0, 1, 1], ref06_name_eq _, (ref06_upright_eq _).trans rfl, ref06_bitsOf_F_le 20 _ _ (by kernel_rfl), key [48, 49, 49] _ _ (runs_list_F_le 20 _ _ (by kernel_rfl)) runs_uprights_eq (by decide) (by decide) rfl, by decide, by decide⟩
  · exact ⟨_, [48, 48, 48, 48, 49, 49], [0, 0, 0, 0, 1, 1], ref06_name_eq _, (ref06_upright_eq _).trans rfl, ref06_bitsOf_F_le 20 _ _ (by kernel_rfl), key [48, 48, 48, 48, 49, 49] _ _ (runs_list_F_le 20 _ _ (by kernel_rfl)) runs_uprights_eq (by decide) (by decide) rfl, by decide, by decide⟩
  · exact ⟨_, [48, 48, 48, 48, 48, 49, 49], [0, 0, 0, 0, 0, 1, 1], ref06_name_eq _, (ref06_upright_eq _).trans rfl, ref06_bitsOf_F_le 20 _ _ (by kernel_rfl), key [48, 48, 48, 48, 48, 49, 49] _ _ (runs_list_F_le 20 _ _ (by kernel_rfl)) runs_uprights_eq (by decide) (by decide) rfl, by decide, by decide⟩

theorem modes_is {q p : List Int} (hl : p.length ≤ 200) (hlq : q.length = p.length) (hq : ∀ x ∈ q, x = 0 ∨ x = 1) (hp : ∀ x ∈ p, x = 0 ∨ x = 1) :
    ∃ l l', runs_modes q p = some l ∧ ref06_Modes q p = some l' ∧ ModesR l l' ∧ l.length ≤ 201 := by
  have hB : Both (loop (runs_modes_loop4 q p) (-1, 0, [])) (loop (ref06_Modes_loop3 q p) (-1, 0, [])) (fun l l' => ModesR l l' ∧ l.length ≤ 201) := by
    refine Both.loop (fun s r => s.1 = r.1 ∧ s.2.1 = r.2.1 ∧ (s.2.1 = 0 ∨ s.2.1 = 1) ∧ -1 ≤ s.1 ∧ s.1 ≤ (p.length : Int) ∧ ModesR s.2.2 r.2.2 ∧ (s.2.2.length : Int) ≤ s.1 + 1) _ (fun s => ((p.length : Int) - s.1).toNat) ?_ _ _ ⟨rfl, rfl, .inl rfl, by decide, by show (-1 : Int) ≤ _; omega, (show ModesR [] [] from trivial), by decide⟩
    rintro ⟨a, c, out⟩ ⟨_, _, out'⟩ ⟨rfl, rfl, hc, h0, h1, hM, hlen⟩
    simp only at hc h0 h1 hM hlen
    have hMl := hM.len
    unfold runs_modes_loop4 ref06_Modes_loop3
    have ev1 : ((if decide (a < (p.length : Int)) = true then some (decide ((p.length : Int) > 0)) else some false) : Option Bool) = some (decide (a < (p.length : Int) ∧ 0 < (p.length : Int))) := by
      simp only [iteD]
      split
      · refine some_dec ?_; simp only [decide_eq_true_eq]; omega
      · refine some_dec ?_; simp only [Bool.false_eq_true, false_iff]; omega
    have ev2 : ((if decide ((p.length : Int) > 0) = true then some (decide (a < (p.length : Int))) else some false) : Option Bool) = some (decide (a < (p.length : Int) ∧ 0 < (p.length : Int))) := by
      simp only [iteD]
      split
      · refine some_dec ?_; simp only [decide_eq_true_eq]; omega
      · refine some_dec ?_; simp only [Bool.false_eq_true, false_iff]; omega
    simp only [ev1, ev2, Option.bind_some, iteD]
    by_cases hlt : a < (p.length : Int) ∧ 0 < (p.length : Int)
    · simp only [hlt, and_self, if_true]
      obtain ⟨b1, b2, m1, m2, m3, m4, m5, m6, m7, m8⟩ := marks_is (p := q) (by omega) hq (a := a) (c := c) (by omega)
      have hw : IntKind.u8.wrap (1 - c) = 1 - c := by rw [w8]; omega
      have hw2 : IntKind.i64.wrap (1 - c) = 1 - c := w64 (by omega)
      obtain ⟨a1, f1, f2, f3, f4, f5, _⟩ := first_is hl hp (a := a) (c := 1 - c) (by omega)
      rw [ref06_Choice_eq]
      simp only [m1, m2, m3, hw, hw2, f1, f2, Option.bind_some, iteD]
      have f4' := f4 hlt.1
      by_cases hpass : b2 < a1
      · simp only [hpass, if_true, pass_bits, Option.bind_some, List.length_singleton]
        rw [if_pos (by omega), if_pos (by omega)]
        refine .mk ⟨⟨rfl, rfl, hc, by show -1 ≤ b2; omega, by show b2 ≤ _; omega, hM.snoc ⟨?_, by show ([0, 0, 0, 1] : List Int).length ≤ 130; decide, by show allBit [0, 0, 0, 1] = true; decide⟩, by show ((out ++ [_]).length : Int) ≤ b2 + 1; rw [List.length_append, List.length_singleton]; omega⟩, by show ((p.length : Int) - b2).toNat < ((p.length : Int) - a).toNat; omega⟩
        rw [runs_mode_bits_eq, if_pos (by decide), pass_list]; rfl
      · simp only [hpass, if_false]
        rw [w64 (n := a1 - b1) (by omega)]
        have ev : ((if a1 - b1 ≥ -3 then some (decide (a1 - b1 ≤ 3)) else some false) : Option Bool) = some (decide (-3 ≤ a1 - b1 ∧ a1 - b1 ≤ 3)) := by
          split
          · refine some_dec ?_; simp only [decide_eq_true_eq]; omega
          · refine some_dec ?_; simp only [Bool.false_eq_true, false_iff]; omega
        simp only [ev, Option.bind_some, iteD]
        by_cases hup : -3 ≤ a1 - b1 ∧ a1 - b1 ≤ 3
        · obtain ⟨n, s, b, u1, u2, u3, u4, u5, u6⟩ := up_is hup
          simp only [hup, and_self, if_true, u1, u2, u3, Option.bind_some, List.length_singleton]
          rw [if_pos (by omega), if_pos (by omega)]
          exact .mk ⟨⟨rfl, rfl, by show 1 - c = 0 ∨ 1 - c = 1; omega, by show -1 ≤ a1; omega, by show a1 ≤ _; omega, hM.snoc ⟨u4, u5, u6⟩, by show ((out ++ [_]).length : Int) ≤ a1 + 1; rw [List.length_append, List.length_singleton]; omega⟩, by show ((p.length : Int) - a1).toNat < ((p.length : Int) - a).toNat; omega⟩
        · obtain ⟨a2, g1, g2, g3, _, g5, g4'⟩ := first_is hl hp (a := a1) (c := c) (by omega)
          simp only [hup, if_false, g1, g2, flat_bits, Option.bind_some, imax_eq, List.length_singleton, List.length_cons, List.length_nil]
          rw [w64 (n := a1 - max a 0) (by omega), w64 (n := a2 - a1) (by omega), w64 (n := c) (by omega)]
          obtain ⟨r1, s1, s2, s3, s4⟩ := runBits_is (n := a1 - max a 0) (c := c) (by omega) (by omega) hc
          obtain ⟨r2, t1, t2, t3, t4⟩ := runBits_is (n := a2 - a1) (c := 1 - c) (by omega) (by omega) (by omega)
          simp only [s2, t2, Option.bind_some]
          rw [if_pos (by omega), if_pos (by omega)]
          have hl3 : (([0, 0, 1] ++ r1 : List Int)).length + r2.length ≤ 123 := by rw [List.length_append]; simp only [List.length_cons, List.length_nil]; omega
          rw [if_pos (by omega)]
          simp only [Option.bind_some]
          rw [if_pos (by omega)]
          refine .mk ⟨⟨rfl, rfl, hc, by show -1 ≤ a2; omega, by show a2 ≤ _; omega, hM.snoc ⟨?_, by show ((([0, 0, 1] ++ r1) ++ r2 : List Int)).length ≤ 130; rw [List.length_append]; omega, allBit_app (allBit_app (by decide) s4) t4⟩, by show ((out ++ [_]).length : Int) ≤ a2 + 1; rw [List.length_append, List.length_singleton]; omega⟩, by show ((p.length : Int) - a2).toNat < ((p.length : Int) - a).toNat; omega⟩
          rw [runs_mode_bits_eq, if_neg (by simp), if_neg (by simp), flat_list]
          simp only [Option.bind_some, s1, hw2, t1, List.length_cons, List.length_nil]
          rw [if_pos (by decide), if_pos (by omega), if_pos (by decide), if_pos (by omega)]
    · simp only [hlt, if_false]
      exact .mk ⟨hM, by omega⟩
  obtain ⟨l, l', e1, e2, h1, h2⟩ := hB
  exact ⟨l, l', by rw [runs_modes_eq, e1]; rfl, by rw [ref06_Modes_eq, e2]; rfl, h1, h2⟩

theorem twoRow_is {l : List Mode} {l' : List Mode'} (hM : ModesR l l') (hl : l.length ≤ 201) {out : List Int} (ho : out.length ≤ 900000000) (hb : allBit out = true) :
    ∃ r, loop (runs_Two_loop9 l) (0, out) = some r ∧ loop (ref06_TwoBits_loop6 l') (0, out) = some r ∧ r.length ≤ out.length + 130 * 201 ∧ allBit r = true := by
  have hlen := hM.len
  have hB : Both (loop (runs_Two_loop9 l) (0, out)) (loop (ref06_TwoBits_loop6 l') (0, out)) (fun a b => a = b ∧ a.length ≤ out.length + 130 * 201 ∧ allBit a = true) := by
    refine Both.loop (fun s r => s = r ∧ ∃ v : Nat, s.1 = (v : Int) ∧ v ≤ l.length ∧ s.2.length ≤ out.length + 130 * v ∧ allBit s.2 = true) _ (fun s => ((l.length : Int) - s.1).toNat) ?_ _ _ ⟨rfl, 0, rfl, by omega, by simp, hb⟩
    rintro ⟨_, b⟩ _ ⟨rfl, v, rfl, hv, hlb, hab⟩
    simp only at hlb hab
    unfold runs_Two_loop9 ref06_TwoBits_loop6
    simp only [iteD]
    by_cases hlt : (v : Int) < (l.length : Int)
    · obtain ⟨m, m', g1, g2, g3, g4, g5⟩ := hM.at_ (i := v) (by omega)
      have hlt' : (v : Int) < (l'.length : Int) := by omega
      have h0 : (0 : Int) ≤ (v : Int) := by omega
      simp only [hlt, hlt', h0, if_true, Int.toNat_natCast, g1, g2, g3, Option.bind_some]
      rw [if_pos (by omega), w64 (n := (v : Int) + 1) (by omega)]
      exact .mk ⟨⟨rfl, v + 1, by show (v : Int) + 1 = ((v + 1 : Nat) : Int); omega, by omega, by show (b ++ m'.bits).length ≤ _; rw [List.length_append]; omega, allBit_app hab g5⟩, by show ((l.length : Int) - ((v : Int) + 1)).toNat < ((l.length : Int) - (v : Int)).toNat; omega⟩
    · have hlt' : ¬ (v : Int) < (l'.length : Int) := by omega
      simp only [hlt, hlt', if_false]
      exact .mk ⟨rfl, by show b.length ≤ _; omega, hab⟩
  obtain ⟨a, b, e1, e2, rfl, h1, h2⟩ := hB
  exact ⟨a, e1, e2, h1, h2⟩
/-- the row above -/
def rowU (w : Int) (p : List Int) (y : Nat) : List Int := if y = 0 then List.replicate w.toNat 0 else rowL w p (y - 1)
theorem RowAbove_is {w h : Int} {p : List Int} (hb : Bmp w h p) {y : Nat} (hy : (y : Int) < h) : ref06_RowOf w h p ((y : Int) - 1) = some (rowU w p y) ∧ ((rowU w p y).length : Int) = w ∧ ∀ x ∈ rowU w p y, x = 0 ∨ x = 1 := by
  have hw := hb.1
  have hw2 := hb.2.2.1
  unfold rowU
  by_cases h0 : y = 0
  · subst h0
    simp only [if_true]
    refine ⟨?_, by simp; omega, fun x hx => .inl (List.mem_replicate.1 hx).2⟩
    rw [ref06_RowOf_eq, if_pos (by decide), if_pos (by omega)]
  · simp only [h0, if_false]
    have e : (y : Int) - 1 = ((y - 1 : Nat) : Int) := by omega
    rw [e, RowOf_is hb (by omega)]
    exact ⟨rfl, rowL_len hb (by omega)⟩
theorem two_is {w h : Int} {p : List Int} (hp : ∀ x ∈ p, 0 ≤ x) (hl : p.length ≤ 4611686018427387904) : ∃ c e, runs_Two w h p = some (c, e) ∧ ref06_Two w h p = some (c, e) ∧ c.length ≤ 1000000 := by
  rw [runs_Two_eq, ref06_Two_eq, bitmapValid_is hl, IsBitmap_is hl]
  simp only [Option.bind_some]
  by_cases hv : bmpB w h p = true
  · have hb := bmpB_of hp hv
    have hw := hb.1
    have hh2 := hb.2.2.2.1
    have hw2 := hb.2.2.1
    simp only [hv, Bool.not_true, Bool.false_eq_true, if_false]
    rw [if_pos (by omega), lines_is hb, ref06_TwoBits_eq]
    simp only [Option.bind_some]
    have hB : Both (loop (runs_Two_loop6 ((List.range h.toNat).map (rowL w p))) (List.replicate w.toNat 0, 0, [])) (loop (ref06_TwoBits_loop3 w h p) (0, [])) (fun a b => a = b ∧ a.length ≤ 6000000 ∧ allBit a = true) := by
      refine Both.loop (fun s r => s.2 = r ∧ ∃ v : Nat, s.2.1 = (v : Int) ∧ v ≤ h.toNat ∧ s.1 = rowU w p v ∧ s.2.2.length ≤ 26130 * v ∧ allBit s.2.2 = true) _ (fun s => (h - s.2.1).toNat) ?_ _ _ ⟨rfl, 0, rfl, by omega, rfl, by simp, rfl⟩
      rintro ⟨_, _, b⟩ ⟨_, _⟩ ⟨h1, v, rfl, hv, rfl, hlb, hab⟩
      simp only [Prod.mk.injEq] at h1
      obtain ⟨rfl, rfl⟩ := h1
      simp only at hlb hab
      unfold runs_Two_loop6 ref06_TwoBits_loop3
      simp only [iteD, List.length_map, List.length_range]
      by_cases hlt : (v : Int) < h
      · have hg : ((List.range h.toNat).map (rowL w p))[(v : Int).toNat]? = some (rowL w p v) := by
          rw [Int.toNat_natCast, List.getElem?_map, List.getElem?_range (by omega)]; rfl
        obtain ⟨u1, u2, u3⟩ := RowAbove_is hb hlt
        obtain ⟨r1, r2⟩ := rowL_len hb hlt
        rw [if_pos (by omega), if_pos hlt, if_pos (by omega), hg, w64 (n := (v : Int) - 1) (by omega), u1, RowOf_is hb hlt]
        simp only [Option.bind_some]
        obtain ⟨l, l', m1, m2, m3, m4⟩ := modes_is (q := rowU w p v) (p := rowL w p v) (by omega) (by omega) u3 r2
        rw [m1, m2]
        simp only [Option.bind_some]
        obtain ⟨r, s1, s2, s3, s4⟩ := twoRow_is m3 m4 (out := b) (by omega) hab
        rw [s1, s2]
        simp only [Option.bind_some]
        rw [w64 (n := (v : Int) + 1) (by omega)]
        exact .mk ⟨⟨rfl, v + 1, by show (v : Int) + 1 = ((v + 1 : Nat) : Int); omega, by omega, by show rowL w p v = rowU w p (v + 1); unfold rowU; rw [if_neg (by omega), Nat.add_sub_cancel], by show r.length ≤ _; omega, s4⟩, by show (h - ((v : Int) + 1)).toNat < (h - (v : Int)).toNat; omega⟩
      · rw [if_neg (by omega), if_neg hlt]
        exact .mk ⟨rfl, by show b.length ≤ _; omega, hab⟩
    obtain ⟨a, b, e1, e2, rfl, h1, h2⟩ := hB
    rw [e1, e2]
    simp only [Option.bind_some]
    obtain ⟨c, c1, c2, c3⟩ := pack_is h2 (by omega)
    rw [c1, c2]
    exact ⟨c, 0, rfl, rfl, by omega⟩
  · simp only [hv, Bool.not_false, if_true]
    exact ⟨[], 30, rfl, rfl, by simp⟩
end Go.Proofs.YtkccnhkhjncpkaaGreat.P
