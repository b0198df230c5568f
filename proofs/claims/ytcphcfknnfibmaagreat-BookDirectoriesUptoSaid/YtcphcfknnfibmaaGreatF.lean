import Derived.Test.YtcphcfknnfibmaaGreatQs
import Derived.Test.YtcphcfknnfibmaaGreatF5
namespace Go.Proofs.YtcphcfknnfibmaaGreat.P
open Go Go.IntKind Go.Proofs.YtcphcfknnfibmaaGreat.V
set_option linter.unusedVariables false
set_option linter.unusedSimpArgs false
set_option maxRecDepth 100000
set_option synthInstance.maxHeartbeats 0
set_option synthInstance.maxSize 100000
noncomputable section
instance : DecidableEq File := fun a b => if h : a.name = b.name ∧ a.kind = b.kind ∧ a.data = b.data then .isTrue (by cases a; cases b; simp_all) else .isFalse (by intro e; subst e; simp at h)
instance : DecidableEq (List File × List Int) := inferInstance
instance : DecidableEq (List Int × Int × List File × List Int) := inferInstance
noncomputable def Z113_F (f : Nat) := Z113_b
instance Z113_o f f1 f2 f3 b4 : OL (Z113_F f f1 f2 f3 b4) (Z113 f1 f2 f3 b4) := ⟨by rw [Z113_eq]; unfold Z113_F Z113_b; (try dsimp only); exact OL.le⟩
noncomputable def Z65l2_F (f : Nat) := Z65l2_b (Z113_F f)
instance Z65l2_o f s1 s3 : OL (Z65l2_F f s1 s3) (Z65l2 s1 s3) := ⟨by unfold Z65l2_F Z65l2 Z65l2_b; (try dsimp only); exact OL.le⟩
noncomputable def Z65_F (f : Nat) := Z65_b (itf f) (Z65l2_F f)
instance Z65_o f s1 b2 : OL (Z65_F f s1 b2) (Z65 s1 b2) := ⟨by rw [Z65_eq]; unfold Z65_F Z65_b; (try dsimp only); exact OL.le⟩
noncomputable def Z26_F (f : Nat) := Z26_b (Z65_F f)
instance Z26_o f l1 name2 : OL (Z26_F f l1 name2) (Z26 l1 name2) := ⟨by rw [Z26_eq]; unfold Z26_F Z26_b; (try dsimp only); exact OL.le⟩
noncomputable def Z70_F (f : Nat) := Z70_b (itf f) Z70l2
instance Z70_o f s1 : OL (Z70_F f s1) (Z70 s1) := ⟨by rw [Z70_eq]; unfold Z70_F Z70_b; (try dsimp only); exact OL.le⟩
noncomputable def Z31_F (f : Nat) := Z31_b (Z70_F f)
instance Z31_o f f1 f2 f3 : OL (Z31_F f f1 f2 f3) (Z31 f1 f2 f3) := ⟨by rw [Z31_eq]; unfold Z31_F Z31_b; (try dsimp only); exact OL.le⟩
noncomputable def Z72l2_F (f : Nat) (r_Z72 : type_of% @Z72) := Z72l2_b r_Z72
instance Z72l2_o f (r_Z72 : type_of% @Z72) [h_Z72 : ∀ l1 depth2 b3, OL (r_Z72 l1 depth2 b3) (Z72 l1 depth2 b3)] l1 depth2 s4 : OL (Z72l2_F f r_Z72 l1 depth2 s4) (Z72l2 l1 depth2 s4) := ⟨by unfold Z72l2_F Z72l2 Z72l2_b; (try dsimp only); exact OL.le⟩
noncomputable def Z72_B (f : Nat) (r_Z72 : type_of% @Z72) := Z72_b (itf f) (Z72l2_F f r_Z72)
instance Z72_oB f (r_Z72 : type_of% @Z72) [h_Z72 : ∀ l1 depth2 b3, OL (r_Z72 l1 depth2 b3) (Z72 l1 depth2 b3)] l1 depth2 b3 : OL (Z72_B f r_Z72 l1 depth2 b3) (Z72 l1 depth2 b3) := ⟨by rw [Z72_eq]; unfold Z72_B Z72_b; (try dsimp only); exact OL.le⟩
noncomputable def Z72_R (f : Nat) : Nat -> (type_of% @Z72)
  | 0 => (fun _ _ _ => none)
  | n + 1 => (Z72_B f (Z72_R f n))
theorem Z72_R_le f : ∀ n, (∀ l1 depth2 b3, OL (Z72_R f n l1 depth2 b3) (Z72 l1 depth2 b3))
  | 0 => fun _ _ _ => ⟨Ole.none⟩
  | n + 1 => by have h0 := (Z72_R_le f n); exact fun l1 depth2 b3 => Z72_oB f (Z72_R f n) l1 depth2 b3
noncomputable def Z72_F (f : Nat) := Z72_R f f
instance Z72_o f l1 depth2 b3 : OL (Z72_F f l1 depth2 b3) (Z72 l1 depth2 b3) := (Z72_R_le f f) l1 depth2 b3
noncomputable def Z35_F (f : Nat) := Z35_b (Z72_F f)
instance Z35_o f l1 : OL (Z35_F f l1) (Z35 l1) := ⟨by rw [Z35_eq]; unfold Z35_F Z35_b; (try dsimp only); exact OL.le⟩
noncomputable def Z13l4_F (f : Nat) := Z13l4_b (Z31_F f) (Z26_F f)
instance Z13l4_o f b1 v5 : OL (Z13l4_F f b1 v5) (Z13l4 b1 v5) := ⟨by unfold Z13l4_F Z13l4 Z13l4_b; (try dsimp only); exact OL.le⟩
noncomputable def Z13_F (f : Nat) := Z13_b (Z35_F f) (itf f) (Z13l4_F f)
instance Z13_o f b1 b2 : OL (Z13_F f b1 b2) (Z13 b1 b2) := ⟨by rw [Z13_eq]; unfold Z13_F Z13_b; (try dsimp only); exact OL.le⟩
noncomputable def Z36_F (f : Nat) := Z36_b (itf f) Z36l5
instance Z36_o f n1 : OL (Z36_F f n1) (Z36 n1) := ⟨by rw [Z36_eq]; unfold Z36_F Z36_b; (try dsimp only); exact OL.le⟩
noncomputable def Z14_F (f : Nat) := Z14_b (Z36_F f)
instance Z14_o f n1 l2 : OL (Z14_F f n1 l2) (Z14 n1 l2) := ⟨by rw [Z14_eq]; unfold Z14_F Z14_b; (try dsimp only); exact OL.le⟩
noncomputable def Z73_F (f : Nat) := Z73_b (Z36_F f)
instance Z73_o f n1 : OL (Z73_F f n1) (Z73 n1) := ⟨by rw [Z73_eq]; unfold Z73_F Z73_b; (try dsimp only); exact OL.le⟩
noncomputable def Z119_F (f : Nat) := Z119_b
instance Z119_o f n1 : OL (Z119_F f n1) (Z119 n1) := ⟨by rw [Z119_eq]; unfold Z119_F Z119_b; (try dsimp only); exact OL.le⟩
noncomputable def B98 (f : Nat) := B68 (itf f) slices_Concat_byte_byte_loop3 (Z119_F f) slices_Concat_byte_byte_loop11
instance B645 f slices1 : OL (B98 f slices1) (slices_Concat_byte_byte slices1) := ⟨by rw [B129]; unfold B98 B68; (try dsimp only); exact OL.le⟩
noncomputable def Z37l3_F (f : Nat) (r_Z37 : type_of% @Z37) := Z37l3_b (Z73_F f) r_Z37 (B98 f)
instance Z37l3_o f (r_Z37 : type_of% @Z37) [h_Z37 : ∀ l1, OL (r_Z37 l1) (Z37 l1)] l1 s3 : OL (Z37l3_F f r_Z37 l1 s3) (Z37l3 l1 s3) := ⟨by unfold Z37l3_F Z37l3 Z37l3_b; (try dsimp only); exact OL.le⟩
noncomputable def Z37_B (f : Nat) (r_Z37 : type_of% @Z37) := Z37_b (Z73_F f) (itf f) (Z37l3_F f r_Z37)
instance Z37_oB f (r_Z37 : type_of% @Z37) [h_Z37 : ∀ l1, OL (r_Z37 l1) (Z37 l1)] l1 : OL (Z37_B f r_Z37 l1) (Z37 l1) := ⟨by rw [Z37_eq]; unfold Z37_B Z37_b; (try dsimp only); exact OL.le⟩
noncomputable def Z37_R (f : Nat) : Nat -> (type_of% @Z37)
  | 0 => (fun _ => none)
  | n + 1 => (Z37_B f (Z37_R f n))
theorem Z37_R_le f : ∀ n, (∀ l1, OL (Z37_R f n l1) (Z37 l1))
  | 0 => fun _ => ⟨Ole.none⟩
  | n + 1 => by have h0 := (Z37_R_le f n); exact fun l1 => Z37_oB f (Z37_R f n) l1
noncomputable def Z37_F (f : Nat) := Z37_R f f
instance Z37_o f l1 : OL (Z37_F f l1) (Z37 l1) := (Z37_R_le f f) l1
noncomputable def Z15_F (f : Nat) := Z15_b (Z35_F f) (Z37_F f)
instance Z15_o f l1 : OL (Z15_F f l1) (Z15 l1) := ⟨by rw [Z15_eq]; unfold Z15_F Z15_b; (try dsimp only); exact OL.le⟩
noncomputable def Z88_F (f : Nat) := Z88_b
instance Z88_o f b1 b2 b3 b4 b5 : OL (Z88_F f b1 b2 b3 b4 b5) (Z88 b1 b2 b3 b4 b5) := ⟨by rw [Z88_eq]; unfold Z88_F Z88_b; (try dsimp only); exact OL.le⟩
theorem Z88_F_le f b1 b2 b3 b4 b5 : Ole (Z88_F f b1 b2 b3 b4 b5) (Z88 b1 b2 b3 b4 b5) := OL.le
noncomputable def Z44l5_F (f : Nat) := Z44l5_b (itf f) Z44l10
instance Z44l5_o f tr9 tr10 s14 : OL (Z44l5_F f tr9 tr10 s14) (Z44l5 tr9 tr10 s14) := ⟨by unfold Z44l5_F Z44l5 Z44l5_b; (try dsimp only); exact OL.le⟩
noncomputable def Z44_F (f : Nat) := Z44_b (Z88_F f) (itf f) (Z44l5_F f)
instance Z44_o f b1 b2 b3 b4 b5 : OL (Z44_F f b1 b2 b3 b4 b5) (Z44 b1 b2 b3 b4 b5) := ⟨by rw [Z44_eq]; unfold Z44_F Z44_b; (try dsimp only); exact OL.le⟩
noncomputable def Z39_F (f : Nat) := Z39_b
instance Z39_o f kind1 n2 : OL (Z39_F f kind1 n2) (Z39 kind1 n2) := ⟨by rw [Z39_eq]; unfold Z39_F Z39_b; (try dsimp only); exact OL.le⟩
noncomputable def Z76_F (f : Nat) := Z76_b (itf f) Z76l7
instance Z76_o f m1 m2 : OL (Z76_F f m1 m2) (Z76 m1 m2) := ⟨by rw [Z76_eq]; unfold Z76_F Z76_b; (try dsimp only); exact OL.le⟩
noncomputable def Z122_F (f : Nat) := Z122_b
instance Z122_o f : OL (Z122_F f) (Z122) := ⟨by rw [Z122_eq]; unfold Z122_F Z122_b; (try dsimp only); exact OL.le⟩
noncomputable def Z121_F (f : Nat) := Z121_b
instance Z121_o f m1 m2 : OL (Z121_F f m1 m2) (Z121 m1 m2) := ⟨by rw [Z121_eq]; unfold Z121_F Z121_b; (try dsimp only); exact OL.le⟩
noncomputable def Z77_F (f : Nat) := Z77_b (Z121_F f) (Z122_F f)
instance Z77_o f m1 m2 : OL (Z77_F f m1 m2) (Z77 m1 m2) := ⟨by rw [Z77_eq]; unfold Z77_F Z77_b; (try dsimp only); exact OL.le⟩
noncomputable def Z40_F (f : Nat) := Z40_b (Z76_F f) (Z77_F f)
instance Z40_o f m1 m2 : OL (Z40_F f m1 m2) (Z40 m1 m2) := ⟨by rw [Z40_eq]; unfold Z40_F Z40_b; (try dsimp only); exact OL.le⟩
noncomputable def Z84_F (f : Nat) := Z84_b (Z88_F f) (Z121_F f)
instance Z84_o f b1 b2 b3 b4 b5 : OL (Z84_F f b1 b2 b3 b4 b5) (Z84 b1 b2 b3 b4 b5) := ⟨by rw [Z84_eq]; unfold Z84_F Z84_b; (try dsimp only); exact OL.le⟩
noncomputable def Z127_F (f : Nat) := Z127_b
instance Z127_o f b1 b2 b3 b4 b5 : OL (Z127_F f b1 b2 b3 b4 b5) (Z127 b1 b2 b3 b4 b5) := ⟨by rw [Z127_eq]; unfold Z127_F Z127_b; (try dsimp only); exact OL.le⟩
theorem Z127_F_le f b1 b2 b3 b4 b5 : Ole (Z127_F f b1 b2 b3 b4 b5) (Z127 b1 b2 b3 b4 b5) := OL.le
noncomputable def Z151_F (f : Nat) := Z151_b
instance Z151_o f kind1 s2 : OL (Z151_F f kind1 s2) (Z151 kind1 s2) := ⟨by rw [Z151_eq]; unfold Z151_F Z151_b; (try dsimp only); exact OL.le⟩
noncomputable def Z124_F (f : Nat) := Z124_b (Z151_F f)
instance Z124_o f ctx1 b2 b3 b4 b5 b6 : OL (Z124_F f ctx1 b2 b3 b4 b5 b6) (Z124 ctx1 b2 b3 b4 b5 b6) := ⟨by rw [Z124_eq]; unfold Z124_F Z124_b; (try dsimp only); exact OL.le⟩
theorem Z124_F_le f ctx1 b2 b3 b4 b5 b6 : Ole (Z124_F f ctx1 b2 b3 b4 b5 b6) (Z124 ctx1 b2 b3 b4 b5 b6) := OL.le
noncomputable def Z126_F (f : Nat) := Z126_b
instance Z126_o f b1 b2 b3 b4 b5 : OL (Z126_F f b1 b2 b3 b4 b5) (Z126 b1 b2 b3 b4 b5) := ⟨by rw [Z126_eq]; unfold Z126_F Z126_b; (try dsimp only); exact OL.le⟩
theorem Z126_F_le f b1 b2 b3 b4 b5 : Ole (Z126_F f b1 b2 b3 b4 b5) (Z126 b1 b2 b3 b4 b5) := OL.le
noncomputable def Z152_F (f : Nat) := Z152_b
instance Z152_o f kind1 s2 bit3 : OL (Z152_F f kind1 s2 bit3) (Z152 kind1 s2 bit3) := ⟨by rw [Z152_eq]; unfold Z152_F Z152_b; (try dsimp only); exact OL.le⟩
noncomputable def Z125_F (f : Nat) := Z125_b (Z152_F f)
instance Z125_o f ctx1 bit2 mid3 b4 b5 b6 b7 b8 : OL (Z125_F f ctx1 bit2 mid3 b4 b5 b6 b7 b8) (Z125 ctx1 bit2 mid3 b4 b5 b6 b7 b8) := ⟨by rw [Z125_eq]; unfold Z125_F Z125_b; (try dsimp only); exact OL.le⟩
theorem Z125_F_le f ctx1 bit2 mid3 b4 b5 b6 b7 b8 : Ole (Z125_F f ctx1 bit2 mid3 b4 b5 b6 b7 b8) (Z125 ctx1 bit2 mid3 b4 b5 b6 b7 b8) := OL.le
noncomputable def Z82l6_F (fuel : Nat) (s32 : Int × Int × Int × (List Int) × (List Int)) : Option ((Int × Int × Int × (List Int) × (List Int)) ⊕ (Int × Int × Int × (List Int) × (List Int))) :=
 (Z126_F fuel s32.1 s32.2.1 s32.2.2.1 s32.2.2.2.1 s32.2.2.2.2).bind fun q38 =>
 (if q38.1 = true then
 ((Z127_F fuel q38.2.1 q38.2.2.1 q38.2.2.2.1 q38.2.2.2.2.1 q38.2.2.2.2.2).bind fun q45 =>
 (if (q45.2.2.2.2.2.length + ([q45.1] : List Int).length) * 1 <= 140737488355328 then
 let t52 : List Int := q45.2.2.2.2.2 ++ [q45.1];
 some (Sum.inl (q45.2.1, q45.2.2.1, q45.2.2.2.1, q45.2.2.2.2.1, t52))
 else
 none))
 else
 some (Sum.inr (q38.2.1, q38.2.2.1, q38.2.2.2.1, q38.2.2.2.2.1, q38.2.2.2.2.2)))
theorem Z82l6_F_le (fuel : Nat) (s32 : Int × Int × Int × (List Int) × (List Int)) : Ole (Z82l6_F fuel s32) (Z82l6 s32) := by
  unfold Z82l6_F Z82l6; try dsimp only
  repeat' first | with_reducible exact Ole.refl _ | refine Ole.ite ?_ ?_ | with_reducible exact Z88_F_le .. | with_reducible exact Z127_F_le .. | with_reducible exact Z124_F_le .. | with_reducible exact Z126_F_le .. | with_reducible exact Z125_F_le .. | refine Ole.iter fun _ => ?_ | refine Ole.elim (fun _ => ?_) (fun _ => ?_) | refine Ole.bind ?_ fun _ => ?_ | refine Ole.demD ?_ ?_
noncomputable def Z82_F (fuel : Nat) (ctx1 bit2 b3 b4 b5 : Int) (b6 b7 : List Int) : Option (Int × Int × Int × Int × (List Int) × (List Int)) :=
 (Z88_F fuel b3 b4 b5 b6 b7).bind fun q8 =>
 ((if q8.1 = true then
 some (Sum.inr 7)
 else
 ((if (decide (ctx1 < 0)) = true then
 some true
 else
 (if (decide (ctx1 ≥ ((q8.2.2.2.2.1.length : Nat) : Int))) = true then
 some true
 else
 (if (!decide (bit2 = 0)) = true then
 some (!decide (bit2 = 1))
 else
 some false))) : Option (Bool)).bind (fun v15 =>
 (if v15 = true then
 some (Sum.inr 2)
 else
 some (Sum.inl ())))) : Option ((Unit) ⊕ (Int))).bind (fun o18 =>
 (Sum.elim (fun (p16 : Unit) =>
 (Z124_F fuel ctx1 q8.2.1 q8.2.2.1 q8.2.2.2.1 q8.2.2.2.2.1 q8.2.2.2.2.2).bind fun q19 =>
 (Z125_F fuel ctx1 bit2 q19.1 q19.2.1 q19.2.2.1 q19.2.2.2.1 q19.2.2.2.2.1 q19.2.2.2.2.2).bind fun q26 =>
 (iter (Z82l6_F fuel) fuel (q26.1, q26.2.1, q26.2.2.1, q26.2.2.2.1, q26.2.2.2.2)).bind (fun p61 =>
 some (0, p61.1, p61.2.1, p61.2.2.1, p61.2.2.2.1, p61.2.2.2.2)))
 (fun (v17 : Int) =>
 some (v17, q8.2.1, q8.2.2.1, q8.2.2.2.1, q8.2.2.2.2.1, q8.2.2.2.2.2)) o18))
theorem Z82_F_le (fuel : Nat) (ctx1 bit2 b3 b4 b5 : Int) (b6 b7 : List Int) : Ole (Z82_F fuel ctx1 bit2 b3 b4 b5 b6 b7) (Z82 ctx1 bit2 b3 b4 b5 b6 b7) := by
  rw [Z82_eq]; unfold Z82_F; try dsimp only
  repeat' first | with_reducible exact Ole.refl _ | refine Ole.ite ?_ ?_ | with_reducible exact Z88_F_le .. | with_reducible exact Z127_F_le .. | with_reducible exact Z124_F_le .. | with_reducible exact Z126_F_le .. | with_reducible exact Z125_F_le .. | with_reducible exact Z82l6_F_le .. | refine Ole.iter fun _ => ?_ | refine Ole.elim (fun _ => ?_) (fun _ => ?_) | refine Ole.bind ?_ fun _ => ?_ | refine Ole.demD ?_ ?_
instance Z82_o f ctx1 bit2 b3 b4 b5 b6 b7 : OL (Z82_F f ctx1 bit2 b3 b4 b5 b6 b7) (Z82 ctx1 bit2 b3 b4 b5 b6 b7) := ⟨Z82_F_le f ctx1 bit2 b3 b4 b5 b6 b7⟩
noncomputable def Z83_F (f : Nat) := Z83_b
instance Z83_o f n1 n2 : OL (Z83_F f n1 n2) (Z83 n1 n2) := ⟨by rw [Z83_eq]; unfold Z83_F Z83_b; (try dsimp only); exact OL.le⟩
noncomputable def Z153_F (f : Nat) := Z153_b
instance Z153_o f x1 : OL (Z153_F f x1) (Z153 x1) := ⟨by rw [Z153_eq]; unfold Z153_F Z153_b; (try dsimp only); exact OL.le⟩
noncomputable def Z128_F (f : Nat) := Z128_b (Z153_F f)
instance Z128_o f x1 : OL (Z128_F f x1) (Z128 x1) := ⟨by rw [Z128_eq]; unfold Z128_F Z128_b; (try dsimp only); exact OL.le⟩
noncomputable def Z129_F (f : Nat) := Z129_b
instance Z129_o f b1 : OL (Z129_F f b1) (Z129 b1) := ⟨by rw [Z129_eq]; unfold Z129_F Z129_b; (try dsimp only); exact OL.le⟩
noncomputable def Z86l15_F (f : Nat) := Z86l15_b (Z129_F f)
instance Z86l15_o f base1 t6 t9 s26 : OL (Z86l15_F f base1 t6 t9 s26) (Z86l15 base1 t6 t9 s26) := ⟨by unfold Z86l15_F Z86l15 Z86l15_b; (try dsimp only); exact OL.le⟩
noncomputable def Z86_F (f : Nat) := Z86_b (Z128_F f) (itf f) Z86l7 (Z86l15_F f)
instance Z86_o f base1 n2 n3 : OL (Z86_F f base1 n2 n3) (Z86 base1 n2 n3) := ⟨by rw [Z86_eq]; unfold Z86_F Z86_b; (try dsimp only); exact OL.le⟩
noncomputable def Z85_F (f : Nat) := Z85_b
instance Z85_o f m1 m2 base3 n4 : OL (Z85_F f m1 m2 base3 n4) (Z85 m1 m2 base3 n4) := ⟨by rw [Z85_eq]; unfold Z85_F Z85_b; (try dsimp only); exact OL.le⟩
noncomputable def Z87l2_F (f : Nat) := Z87l2_b (Z82_F f)
instance Z87l2_o f l1 s7 : OL (Z87l2_F f l1 s7) (Z87l2 l1 s7) := ⟨by unfold Z87l2_F Z87l2 Z87l2_b; (try dsimp only); exact OL.le⟩
noncomputable def Z87_F (f : Nat) := Z87_b (itf f) (Z87l2_F f)
instance Z87_o f l1 b2 b3 b4 b5 b6 : OL (Z87_F f l1 b2 b3 b4 b5 b6) (Z87 l1 b2 b3 b4 b5 b6) := ⟨by rw [Z87_eq]; unfold Z87_F Z87_b; (try dsimp only); exact OL.le⟩
noncomputable def Z43_F (f : Nat) := Z43_b (Z82_F f) (Z83_F f) (Z84_F f) (Z85_F f) (Z86_F f) (Z87_F f)
instance Z43_o f base1 n2 n3 b4 b5 b6 b7 b8 : OL (Z43_F f base1 n2 n3 b4 b5 b6 b7 b8) (Z43 base1 n2 n3 b4 b5 b6 b7 b8) := ⟨by rw [Z43_eq]; unfold Z43_F Z43_b; (try dsimp only); exact OL.le⟩
noncomputable def Z171_F (f : Nat) := Z171_b (Z128_F f)
instance Z171_o f length1 : OL (Z171_F f length1) (Z171 length1) := ⟨by rw [Z171_eq]; unfold Z171_F Z171_b; (try dsimp only); exact OL.le⟩
noncomputable def Z172_F (f : Nat) := Z172_b
instance Z172_o f b1 : OL (Z172_F f b1) (Z172 b1) := ⟨by rw [Z172_eq]; unfold Z172_F Z172_b; (try dsimp only); exact OL.le⟩
noncomputable def Z163l5_F (f : Nat) := Z163l5_b (Z172_F f)
instance Z163l5_o f a1 t5 q7 s12 : OL (Z163l5_F f a1 t5 q7 s12) (Z163l5 a1 t5 q7 s12) := ⟨by unfold Z163l5_F Z163l5 Z163l5_b; (try dsimp only); exact OL.le⟩
noncomputable def Z163_F (f : Nat) := Z163_b (Z171_F f) (itf f) (Z163l5_F f)
instance Z163_o f a1 b2 b3 b4 : OL (Z163_F f a1 b2 b3 b4) (Z163 a1 b2 b3 b4) := ⟨by rw [Z163_eq]; unfold Z163_F Z163_b; (try dsimp only); exact OL.le⟩
noncomputable def Z175_F (f : Nat) := Z175_b
instance Z175_o f a1 b2 : OL (Z175_F f a1 b2) (Z175 a1 b2) := ⟨by rw [Z175_eq]; unfold Z175_F Z175_b; (try dsimp only); exact OL.le⟩
noncomputable def Z167_F (f : Nat) := Z167_b (Z175_F f)
instance Z167_o f a1 b2 b3 : OL (Z167_F f a1 b2 b3) (Z167 a1 b2 b3) := ⟨by rw [Z167_eq]; unfold Z167_F Z167_b; (try dsimp only); exact OL.le⟩
noncomputable def Z176_F (f : Nat) := Z176_b (Z167_F f)
instance Z176_o f a1 b2 b3 b4 b5 : OL (Z176_F f a1 b2 b3 b4 b5) (Z176 a1 b2 b3 b4 b5) := ⟨by rw [Z176_eq]; unfold Z176_F Z176_b; (try dsimp only); exact OL.le⟩
noncomputable def Z174_F (f : Nat) := Z174_b (Z176_F f)
instance Z174_o f a1 b2 c3 b4 b5 b6 : OL (Z174_F f a1 b2 c3 b4 b5 b6) (Z174 a1 b2 c3 b4 b5 b6) := ⟨by rw [Z174_eq]; unfold Z174_F Z174_b; (try dsimp only); exact OL.le⟩
noncomputable def Z173_F (f : Nat) := Z173_b (Z174_F f)
instance Z173_o f a1 b2 b3 b4 : OL (Z173_F f a1 b2 b3 b4) (Z173 a1 b2 b3 b4) := ⟨by rw [Z173_eq]; unfold Z173_F Z173_b; (try dsimp only); exact OL.le⟩
noncomputable def Z164_F (f : Nat) := Z164_b (Z173_F f) (Z174_F f)
instance Z164_o f a1 b2 b3 b4 : OL (Z164_F f a1 b2 b3 b4) (Z164 a1 b2 b3 b4) := ⟨by rw [Z164_eq]; unfold Z164_F Z164_b; (try dsimp only); exact OL.le⟩
noncomputable def Z170l1_F (f : Nat) := Z170l1_b (Z167_F f)
instance Z170l1_o f hi2 first3 s6 : OL (Z170l1_F f hi2 first3 s6) (Z170l1 hi2 first3 s6) := ⟨by unfold Z170l1_F Z170l1 Z170l1_b; (try dsimp only); exact OL.le⟩
noncomputable def Z170_F (f : Nat) := Z170_b (itf f) (Z170l1_F f)
instance Z170_o f lo1 hi2 first3 b4 b5 : OL (Z170_F f lo1 hi2 first3 b4 b5) (Z170 lo1 hi2 first3 b4 b5) := ⟨by rw [Z170_eq]; unfold Z170_F Z170_b; (try dsimp only); exact OL.le⟩
noncomputable def Z162l4_F (f : Nat) := Z162l4_b (Z170_F f)
instance Z162l4_o f a1 t5 s8 : OL (Z162l4_F f a1 t5 s8) (Z162l4 a1 t5 s8) := ⟨by unfold Z162l4_F Z162l4 Z162l4_b; (try dsimp only); exact OL.le⟩
noncomputable def Z162l8_F (f : Nat) := Z162l8_b (Z170_F f)
instance Z162l8_o f a1 s20 : OL (Z162l8_F f a1 s20) (Z162l8 a1 s20) := ⟨by unfold Z162l8_F Z162l8 Z162l8_b; (try dsimp only); exact OL.le⟩
noncomputable def Z162_F (f : Nat) := Z162_b (itf f) (Z162l4_F f) (Z162l8_F f)
instance Z162_o f a1 b2 b3 b4 : OL (Z162_F f a1 b2 b3 b4) (Z162 a1 b2 b3 b4) := ⟨by rw [Z162_eq]; unfold Z162_F Z162_b; (try dsimp only); exact OL.le⟩
noncomputable def Z161l4_F (f : Nat) := Z161l4_b (Z167_F f)
instance Z161l4_o f a1 s10 : OL (Z161l4_F f a1 s10) (Z161l4 a1 s10) := ⟨by unfold Z161l4_F Z161l4 Z161l4_b; (try dsimp only); exact OL.le⟩
noncomputable def Z161l1_F (f : Nat) := Z161l1_b (itf f) (Z161l4_F f)
instance Z161l1_o f a1 b2 s6 : OL (Z161l1_F f a1 b2 s6) (Z161l1 a1 b2 s6) := ⟨by unfold Z161l1_F Z161l1 Z161l1_b; (try dsimp only); exact OL.le⟩
noncomputable def Z161_F (f : Nat) := Z161_b (itf f) (Z161l1_F f)
instance Z161_o f a1 b2 b3 b4 : OL (Z161_F f a1 b2 b3 b4) (Z161 a1 b2 b3 b4) := ⟨by rw [Z161_eq]; unfold Z161_F Z161_b; (try dsimp only); exact OL.le⟩
noncomputable def Z166l5_F (f : Nat) := Z166l5_b (Z167_F f)
instance Z166l5_o f b2 b9 s11 : OL (Z166l5_F f b2 b9 s11) (Z166l5 b2 b9 s11) := ⟨by unfold Z166l5_F Z166l5 Z166l5_b; (try dsimp only); exact OL.le⟩
noncomputable def Z166l14_F (f : Nat) := Z166l14_b (Z167_F f)
instance Z166l14_o f s33 : OL (Z166l14_F f s33) (Z166l14 s33) := ⟨by unfold Z166l14_F Z166l14 Z166l14_b; (try dsimp only); exact OL.le⟩
noncomputable def Z166l20_F (f : Nat) := Z166l20_b (Z167_F f)
instance Z166l20_o f b2 s58 : OL (Z166l20_F f b2 s58) (Z166l20 b2 s58) := ⟨by unfold Z166l20_F Z166l20 Z166l20_b; (try dsimp only); exact OL.le⟩
noncomputable def Z166l3_F (f : Nat) := Z166l3_b (itf f) (Z166l5_F f) (Z166l14_F f) (Z166l20_F f)
instance Z166l3_o f a1 b2 s6 : OL (Z166l3_F f a1 b2 s6) (Z166l3 a1 b2 s6) := ⟨by unfold Z166l3_F Z166l3 Z166l3_b; (try dsimp only); exact OL.le⟩
noncomputable def Z166_F (f : Nat) := Z166_b (itf f) (Z166l3_F f)
instance Z166_o f a1 b2 b3 b4 : OL (Z166_F f a1 b2 b3 b4) (Z166 a1 b2 b3 b4) := ⟨by rw [Z166_eq]; unfold Z166_F Z166_b; (try dsimp only); exact OL.le⟩
noncomputable def Z169l3_F (f : Nat) := Z169l3_b (Z167_F f)
instance Z169l3_o f a1 w9 t11 s12 : OL (Z169l3_F f a1 w9 t11 s12) (Z169l3 a1 w9 t11 s12) := ⟨by unfold Z169l3_F Z169l3 Z169l3_b; (try dsimp only); exact OL.le⟩
noncomputable def Z169l5_F (f : Nat) := Z169l5_b (Z167_F f)
instance Z169l5_o f a1 w9 i22 s24 : OL (Z169l5_F f a1 w9 i22 s24) (Z169l5 a1 w9 i22 s24) := ⟨by unfold Z169l5_F Z169l5 Z169l5_b; (try dsimp only); exact OL.le⟩
noncomputable def Z169l13_F (f : Nat) := Z169l13_b (Z167_F f)
instance Z169l13_o f a1 j48 b49 s51 : OL (Z169l13_F f a1 j48 b49 s51) (Z169l13 a1 j48 b49 s51) := ⟨by unfold Z169l13_F Z169l13 Z169l13_b; (try dsimp only); exact OL.le⟩
noncomputable def Z169l15_F (f : Nat) := Z169l15_b (Z167_F f)
instance Z169l15_o f a1 b49 i61 s63 : OL (Z169l15_F f a1 b49 i61 s63) (Z169l15 a1 b49 i61 s63) := ⟨by unfold Z169l15_F Z169l15 Z169l15_b; (try dsimp only); exact OL.le⟩
noncomputable def Z169l1000013_F (f : Nat) := Z169l1000013_b (itf f) (Z169l13_F f) (Z169l15_F f)
instance Z169l1000013_o f a1 s46 : OL (Z169l1000013_F f a1 s46) (Z169l1000013 a1 s46) := ⟨by unfold Z169l1000013_F Z169l1000013 Z169l1000013_b; (try dsimp only); exact OL.le⟩
noncomputable def Z169_F (f : Nat) := Z169_b (itf f) (Z169l3_F f) (Z169l5_F f) (Z169l1000013_F f)
instance Z169_o f a1 b2 pivot3 b4 b5 : OL (Z169_F f a1 b2 pivot3 b4 b5) (Z169 a1 b2 pivot3 b4 b5) := ⟨by rw [Z169_eq]; unfold Z169_F Z169_b; (try dsimp only); exact OL.le⟩
noncomputable def Z168l3_F (f : Nat) := Z168l3_b (Z167_F f)
instance Z168l3_o f a1 j14 b15 s17 : OL (Z168l3_F f a1 j14 b15 s17) (Z168l3 a1 j14 b15 s17) := ⟨by unfold Z168l3_F Z168l3 Z168l3_b; (try dsimp only); exact OL.le⟩
noncomputable def Z168l5_F (f : Nat) := Z168l5_b (Z167_F f)
instance Z168l5_o f a1 b15 i27 s29 : OL (Z168l5_F f a1 b15 i27 s29) (Z168l5 a1 b15 i27 s29) := ⟨by unfold Z168l5_F Z168l5 Z168l5_b; (try dsimp only); exact OL.le⟩
noncomputable def Z168l1000003_F (f : Nat) := Z168l1000003_b (itf f) (Z168l3_F f) (Z168l5_F f)
instance Z168l1000003_o f a1 s12 : OL (Z168l1000003_F f a1 s12) (Z168l1000003 a1 s12) := ⟨by unfold Z168l1000003_F Z168l1000003 Z168l1000003_b; (try dsimp only); exact OL.le⟩
noncomputable def Z168_F (f : Nat) := Z168_b (itf f) (Z168l1000003_F f)
instance Z168_o f a1 b2 pivot3 b4 b5 : OL (Z168_F f a1 b2 pivot3 b4 b5) (Z168 a1 b2 pivot3 b4 b5) := ⟨by rw [Z168_eq]; unfold Z168_F Z168_b; (try dsimp only); exact OL.le⟩
noncomputable def Z165_F (f : Nat) := Z165_b (itf f) Z165l2
instance Z165_o f a1 b2 b3 b4 : OL (Z165_F f a1 b2 b3 b4) (Z165 a1 b2 b3 b4) := ⟨by rw [Z165_eq]; unfold Z165_F Z165_b; (try dsimp only); exact OL.le⟩
noncomputable def Z159l2_F (f : Nat) (r_Z159 : type_of% @Z159) := Z159l2_b (Z161_F f) (Z162_F f) (Z163_F f) (Z164_F f) (Z165_F f) (Z166_F f) (Z167_F f) (Z168_F f) (Z169_F f) r_Z159
instance Z159l2_o f (r_Z159 : type_of% @Z159) [h_Z159 : ∀ a1 b2 limit3 b4 b5, OL (r_Z159 a1 b2 limit3 b4 b5) (Z159 a1 b2 limit3 b4 b5)] s6 : OL (Z159l2_F f r_Z159 s6) (Z159l2 s6) := ⟨by unfold Z159l2_F Z159l2 Z159l2_b; (try dsimp only); exact OL.le⟩
noncomputable def Z159_B (f : Nat) (r_Z159 : type_of% @Z159) := Z159_b (itf f) (Z159l2_F f r_Z159)
instance Z159_oB f (r_Z159 : type_of% @Z159) [h_Z159 : ∀ a1 b2 limit3 b4 b5, OL (r_Z159 a1 b2 limit3 b4 b5) (Z159 a1 b2 limit3 b4 b5)] a1 b2 limit3 b4 b5 : OL (Z159_B f r_Z159 a1 b2 limit3 b4 b5) (Z159 a1 b2 limit3 b4 b5) := ⟨by rw [Z159_eq]; unfold Z159_B Z159_b; (try dsimp only); exact OL.le⟩
noncomputable def Z159_R (f : Nat) : Nat -> (type_of% @Z159)
  | 0 => (fun _ _ _ _ _ => none)
  | n + 1 => (Z159_B f (Z159_R f n))
theorem Z159_R_le f : ∀ n, (∀ a1 b2 limit3 b4 b5, OL (Z159_R f n a1 b2 limit3 b4 b5) (Z159 a1 b2 limit3 b4 b5))
  | 0 => fun _ _ _ _ _ => ⟨Ole.none⟩
  | n + 1 => by have h0 := (Z159_R_le f n); exact fun a1 b2 limit3 b4 b5 => Z159_oB f (Z159_R f n) a1 b2 limit3 b4 b5
noncomputable def Z159_F (f : Nat) := Z159_R f f
instance Z159_o f a1 b2 limit3 b4 b5 : OL (Z159_F f a1 b2 limit3 b4 b5) (Z159 a1 b2 limit3 b4 b5) := (Z159_R_le f f) a1 b2 limit3 b4 b5
noncomputable def Z149_F (f : Nat) := Z149_b (Z128_F f) (Z159_F f)
instance Z149_o f b1 b2 : OL (Z149_F f b1 b2) (Z149 b1 b2) := ⟨by rw [Z149_eq]; unfold Z149_F Z149_b; (try dsimp only); exact OL.le⟩
noncomputable def Z120_F (f : Nat) := Z120_b (itf f) Z120l3 (Z149_F f)
instance Z120_o f text1 : OL (Z120_F f text1) (Z120 text1) := ⟨by rw [Z120_eq]; unfold Z120_F Z120_b; (try dsimp only); exact OL.le⟩
noncomputable def Z75_F (f : Nat) := Z75_b (Z120_F f) (itf f) Z75l3
instance Z75_o f text1 : OL (Z75_F f text1) (Z75 text1) := ⟨by rw [Z75_eq]; unfold Z75_F Z75_b; (try dsimp only); exact OL.le⟩
noncomputable def Z38_F (f : Nat) := Z38_b (Z75_F f)
instance Z38_o f text1 : OL (Z38_F f text1) (Z38 text1) := ⟨by rw [Z38_eq]; unfold Z38_F Z38_b; (try dsimp only); exact OL.le⟩
noncomputable def Z80_F (f : Nat) := Z80_b (itf f) Z80l2
instance Z80_o f s1 v2 : OL (Z80_F f s1 v2) (Z80 s1 v2) := ⟨by rw [Z80_eq]; unfold Z80_F Z80_b; (try dsimp only); exact OL.le⟩
noncomputable def Z160_F (f : Nat) := Z160_b
instance Z160_o f s1 : OL (Z160_F f s1) (Z160 s1) := ⟨by rw [Z160_eq]; unfold Z160_F Z160_b; (try dsimp only); exact OL.le⟩
noncomputable def Z150l2_F (f : Nat) := Z150l2_b (Z160_F f)
instance Z150l2_o f s1 v2 : OL (Z150l2_F f s1 v2) (Z150l2 s1 v2) := ⟨by unfold Z150l2_F Z150l2 Z150l2_b; (try dsimp only); exact OL.le⟩
noncomputable def Z150_F (f : Nat) := Z150_b (itf f) (Z150l2_F f)
instance Z150_o f s1 : OL (Z150_F f s1) (Z150 s1) := ⟨by rw [Z150_eq]; unfold Z150_F Z150_b; (try dsimp only); exact OL.le⟩
noncomputable def Z123_F (f : Nat) := Z123_b (Z150_F f)
instance Z123_o f s1 : OL (Z123_F f s1) (Z123 s1) := ⟨by rw [Z123_eq]; unfold Z123_F Z123_b; (try dsimp only); exact OL.le⟩
noncomputable def Z78_F (f : Nat) := Z78_b (Z123_F f)
instance Z78_o f l1 : OL (Z78_F f l1) (Z78 l1) := ⟨by rw [Z78_eq]; unfold Z78_F Z78_b; (try dsimp only); exact OL.le⟩
noncomputable def Z81_F (f : Nat) := Z81_b
instance Z81_o f place1 b2 : OL (Z81_F f place1 b2) (Z81 place1 b2) := ⟨by rw [Z81_eq]; unfold Z81_F Z81_b; (try dsimp only); exact OL.le⟩
noncomputable def Z79_F (f : Nat) := Z79_b (itf f) Z79l3
instance Z79_o f : OL (Z79_F f) (Z79) := ⟨by rw [Z79_eq]; unfold Z79_F Z79_b; (try dsimp only); exact OL.le⟩
noncomputable def Z41l7_F (f : Nat) := Z41l7_b (Z80_F f) (Z81_F f)
instance Z41l7_o f l1 s4 : OL (Z41l7_F f l1 s4) (Z41l7 l1 s4) := ⟨by unfold Z41l7_F Z41l7 Z41l7_b; (try dsimp only); exact OL.le⟩
noncomputable def Z41_F (f : Nat) := Z41_b (Z78_F f) (Z79_F f) (itf f) (Z41l7_F f)
instance Z41_o f l1 : OL (Z41_F f l1) (Z41 l1) := ⟨by rw [Z41_eq]; unfold Z41_F Z41_b; (try dsimp only); exact OL.le⟩
noncomputable def Z42_F (f : Nat) := Z42_b
instance Z42_o f last1 : OL (Z42_F f last1) (Z42 last1) := ⟨by rw [Z42_eq]; unfold Z42_F Z42_b; (try dsimp only); exact OL.le⟩
noncomputable def Z16l12_F (f : Nat) := Z16l12_b (Z42_F f) (Z43_F f)
instance Z16l12_o f tr27 s29 : OL (Z16l12_F f tr27 s29) (Z16l12 tr27 s29) := ⟨by unfold Z16l12_F Z16l12 Z16l12_b; (try dsimp only); exact OL.le⟩
noncomputable def Z16_F (f : Nat) := Z16_b (Z38_F f) (Z36_F f) (Z39_F f) (Z40_F f) (Z41_F f) (itf f) (Z16l12_F f) (Z44_F f)
instance Z16_o f text1 : OL (Z16_F f text1) (Z16 text1) := ⟨by rw [Z16_eq]; unfold Z16_F Z16_b; (try dsimp only); exact OL.le⟩
noncomputable def Z3l5_F (f : Nat) := Z3l5_b (Z14_F f)
instance Z3l5_o f b1 s5 : OL (Z3l5_F f b1 s5) (Z3l5 b1 s5) := ⟨by unfold Z3l5_F Z3l5 Z3l5_b; (try dsimp only); exact OL.le⟩
noncomputable def Z3_F (f : Nat) := Z3_b (Z13_F f) (Z14_F f) (itf f) (Z3l5_F f) (Z15_F f) (Z16_F f)
instance Z3_o f b1 b2 : OL (Z3_F f b1 b2) (Z3 b1 b2) := ⟨by rw [Z3_eq]; unfold Z3_F Z3_b; (try dsimp only); exact OL.le⟩
noncomputable def Z66_F (f : Nat) := Z66_b (Z14_F f)
instance Z66_o f f1 f2 f3 : OL (Z66_F f f1 f2 f3) (Z66 f1 f2 f3) := ⟨by rw [Z66_eq]; unfold Z66_F Z66_b; (try dsimp only); exact OL.le⟩
noncomputable def Z115_B (f : Nat) (r_Z115 : type_of% @Z115) (r_Z143 : type_of% @Z143) := Z115_b r_Z143
instance Z115_oB f (r_Z115 : type_of% @Z115) (r_Z143 : type_of% @Z143) [h_Z115 : ∀ c1 c2 c3 c4, OL (r_Z115 c1 c2 c3 c4) (Z115 c1 c2 c3 c4)] [h_Z143 : ∀ c1 c2 c3 c4, OL (r_Z143 c1 c2 c3 c4) (Z143 c1 c2 c3 c4)] c1 c2 c3 c4 : OL (Z115_B f r_Z115 r_Z143 c1 c2 c3 c4) (Z115 c1 c2 c3 c4) := ⟨by rw [Z115_eq]; unfold Z115_B Z115_b; (try dsimp only); exact OL.le⟩
noncomputable def Z143l5_F (f : Nat) (r_Z115 : type_of% @Z115) (r_Z143 : type_of% @Z143) := Z143l5_b r_Z115
instance Z143l5_o f (r_Z115 : type_of% @Z115) (r_Z143 : type_of% @Z143) [h_Z115 : ∀ c1 c2 c3 c4, OL (r_Z115 c1 c2 c3 c4) (Z115 c1 c2 c3 c4)] [h_Z143 : ∀ c1 c2 c3 c4, OL (r_Z143 c1 c2 c3 c4) (Z143 c1 c2 c3 c4)] c4 s5 : OL (Z143l5_F f r_Z115 r_Z143 c4 s5) (Z143l5 c4 s5) := ⟨by unfold Z143l5_F Z143l5 Z143l5_b; (try dsimp only); exact OL.le⟩
noncomputable def Z143_B (f : Nat) (r_Z115 : type_of% @Z115) (r_Z143 : type_of% @Z143) := Z143_b (itf f) (Z143l5_F f r_Z115 r_Z143)
instance Z143_oB f (r_Z115 : type_of% @Z115) (r_Z143 : type_of% @Z143) [h_Z115 : ∀ c1 c2 c3 c4, OL (r_Z115 c1 c2 c3 c4) (Z115 c1 c2 c3 c4)] [h_Z143 : ∀ c1 c2 c3 c4, OL (r_Z143 c1 c2 c3 c4) (Z143 c1 c2 c3 c4)] c1 c2 c3 c4 : OL (Z143_B f r_Z115 r_Z143 c1 c2 c3 c4) (Z143 c1 c2 c3 c4) := ⟨by rw [Z143_eq]; unfold Z143_B Z143_b; (try dsimp only); exact OL.le⟩
noncomputable def Z115_R (f : Nat) : Nat -> (type_of% @Z115) × (type_of% @Z143)
  | 0 => (fun _ _ _ _ => none, fun _ _ _ _ => none)
  | n + 1 => (Z115_B f (Z115_R f n).1 (Z115_R f n).2, Z143_B f (Z115_R f n).1 (Z115_R f n).2)
theorem Z115_R_le f : ∀ n, (∀ c1 c2 c3 c4, OL ((Z115_R f n).1 c1 c2 c3 c4) (Z115 c1 c2 c3 c4)) ∧ (∀ c1 c2 c3 c4, OL ((Z115_R f n).2 c1 c2 c3 c4) (Z143 c1 c2 c3 c4))
  | 0 => ⟨fun _ _ _ _ => ⟨Ole.none⟩, fun _ _ _ _ => ⟨Ole.none⟩⟩
  | n + 1 => by have h0 := (Z115_R_le f n).1; have h1 := (Z115_R_le f n).2; exact ⟨fun c1 c2 c3 c4 => Z115_oB f (Z115_R f n).1 (Z115_R f n).2 c1 c2 c3 c4, fun c1 c2 c3 c4 => Z143_oB f (Z115_R f n).1 (Z115_R f n).2 c1 c2 c3 c4⟩
noncomputable def Z115_F (f : Nat) := (Z115_R f f).1
instance Z115_o f c1 c2 c3 c4 : OL (Z115_F f c1 c2 c3 c4) (Z115 c1 c2 c3 c4) := (Z115_R_le f f).1 c1 c2 c3 c4
noncomputable def Z143_F (f : Nat) := (Z115_R f f).2
instance Z143_o f c1 c2 c3 c4 : OL (Z143_F f c1 c2 c3 c4) (Z143 c1 c2 c3 c4) := (Z115_R_le f f).2 c1 c2 c3 c4
noncomputable def Z116l7_F (f : Nat) (r_Z116 : type_of% @Z116) := Z116l7_b r_Z116
instance Z116l7_o f (r_Z116 : type_of% @Z116) [h_Z116 : ∀ c1 c2 c3 c4 b5, OL (r_Z116 c1 c2 c3 c4 b5) (Z116 c1 c2 c3 c4 b5)] c4 s17 : OL (Z116l7_F f r_Z116 c4 s17) (Z116l7 c4 s17) := ⟨by unfold Z116l7_F Z116l7 Z116l7_b; (try dsimp only); exact OL.le⟩
noncomputable def Z116_B (f : Nat) (r_Z116 : type_of% @Z116) := Z116_b (Z143_F f) (itf f) (Z116l7_F f r_Z116)
instance Z116_oB f (r_Z116 : type_of% @Z116) [h_Z116 : ∀ c1 c2 c3 c4 b5, OL (r_Z116 c1 c2 c3 c4 b5) (Z116 c1 c2 c3 c4 b5)] c1 c2 c3 c4 b5 : OL (Z116_B f r_Z116 c1 c2 c3 c4 b5) (Z116 c1 c2 c3 c4 b5) := ⟨by rw [Z116_eq]; unfold Z116_B Z116_b; (try dsimp only); exact OL.le⟩
noncomputable def Z116_R (f : Nat) : Nat -> (type_of% @Z116)
  | 0 => (fun _ _ _ _ _ => none)
  | n + 1 => (Z116_B f (Z116_R f n))
theorem Z116_R_le f : ∀ n, (∀ c1 c2 c3 c4 b5, OL (Z116_R f n c1 c2 c3 c4 b5) (Z116 c1 c2 c3 c4 b5))
  | 0 => fun _ _ _ _ _ => ⟨Ole.none⟩
  | n + 1 => by have h0 := (Z116_R_le f n); exact fun c1 c2 c3 c4 b5 => Z116_oB f (Z116_R f n) c1 c2 c3 c4 b5
noncomputable def Z116_F (f : Nat) := Z116_R f f
instance Z116_o f c1 c2 c3 c4 b5 : OL (Z116_F f c1 c2 c3 c4 b5) (Z116 c1 c2 c3 c4 b5) := (Z116_R_le f f) c1 c2 c3 c4 b5
noncomputable def Z157_F (f : Nat) := Z157_b (itf f) Z157l4
instance Z157_o f s1 : OL (Z157_F f s1) (Z157 s1) := ⟨by rw [Z157_eq]; unfold Z157_F Z157_b; (try dsimp only); exact OL.le⟩
noncomputable def Z158_F (f : Nat) := Z158_b (Z157_F f)
instance Z158_o f s1 : OL (Z158_F f s1) (Z158 s1) := ⟨by rw [Z158_eq]; unfold Z158_F Z158_b; (try dsimp only); exact OL.le⟩
noncomputable def Z142l2_F (f : Nat) (r_Z142 : type_of% @Z142) := Z142l2_b (Z157_F f) (Z158_F f) r_Z142
instance Z142l2_o f (r_Z142 : type_of% @Z142) [h_Z142 : ∀ l1 depth2 b3, OL (r_Z142 l1 depth2 b3) (Z142 l1 depth2 b3)] l1 depth2 s4 : OL (Z142l2_F f r_Z142 l1 depth2 s4) (Z142l2 l1 depth2 s4) := ⟨by unfold Z142l2_F Z142l2 Z142l2_b; (try dsimp only); exact OL.le⟩
noncomputable def Z142_B (f : Nat) (r_Z142 : type_of% @Z142) := Z142_b (itf f) (Z142l2_F f r_Z142)
instance Z142_oB f (r_Z142 : type_of% @Z142) [h_Z142 : ∀ l1 depth2 b3, OL (r_Z142 l1 depth2 b3) (Z142 l1 depth2 b3)] l1 depth2 b3 : OL (Z142_B f r_Z142 l1 depth2 b3) (Z142 l1 depth2 b3) := ⟨by rw [Z142_eq]; unfold Z142_B Z142_b; (try dsimp only); exact OL.le⟩
noncomputable def Z142_R (f : Nat) : Nat -> (type_of% @Z142)
  | 0 => (fun _ _ _ => none)
  | n + 1 => (Z142_B f (Z142_R f n))
theorem Z142_R_le f : ∀ n, (∀ l1 depth2 b3, OL (Z142_R f n l1 depth2 b3) (Z142 l1 depth2 b3))
  | 0 => fun _ _ _ => ⟨Ole.none⟩
  | n + 1 => by have h0 := (Z142_R_le f n); exact fun l1 depth2 b3 => Z142_oB f (Z142_R f n) l1 depth2 b3
noncomputable def Z142_F (f : Nat) := Z142_R f f
instance Z142_o f l1 depth2 b3 : OL (Z142_F f l1 depth2 b3) (Z142 l1 depth2 b3) := (Z142_R_le f f) l1 depth2 b3
noncomputable def Z114_F (f : Nat) := Z114_b (Z142_F f)
instance Z114_o f l1 : OL (Z114_F f l1) (Z114 l1) := ⟨by rw [Z114_eq]; unfold Z114_F Z114_b; (try dsimp only); exact OL.le⟩
noncomputable def Z67l5_F (f : Nat) := Z67l5_b (Z115_F f)
instance Z67l5_o f l1 s3 : OL (Z67l5_F f l1 s3) (Z67l5 l1 s3) := ⟨by unfold Z67l5_F Z67l5 Z67l5_b; (try dsimp only); exact OL.le⟩
noncomputable def Z67l13_F (f : Nat) := Z67l13_b (Z116_F f)
instance Z67l13_o f l1 s14 : OL (Z67l13_F f l1 s14) (Z67l13 l1 s14) := ⟨by unfold Z67l13_F Z67l13 Z67l13_b; (try dsimp only); exact OL.le⟩
noncomputable def Z67_F (f : Nat) := Z67_b (Z114_F f) (itf f) (Z67l5_F f) (Z67l13_F f)
instance Z67_o f l1 : OL (Z67_F f l1) (Z67 l1) := ⟨by rw [Z67_eq]; unfold Z67_F Z67_b; (try dsimp only); exact OL.le⟩
noncomputable def Z27l6_F (f : Nat) := Z27l6_b (Z66_F f)
instance Z27l6_o f files4 s8 : OL (Z27l6_F f files4 s8) (Z27l6 files4 s8) := ⟨by unfold Z27l6_F Z27l6 Z27l6_b; (try dsimp only); exact OL.le⟩
noncomputable def Z27_F (f : Nat) := Z27_b (Z3_F f) (itf f) (Z27l6_F f) (Z67_F f)
instance Z27_o f kind1 b2 b3 files4 : OL (Z27_F f kind1 b2 b3 files4) (Z27 kind1 b2 b3 files4) := ⟨by rw [Z27_eq]; unfold Z27_F Z27_b; (try dsimp only); exact OL.le⟩
noncomputable def Z10_F (f : Nat) := Z10_b (Z27_F f)
instance Z10_o f b1 b2 : OL (Z10_F f b1 b2) (Z10 b1 b2) := ⟨by rw [Z10_eq]; unfold Z10_F Z10_b; (try dsimp only); exact OL.le⟩
noncomputable def Z57_F (f : Nat) := Z57_b (itf f) Z57l4
instance Z57_o f b1 at2 : OL (Z57_F f b1 at2) (Z57 b1 at2) := ⟨by rw [Z57_eq]; unfold Z57_F Z57_b; (try dsimp only); exact OL.le⟩
noncomputable def Z111_F (f : Nat) := Z111_b (Z57_F f)
instance Z111_o f low1 high2 b3 b4 b5 b6 : OL (Z111_F f low1 high2 b3 b4 b5 b6) (Z111 low1 high2 b3 b4 b5 b6) := ⟨by rw [Z111_eq]; unfold Z111_F Z111_b; (try dsimp only); exact OL.le⟩
noncomputable def Z112_F (f : Nat) := Z112_b (Z111_F f)
instance Z112_o f b1 b2 b3 b4 : OL (Z112_F f b1 b2 b3 b4) (Z112 b1 b2 b3 b4) := ⟨by rw [Z112_eq]; unfold Z112_F Z112_b; (try dsimp only); exact OL.le⟩
noncomputable def Z64l3_F (f : Nat) (r_Z64 : type_of% @Z64) := Z64l3_b (Z112_F f) (Z111_F f) r_Z64
instance Z64l3_o f (r_Z64 : type_of% @Z64) [h_Z64 : ∀ depth1 b2 b3 b4 b5, OL (r_Z64 depth1 b2 b3 b4 b5) (Z64 depth1 b2 b3 b4 b5)] depth1 s12 : OL (Z64l3_F f r_Z64 depth1 s12) (Z64l3 depth1 s12) := ⟨by unfold Z64l3_F Z64l3 Z64l3_b; (try dsimp only); exact OL.le⟩
noncomputable def Z64_B (f : Nat) (r_Z64 : type_of% @Z64) := Z64_b (Z111_F f) (itf f) (Z64l3_F f r_Z64)
instance Z64_oB f (r_Z64 : type_of% @Z64) [h_Z64 : ∀ depth1 b2 b3 b4 b5, OL (r_Z64 depth1 b2 b3 b4 b5) (Z64 depth1 b2 b3 b4 b5)] depth1 b2 b3 b4 b5 : OL (Z64_B f r_Z64 depth1 b2 b3 b4 b5) (Z64 depth1 b2 b3 b4 b5) := ⟨by rw [Z64_eq]; unfold Z64_B Z64_b; (try dsimp only); exact OL.le⟩
noncomputable def Z64_R (f : Nat) : Nat -> (type_of% @Z64)
  | 0 => (fun _ _ _ _ _ => none)
  | n + 1 => (Z64_B f (Z64_R f n))
theorem Z64_R_le f : ∀ n, (∀ depth1 b2 b3 b4 b5, OL (Z64_R f n depth1 b2 b3 b4 b5) (Z64 depth1 b2 b3 b4 b5))
  | 0 => fun _ _ _ _ _ => ⟨Ole.none⟩
  | n + 1 => by have h0 := (Z64_R_le f n); exact fun depth1 b2 b3 b4 b5 => Z64_oB f (Z64_R f n) depth1 b2 b3 b4 b5
noncomputable def Z64_F (f : Nat) := Z64_R f f
instance Z64_o f depth1 b2 b3 b4 b5 : OL (Z64_F f depth1 b2 b3 b4 b5) (Z64 depth1 b2 b3 b4 b5) := (Z64_R_le f f) depth1 b2 b3 b4 b5
noncomputable def Z25_F (f : Nat) := Z25_b (Z64_F f)
instance Z25_o f b1 : OL (Z25_F f b1) (Z25 b1) := ⟨by rw [Z25_eq]; unfold Z25_F Z25_b; (try dsimp only); exact OL.le⟩
noncomputable def Z71_F (f : Nat) := Z71_b (Z15_F f) (Z25_F f)
instance Z71_o f l1 : OL (Z71_F f l1) (Z71 l1) := ⟨by rw [Z71_eq]; unfold Z71_F Z71_b; (try dsimp only); exact OL.le⟩
noncomputable def Z33_F (fuel : Nat) (s1 : List Int) : Option (List Int) :=
 (if s1.length = 0 then
 (demD
 (some [])
 ((if (([] : List Int).length + s1.length) * 1 <= 140737488355328 then
 let t2 : List Int := ([] : List Int) ++ s1;
 some t2
 else
 none)))
 else
 (if (([] : List Int).length + s1.length) * 1 <= 140737488355328 then
 let t3 : List Int := ([] : List Int) ++ s1;
 some t3
 else
 none))
theorem Z33_F_le (fuel : Nat) (s1 : List Int) : Ole (Z33_F fuel s1) (Z33 s1) := by
  rw [Z33_eq]; unfold Z33_F; try dsimp only
  repeat' first | with_reducible exact Ole.refl _ | refine Ole.ite ?_ ?_ | refine Ole.iter fun _ => ?_ | refine Ole.elim (fun _ => ?_) (fun _ => ?_) | refine Ole.bind ?_ fun _ => ?_ | refine Ole.demD ?_ ?_
instance Z33_o f s1 : OL (Z33_F f s1) (Z33 s1) := ⟨Z33_F_le f s1⟩
noncomputable def Z32l3_F (f : Nat) := Z32l3_b (Z33_F f)
instance Z32l3_o f b1 s4 : OL (Z32l3_F f b1 s4) (Z32l3 b1 s4) := ⟨by unfold Z32l3_F Z32l3 Z32l3_b; (try dsimp only); exact OL.le⟩
noncomputable def Z32_F (f : Nat) := Z32_b (Z71_F f) (itf f) (Z32l3_F f)
instance Z32_o f b1 b2 : OL (Z32_F f b1 b2) (Z32 b1 b2) := ⟨by rw [Z32_eq]; unfold Z32_F Z32_b; (try dsimp only); exact OL.le⟩
noncomputable def Z34_F (f : Nat) := Z34_b
instance Z34_o f i1 v2 b3 : OL (Z34_F f i1 v2 b3) (Z34 i1 v2 b3) := ⟨by rw [Z34_eq]; unfold Z34_F Z34_b; (try dsimp only); exact OL.le⟩
noncomputable def Z12_F (f : Nat) := Z12_b (Z13_F f) (Z31_F f) (Z26_F f) (Z32_F f) (Z33_F f) (Z34_F f)
instance Z12_o f b1 b2 at3 f4 f5 f6 : OL (Z12_F f b1 b2 at3 f4 f5 f6) (Z12 b1 b2 at3 f4 f5 f6) := ⟨by rw [Z12_eq]; unfold Z12_F Z12_b; (try dsimp only); exact OL.le⟩
noncomputable def Z148_F (f : Nat) := Z148_b
instance Z148_o f x1 x2 x3 x4 : OL (Z148_F f x1 x2 x3 x4) (Z148 x1 x2 x3 x4) := ⟨by rw [Z148_eq]; unfold Z148_F Z148_b; (try dsimp only); exact OL.le⟩
noncomputable def Z118l2_F (f : Nat) := Z118l2_b (Z148_F f)
instance Z118l2_o f s1 v2 : OL (Z118l2_F f s1 v2) (Z118l2 s1 v2) := ⟨by unfold Z118l2_F Z118l2 Z118l2_b; (try dsimp only); exact OL.le⟩
noncomputable def Z118_F (f : Nat) := Z118_b (itf f) (Z118l2_F f)
instance Z118_o f s1 : OL (Z118_F f s1) (Z118 s1) := ⟨by rw [Z118_eq]; unfold Z118_F Z118_b; (try dsimp only); exact OL.le⟩
noncomputable def Z69_F (f : Nat) := Z69_b (Z118_F f)
instance Z69_o f s1 : OL (Z69_F f s1) (Z69 s1) := ⟨by rw [Z69_eq]; unfold Z69_F Z69_b; (try dsimp only); exact OL.le⟩
noncomputable def Z29l2_F (f : Nat) := Z29l2_b (Z69_F f)
instance Z29l2_o f l1 v2 : OL (Z29l2_F f l1 v2) (Z29l2 l1 v2) := ⟨by unfold Z29l2_F Z29l2 Z29l2_b; (try dsimp only); exact OL.le⟩
noncomputable def Z29_F (f : Nat) := Z29_b (itf f) (Z29l2_F f)
instance Z29_o f l1 : OL (Z29_F f l1) (Z29 l1) := ⟨by rw [Z29_eq]; unfold Z29_F Z29_b; (try dsimp only); exact OL.le⟩
noncomputable def Z23_F (f : Nat) := Z23_b
instance Z23_o f ok1 err2 b3 b4 b5 : OL (Z23_F f ok1 err2 b3 b4 b5) (Z23 ok1 err2 b3 b4 b5) := ⟨by rw [Z23_eq]; unfold Z23_F Z23_b; (try dsimp only); exact OL.le⟩
noncomputable def Z22_F (f : Nat) := Z22_b (Z57_F f) (Z23_F f)
instance Z22_o f b1 b2 b3 : OL (Z22_F f b1 b2 b3) (Z22 b1 b2 b3) := ⟨by rw [Z22_eq]; unfold Z22_F Z22_b; (try dsimp only); exact OL.le⟩
noncomputable def Z62_F (f : Nat) := Z62_b (Z23_F f)
instance Z62_o f n1 b2 b3 b4 : OL (Z62_F f n1 b2 b3 b4) (Z62 n1 b2 b3 b4) := ⟨by rw [Z62_eq]; unfold Z62_F Z62_b; (try dsimp only); exact OL.le⟩
noncomputable def Z63_F (f : Nat) := Z63_b (Z22_F f) (Z23_F f) (Z62_F f) (Z70_F f)
instance Z63_o f b1 b2 b3 : OL (Z63_F f b1 b2 b3) (Z63 b1 b2 b3) := ⟨by rw [Z63_eq]; unfold Z63_F Z63_b; (try dsimp only); exact OL.le⟩
noncomputable def Z24_F (f : Nat) := Z24_b (Z62_F f) (Z23_F f) (Z63_F f) (Z22_F f)
instance Z24_o f b1 b2 b3 : OL (Z24_F f b1 b2 b3) (Z24 b1 b2 b3) := ⟨by rw [Z24_eq]; unfold Z24_F Z24_b; (try dsimp only); exact OL.le⟩
noncomputable def Z105_F (f : Nat) := Z105_b
instance Z105_o f b1 b2 b3 b4 b5 b6 b7 b8 : OL (Z105_F f b1 b2 b3 b4 b5 b6 b7 b8) (Z105 b1 b2 b3 b4 b5 b6 b7 b8) := ⟨by rw [Z105_eq]; unfold Z105_F Z105_b; (try dsimp only); exact OL.le⟩
noncomputable def Z58l5_F (f : Nat) := Z58l5_b (Z105_F f)
instance Z58l5_o f s11 : OL (Z58l5_F f s11) (Z58l5 s11) := ⟨by unfold Z58l5_F Z58l5 Z58l5_b; (try dsimp only); exact OL.le⟩
noncomputable def Z58_F (f : Nat) := Z58_b (Z76_F f) (Z77_F f) (itf f) (Z58l5_F f)
instance Z58_o f m1 m2 b3 : OL (Z58_F f m1 m2 b3) (Z58 m1 m2 b3) := ⟨by rw [Z58_eq]; unfold Z58_F Z58_b; (try dsimp only); exact OL.le⟩
noncomputable def Z136_F (f : Nat) := Z136_b
instance Z136_o f b1 b2 b3 b4 b5 b6 b7 b8 b9 : OL (Z136_F f b1 b2 b3 b4 b5 b6 b7 b8 b9) (Z136 b1 b2 b3 b4 b5 b6 b7 b8 b9) := ⟨by rw [Z136_eq]; unfold Z136_F Z136_b; (try dsimp only); exact OL.le⟩
noncomputable def Z141_F (f : Nat) := Z141_b
instance Z141_o f b1 b2 b3 b4 b5 b6 b7 b8 b9 : OL (Z141_F f b1 b2 b3 b4 b5 b6 b7 b8 b9) (Z141 b1 b2 b3 b4 b5 b6 b7 b8 b9) := ⟨by rw [Z141_eq]; unfold Z141_F Z141_b; (try dsimp only); exact OL.le⟩
noncomputable def Z140_F (f : Nat) := Z140_b
instance Z140_o f b1 b2 b3 b4 b5 b6 b7 b8 b9 : OL (Z140_F f b1 b2 b3 b4 b5 b6 b7 b8 b9) (Z140 b1 b2 b3 b4 b5 b6 b7 b8 b9) := ⟨by rw [Z140_eq]; unfold Z140_F Z140_b; (try dsimp only); exact OL.le⟩
noncomputable def Z137_F (f : Nat) := Z137_b (Z151_F f)
instance Z137_o f ctx1 b2 b3 b4 b5 b6 b7 b8 b9 b10 : OL (Z137_F f ctx1 b2 b3 b4 b5 b6 b7 b8 b9 b10) (Z137 ctx1 b2 b3 b4 b5 b6 b7 b8 b9 b10) := ⟨by rw [Z137_eq]; unfold Z137_F Z137_b; (try dsimp only); exact OL.le⟩
noncomputable def Z139_F (f : Nat) := Z139_b
instance Z139_o f b1 b2 b3 b4 b5 b6 b7 b8 b9 : OL (Z139_F f b1 b2 b3 b4 b5 b6 b7 b8 b9) (Z139 b1 b2 b3 b4 b5 b6 b7 b8 b9) := ⟨by rw [Z139_eq]; unfold Z139_F Z139_b; (try dsimp only); exact OL.le⟩
noncomputable def Z138_F (f : Nat) := Z138_b (Z152_F f)
instance Z138_o f ctx1 bit2 mid3 b4 b5 b6 b7 b8 b9 b10 b11 b12 : OL (Z138_F f ctx1 bit2 mid3 b4 b5 b6 b7 b8 b9 b10 b11 b12) (Z138 ctx1 bit2 mid3 b4 b5 b6 b7 b8 b9 b10 b11 b12) := ⟨by rw [Z138_eq]; unfold Z138_F Z138_b; (try dsimp only); exact OL.le⟩
noncomputable def Z106l12_F (f : Nat) := Z106l12_b (Z139_F f) (Z140_F f) (Z141_F f)
instance Z106l12_o f s51 : OL (Z106l12_F f s51) (Z106l12 s51) := ⟨by unfold Z106l12_F Z106l12 Z106l12_b; (try dsimp only); exact OL.le⟩
noncomputable def Z106_F (f : Nat) := Z106_b (Z136_F f) (Z137_F f) (Z138_F f) (itf f) (Z106l12_F f)
instance Z106_o f ctx1 b2 b3 b4 b5 b6 b7 b8 b9 b10 : OL (Z106_F f ctx1 b2 b3 b4 b5 b6 b7 b8 b9 b10) (Z106 ctx1 b2 b3 b4 b5 b6 b7 b8 b9 b10) := ⟨by rw [Z106_eq]; unfold Z106_F Z106_b; (try dsimp only); exact OL.le⟩
noncomputable def Z107_F (f : Nat) := Z107_b (Z136_F f) (Z121_F f)
instance Z107_o f b1 b2 b3 b4 b5 b6 b7 b8 b9 : OL (Z107_F f b1 b2 b3 b4 b5 b6 b7 b8 b9) (Z107 b1 b2 b3 b4 b5 b6 b7 b8 b9) := ⟨by rw [Z107_eq]; unfold Z107_F Z107_b; (try dsimp only); exact OL.le⟩
noncomputable def Z108l5_F (f : Nat) := Z108l5_b (Z106_F f)
instance Z108l5_o f base1 s24 : OL (Z108l5_F f base1 s24) (Z108l5 base1 s24) := ⟨by unfold Z108l5_F Z108l5 Z108l5_b; (try dsimp only); exact OL.le⟩
noncomputable def Z108l14_F (f : Nat) := Z108l14_b (Z129_F f) (Z106_F f)
instance Z108l14_o f base1 c53 s79 : OL (Z108l14_F f base1 c53 s79) (Z108l14 base1 c53 s79) := ⟨by unfold Z108l14_F Z108l14 Z108l14_b; (try dsimp only); exact OL.le⟩
noncomputable def Z108_F (f : Nat) := Z108_b (Z106_F f) (itf f) (Z108l5_F f) (Z108l14_F f)
instance Z108_o f base1 b2 b3 b4 b5 b6 b7 b8 b9 b10 : OL (Z108_F f base1 b2 b3 b4 b5 b6 b7 b8 b9 b10) (Z108 base1 b2 b3 b4 b5 b6 b7 b8 b9 b10) := ⟨by rw [Z108_eq]; unfold Z108_F Z108_b; (try dsimp only); exact OL.le⟩
noncomputable def Z59_F (f : Nat) := Z59_b (Z106_F f) (Z107_F f) (Z85_F f) (Z108_F f)
instance Z59_o f base1 b2 b3 b4 b5 b6 b7 b8 b9 b10 : OL (Z59_F f base1 b2 b3 b4 b5 b6 b7 b8 b9 b10) (Z59 base1 b2 b3 b4 b5 b6 b7 b8 b9 b10) := ⟨by rw [Z59_eq]; unfold Z59_F Z59_b; (try dsimp only); exact OL.le⟩
noncomputable def Z60l7_F (f : Nat) := Z60l7_b (Z81_F f)
instance Z60l7_o f l1 s4 : OL (Z60l7_F f l1 s4) (Z60l7 l1 s4) := ⟨by unfold Z60l7_F Z60l7 Z60l7_b; (try dsimp only); exact OL.le⟩
noncomputable def Z60_F (f : Nat) := Z60_b (Z78_F f) (Z79_F f) (itf f) (Z60l7_F f)
instance Z60_o f l1 : OL (Z60_F f l1) (Z60 l1) := ⟨by rw [Z60_eq]; unfold Z60_F Z60_b; (try dsimp only); exact OL.le⟩
noncomputable def Z109_F (f : Nat) := Z109_b
instance Z109_o f b1 : OL (Z109_F f b1) (Z109 b1) := ⟨by rw [Z109_eq]; unfold Z109_F Z109_b; (try dsimp only); exact OL.le⟩
noncomputable def Z110_F (f : Nat) := Z110_b (itf f) Z110l4
instance Z110_o f s1 s2 : OL (Z110_F f s1 s2) (Z110 s1 s2) := ⟨by rw [Z110_eq]; unfold Z110_F Z110_b; (try dsimp only); exact OL.le⟩
noncomputable def Z61_F (f : Nat) := Z61_b (itf f) Z61l3 Z61l10 Z61l16 (Z109_F f) Z61l25 (Z75_F f) (Z110_F f)
instance Z61_o f l1 : OL (Z61_F f l1) (Z61 l1) := ⟨by rw [Z61_eq]; unfold Z61_F Z61_b; (try dsimp only); exact OL.le⟩
noncomputable def Z21l15_F (f : Nat) := Z21l15_b (Z42_F f) (Z59_F f)
instance Z21l15_o f t44 s45 : OL (Z21l15_F f t44 s45) (Z21l15 t44 s45) := ⟨by unfold Z21l15_F Z21l15 Z21l15_b; (try dsimp only); exact OL.le⟩
noncomputable def Z21_F (f : Nat) := Z21_b (Z57_F f) (Z39_F f) (Z58_F f) (itf f) (Z21l15_F f) (Z60_F f) (Z61_F f)
instance Z21_o f b1 : OL (Z21_F f b1) (Z21 b1) := ⟨by rw [Z21_eq]; unfold Z21_F Z21_b; (try dsimp only); exact OL.le⟩
noncomputable def Z6l10_F (f : Nat) := Z6l10_b (Z24_F f)
instance Z6l10_o f tr6 s15 : OL (Z6l10_F f tr6 s15) (Z6l10 tr6 s15) := ⟨by unfold Z6l10_F Z6l10 Z6l10_b; (try dsimp only); exact OL.le⟩
noncomputable def Z6l21_F (f : Nat) := Z6l21_b (Z26_F f)
instance Z6l21_o f files45 v51 : OL (Z6l21_F f files45 v51) (Z6l21 files45 v51) := ⟨by unfold Z6l21_F Z6l21 Z6l21_b; (try dsimp only); exact OL.le⟩
noncomputable def Z6_F (f : Nat) := Z6_b (Z21_F f) (Z22_F f) (Z23_F f) (itf f) (Z6l10_F f) (Z25_F f) (Z6l21_F f)
instance Z6_o f d1 : OL (Z6_F f d1) (Z6 d1) := ⟨by rw [Z6_eq]; unfold Z6_F Z6_b; (try dsimp only); exact OL.le⟩
noncomputable def Z30l6_F (f : Nat) := Z30l6_b (Z63_F f) (Z26_F f) (Z33_F f)
instance Z30l6_o f tr14 t15 s16 : OL (Z30l6_F f tr14 t15 s16) (Z30l6 tr14 t15 s16) := ⟨by unfold Z30l6_F Z30l6 Z30l6_b; (try dsimp only); exact OL.le⟩
noncomputable def Z30_F (f : Nat) := Z30_b (Z6_F f) (itf f) (Z30l6_F f)
instance Z30_o f c1 c2 c3 c4 b5 b6 b7 b8 : OL (Z30_F f c1 c2 c3 c4 b5 b6 b7 b8) (Z30 c1 c2 c3 c4 b5 b6 b7 b8) := ⟨by rw [Z30_eq]; unfold Z30_F Z30_b; (try dsimp only); exact OL.le⟩
noncomputable def Z147_F (fuel : Nat) (b1 : List Int) : Option (List Int) :=
 (if b1.length = 0 then
 (demD
 (some [])
 ((if (([] : List Int).length + b1.length) * 1 <= 140737488355328 then
 let t2 : List Int := ([] : List Int) ++ b1;
 some t2
 else
 none)))
 else
 (if (([] : List Int).length + b1.length) * 1 <= 140737488355328 then
 let t3 : List Int := ([] : List Int) ++ b1;
 some t3
 else
 none))
theorem Z147_F_le (fuel : Nat) (b1 : List Int) : Ole (Z147_F fuel b1) (Z147 b1) := by
  rw [Z147_eq]; unfold Z147_F; try dsimp only
  repeat' first | with_reducible exact Ole.refl _ | refine Ole.ite ?_ ?_ | refine Ole.iter fun _ => ?_ | refine Ole.elim (fun _ => ?_) (fun _ => ?_) | refine Ole.bind ?_ fun _ => ?_ | refine Ole.demD ?_ ?_
instance Z147_o f b1 : OL (Z147_F f b1) (Z147 b1) := ⟨Z147_F_le f b1⟩
noncomputable def Z145_F (f : Nat) := Z145_b
instance Z145_o f ok1 err2 at3 b4 b5 b6 b7 : OL (Z145_F f ok1 err2 at3 b4 b5 b6 b7) (Z145 ok1 err2 at3 b4 b5 b6 b7) := ⟨by rw [Z145_eq]; unfold Z145_F Z145_b; (try dsimp only); exact OL.le⟩
noncomputable def Z144_F (f : Nat) := Z144_b (Z145_F f) (Z157_F f)
instance Z144_o f at1 end2 b3 b4 b5 b6 : OL (Z144_F f at1 end2 b3 b4 b5 b6) (Z144 at1 end2 b3 b4 b5 b6) := ⟨by rw [Z144_eq]; unfold Z144_F Z144_b; (try dsimp only); exact OL.le⟩
noncomputable def Z146_F (f : Nat) := Z146_b (Z145_F f) (Z158_F f)
instance Z146_o f at1 end2 b3 b4 b5 b6 : OL (Z146_F f at1 end2 b3 b4 b5 b6) (Z146 at1 end2 b3 b4 b5 b6) := ⟨by rw [Z146_eq]; unfold Z146_F Z146_b; (try dsimp only); exact OL.le⟩
noncomputable def Z68l2_F (f : Nat) (r_Z68 : type_of% @Z68) (r_Z117 : type_of% @Z117) := Z68l2_b r_Z117
instance Z68l2_o f (r_Z68 : type_of% @Z68) (r_Z117 : type_of% @Z117) [h_Z68 : ∀ at1 end2 depth3 b4 b5 b6 b7, OL (r_Z68 at1 end2 depth3 b4 b5 b6 b7) (Z68 at1 end2 depth3 b4 b5 b6 b7)] [h_Z117 : ∀ at1 end2 depth3 b4 b5 b6 b7, OL (r_Z117 at1 end2 depth3 b4 b5 b6 b7) (Z117 at1 end2 depth3 b4 b5 b6 b7)] end2 depth3 s8 : OL (Z68l2_F f r_Z68 r_Z117 end2 depth3 s8) (Z68l2 end2 depth3 s8) := ⟨by unfold Z68l2_F Z68l2 Z68l2_b; (try dsimp only); exact OL.le⟩
noncomputable def Z68_B (f : Nat) (r_Z68 : type_of% @Z68) (r_Z117 : type_of% @Z117) := Z68_b (itf f) (Z68l2_F f r_Z68 r_Z117)
instance Z68_oB f (r_Z68 : type_of% @Z68) (r_Z117 : type_of% @Z117) [h_Z68 : ∀ at1 end2 depth3 b4 b5 b6 b7, OL (r_Z68 at1 end2 depth3 b4 b5 b6 b7) (Z68 at1 end2 depth3 b4 b5 b6 b7)] [h_Z117 : ∀ at1 end2 depth3 b4 b5 b6 b7, OL (r_Z117 at1 end2 depth3 b4 b5 b6 b7) (Z117 at1 end2 depth3 b4 b5 b6 b7)] at1 end2 depth3 b4 b5 b6 b7 : OL (Z68_B f r_Z68 r_Z117 at1 end2 depth3 b4 b5 b6 b7) (Z68 at1 end2 depth3 b4 b5 b6 b7) := ⟨by rw [Z68_eq]; unfold Z68_B Z68_b; (try dsimp only); exact OL.le⟩
noncomputable def Z117_B (f : Nat) (r_Z68 : type_of% @Z68) (r_Z117 : type_of% @Z117) := Z117_b (Z144_F f) (Z145_F f) (itf f) Z117l7 (Z146_F f) r_Z68 (Z147_F f)
instance Z117_oB f (r_Z68 : type_of% @Z68) (r_Z117 : type_of% @Z117) [h_Z68 : ∀ at1 end2 depth3 b4 b5 b6 b7, OL (r_Z68 at1 end2 depth3 b4 b5 b6 b7) (Z68 at1 end2 depth3 b4 b5 b6 b7)] [h_Z117 : ∀ at1 end2 depth3 b4 b5 b6 b7, OL (r_Z117 at1 end2 depth3 b4 b5 b6 b7) (Z117 at1 end2 depth3 b4 b5 b6 b7)] at1 end2 depth3 b4 b5 b6 b7 : OL (Z117_B f r_Z68 r_Z117 at1 end2 depth3 b4 b5 b6 b7) (Z117 at1 end2 depth3 b4 b5 b6 b7) := ⟨by rw [Z117_eq]; unfold Z117_B Z117_b; (try dsimp only); exact OL.le⟩
noncomputable def Z68_R (f : Nat) : Nat -> (type_of% @Z68) × (type_of% @Z117)
  | 0 => (fun _ _ _ _ _ _ _ => none, fun _ _ _ _ _ _ _ => none)
  | n + 1 => (Z68_B f (Z68_R f n).1 (Z68_R f n).2, Z117_B f (Z68_R f n).1 (Z68_R f n).2)
theorem Z68_R_le f : ∀ n, (∀ at1 end2 depth3 b4 b5 b6 b7, OL ((Z68_R f n).1 at1 end2 depth3 b4 b5 b6 b7) (Z68 at1 end2 depth3 b4 b5 b6 b7)) ∧ (∀ at1 end2 depth3 b4 b5 b6 b7, OL ((Z68_R f n).2 at1 end2 depth3 b4 b5 b6 b7) (Z117 at1 end2 depth3 b4 b5 b6 b7))
  | 0 => ⟨fun _ _ _ _ _ _ _ => ⟨Ole.none⟩, fun _ _ _ _ _ _ _ => ⟨Ole.none⟩⟩
  | n + 1 => by have h0 := (Z68_R_le f n).1; have h1 := (Z68_R_le f n).2; exact ⟨fun at1 end2 depth3 b4 b5 b6 b7 => Z68_oB f (Z68_R f n).1 (Z68_R f n).2 at1 end2 depth3 b4 b5 b6 b7, fun at1 end2 depth3 b4 b5 b6 b7 => Z117_oB f (Z68_R f n).1 (Z68_R f n).2 at1 end2 depth3 b4 b5 b6 b7⟩
noncomputable def Z68_F (f : Nat) := (Z68_R f f).1
instance Z68_o f at1 end2 depth3 b4 b5 b6 b7 : OL (Z68_F f at1 end2 depth3 b4 b5 b6 b7) (Z68 at1 end2 depth3 b4 b5 b6 b7) := (Z68_R_le f f).1 at1 end2 depth3 b4 b5 b6 b7
noncomputable def Z117_F (f : Nat) := (Z68_R f f).2
instance Z117_o f at1 end2 depth3 b4 b5 b6 b7 : OL (Z117_F f at1 end2 depth3 b4 b5 b6 b7) (Z117 at1 end2 depth3 b4 b5 b6 b7) := (Z68_R_le f f).2 at1 end2 depth3 b4 b5 b6 b7
noncomputable def Z28_F (f : Nat) := Z28_b (Z68_F f)
instance Z28_o f b1 : OL (Z28_F f b1) (Z28 b1) := ⟨by rw [Z28_eq]; unfold Z28_F Z28_b; (try dsimp only); exact OL.le⟩
noncomputable def Z11l8_F (f : Nat) := Z11l8_b (Z30_F f)
instance Z11l8_o f tr3 s7 : OL (Z11l8_F f tr3 s7) (Z11l8 tr3 s7) := ⟨by unfold Z11l8_F Z11l8 Z11l8_b; (try dsimp only); exact OL.le⟩
noncomputable def Z11_F (f : Nat) := Z11_b (Z28_F f) (Z29_F f) (itf f) (Z11l8_F f) Z11l15
instance Z11_o f b1 : OL (Z11_F f b1) (Z11 b1) := ⟨by rw [Z11_eq]; unfold Z11_F Z11_b; (try dsimp only); exact OL.le⟩
noncomputable def Z2_F (f : Nat) := Z2_b (Z10_F f) (Z11_F f) (Z12_F f)
instance Z2_o f : OL (Z2_F f) (Z2) := ⟨by rw [Z2_eq]; unfold Z2_F Z2_b; (try dsimp only); exact OL.le⟩
theorem Z2_F_le f : Ole (Z2_F f) (Z2) := OL.le
end
end Go.Proofs.YtcphcfknnfibmaaGreat.P
