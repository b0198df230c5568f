/- Part of the proof of ViewServes: functions at known arguments. -/
import Derived.Test.YtcphcfknnfibmaaGreatQs
import Derived.Test.YtcphcfknnfibmaaGreatF5
namespace Go.Proofs.YtcphcfknnfibmaaGreat.P
open Go Go.IntKind Go.Proofs.YtcphcfknnfibmaaGreat.V
set_option linter.unusedVariables false
set_option linter.unusedSimpArgs false
set_option maxRecDepth 100000
set_option synthInstance.maxHeartbeats 0
set_option synthInstance.maxSize 100000
noncomputable section
instance : DecidableEq File := fun a b => if h : a.name = b.name ∧ a.kind = b.kind ∧ a.data = b.data then .isTrue (by cases a; cases b; simp_all) else .isFalse (by intro e; subst e; simp at h)
instance : DecidableEq (List File × List Int) := inferInstance
instance : DecidableEq (List Int × Int × List File × List Int) := inferInstance
noncomputable def Z46_F (f : Nat) := Z46_b
instance Z46_o f ok1 err2 b3 b4 b5 : OL (Z46_F f ok1 err2 b3 b4 b5) (Z46 ok1 err2 b3 b4 b5) := ⟨by rw [Z46_eq]; unfold Z46_F Z46_b; (try dsimp only); exact OL.le⟩
noncomputable def Z67_F (f : Nat) := Z67_b (itf f) Z67l4
instance Z67_o f b1 at2 : OL (Z67_F f b1 at2) (Z67 b1 at2) := ⟨by rw [Z67_eq]; unfold Z67_F Z67_b; (try dsimp only); exact OL.le⟩
noncomputable def Z45_F (f : Nat) := Z45_b (Z67_F f) (Z46_F f)
instance Z45_o f b1 b2 b3 : OL (Z45_F f b1 b2 b3) (Z45 b1 b2 b3) := ⟨by rw [Z45_eq]; unfold Z45_F Z45_b; (try dsimp only); exact OL.le⟩
noncomputable def Z74_F (f : Nat) := Z74_b (Z46_F f)
instance Z74_o f n1 b2 b3 b4 : OL (Z74_F f n1 b2 b3 b4) (Z74 n1 b2 b3 b4) := ⟨by rw [Z74_eq]; unfold Z74_F Z74_b; (try dsimp only); exact OL.le⟩
noncomputable def Z52_F (f : Nat) := Z52_b (itf f) Z52l2
instance Z52_o f s1 : OL (Z52_F f s1) (Z52 s1) := ⟨by rw [Z52_eq]; unfold Z52_F Z52_b; (try dsimp only); exact OL.le⟩
noncomputable def Z75_F (f : Nat) := Z75_b (Z45_F f) (Z46_F f) (Z74_F f) (Z52_F f)
instance Z75_o f b1 b2 b3 : OL (Z75_F f b1 b2 b3) (Z75 b1 b2 b3) := ⟨by rw [Z75_eq]; unfold Z75_F Z75_b; (try dsimp only); exact OL.le⟩
noncomputable def Z47_F (f : Nat) := Z47_b (Z74_F f) (Z46_F f) (Z75_F f) (Z45_F f)
instance Z47_o f b1 b2 b3 : OL (Z47_F f b1 b2 b3) (Z47 b1 b2 b3) := ⟨by rw [Z47_eq]; unfold Z47_F Z47_b; (try dsimp only); exact OL.le⟩
noncomputable def Z80_F (f : Nat) := Z80_b
instance Z80_o f f1 f2 f3 b4 : OL (Z80_F f f1 f2 f3 b4) (Z80 f1 f2 f3 b4) := ⟨by rw [Z80_eq]; unfold Z80_F Z80_b; (try dsimp only); exact OL.le⟩
noncomputable def Z53l2_F (f : Nat) := Z53l2_b (Z80_F f)
instance Z53l2_o f s1 s3 : OL (Z53l2_F f s1 s3) (Z53l2 s1 s3) := ⟨by unfold Z53l2_F Z53l2 Z53l2_b; (try dsimp only); exact OL.le⟩
noncomputable def Z53_F (f : Nat) := Z53_b (itf f) (Z53l2_F f)
instance Z53_o f s1 b2 : OL (Z53_F f s1 b2) (Z53 s1 b2) := ⟨by rw [Z53_eq]; unfold Z53_F Z53_b; (try dsimp only); exact OL.le⟩
noncomputable def Z33_F (f : Nat) := Z33_b (Z53_F f)
instance Z33_o f l1 name2 : OL (Z33_F f l1 name2) (Z33 l1 name2) := ⟨by rw [Z33_eq]; unfold Z33_F Z33_b; (try dsimp only); exact OL.le⟩
noncomputable def Z116_F (f : Nat) := Z116_b (Z67_F f)
instance Z116_o f low1 high2 b3 b4 b5 b6 : OL (Z116_F f low1 high2 b3 b4 b5 b6) (Z116 low1 high2 b3 b4 b5 b6) := ⟨by rw [Z116_eq]; unfold Z116_F Z116_b; (try dsimp only); exact OL.le⟩
noncomputable def Z117_F (f : Nat) := Z117_b (Z116_F f)
instance Z117_o f b1 b2 b3 b4 : OL (Z117_F f b1 b2 b3 b4) (Z117 b1 b2 b3 b4) := ⟨by rw [Z117_eq]; unfold Z117_F Z117_b; (try dsimp only); exact OL.le⟩
noncomputable def Z76l3_F (f : Nat) (r_Z76 : type_of% @Z76) := Z76l3_b (Z117_F f) (Z116_F f) r_Z76
instance Z76l3_o f (r_Z76 : type_of% @Z76) [h_Z76 : ∀ depth1 b2 b3 b4 b5, OL (r_Z76 depth1 b2 b3 b4 b5) (Z76 depth1 b2 b3 b4 b5)] depth1 s12 : OL (Z76l3_F f r_Z76 depth1 s12) (Z76l3 depth1 s12) := ⟨by unfold Z76l3_F Z76l3 Z76l3_b; (try dsimp only); exact OL.le⟩
noncomputable def Z76_B (f : Nat) (r_Z76 : type_of% @Z76) := Z76_b (Z116_F f) (itf f) (Z76l3_F f r_Z76)
instance Z76_oB f (r_Z76 : type_of% @Z76) [h_Z76 : ∀ depth1 b2 b3 b4 b5, OL (r_Z76 depth1 b2 b3 b4 b5) (Z76 depth1 b2 b3 b4 b5)] depth1 b2 b3 b4 b5 : OL (Z76_B f r_Z76 depth1 b2 b3 b4 b5) (Z76 depth1 b2 b3 b4 b5) := ⟨by rw [Z76_eq]; unfold Z76_B Z76_b; (try dsimp only); exact OL.le⟩
noncomputable def Z76_R (f : Nat) : Nat -> (type_of% @Z76)
  | 0 => (fun _ _ _ _ _ => none)
  | n + 1 => (Z76_B f (Z76_R f n))
theorem Z76_R_le f : ∀ n, (∀ depth1 b2 b3 b4 b5, OL (Z76_R f n depth1 b2 b3 b4 b5) (Z76 depth1 b2 b3 b4 b5))
  | 0 => fun _ _ _ _ _ => ⟨Ole.none⟩
  | n + 1 => by have h0 := (Z76_R_le f n); exact fun depth1 b2 b3 b4 b5 => Z76_oB f (Z76_R f n) depth1 b2 b3 b4 b5
noncomputable def Z76_F (f : Nat) := Z76_R f f
instance Z76_o f depth1 b2 b3 b4 b5 : OL (Z76_F f depth1 b2 b3 b4 b5) (Z76 depth1 b2 b3 b4 b5) := (Z76_R_le f f) depth1 b2 b3 b4 b5
noncomputable def Z48_F (f : Nat) := Z48_b (Z76_F f)
instance Z48_o f b1 : OL (Z48_F f b1) (Z48 b1) := ⟨by rw [Z48_eq]; unfold Z48_F Z48_b; (try dsimp only); exact OL.le⟩
noncomputable def Z68_F (f : Nat) := Z68_b
instance Z68_o f kind1 n2 : OL (Z68_F f kind1 n2) (Z68 kind1 n2) := ⟨by rw [Z68_eq]; unfold Z68_F Z68_b; (try dsimp only); exact OL.le⟩
noncomputable def Z105_F (f : Nat) := Z105_b
instance Z105_o f b1 b2 b3 b4 b5 b6 b7 b8 : OL (Z105_F f b1 b2 b3 b4 b5 b6 b7 b8) (Z105 b1 b2 b3 b4 b5 b6 b7 b8) := ⟨by rw [Z105_eq]; unfold Z105_F Z105_b; (try dsimp only); exact OL.le⟩
noncomputable def Z103_F (f : Nat) := Z103_b (itf f) Z103l7
instance Z103_o f m1 m2 : OL (Z103_F f m1 m2) (Z103 m1 m2) := ⟨by rw [Z103_eq]; unfold Z103_F Z103_b; (try dsimp only); exact OL.le⟩
noncomputable def Z141_F (f : Nat) := Z141_b
instance Z141_o f : OL (Z141_F f) (Z141) := ⟨by rw [Z141_eq]; unfold Z141_F Z141_b; (try dsimp only); exact OL.le⟩
noncomputable def Z140_F (f : Nat) := Z140_b
instance Z140_o f m1 m2 : OL (Z140_F f m1 m2) (Z140 m1 m2) := ⟨by rw [Z140_eq]; unfold Z140_F Z140_b; (try dsimp only); exact OL.le⟩
noncomputable def Z104_F (f : Nat) := Z104_b (Z140_F f) (Z141_F f)
instance Z104_o f m1 m2 : OL (Z104_F f m1 m2) (Z104 m1 m2) := ⟨by rw [Z104_eq]; unfold Z104_F Z104_b; (try dsimp only); exact OL.le⟩
noncomputable def Z69l5_F (f : Nat) := Z69l5_b (Z105_F f)
instance Z69l5_o f s11 : OL (Z69l5_F f s11) (Z69l5 s11) := ⟨by unfold Z69l5_F Z69l5 Z69l5_b; (try dsimp only); exact OL.le⟩
noncomputable def Z69_F (f : Nat) := Z69_b (Z103_F f) (Z104_F f) (itf f) (Z69l5_F f)
instance Z69_o f m1 m2 b3 : OL (Z69_F f m1 m2 b3) (Z69 m1 m2 b3) := ⟨by rw [Z69_eq]; unfold Z69_F Z69_b; (try dsimp only); exact OL.le⟩
noncomputable def Z142_F (f : Nat) := Z142_b
instance Z142_o f b1 b2 b3 b4 b5 b6 b7 b8 b9 : OL (Z142_F f b1 b2 b3 b4 b5 b6 b7 b8 b9) (Z142 b1 b2 b3 b4 b5 b6 b7 b8 b9) := ⟨by rw [Z142_eq]; unfold Z142_F Z142_b; (try dsimp only); exact OL.le⟩
noncomputable def Z147_F (f : Nat) := Z147_b
instance Z147_o f b1 b2 b3 b4 b5 b6 b7 b8 b9 : OL (Z147_F f b1 b2 b3 b4 b5 b6 b7 b8 b9) (Z147 b1 b2 b3 b4 b5 b6 b7 b8 b9) := ⟨by rw [Z147_eq]; unfold Z147_F Z147_b; (try dsimp only); exact OL.le⟩
noncomputable def Z146_F (f : Nat) := Z146_b
instance Z146_o f b1 b2 b3 b4 b5 b6 b7 b8 b9 : OL (Z146_F f b1 b2 b3 b4 b5 b6 b7 b8 b9) (Z146 b1 b2 b3 b4 b5 b6 b7 b8 b9) := ⟨by rw [Z146_eq]; unfold Z146_F Z146_b; (try dsimp only); exact OL.le⟩
noncomputable def Z173_F (f : Nat) := Z173_b
instance Z173_o f kind1 s2 : OL (Z173_F f kind1 s2) (Z173 kind1 s2) := ⟨by rw [Z173_eq]; unfold Z173_F Z173_b; (try dsimp only); exact OL.le⟩
noncomputable def Z143_F (f : Nat) := Z143_b (Z173_F f)
instance Z143_o f ctx1 b2 b3 b4 b5 b6 b7 b8 b9 b10 : OL (Z143_F f ctx1 b2 b3 b4 b5 b6 b7 b8 b9 b10) (Z143 ctx1 b2 b3 b4 b5 b6 b7 b8 b9 b10) := ⟨by rw [Z143_eq]; unfold Z143_F Z143_b; (try dsimp only); exact OL.le⟩
noncomputable def Z145_F (f : Nat) := Z145_b
instance Z145_o f b1 b2 b3 b4 b5 b6 b7 b8 b9 : OL (Z145_F f b1 b2 b3 b4 b5 b6 b7 b8 b9) (Z145 b1 b2 b3 b4 b5 b6 b7 b8 b9) := ⟨by rw [Z145_eq]; unfold Z145_F Z145_b; (try dsimp only); exact OL.le⟩
noncomputable def Z174_F (f : Nat) := Z174_b
instance Z174_o f kind1 s2 bit3 : OL (Z174_F f kind1 s2 bit3) (Z174 kind1 s2 bit3) := ⟨by rw [Z174_eq]; unfold Z174_F Z174_b; (try dsimp only); exact OL.le⟩
noncomputable def Z144_F (f : Nat) := Z144_b (Z174_F f)
instance Z144_o f ctx1 bit2 mid3 b4 b5 b6 b7 b8 b9 b10 b11 b12 : OL (Z144_F f ctx1 bit2 mid3 b4 b5 b6 b7 b8 b9 b10 b11 b12) (Z144 ctx1 bit2 mid3 b4 b5 b6 b7 b8 b9 b10 b11 b12) := ⟨by rw [Z144_eq]; unfold Z144_F Z144_b; (try dsimp only); exact OL.le⟩
noncomputable def Z106l12_F (f : Nat) := Z106l12_b (Z145_F f) (Z146_F f) (Z147_F f)
instance Z106l12_o f s51 : OL (Z106l12_F f s51) (Z106l12 s51) := ⟨by unfold Z106l12_F Z106l12 Z106l12_b; (try dsimp only); exact OL.le⟩
noncomputable def Z106_F (f : Nat) := Z106_b (Z142_F f) (Z143_F f) (Z144_F f) (itf f) (Z106l12_F f)
instance Z106_o f ctx1 b2 b3 b4 b5 b6 b7 b8 b9 b10 : OL (Z106_F f ctx1 b2 b3 b4 b5 b6 b7 b8 b9 b10) (Z106 ctx1 b2 b3 b4 b5 b6 b7 b8 b9 b10) := ⟨by rw [Z106_eq]; unfold Z106_F Z106_b; (try dsimp only); exact OL.le⟩
noncomputable def Z107_F (f : Nat) := Z107_b (Z142_F f) (Z140_F f)
instance Z107_o f b1 b2 b3 b4 b5 b6 b7 b8 b9 : OL (Z107_F f b1 b2 b3 b4 b5 b6 b7 b8 b9) (Z107 b1 b2 b3 b4 b5 b6 b7 b8 b9) := ⟨by rw [Z107_eq]; unfold Z107_F Z107_b; (try dsimp only); exact OL.le⟩
noncomputable def Z108_F (f : Nat) := Z108_b
instance Z108_o f m1 m2 base3 n4 : OL (Z108_F f m1 m2 base3 n4) (Z108 m1 m2 base3 n4) := ⟨by rw [Z108_eq]; unfold Z108_F Z108_b; (try dsimp only); exact OL.le⟩
noncomputable def Z148_F (f : Nat) := Z148_b
instance Z148_o f b1 : OL (Z148_F f b1) (Z148 b1) := ⟨by rw [Z148_eq]; unfold Z148_F Z148_b; (try dsimp only); exact OL.le⟩
noncomputable def Z109l5_F (f : Nat) := Z109l5_b (Z106_F f)
instance Z109l5_o f base1 s24 : OL (Z109l5_F f base1 s24) (Z109l5 base1 s24) := ⟨by unfold Z109l5_F Z109l5 Z109l5_b; (try dsimp only); exact OL.le⟩
noncomputable def Z109l14_F (f : Nat) := Z109l14_b (Z148_F f) (Z106_F f)
instance Z109l14_o f base1 c53 s79 : OL (Z109l14_F f base1 c53 s79) (Z109l14 base1 c53 s79) := ⟨by unfold Z109l14_F Z109l14 Z109l14_b; (try dsimp only); exact OL.le⟩
noncomputable def Z109_F (f : Nat) := Z109_b (Z106_F f) (itf f) (Z109l5_F f) (Z109l14_F f)
instance Z109_o f base1 b2 b3 b4 b5 b6 b7 b8 b9 b10 : OL (Z109_F f base1 b2 b3 b4 b5 b6 b7 b8 b9 b10) (Z109 base1 b2 b3 b4 b5 b6 b7 b8 b9 b10) := ⟨by rw [Z109_eq]; unfold Z109_F Z109_b; (try dsimp only); exact OL.le⟩
noncomputable def Z71_F (f : Nat) := Z71_b (Z106_F f) (Z107_F f) (Z108_F f) (Z109_F f)
instance Z71_o f base1 b2 b3 b4 b5 b6 b7 b8 b9 b10 : OL (Z71_F f base1 b2 b3 b4 b5 b6 b7 b8 b9 b10) (Z71 base1 b2 b3 b4 b5 b6 b7 b8 b9 b10) := ⟨by rw [Z71_eq]; unfold Z71_F Z71_b; (try dsimp only); exact OL.le⟩
noncomputable def Z189_F (f : Nat) := Z189_b
instance Z189_o f s1 : OL (Z189_F f s1) (Z189 s1) := ⟨by rw [Z189_eq]; unfold Z189_F Z189_b; (try dsimp only); exact OL.le⟩
noncomputable def Z175l2_F (f : Nat) := Z175l2_b (Z189_F f)
instance Z175l2_o f s1 v2 : OL (Z175l2_F f s1 v2) (Z175l2 s1 v2) := ⟨by unfold Z175l2_F Z175l2 Z175l2_b; (try dsimp only); exact OL.le⟩
noncomputable def Z175_F (f : Nat) := Z175_b (itf f) (Z175l2_F f)
instance Z175_o f s1 : OL (Z175_F f s1) (Z175 s1) := ⟨by rw [Z175_eq]; unfold Z175_F Z175_b; (try dsimp only); exact OL.le⟩
noncomputable def Z149_F (f : Nat) := Z149_b (Z175_F f)
instance Z149_o f s1 : OL (Z149_F f s1) (Z149 s1) := ⟨by rw [Z149_eq]; unfold Z149_F Z149_b; (try dsimp only); exact OL.le⟩
noncomputable def Z110_F (f : Nat) := Z110_b (Z149_F f)
instance Z110_o f l1 : OL (Z110_F f l1) (Z110 l1) := ⟨by rw [Z110_eq]; unfold Z110_F Z110_b; (try dsimp only); exact OL.le⟩
noncomputable def Z112_F (f : Nat) := Z112_b
instance Z112_o f place1 b2 : OL (Z112_F f place1 b2) (Z112 place1 b2) := ⟨by rw [Z112_eq]; unfold Z112_F Z112_b; (try dsimp only); exact OL.le⟩
noncomputable def Z111_F (f : Nat) := Z111_b (itf f) Z111l3
instance Z111_o f : OL (Z111_F f) (Z111) := ⟨by rw [Z111_eq]; unfold Z111_F Z111_b; (try dsimp only); exact OL.le⟩
noncomputable def Z72l7_F (f : Nat) := Z72l7_b (Z112_F f)
instance Z72l7_o f l1 s4 : OL (Z72l7_F f l1 s4) (Z72l7 l1 s4) := ⟨by unfold Z72l7_F Z72l7 Z72l7_b; (try dsimp only); exact OL.le⟩
noncomputable def Z72_F (f : Nat) := Z72_b (Z110_F f) (Z111_F f) (itf f) (Z72l7_F f)
instance Z72_o f l1 : OL (Z72_F f l1) (Z72 l1) := ⟨by rw [Z72_eq]; unfold Z72_F Z72_b; (try dsimp only); exact OL.le⟩
noncomputable def Z70_F (f : Nat) := Z70_b
instance Z70_o f last1 : OL (Z70_F f last1) (Z70 last1) := ⟨by rw [Z70_eq]; unfold Z70_F Z70_b; (try dsimp only); exact OL.le⟩
noncomputable def Z113_F (f : Nat) := Z113_b
instance Z113_o f b1 : OL (Z113_F f b1) (Z113 b1) := ⟨by rw [Z113_eq]; unfold Z113_F Z113_b; (try dsimp only); exact OL.le⟩
noncomputable def Z115_F (f : Nat) := Z115_b (itf f) Z115l4
instance Z115_o f s1 s2 : OL (Z115_F f s1 s2) (Z115 s1 s2) := ⟨by rw [Z115_eq]; unfold Z115_F Z115_b; (try dsimp only); exact OL.le⟩
noncomputable def Z191_F (f : Nat) := Z191_b
instance Z191_o f x1 : OL (Z191_F f x1) (Z191 x1) := ⟨by rw [Z191_eq]; unfold Z191_F Z191_b; (try dsimp only); exact OL.le⟩
noncomputable def Z182_F (f : Nat) := Z182_b (Z191_F f)
instance Z182_o f x1 : OL (Z182_F f x1) (Z182 x1) := ⟨by rw [Z182_eq]; unfold Z182_F Z182_b; (try dsimp only); exact OL.le⟩
noncomputable def Z205_F (f : Nat) := Z205_b (Z182_F f)
instance Z205_o f length1 : OL (Z205_F f length1) (Z205 length1) := ⟨by rw [Z205_eq]; unfold Z205_F Z205_b; (try dsimp only); exact OL.le⟩
noncomputable def Z206_F (f : Nat) := Z206_b
instance Z206_o f b1 : OL (Z206_F f b1) (Z206 b1) := ⟨by rw [Z206_eq]; unfold Z206_F Z206_b; (try dsimp only); exact OL.le⟩
noncomputable def Z197l5_F (f : Nat) := Z197l5_b (Z206_F f)
instance Z197l5_o f a1 t5 q7 s12 : OL (Z197l5_F f a1 t5 q7 s12) (Z197l5 a1 t5 q7 s12) := ⟨by unfold Z197l5_F Z197l5 Z197l5_b; (try dsimp only); exact OL.le⟩
noncomputable def Z197_F (f : Nat) := Z197_b (Z205_F f) (itf f) (Z197l5_F f)
instance Z197_o f a1 b2 b3 b4 : OL (Z197_F f a1 b2 b3 b4) (Z197 a1 b2 b3 b4) := ⟨by rw [Z197_eq]; unfold Z197_F Z197_b; (try dsimp only); exact OL.le⟩
noncomputable def Z209_F (f : Nat) := Z209_b
instance Z209_o f a1 b2 : OL (Z209_F f a1 b2) (Z209 a1 b2) := ⟨by rw [Z209_eq]; unfold Z209_F Z209_b; (try dsimp only); exact OL.le⟩
noncomputable def Z201_F (f : Nat) := Z201_b (Z209_F f)
instance Z201_o f a1 b2 b3 : OL (Z201_F f a1 b2 b3) (Z201 a1 b2 b3) := ⟨by rw [Z201_eq]; unfold Z201_F Z201_b; (try dsimp only); exact OL.le⟩
noncomputable def Z210_F (f : Nat) := Z210_b (Z201_F f)
instance Z210_o f a1 b2 b3 b4 b5 : OL (Z210_F f a1 b2 b3 b4 b5) (Z210 a1 b2 b3 b4 b5) := ⟨by rw [Z210_eq]; unfold Z210_F Z210_b; (try dsimp only); exact OL.le⟩
noncomputable def Z208_F (f : Nat) := Z208_b (Z210_F f)
instance Z208_o f a1 b2 c3 b4 b5 b6 : OL (Z208_F f a1 b2 c3 b4 b5 b6) (Z208 a1 b2 c3 b4 b5 b6) := ⟨by rw [Z208_eq]; unfold Z208_F Z208_b; (try dsimp only); exact OL.le⟩
noncomputable def Z207_F (f : Nat) := Z207_b (Z208_F f)
instance Z207_o f a1 b2 b3 b4 : OL (Z207_F f a1 b2 b3 b4) (Z207 a1 b2 b3 b4) := ⟨by rw [Z207_eq]; unfold Z207_F Z207_b; (try dsimp only); exact OL.le⟩
noncomputable def Z198_F (f : Nat) := Z198_b (Z207_F f) (Z208_F f)
instance Z198_o f a1 b2 b3 b4 : OL (Z198_F f a1 b2 b3 b4) (Z198 a1 b2 b3 b4) := ⟨by rw [Z198_eq]; unfold Z198_F Z198_b; (try dsimp only); exact OL.le⟩
noncomputable def Z204l1_F (f : Nat) := Z204l1_b (Z201_F f)
instance Z204l1_o f hi2 first3 s6 : OL (Z204l1_F f hi2 first3 s6) (Z204l1 hi2 first3 s6) := ⟨by unfold Z204l1_F Z204l1 Z204l1_b; (try dsimp only); exact OL.le⟩
noncomputable def Z204_F (f : Nat) := Z204_b (itf f) (Z204l1_F f)
instance Z204_o f lo1 hi2 first3 b4 b5 : OL (Z204_F f lo1 hi2 first3 b4 b5) (Z204 lo1 hi2 first3 b4 b5) := ⟨by rw [Z204_eq]; unfold Z204_F Z204_b; (try dsimp only); exact OL.le⟩
noncomputable def Z196l4_F (f : Nat) := Z196l4_b (Z204_F f)
instance Z196l4_o f a1 t5 s8 : OL (Z196l4_F f a1 t5 s8) (Z196l4 a1 t5 s8) := ⟨by unfold Z196l4_F Z196l4 Z196l4_b; (try dsimp only); exact OL.le⟩
noncomputable def Z196l8_F (f : Nat) := Z196l8_b (Z204_F f)
instance Z196l8_o f a1 s20 : OL (Z196l8_F f a1 s20) (Z196l8 a1 s20) := ⟨by unfold Z196l8_F Z196l8 Z196l8_b; (try dsimp only); exact OL.le⟩
noncomputable def Z196_F (f : Nat) := Z196_b (itf f) (Z196l4_F f) (Z196l8_F f)
instance Z196_o f a1 b2 b3 b4 : OL (Z196_F f a1 b2 b3 b4) (Z196 a1 b2 b3 b4) := ⟨by rw [Z196_eq]; unfold Z196_F Z196_b; (try dsimp only); exact OL.le⟩
noncomputable def Z195l4_F (f : Nat) := Z195l4_b (Z201_F f)
instance Z195l4_o f a1 s10 : OL (Z195l4_F f a1 s10) (Z195l4 a1 s10) := ⟨by unfold Z195l4_F Z195l4 Z195l4_b; (try dsimp only); exact OL.le⟩
noncomputable def Z195l1_F (f : Nat) := Z195l1_b (itf f) (Z195l4_F f)
instance Z195l1_o f a1 b2 s6 : OL (Z195l1_F f a1 b2 s6) (Z195l1 a1 b2 s6) := ⟨by unfold Z195l1_F Z195l1 Z195l1_b; (try dsimp only); exact OL.le⟩
noncomputable def Z195_F (f : Nat) := Z195_b (itf f) (Z195l1_F f)
instance Z195_o f a1 b2 b3 b4 : OL (Z195_F f a1 b2 b3 b4) (Z195 a1 b2 b3 b4) := ⟨by rw [Z195_eq]; unfold Z195_F Z195_b; (try dsimp only); exact OL.le⟩
noncomputable def Z200l5_F (f : Nat) := Z200l5_b (Z201_F f)
instance Z200l5_o f b2 b9 s11 : OL (Z200l5_F f b2 b9 s11) (Z200l5 b2 b9 s11) := ⟨by unfold Z200l5_F Z200l5 Z200l5_b; (try dsimp only); exact OL.le⟩
noncomputable def Z200l14_F (f : Nat) := Z200l14_b (Z201_F f)
instance Z200l14_o f s33 : OL (Z200l14_F f s33) (Z200l14 s33) := ⟨by unfold Z200l14_F Z200l14 Z200l14_b; (try dsimp only); exact OL.le⟩
noncomputable def Z200l20_F (f : Nat) := Z200l20_b (Z201_F f)
instance Z200l20_o f b2 s58 : OL (Z200l20_F f b2 s58) (Z200l20 b2 s58) := ⟨by unfold Z200l20_F Z200l20 Z200l20_b; (try dsimp only); exact OL.le⟩
noncomputable def Z200l3_F (f : Nat) := Z200l3_b (itf f) (Z200l5_F f) (Z200l14_F f) (Z200l20_F f)
instance Z200l3_o f a1 b2 s6 : OL (Z200l3_F f a1 b2 s6) (Z200l3 a1 b2 s6) := ⟨by unfold Z200l3_F Z200l3 Z200l3_b; (try dsimp only); exact OL.le⟩
noncomputable def Z200_F (f : Nat) := Z200_b (itf f) (Z200l3_F f)
instance Z200_o f a1 b2 b3 b4 : OL (Z200_F f a1 b2 b3 b4) (Z200 a1 b2 b3 b4) := ⟨by rw [Z200_eq]; unfold Z200_F Z200_b; (try dsimp only); exact OL.le⟩
noncomputable def Z203l3_F (f : Nat) := Z203l3_b (Z201_F f)
instance Z203l3_o f a1 w9 t11 s12 : OL (Z203l3_F f a1 w9 t11 s12) (Z203l3 a1 w9 t11 s12) := ⟨by unfold Z203l3_F Z203l3 Z203l3_b; (try dsimp only); exact OL.le⟩
noncomputable def Z203l5_F (f : Nat) := Z203l5_b (Z201_F f)
instance Z203l5_o f a1 w9 i22 s24 : OL (Z203l5_F f a1 w9 i22 s24) (Z203l5 a1 w9 i22 s24) := ⟨by unfold Z203l5_F Z203l5 Z203l5_b; (try dsimp only); exact OL.le⟩
noncomputable def Z203l13_F (f : Nat) := Z203l13_b (Z201_F f)
instance Z203l13_o f a1 j48 b49 s51 : OL (Z203l13_F f a1 j48 b49 s51) (Z203l13 a1 j48 b49 s51) := ⟨by unfold Z203l13_F Z203l13 Z203l13_b; (try dsimp only); exact OL.le⟩
noncomputable def Z203l15_F (f : Nat) := Z203l15_b (Z201_F f)
instance Z203l15_o f a1 b49 i61 s63 : OL (Z203l15_F f a1 b49 i61 s63) (Z203l15 a1 b49 i61 s63) := ⟨by unfold Z203l15_F Z203l15 Z203l15_b; (try dsimp only); exact OL.le⟩
noncomputable def Z203l1000013_F (f : Nat) := Z203l1000013_b (itf f) (Z203l13_F f) (Z203l15_F f)
instance Z203l1000013_o f a1 s46 : OL (Z203l1000013_F f a1 s46) (Z203l1000013 a1 s46) := ⟨by unfold Z203l1000013_F Z203l1000013 Z203l1000013_b; (try dsimp only); exact OL.le⟩
noncomputable def Z203_F (f : Nat) := Z203_b (itf f) (Z203l3_F f) (Z203l5_F f) (Z203l1000013_F f)
instance Z203_o f a1 b2 pivot3 b4 b5 : OL (Z203_F f a1 b2 pivot3 b4 b5) (Z203 a1 b2 pivot3 b4 b5) := ⟨by rw [Z203_eq]; unfold Z203_F Z203_b; (try dsimp only); exact OL.le⟩
noncomputable def Z202l3_F (f : Nat) := Z202l3_b (Z201_F f)
instance Z202l3_o f a1 j14 b15 s17 : OL (Z202l3_F f a1 j14 b15 s17) (Z202l3 a1 j14 b15 s17) := ⟨by unfold Z202l3_F Z202l3 Z202l3_b; (try dsimp only); exact OL.le⟩
noncomputable def Z202l5_F (f : Nat) := Z202l5_b (Z201_F f)
instance Z202l5_o f a1 b15 i27 s29 : OL (Z202l5_F f a1 b15 i27 s29) (Z202l5 a1 b15 i27 s29) := ⟨by unfold Z202l5_F Z202l5 Z202l5_b; (try dsimp only); exact OL.le⟩
noncomputable def Z202l1000003_F (f : Nat) := Z202l1000003_b (itf f) (Z202l3_F f) (Z202l5_F f)
instance Z202l1000003_o f a1 s12 : OL (Z202l1000003_F f a1 s12) (Z202l1000003 a1 s12) := ⟨by unfold Z202l1000003_F Z202l1000003 Z202l1000003_b; (try dsimp only); exact OL.le⟩
noncomputable def Z202_F (f : Nat) := Z202_b (itf f) (Z202l1000003_F f)
instance Z202_o f a1 b2 pivot3 b4 b5 : OL (Z202_F f a1 b2 pivot3 b4 b5) (Z202 a1 b2 pivot3 b4 b5) := ⟨by rw [Z202_eq]; unfold Z202_F Z202_b; (try dsimp only); exact OL.le⟩
noncomputable def Z199_F (f : Nat) := Z199_b (itf f) Z199l2
instance Z199_o f a1 b2 b3 b4 : OL (Z199_F f a1 b2 b3 b4) (Z199 a1 b2 b3 b4) := ⟨by rw [Z199_eq]; unfold Z199_F Z199_b; (try dsimp only); exact OL.le⟩
noncomputable def Z190l2_F (f : Nat) (r_Z190 : type_of% @Z190) := Z190l2_b (Z195_F f) (Z196_F f) (Z197_F f) (Z198_F f) (Z199_F f) (Z200_F f) (Z201_F f) (Z202_F f) (Z203_F f) r_Z190
instance Z190l2_o f (r_Z190 : type_of% @Z190) [h_Z190 : ∀ a1 b2 limit3 b4 b5, OL (r_Z190 a1 b2 limit3 b4 b5) (Z190 a1 b2 limit3 b4 b5)] s6 : OL (Z190l2_F f r_Z190 s6) (Z190l2 s6) := ⟨by unfold Z190l2_F Z190l2 Z190l2_b; (try dsimp only); exact OL.le⟩
noncomputable def Z190_B (f : Nat) (r_Z190 : type_of% @Z190) := Z190_b (itf f) (Z190l2_F f r_Z190)
instance Z190_oB f (r_Z190 : type_of% @Z190) [h_Z190 : ∀ a1 b2 limit3 b4 b5, OL (r_Z190 a1 b2 limit3 b4 b5) (Z190 a1 b2 limit3 b4 b5)] a1 b2 limit3 b4 b5 : OL (Z190_B f r_Z190 a1 b2 limit3 b4 b5) (Z190 a1 b2 limit3 b4 b5) := ⟨by rw [Z190_eq]; unfold Z190_B Z190_b; (try dsimp only); exact OL.le⟩
noncomputable def Z190_R (f : Nat) : Nat -> (type_of% @Z190)
  | 0 => (fun _ _ _ _ _ => none)
  | n + 1 => (Z190_B f (Z190_R f n))
theorem Z190_R_le f : ∀ n, (∀ a1 b2 limit3 b4 b5, OL (Z190_R f n a1 b2 limit3 b4 b5) (Z190 a1 b2 limit3 b4 b5))
  | 0 => fun _ _ _ _ _ => ⟨Ole.none⟩
  | n + 1 => by have h0 := (Z190_R_le f n); exact fun a1 b2 limit3 b4 b5 => Z190_oB f (Z190_R f n) a1 b2 limit3 b4 b5
noncomputable def Z190_F (f : Nat) := Z190_R f f
instance Z190_o f a1 b2 limit3 b4 b5 : OL (Z190_F f a1 b2 limit3 b4 b5) (Z190 a1 b2 limit3 b4 b5) := (Z190_R_le f f) a1 b2 limit3 b4 b5
noncomputable def Z176_F (f : Nat) := Z176_b (Z182_F f) (Z190_F f)
instance Z176_o f b1 b2 : OL (Z176_F f b1 b2) (Z176 b1 b2) := ⟨by rw [Z176_eq]; unfold Z176_F Z176_b; (try dsimp only); exact OL.le⟩
noncomputable def Z150_F (f : Nat) := Z150_b (itf f) Z150l3 (Z176_F f)
instance Z150_o f text1 : OL (Z150_F f text1) (Z150 text1) := ⟨by rw [Z150_eq]; unfold Z150_F Z150_b; (try dsimp only); exact OL.le⟩
noncomputable def Z114_F (f : Nat) := Z114_b (Z150_F f) (itf f) Z114l3
instance Z114_o f text1 : OL (Z114_F f text1) (Z114 text1) := ⟨by rw [Z114_eq]; unfold Z114_F Z114_b; (try dsimp only); exact OL.le⟩
noncomputable def Z73_F (f : Nat) := Z73_b (itf f) Z73l3 Z73l10 Z73l16 (Z113_F f) Z73l25 (Z114_F f) (Z115_F f)
instance Z73_o f l1 : OL (Z73_F f l1) (Z73 l1) := ⟨by rw [Z73_eq]; unfold Z73_F Z73_b; (try dsimp only); exact OL.le⟩
noncomputable def Z44l15_F (f : Nat) := Z44l15_b (Z70_F f) (Z71_F f)
instance Z44l15_o f t44 s45 : OL (Z44l15_F f t44 s45) (Z44l15 t44 s45) := ⟨by unfold Z44l15_F Z44l15 Z44l15_b; (try dsimp only); exact OL.le⟩
noncomputable def Z44_F (f : Nat) := Z44_b (Z67_F f) (Z68_F f) (Z69_F f) (itf f) (Z44l15_F f) (Z72_F f) (Z73_F f)
instance Z44_o f b1 : OL (Z44_F f b1) (Z44 b1) := ⟨by rw [Z44_eq]; unfold Z44_F Z44_b; (try dsimp only); exact OL.le⟩
noncomputable def Z27l10_F (f : Nat) := Z27l10_b (Z47_F f)
instance Z27l10_o f tr6 s15 : OL (Z27l10_F f tr6 s15) (Z27l10 tr6 s15) := ⟨by unfold Z27l10_F Z27l10 Z27l10_b; (try dsimp only); exact OL.le⟩
noncomputable def Z27l21_F (f : Nat) := Z27l21_b (Z33_F f)
instance Z27l21_o f files45 v51 : OL (Z27l21_F f files45 v51) (Z27l21 files45 v51) := ⟨by unfold Z27l21_F Z27l21 Z27l21_b; (try dsimp only); exact OL.le⟩
noncomputable def Z27_F (f : Nat) := Z27_b (Z44_F f) (Z45_F f) (Z46_F f) (itf f) (Z27l10_F f) (Z48_F f) (Z27l21_F f)
instance Z27_o f d1 : OL (Z27_F f d1) (Z27 d1) := ⟨by rw [Z27_eq]; unfold Z27_F Z27_b; (try dsimp only); exact OL.le⟩
noncomputable def Z102_F (fuel : Nat) (b1 : List Int) : Option (List Int) :=
 (if b1.length = 0 then
 (demD
 (some [])
 ((if (([] : List Int).length + b1.length) * 1 <= 140737488355328 then
 let t2 : List Int := ([] : List Int) ++ b1;
 some t2
 else
 none)))
 else
 (if (([] : List Int).length + b1.length) * 1 <= 140737488355328 then
 let t3 : List Int := ([] : List Int) ++ b1;
 some t3
 else
 none))
theorem Z102_F_le (fuel : Nat) (b1 : List Int) : Ole (Z102_F fuel b1) (Z102 b1) := by
  rw [Z102_eq]; unfold Z102_F; try dsimp only
  repeat' first | with_reducible exact Ole.refl _ | refine Ole.ite ?_ ?_ | refine Ole.iter fun _ => ?_ | refine Ole.elim (fun _ => ?_) (fun _ => ?_) | refine Ole.bind ?_ fun _ => ?_ | refine Ole.demD ?_ ?_
instance Z102_o f b1 : OL (Z102_F f b1) (Z102 b1) := ⟨Z102_F_le f b1⟩
noncomputable def Z100_F (f : Nat) := Z100_b
instance Z100_o f ok1 err2 at3 b4 b5 b6 b7 : OL (Z100_F f ok1 err2 at3 b4 b5 b6 b7) (Z100 ok1 err2 at3 b4 b5 b6 b7) := ⟨by rw [Z100_eq]; unfold Z100_F Z100_b; (try dsimp only); exact OL.le⟩
noncomputable def Z138_F (f : Nat) := Z138_b (itf f) Z138l4
instance Z138_o f s1 : OL (Z138_F f s1) (Z138 s1) := ⟨by rw [Z138_eq]; unfold Z138_F Z138_b; (try dsimp only); exact OL.le⟩
noncomputable def Z99_F (f : Nat) := Z99_b (Z100_F f) (Z138_F f)
instance Z99_o f at1 end2 b3 b4 b5 b6 : OL (Z99_F f at1 end2 b3 b4 b5 b6) (Z99 at1 end2 b3 b4 b5 b6) := ⟨by rw [Z99_eq]; unfold Z99_F Z99_b; (try dsimp only); exact OL.le⟩
noncomputable def Z139_F (f : Nat) := Z139_b (Z138_F f)
instance Z139_o f s1 : OL (Z139_F f s1) (Z139 s1) := ⟨by rw [Z139_eq]; unfold Z139_F Z139_b; (try dsimp only); exact OL.le⟩
noncomputable def Z101_F (f : Nat) := Z101_b (Z100_F f) (Z139_F f)
instance Z101_o f at1 end2 b3 b4 b5 b6 : OL (Z101_F f at1 end2 b3 b4 b5 b6) (Z101 at1 end2 b3 b4 b5 b6) := ⟨by rw [Z101_eq]; unfold Z101_F Z101_b; (try dsimp only); exact OL.le⟩
noncomputable def Z43l2_F (f : Nat) (r_Z43 : type_of% @Z43) (r_Z66 : type_of% @Z66) := Z43l2_b r_Z66
instance Z43l2_o f (r_Z43 : type_of% @Z43) (r_Z66 : type_of% @Z66) [h_Z43 : ∀ at1 end2 depth3 b4 b5 b6 b7, OL (r_Z43 at1 end2 depth3 b4 b5 b6 b7) (Z43 at1 end2 depth3 b4 b5 b6 b7)] [h_Z66 : ∀ at1 end2 depth3 b4 b5 b6 b7, OL (r_Z66 at1 end2 depth3 b4 b5 b6 b7) (Z66 at1 end2 depth3 b4 b5 b6 b7)] end2 depth3 s8 : OL (Z43l2_F f r_Z43 r_Z66 end2 depth3 s8) (Z43l2 end2 depth3 s8) := ⟨by unfold Z43l2_F Z43l2 Z43l2_b; (try dsimp only); exact OL.le⟩
noncomputable def Z43_B (f : Nat) (r_Z43 : type_of% @Z43) (r_Z66 : type_of% @Z66) := Z43_b (itf f) (Z43l2_F f r_Z43 r_Z66)
instance Z43_oB f (r_Z43 : type_of% @Z43) (r_Z66 : type_of% @Z66) [h_Z43 : ∀ at1 end2 depth3 b4 b5 b6 b7, OL (r_Z43 at1 end2 depth3 b4 b5 b6 b7) (Z43 at1 end2 depth3 b4 b5 b6 b7)] [h_Z66 : ∀ at1 end2 depth3 b4 b5 b6 b7, OL (r_Z66 at1 end2 depth3 b4 b5 b6 b7) (Z66 at1 end2 depth3 b4 b5 b6 b7)] at1 end2 depth3 b4 b5 b6 b7 : OL (Z43_B f r_Z43 r_Z66 at1 end2 depth3 b4 b5 b6 b7) (Z43 at1 end2 depth3 b4 b5 b6 b7) := ⟨by rw [Z43_eq]; unfold Z43_B Z43_b; (try dsimp only); exact OL.le⟩
noncomputable def Z66_B (f : Nat) (r_Z43 : type_of% @Z43) (r_Z66 : type_of% @Z66) := Z66_b (Z99_F f) (Z100_F f) (itf f) Z66l7 (Z101_F f) r_Z43 (Z102_F f)
instance Z66_oB f (r_Z43 : type_of% @Z43) (r_Z66 : type_of% @Z66) [h_Z43 : ∀ at1 end2 depth3 b4 b5 b6 b7, OL (r_Z43 at1 end2 depth3 b4 b5 b6 b7) (Z43 at1 end2 depth3 b4 b5 b6 b7)] [h_Z66 : ∀ at1 end2 depth3 b4 b5 b6 b7, OL (r_Z66 at1 end2 depth3 b4 b5 b6 b7) (Z66 at1 end2 depth3 b4 b5 b6 b7)] at1 end2 depth3 b4 b5 b6 b7 : OL (Z66_B f r_Z43 r_Z66 at1 end2 depth3 b4 b5 b6 b7) (Z66 at1 end2 depth3 b4 b5 b6 b7) := ⟨by rw [Z66_eq]; unfold Z66_B Z66_b; (try dsimp only); exact OL.le⟩
noncomputable def Z43_R (f : Nat) : Nat -> (type_of% @Z43) × (type_of% @Z66)
  | 0 => (fun _ _ _ _ _ _ _ => none, fun _ _ _ _ _ _ _ => none)
  | n + 1 => (Z43_B f (Z43_R f n).1 (Z43_R f n).2, Z66_B f (Z43_R f n).1 (Z43_R f n).2)
theorem Z43_R_le f : ∀ n, (∀ at1 end2 depth3 b4 b5 b6 b7, OL ((Z43_R f n).1 at1 end2 depth3 b4 b5 b6 b7) (Z43 at1 end2 depth3 b4 b5 b6 b7)) ∧ (∀ at1 end2 depth3 b4 b5 b6 b7, OL ((Z43_R f n).2 at1 end2 depth3 b4 b5 b6 b7) (Z66 at1 end2 depth3 b4 b5 b6 b7))
  | 0 => ⟨fun _ _ _ _ _ _ _ => ⟨Ole.none⟩, fun _ _ _ _ _ _ _ => ⟨Ole.none⟩⟩
  | n + 1 => by have h0 := (Z43_R_le f n).1; have h1 := (Z43_R_le f n).2; exact ⟨fun at1 end2 depth3 b4 b5 b6 b7 => Z43_oB f (Z43_R f n).1 (Z43_R f n).2 at1 end2 depth3 b4 b5 b6 b7, fun at1 end2 depth3 b4 b5 b6 b7 => Z66_oB f (Z43_R f n).1 (Z43_R f n).2 at1 end2 depth3 b4 b5 b6 b7⟩
noncomputable def Z43_F (f : Nat) := (Z43_R f f).1
instance Z43_o f at1 end2 depth3 b4 b5 b6 b7 : OL (Z43_F f at1 end2 depth3 b4 b5 b6 b7) (Z43 at1 end2 depth3 b4 b5 b6 b7) := (Z43_R_le f f).1 at1 end2 depth3 b4 b5 b6 b7
noncomputable def Z66_F (f : Nat) := (Z43_R f f).2
instance Z66_o f at1 end2 depth3 b4 b5 b6 b7 : OL (Z66_F f at1 end2 depth3 b4 b5 b6 b7) (Z66 at1 end2 depth3 b4 b5 b6 b7) := (Z43_R_le f f).2 at1 end2 depth3 b4 b5 b6 b7
noncomputable def Z26_F (f : Nat) := Z26_b (Z43_F f)
instance Z26_o f b1 : OL (Z26_F f b1) (Z26 b1) := ⟨by rw [Z26_eq]; unfold Z26_F Z26_b; (try dsimp only); exact OL.le⟩
noncomputable def Z10_F (f : Nat) := Z10_b (Z26_F f) (Z27_F f)
instance Z10_o f index1 bound2 : OL (Z10_F f index1 bound2) (Z10 index1 bound2) := ⟨by rw [Z10_eq]; unfold Z10_F Z10_b; (try dsimp only); exact OL.le⟩
noncomputable def Z32_F (f : Nat) := Z32_b (Z52_F f)
instance Z32_o f f1 f2 f3 : OL (Z32_F f f1 f2 f3) (Z32 f1 f2 f3) := ⟨by rw [Z32_eq]; unfold Z32_F Z32_b; (try dsimp only); exact OL.le⟩
noncomputable def Z51l2_F (f : Nat) (r_Z51 : type_of% @Z51) := Z51l2_b r_Z51
instance Z51l2_o f (r_Z51 : type_of% @Z51) [h_Z51 : ∀ l1 depth2 b3, OL (r_Z51 l1 depth2 b3) (Z51 l1 depth2 b3)] l1 depth2 s4 : OL (Z51l2_F f r_Z51 l1 depth2 s4) (Z51l2 l1 depth2 s4) := ⟨by unfold Z51l2_F Z51l2 Z51l2_b; (try dsimp only); exact OL.le⟩
noncomputable def Z51_B (f : Nat) (r_Z51 : type_of% @Z51) := Z51_b (itf f) (Z51l2_F f r_Z51)
instance Z51_oB f (r_Z51 : type_of% @Z51) [h_Z51 : ∀ l1 depth2 b3, OL (r_Z51 l1 depth2 b3) (Z51 l1 depth2 b3)] l1 depth2 b3 : OL (Z51_B f r_Z51 l1 depth2 b3) (Z51 l1 depth2 b3) := ⟨by rw [Z51_eq]; unfold Z51_B Z51_b; (try dsimp only); exact OL.le⟩
noncomputable def Z51_R (f : Nat) : Nat -> (type_of% @Z51)
  | 0 => (fun _ _ _ => none)
  | n + 1 => (Z51_B f (Z51_R f n))
theorem Z51_R_le f : ∀ n, (∀ l1 depth2 b3, OL (Z51_R f n l1 depth2 b3) (Z51 l1 depth2 b3))
  | 0 => fun _ _ _ => ⟨Ole.none⟩
  | n + 1 => by have h0 := (Z51_R_le f n); exact fun l1 depth2 b3 => Z51_oB f (Z51_R f n) l1 depth2 b3
noncomputable def Z51_F (f : Nat) := Z51_R f f
instance Z51_o f l1 depth2 b3 : OL (Z51_F f l1 depth2 b3) (Z51 l1 depth2 b3) := (Z51_R_le f f) l1 depth2 b3
noncomputable def Z31_F (f : Nat) := Z31_b (Z51_F f)
instance Z31_o f l1 : OL (Z31_F f l1) (Z31 l1) := ⟨by rw [Z31_eq]; unfold Z31_F Z31_b; (try dsimp only); exact OL.le⟩
noncomputable def Z15l4_F (f : Nat) := Z15l4_b (Z32_F f) (Z33_F f)
instance Z15l4_o f b1 v5 : OL (Z15l4_F f b1 v5) (Z15l4 b1 v5) := ⟨by unfold Z15l4_F Z15l4 Z15l4_b; (try dsimp only); exact OL.le⟩
noncomputable def Z15_F (f : Nat) := Z15_b (Z31_F f) (itf f) (Z15l4_F f)
instance Z15_o f b1 b2 : OL (Z15_F f b1 b2) (Z15 b1 b2) := ⟨by rw [Z15_eq]; unfold Z15_F Z15_b; (try dsimp only); exact OL.le⟩
noncomputable def Z118_F (f : Nat) := Z118_b (itf f) Z118l5
instance Z118_o f n1 : OL (Z118_F f n1) (Z118 n1) := ⟨by rw [Z118_eq]; unfold Z118_F Z118_b; (try dsimp only); exact OL.le⟩
noncomputable def Z81_F (f : Nat) := Z81_b (Z118_F f)
instance Z81_o f n1 l2 : OL (Z81_F f n1 l2) (Z81 n1 l2) := ⟨by rw [Z81_eq]; unfold Z81_F Z81_b; (try dsimp only); exact OL.le⟩
noncomputable def Z151_F (f : Nat) := Z151_b (Z118_F f)
instance Z151_o f n1 : OL (Z151_F f n1) (Z151 n1) := ⟨by rw [Z151_eq]; unfold Z151_F Z151_b; (try dsimp only); exact OL.le⟩
noncomputable def Z177_F (f : Nat) := Z177_b
instance Z177_o f n1 : OL (Z177_F f n1) (Z177 n1) := ⟨by rw [Z177_eq]; unfold Z177_F Z177_b; (try dsimp only); exact OL.le⟩
noncomputable def B94 (f : Nat) := B63 (itf f) slices_Concat_byte_byte_loop3 (Z177_F f) slices_Concat_byte_byte_loop11
instance B607 f slices1 : OL (B94 f slices1) (slices_Concat_byte_byte slices1) := ⟨by rw [B122]; unfold B94 B63; (try dsimp only); exact OL.le⟩
noncomputable def Z119l3_F (f : Nat) (r_Z119 : type_of% @Z119) := Z119l3_b (Z151_F f) r_Z119 (B94 f)
instance Z119l3_o f (r_Z119 : type_of% @Z119) [h_Z119 : ∀ l1, OL (r_Z119 l1) (Z119 l1)] l1 s3 : OL (Z119l3_F f r_Z119 l1 s3) (Z119l3 l1 s3) := ⟨by unfold Z119l3_F Z119l3 Z119l3_b; (try dsimp only); exact OL.le⟩
noncomputable def Z119_B (f : Nat) (r_Z119 : type_of% @Z119) := Z119_b (Z151_F f) (itf f) (Z119l3_F f r_Z119)
instance Z119_oB f (r_Z119 : type_of% @Z119) [h_Z119 : ∀ l1, OL (r_Z119 l1) (Z119 l1)] l1 : OL (Z119_B f r_Z119 l1) (Z119 l1) := ⟨by rw [Z119_eq]; unfold Z119_B Z119_b; (try dsimp only); exact OL.le⟩
noncomputable def Z119_R (f : Nat) : Nat -> (type_of% @Z119)
  | 0 => (fun _ => none)
  | n + 1 => (Z119_B f (Z119_R f n))
theorem Z119_R_le f : ∀ n, (∀ l1, OL (Z119_R f n l1) (Z119 l1))
  | 0 => fun _ => ⟨Ole.none⟩
  | n + 1 => by have h0 := (Z119_R_le f n); exact fun l1 => Z119_oB f (Z119_R f n) l1
noncomputable def Z119_F (f : Nat) := Z119_R f f
instance Z119_o f l1 : OL (Z119_F f l1) (Z119 l1) := (Z119_R_le f f) l1
noncomputable def Z82_F (f : Nat) := Z82_b (Z31_F f) (Z119_F f)
instance Z82_o f l1 : OL (Z82_F f l1) (Z82 l1) := ⟨by rw [Z82_eq]; unfold Z82_F Z82_b; (try dsimp only); exact OL.le⟩
noncomputable def Z159_F (f : Nat) := Z159_b
instance Z159_o f b1 b2 b3 b4 b5 : OL (Z159_F f b1 b2 b3 b4 b5) (Z159 b1 b2 b3 b4 b5) := ⟨by rw [Z159_eq]; unfold Z159_F Z159_b; (try dsimp only); exact OL.le⟩
theorem Z159_F_le f b1 b2 b3 b4 b5 : Ole (Z159_F f b1 b2 b3 b4 b5) (Z159 b1 b2 b3 b4 b5) := OL.le
noncomputable def Z124l5_F (f : Nat) := Z124l5_b (itf f) Z124l10
instance Z124l5_o f tr9 tr10 s14 : OL (Z124l5_F f tr9 tr10 s14) (Z124l5 tr9 tr10 s14) := ⟨by unfold Z124l5_F Z124l5 Z124l5_b; (try dsimp only); exact OL.le⟩
noncomputable def Z124_F (f : Nat) := Z124_b (Z159_F f) (itf f) (Z124l5_F f)
instance Z124_o f b1 b2 b3 b4 b5 : OL (Z124_F f b1 b2 b3 b4 b5) (Z124 b1 b2 b3 b4 b5) := ⟨by rw [Z124_eq]; unfold Z124_F Z124_b; (try dsimp only); exact OL.le⟩
noncomputable def Z121_F (f : Nat) := Z121_b (Z103_F f) (Z104_F f)
instance Z121_o f m1 m2 : OL (Z121_F f m1 m2) (Z121 m1 m2) := ⟨by rw [Z121_eq]; unfold Z121_F Z121_b; (try dsimp only); exact OL.le⟩
noncomputable def Z156_F (f : Nat) := Z156_b (Z159_F f) (Z140_F f)
instance Z156_o f b1 b2 b3 b4 b5 : OL (Z156_F f b1 b2 b3 b4 b5) (Z156 b1 b2 b3 b4 b5) := ⟨by rw [Z156_eq]; unfold Z156_F Z156_b; (try dsimp only); exact OL.le⟩
noncomputable def Z181_F (f : Nat) := Z181_b
instance Z181_o f b1 b2 b3 b4 b5 : OL (Z181_F f b1 b2 b3 b4 b5) (Z181 b1 b2 b3 b4 b5) := ⟨by rw [Z181_eq]; unfold Z181_F Z181_b; (try dsimp only); exact OL.le⟩
theorem Z181_F_le f b1 b2 b3 b4 b5 : Ole (Z181_F f b1 b2 b3 b4 b5) (Z181 b1 b2 b3 b4 b5) := OL.le
noncomputable def Z178_F (f : Nat) := Z178_b (Z173_F f)
instance Z178_o f ctx1 b2 b3 b4 b5 b6 : OL (Z178_F f ctx1 b2 b3 b4 b5 b6) (Z178 ctx1 b2 b3 b4 b5 b6) := ⟨by rw [Z178_eq]; unfold Z178_F Z178_b; (try dsimp only); exact OL.le⟩
theorem Z178_F_le f ctx1 b2 b3 b4 b5 b6 : Ole (Z178_F f ctx1 b2 b3 b4 b5 b6) (Z178 ctx1 b2 b3 b4 b5 b6) := OL.le
noncomputable def Z180_F (f : Nat) := Z180_b
instance Z180_o f b1 b2 b3 b4 b5 : OL (Z180_F f b1 b2 b3 b4 b5) (Z180 b1 b2 b3 b4 b5) := ⟨by rw [Z180_eq]; unfold Z180_F Z180_b; (try dsimp only); exact OL.le⟩
theorem Z180_F_le f b1 b2 b3 b4 b5 : Ole (Z180_F f b1 b2 b3 b4 b5) (Z180 b1 b2 b3 b4 b5) := OL.le
noncomputable def Z179_F (f : Nat) := Z179_b (Z174_F f)
instance Z179_o f ctx1 bit2 mid3 b4 b5 b6 b7 b8 : OL (Z179_F f ctx1 bit2 mid3 b4 b5 b6 b7 b8) (Z179 ctx1 bit2 mid3 b4 b5 b6 b7 b8) := ⟨by rw [Z179_eq]; unfold Z179_F Z179_b; (try dsimp only); exact OL.le⟩
theorem Z179_F_le f ctx1 bit2 mid3 b4 b5 b6 b7 b8 : Ole (Z179_F f ctx1 bit2 mid3 b4 b5 b6 b7 b8) (Z179 ctx1 bit2 mid3 b4 b5 b6 b7 b8) := OL.le
noncomputable def Z154l6_F (fuel : Nat) (s32 : Int × Int × Int × (List Int) × (List Int)) : Option ((Int × Int × Int × (List Int) × (List Int)) ⊕ (Int × Int × Int × (List Int) × (List Int))) :=
 (Z180_F fuel s32.1 s32.2.1 s32.2.2.1 s32.2.2.2.1 s32.2.2.2.2).bind fun q38 =>
 (if q38.1 = true then
 ((Z181_F fuel q38.2.1 q38.2.2.1 q38.2.2.2.1 q38.2.2.2.2.1 q38.2.2.2.2.2).bind fun q45 =>
 (if (q45.2.2.2.2.2.length + ([q45.1] : List Int).length) * 1 <= 140737488355328 then
 let t52 : List Int := q45.2.2.2.2.2 ++ [q45.1];
 some (Sum.inl (q45.2.1, q45.2.2.1, q45.2.2.2.1, q45.2.2.2.2.1, t52))
 else
 none))
 else
 some (Sum.inr (q38.2.1, q38.2.2.1, q38.2.2.2.1, q38.2.2.2.2.1, q38.2.2.2.2.2)))
theorem Z154l6_F_le (fuel : Nat) (s32 : Int × Int × Int × (List Int) × (List Int)) : Ole (Z154l6_F fuel s32) (Z154l6 s32) := by
  unfold Z154l6_F Z154l6; try dsimp only
  repeat' first | with_reducible exact Ole.refl _ | refine Ole.ite ?_ ?_ | with_reducible exact Z159_F_le .. | with_reducible exact Z181_F_le .. | with_reducible exact Z178_F_le .. | with_reducible exact Z180_F_le .. | with_reducible exact Z179_F_le .. | refine Ole.iter fun _ => ?_ | refine Ole.elim (fun _ => ?_) (fun _ => ?_) | refine Ole.bind ?_ fun _ => ?_ | refine Ole.demD ?_ ?_
noncomputable def Z154_F (fuel : Nat) (ctx1 bit2 b3 b4 b5 : Int) (b6 b7 : List Int) : Option (Int × Int × Int × Int × (List Int) × (List Int)) :=
 (Z159_F fuel b3 b4 b5 b6 b7).bind fun q8 =>
 ((if q8.1 = true then
 some (Sum.inr 7)
 else
 ((if (decide (ctx1 < 0)) = true then
 some true
 else
 (if (decide (ctx1 ≥ ((q8.2.2.2.2.1.length : Nat) : Int))) = true then
 some true
 else
 (if (!decide (bit2 = 0)) = true then
 some (!decide (bit2 = 1))
 else
 some false))) : Option (Bool)).bind (fun v15 =>
 (if v15 = true then
 some (Sum.inr 2)
 else
 some (Sum.inl ())))) : Option ((Unit) ⊕ (Int))).bind (fun o18 =>
 (Sum.elim (fun (p16 : Unit) =>
 (Z178_F fuel ctx1 q8.2.1 q8.2.2.1 q8.2.2.2.1 q8.2.2.2.2.1 q8.2.2.2.2.2).bind fun q19 =>
 (Z179_F fuel ctx1 bit2 q19.1 q19.2.1 q19.2.2.1 q19.2.2.2.1 q19.2.2.2.2.1 q19.2.2.2.2.2).bind fun q26 =>
 (iter (Z154l6_F fuel) fuel (q26.1, q26.2.1, q26.2.2.1, q26.2.2.2.1, q26.2.2.2.2)).bind (fun p61 =>
 some (0, p61.1, p61.2.1, p61.2.2.1, p61.2.2.2.1, p61.2.2.2.2)))
 (fun (v17 : Int) =>
 some (v17, q8.2.1, q8.2.2.1, q8.2.2.2.1, q8.2.2.2.2.1, q8.2.2.2.2.2)) o18))
theorem Z154_F_le (fuel : Nat) (ctx1 bit2 b3 b4 b5 : Int) (b6 b7 : List Int) : Ole (Z154_F fuel ctx1 bit2 b3 b4 b5 b6 b7) (Z154 ctx1 bit2 b3 b4 b5 b6 b7) := by
  rw [Z154_eq]; unfold Z154_F; try dsimp only
  repeat' first | with_reducible exact Ole.refl _ | refine Ole.ite ?_ ?_ | with_reducible exact Z159_F_le .. | with_reducible exact Z181_F_le .. | with_reducible exact Z178_F_le .. | with_reducible exact Z180_F_le .. | with_reducible exact Z179_F_le .. | with_reducible exact Z154l6_F_le .. | refine Ole.iter fun _ => ?_ | refine Ole.elim (fun _ => ?_) (fun _ => ?_) | refine Ole.bind ?_ fun _ => ?_ | refine Ole.demD ?_ ?_
instance Z154_o f ctx1 bit2 b3 b4 b5 b6 b7 : OL (Z154_F f ctx1 bit2 b3 b4 b5 b6 b7) (Z154 ctx1 bit2 b3 b4 b5 b6 b7) := ⟨Z154_F_le f ctx1 bit2 b3 b4 b5 b6 b7⟩
noncomputable def Z155_F (f : Nat) := Z155_b
instance Z155_o f n1 n2 : OL (Z155_F f n1 n2) (Z155 n1 n2) := ⟨by rw [Z155_eq]; unfold Z155_F Z155_b; (try dsimp only); exact OL.le⟩
noncomputable def Z157l15_F (f : Nat) := Z157l15_b (Z148_F f)
instance Z157l15_o f base1 t6 t9 s26 : OL (Z157l15_F f base1 t6 t9 s26) (Z157l15 base1 t6 t9 s26) := ⟨by unfold Z157l15_F Z157l15 Z157l15_b; (try dsimp only); exact OL.le⟩
noncomputable def Z157_F (f : Nat) := Z157_b (Z182_F f) (itf f) Z157l7 (Z157l15_F f)
instance Z157_o f base1 n2 n3 : OL (Z157_F f base1 n2 n3) (Z157 base1 n2 n3) := ⟨by rw [Z157_eq]; unfold Z157_F Z157_b; (try dsimp only); exact OL.le⟩
noncomputable def Z158l2_F (f : Nat) := Z158l2_b (Z154_F f)
instance Z158l2_o f l1 s7 : OL (Z158l2_F f l1 s7) (Z158l2 l1 s7) := ⟨by unfold Z158l2_F Z158l2 Z158l2_b; (try dsimp only); exact OL.le⟩
noncomputable def Z158_F (f : Nat) := Z158_b (itf f) (Z158l2_F f)
instance Z158_o f l1 b2 b3 b4 b5 b6 : OL (Z158_F f l1 b2 b3 b4 b5 b6) (Z158 l1 b2 b3 b4 b5 b6) := ⟨by rw [Z158_eq]; unfold Z158_F Z158_b; (try dsimp only); exact OL.le⟩
noncomputable def Z123_F (f : Nat) := Z123_b (Z154_F f) (Z155_F f) (Z156_F f) (Z108_F f) (Z157_F f) (Z158_F f)
instance Z123_o f base1 n2 n3 b4 b5 b6 b7 b8 : OL (Z123_F f base1 n2 n3 b4 b5 b6 b7 b8) (Z123 base1 n2 n3 b4 b5 b6 b7 b8) := ⟨by rw [Z123_eq]; unfold Z123_F Z123_b; (try dsimp only); exact OL.le⟩
noncomputable def Z120_F (f : Nat) := Z120_b (Z114_F f)
instance Z120_o f text1 : OL (Z120_F f text1) (Z120 text1) := ⟨by rw [Z120_eq]; unfold Z120_F Z120_b; (try dsimp only); exact OL.le⟩
noncomputable def Z153_F (f : Nat) := Z153_b (itf f) Z153l2
instance Z153_o f s1 v2 : OL (Z153_F f s1 v2) (Z153 s1 v2) := ⟨by rw [Z153_eq]; unfold Z153_F Z153_b; (try dsimp only); exact OL.le⟩
noncomputable def Z122l7_F (f : Nat) := Z122l7_b (Z153_F f) (Z112_F f)
instance Z122l7_o f l1 s4 : OL (Z122l7_F f l1 s4) (Z122l7 l1 s4) := ⟨by unfold Z122l7_F Z122l7 Z122l7_b; (try dsimp only); exact OL.le⟩
noncomputable def Z122_F (f : Nat) := Z122_b (Z110_F f) (Z111_F f) (itf f) (Z122l7_F f)
instance Z122_o f l1 : OL (Z122_F f l1) (Z122 l1) := ⟨by rw [Z122_eq]; unfold Z122_F Z122_b; (try dsimp only); exact OL.le⟩
noncomputable def Z83l12_F (f : Nat) := Z83l12_b (Z70_F f) (Z123_F f)
instance Z83l12_o f tr27 s29 : OL (Z83l12_F f tr27 s29) (Z83l12 tr27 s29) := ⟨by unfold Z83l12_F Z83l12 Z83l12_b; (try dsimp only); exact OL.le⟩
noncomputable def Z83_F (f : Nat) := Z83_b (Z120_F f) (Z118_F f) (Z68_F f) (Z121_F f) (Z122_F f) (itf f) (Z83l12_F f) (Z124_F f)
instance Z83_o f text1 : OL (Z83_F f text1) (Z83 text1) := ⟨by rw [Z83_eq]; unfold Z83_F Z83_b; (try dsimp only); exact OL.le⟩
noncomputable def Z54l5_F (f : Nat) := Z54l5_b (Z81_F f)
instance Z54l5_o f b1 s5 : OL (Z54l5_F f b1 s5) (Z54l5 b1 s5) := ⟨by unfold Z54l5_F Z54l5 Z54l5_b; (try dsimp only); exact OL.le⟩
noncomputable def Z54_F (f : Nat) := Z54_b (Z15_F f) (Z81_F f) (itf f) (Z54l5_F f) (Z82_F f) (Z83_F f)
instance Z54_o f b1 b2 : OL (Z54_F f b1 b2) (Z54 b1 b2) := ⟨by rw [Z54_eq]; unfold Z54_F Z54_b; (try dsimp only); exact OL.le⟩
noncomputable def Z55_F (f : Nat) := Z55_b (Z81_F f)
instance Z55_o f f1 f2 f3 : OL (Z55_F f f1 f2 f3) (Z55 f1 f2 f3) := ⟨by rw [Z55_eq]; unfold Z55_F Z55_b; (try dsimp only); exact OL.le⟩
noncomputable def Z85_B (f : Nat) (r_Z85 : type_of% @Z85) (r_Z126 : type_of% @Z126) := Z85_b r_Z126
instance Z85_oB f (r_Z85 : type_of% @Z85) (r_Z126 : type_of% @Z126) [h_Z85 : ∀ c1 c2 c3 c4, OL (r_Z85 c1 c2 c3 c4) (Z85 c1 c2 c3 c4)] [h_Z126 : ∀ c1 c2 c3 c4, OL (r_Z126 c1 c2 c3 c4) (Z126 c1 c2 c3 c4)] c1 c2 c3 c4 : OL (Z85_B f r_Z85 r_Z126 c1 c2 c3 c4) (Z85 c1 c2 c3 c4) := ⟨by rw [Z85_eq]; unfold Z85_B Z85_b; (try dsimp only); exact OL.le⟩
noncomputable def Z126l5_F (f : Nat) (r_Z85 : type_of% @Z85) (r_Z126 : type_of% @Z126) := Z126l5_b r_Z85
instance Z126l5_o f (r_Z85 : type_of% @Z85) (r_Z126 : type_of% @Z126) [h_Z85 : ∀ c1 c2 c3 c4, OL (r_Z85 c1 c2 c3 c4) (Z85 c1 c2 c3 c4)] [h_Z126 : ∀ c1 c2 c3 c4, OL (r_Z126 c1 c2 c3 c4) (Z126 c1 c2 c3 c4)] c4 s5 : OL (Z126l5_F f r_Z85 r_Z126 c4 s5) (Z126l5 c4 s5) := ⟨by unfold Z126l5_F Z126l5 Z126l5_b; (try dsimp only); exact OL.le⟩
noncomputable def Z126_B (f : Nat) (r_Z85 : type_of% @Z85) (r_Z126 : type_of% @Z126) := Z126_b (itf f) (Z126l5_F f r_Z85 r_Z126)
instance Z126_oB f (r_Z85 : type_of% @Z85) (r_Z126 : type_of% @Z126) [h_Z85 : ∀ c1 c2 c3 c4, OL (r_Z85 c1 c2 c3 c4) (Z85 c1 c2 c3 c4)] [h_Z126 : ∀ c1 c2 c3 c4, OL (r_Z126 c1 c2 c3 c4) (Z126 c1 c2 c3 c4)] c1 c2 c3 c4 : OL (Z126_B f r_Z85 r_Z126 c1 c2 c3 c4) (Z126 c1 c2 c3 c4) := ⟨by rw [Z126_eq]; unfold Z126_B Z126_b; (try dsimp only); exact OL.le⟩
noncomputable def Z85_R (f : Nat) : Nat -> (type_of% @Z85) × (type_of% @Z126)
  | 0 => (fun _ _ _ _ => none, fun _ _ _ _ => none)
  | n + 1 => (Z85_B f (Z85_R f n).1 (Z85_R f n).2, Z126_B f (Z85_R f n).1 (Z85_R f n).2)
theorem Z85_R_le f : ∀ n, (∀ c1 c2 c3 c4, OL ((Z85_R f n).1 c1 c2 c3 c4) (Z85 c1 c2 c3 c4)) ∧ (∀ c1 c2 c3 c4, OL ((Z85_R f n).2 c1 c2 c3 c4) (Z126 c1 c2 c3 c4))
  | 0 => ⟨fun _ _ _ _ => ⟨Ole.none⟩, fun _ _ _ _ => ⟨Ole.none⟩⟩
  | n + 1 => by have h0 := (Z85_R_le f n).1; have h1 := (Z85_R_le f n).2; exact ⟨fun c1 c2 c3 c4 => Z85_oB f (Z85_R f n).1 (Z85_R f n).2 c1 c2 c3 c4, fun c1 c2 c3 c4 => Z126_oB f (Z85_R f n).1 (Z85_R f n).2 c1 c2 c3 c4⟩
noncomputable def Z85_F (f : Nat) := (Z85_R f f).1
instance Z85_o f c1 c2 c3 c4 : OL (Z85_F f c1 c2 c3 c4) (Z85 c1 c2 c3 c4) := (Z85_R_le f f).1 c1 c2 c3 c4
noncomputable def Z126_F (f : Nat) := (Z85_R f f).2
instance Z126_o f c1 c2 c3 c4 : OL (Z126_F f c1 c2 c3 c4) (Z126 c1 c2 c3 c4) := (Z85_R_le f f).2 c1 c2 c3 c4
noncomputable def Z86l7_F (f : Nat) (r_Z86 : type_of% @Z86) := Z86l7_b r_Z86
instance Z86l7_o f (r_Z86 : type_of% @Z86) [h_Z86 : ∀ c1 c2 c3 c4 b5, OL (r_Z86 c1 c2 c3 c4 b5) (Z86 c1 c2 c3 c4 b5)] c4 s17 : OL (Z86l7_F f r_Z86 c4 s17) (Z86l7 c4 s17) := ⟨by unfold Z86l7_F Z86l7 Z86l7_b; (try dsimp only); exact OL.le⟩
noncomputable def Z86_B (f : Nat) (r_Z86 : type_of% @Z86) := Z86_b (Z126_F f) (itf f) (Z86l7_F f r_Z86)
instance Z86_oB f (r_Z86 : type_of% @Z86) [h_Z86 : ∀ c1 c2 c3 c4 b5, OL (r_Z86 c1 c2 c3 c4 b5) (Z86 c1 c2 c3 c4 b5)] c1 c2 c3 c4 b5 : OL (Z86_B f r_Z86 c1 c2 c3 c4 b5) (Z86 c1 c2 c3 c4 b5) := ⟨by rw [Z86_eq]; unfold Z86_B Z86_b; (try dsimp only); exact OL.le⟩
noncomputable def Z86_R (f : Nat) : Nat -> (type_of% @Z86)
  | 0 => (fun _ _ _ _ _ => none)
  | n + 1 => (Z86_B f (Z86_R f n))
theorem Z86_R_le f : ∀ n, (∀ c1 c2 c3 c4 b5, OL (Z86_R f n c1 c2 c3 c4 b5) (Z86 c1 c2 c3 c4 b5))
  | 0 => fun _ _ _ _ _ => ⟨Ole.none⟩
  | n + 1 => by have h0 := (Z86_R_le f n); exact fun c1 c2 c3 c4 b5 => Z86_oB f (Z86_R f n) c1 c2 c3 c4 b5
noncomputable def Z86_F (f : Nat) := Z86_R f f
instance Z86_o f c1 c2 c3 c4 b5 : OL (Z86_F f c1 c2 c3 c4 b5) (Z86 c1 c2 c3 c4 b5) := (Z86_R_le f f) c1 c2 c3 c4 b5
noncomputable def Z125l2_F (f : Nat) (r_Z125 : type_of% @Z125) := Z125l2_b (Z138_F f) (Z139_F f) r_Z125
instance Z125l2_o f (r_Z125 : type_of% @Z125) [h_Z125 : ∀ l1 depth2 b3, OL (r_Z125 l1 depth2 b3) (Z125 l1 depth2 b3)] l1 depth2 s4 : OL (Z125l2_F f r_Z125 l1 depth2 s4) (Z125l2 l1 depth2 s4) := ⟨by unfold Z125l2_F Z125l2 Z125l2_b; (try dsimp only); exact OL.le⟩
noncomputable def Z125_B (f : Nat) (r_Z125 : type_of% @Z125) := Z125_b (itf f) (Z125l2_F f r_Z125)
instance Z125_oB f (r_Z125 : type_of% @Z125) [h_Z125 : ∀ l1 depth2 b3, OL (r_Z125 l1 depth2 b3) (Z125 l1 depth2 b3)] l1 depth2 b3 : OL (Z125_B f r_Z125 l1 depth2 b3) (Z125 l1 depth2 b3) := ⟨by rw [Z125_eq]; unfold Z125_B Z125_b; (try dsimp only); exact OL.le⟩
noncomputable def Z125_R (f : Nat) : Nat -> (type_of% @Z125)
  | 0 => (fun _ _ _ => none)
  | n + 1 => (Z125_B f (Z125_R f n))
theorem Z125_R_le f : ∀ n, (∀ l1 depth2 b3, OL (Z125_R f n l1 depth2 b3) (Z125 l1 depth2 b3))
  | 0 => fun _ _ _ => ⟨Ole.none⟩
  | n + 1 => by have h0 := (Z125_R_le f n); exact fun l1 depth2 b3 => Z125_oB f (Z125_R f n) l1 depth2 b3
noncomputable def Z125_F (f : Nat) := Z125_R f f
instance Z125_o f l1 depth2 b3 : OL (Z125_F f l1 depth2 b3) (Z125 l1 depth2 b3) := (Z125_R_le f f) l1 depth2 b3
noncomputable def Z84_F (f : Nat) := Z84_b (Z125_F f)
instance Z84_o f l1 : OL (Z84_F f l1) (Z84 l1) := ⟨by rw [Z84_eq]; unfold Z84_F Z84_b; (try dsimp only); exact OL.le⟩
noncomputable def Z56l5_F (f : Nat) := Z56l5_b (Z85_F f)
instance Z56l5_o f l1 s3 : OL (Z56l5_F f l1 s3) (Z56l5 l1 s3) := ⟨by unfold Z56l5_F Z56l5 Z56l5_b; (try dsimp only); exact OL.le⟩
noncomputable def Z56l13_F (f : Nat) := Z56l13_b (Z86_F f)
instance Z56l13_o f l1 s14 : OL (Z56l13_F f l1 s14) (Z56l13 l1 s14) := ⟨by unfold Z56l13_F Z56l13 Z56l13_b; (try dsimp only); exact OL.le⟩
noncomputable def Z56_F (f : Nat) := Z56_b (Z84_F f) (itf f) (Z56l5_F f) (Z56l13_F f)
instance Z56_o f l1 : OL (Z56_F f l1) (Z56 l1) := ⟨by rw [Z56_eq]; unfold Z56_F Z56_b; (try dsimp only); exact OL.le⟩
noncomputable def Z34l6_F (f : Nat) := Z34l6_b (Z55_F f)
instance Z34l6_o f files4 s8 : OL (Z34l6_F f files4 s8) (Z34l6 files4 s8) := ⟨by unfold Z34l6_F Z34l6 Z34l6_b; (try dsimp only); exact OL.le⟩
noncomputable def Z34_F (f : Nat) := Z34_b (Z54_F f) (itf f) (Z34l6_F f) (Z56_F f)
instance Z34_o f kind1 b2 b3 files4 : OL (Z34_F f kind1 b2 b3 files4) (Z34 kind1 b2 b3 files4) := ⟨by rw [Z34_eq]; unfold Z34_F Z34_b; (try dsimp only); exact OL.le⟩
noncomputable def Z16_F (f : Nat) := Z16_b (Z34_F f)
instance Z16_o f b1 b2 : OL (Z16_F f b1 b2) (Z16 b1 b2) := ⟨by rw [Z16_eq]; unfold Z16_F Z16_b; (try dsimp only); exact OL.le⟩
noncomputable def Z17_F (fuel : Nat) (s1 : List Int) : Option (List Int) :=
 (if s1.length = 0 then
 (demD
 (some [])
 ((if (([] : List Int).length + s1.length) * 1 <= 140737488355328 then
 let t2 : List Int := ([] : List Int) ++ s1;
 some t2
 else
 none)))
 else
 (if (([] : List Int).length + s1.length) * 1 <= 140737488355328 then
 let t3 : List Int := ([] : List Int) ++ s1;
 some t3
 else
 none))
theorem Z17_F_le (fuel : Nat) (s1 : List Int) : Ole (Z17_F fuel s1) (Z17 s1) := by
  rw [Z17_eq]; unfold Z17_F; try dsimp only
  repeat' first | with_reducible exact Ole.refl _ | refine Ole.ite ?_ ?_ | refine Ole.iter fun _ => ?_ | refine Ole.elim (fun _ => ?_) (fun _ => ?_) | refine Ole.bind ?_ fun _ => ?_ | refine Ole.demD ?_ ?_
instance Z17_o f s1 : OL (Z17_F f s1) (Z17 s1) := ⟨Z17_F_le f s1⟩
noncomputable def Z3l6_F (f : Nat) := Z3l6_b (Z17_F f)
instance Z3l6_o f b1 name3 v8 : OL (Z3l6_F f b1 name3 v8) (Z3l6 b1 name3 v8) := ⟨by unfold Z3l6_F Z3l6 Z3l6_b; (try dsimp only); exact OL.le⟩
noncomputable def Z3_F (f : Nat) := Z3_b (Z15_F f) (Z16_F f) (itf f) (Z3l6_F f)
instance Z3_o f b1 b2 name3 : OL (Z3_F f b1 b2 name3) (Z3 b1 b2 name3) := ⟨by rw [Z3_eq]; unfold Z3_F Z3_b; (try dsimp only); exact OL.le⟩
noncomputable def Z28_F (f : Nat) := Z28_b
instance Z28_o f b1 b2 b3 b4 b5 : OL (Z28_F f b1 b2 b3 b4 b5) (Z28 b1 b2 b3 b4 b5) := ⟨by rw [Z28_eq]; unfold Z28_F Z28_b; (try dsimp only); exact OL.le⟩
theorem Z28_F_le f b1 b2 b3 b4 b5 : Ole (Z28_F f b1 b2 b3 b4 b5) (Z28 b1 b2 b3 b4 b5) := OL.le
noncomputable def Z12_F (f : Nat) := Z12_b (Z28_F f) (itf f) Z12l5
instance Z12_o f b1 b2 b3 b4 b5 : OL (Z12_F f b1 b2 b3 b4 b5) (Z12 b1 b2 b3 b4 b5) := ⟨by rw [Z12_eq]; unfold Z12_F Z12_b; (try dsimp only); exact OL.le⟩
theorem Z12_F_le f b1 b2 b3 b4 b5 : Ole (Z12_F f b1 b2 b3 b4 b5) (Z12 b1 b2 b3 b4 b5) := OL.le
noncomputable def Z77_F (f : Nat) := Z77_b
instance Z77_o f f1 f2 f3 b4 : OL (Z77_F f f1 f2 f3 b4) (Z77 f1 f2 f3 b4) := ⟨by rw [Z77_eq]; unfold Z77_F Z77_b; (try dsimp only); exact OL.le⟩
noncomputable def Z49l2_F (f : Nat) := Z49l2_b (Z77_F f)
instance Z49l2_o f s1 s3 : OL (Z49l2_F f s1 s3) (Z49l2 s1 s3) := ⟨by unfold Z49l2_F Z49l2 Z49l2_b; (try dsimp only); exact OL.le⟩
noncomputable def Z49_F (f : Nat) := Z49_b (itf f) (Z49l2_F f)
instance Z49_o f s1 b2 : OL (Z49_F f s1 b2) (Z49 s1 b2) := ⟨by rw [Z49_eq]; unfold Z49_F Z49_b; (try dsimp only); exact OL.le⟩
noncomputable def Z29_F (f : Nat) := Z29_b (Z49_F f)
instance Z29_o f name1 b2 b3 b4 b5 b6 : OL (Z29_F f name1 b2 b3 b4 b5 b6) (Z29 name1 b2 b3 b4 b5 b6) := ⟨by rw [Z29_eq]; unfold Z29_F Z29_b; (try dsimp only); exact OL.le⟩
theorem Z29_F_le f name1 b2 b3 b4 b5 b6 : Ole (Z29_F f name1 b2 b3 b4 b5 b6) (Z29 name1 b2 b3 b4 b5 b6) := OL.le
noncomputable def Z79_F (f : Nat) := Z79_b
instance Z79_o f k1 b2 : OL (Z79_F f k1 b2) (Z79 k1 b2) := ⟨by rw [Z79_eq]; unfold Z79_F Z79_b; (try dsimp only); exact OL.le⟩
noncomputable def Z78l2_F (f : Nat) := Z78l2_b (Z79_F f)
instance Z78l2_o f s1 s3 : OL (Z78l2_F f s1 s3) (Z78l2 s1 s3) := ⟨by unfold Z78l2_F Z78l2 Z78l2_b; (try dsimp only); exact OL.le⟩
noncomputable def Z78_F (f : Nat) := Z78_b (itf f) (Z78l2_F f)
instance Z78_o f s1 b2 : OL (Z78_F f s1 b2) (Z78 s1 b2) := ⟨by rw [Z78_eq]; unfold Z78_F Z78_b; (try dsimp only); exact OL.le⟩
noncomputable def Z50l5_F (f : Nat) := Z50l5_b (Z79_F f)
instance Z50l5_o f s7 : OL (Z50l5_F f s7) (Z50l5 s7) := ⟨by unfold Z50l5_F Z50l5 Z50l5_b; (try dsimp only); exact OL.le⟩
noncomputable def Z50_F (f : Nat) := Z50_b (Z78_F f) (itf f) (Z50l5_F f)
instance Z50_o f b1 b2 : OL (Z50_F f b1 b2) (Z50 b1 b2) := ⟨by rw [Z50_eq]; unfold Z50_F Z50_b; (try dsimp only); exact OL.le⟩
noncomputable def Z30_F (f : Nat) := Z30_b (Z50_F f)
instance Z30_o f i1 b2 b3 b4 b5 b6 : OL (Z30_F f i1 b2 b3 b4 b5 b6) (Z30 i1 b2 b3 b4 b5 b6) := ⟨by rw [Z30_eq]; unfold Z30_F Z30_b; (try dsimp only); exact OL.le⟩
theorem Z30_F_le f i1 b2 b3 b4 b5 b6 : Ole (Z30_F f i1 b2 b3 b4 b5 b6) (Z30 i1 b2 b3 b4 b5 b6) := OL.le
noncomputable def Z11l10_F (fuel : Nat) (s31 : Bool × (List Int) × Int × (List File) × (List Int)) : Option ((Bool × (List Int) × Int × (List File) × (List Int)) ⊕ (Bool × (List Int) × Int × (List File) × (List Int))) :=
 ((demD
 ((Z12_F fuel s31.1 s31.2.1 s31.2.2.1 s31.2.2.2.1 s31.2.2.2.2).bind fun q37 =>
 some (decide (q37.1 > q37.2.2.2.1), q37.2.1, q37.2.2.1, q37.2.2.2.1, q37.2.2.2.2.1, q37.2.2.2.2.2))
 ((Z12_F fuel s31.1 s31.2.1 s31.2.2.1 s31.2.2.2.1 s31.2.2.2.2).bind fun q44 =>
 some (decide (q44.1 > s31.2.2.1), q44.2.1, q44.2.2.1, q44.2.2.2.1, q44.2.2.2.2.1, q44.2.2.2.2.2))) : Option (Bool × Bool × (List Int) × Int × (List File) × (List Int))).bind (fun p51 =>
 let b56 := p51.2.2.2.2.1;
 let b57 := p51.2.2.2.2.2;
 (if p51.1 = true then
 (if 0 <= (0 : Int) ∧ (0 : Int) < (b57.length : Int) then
 let t58 : Int := rd b57 0;
 (if 0 <= t58 ∧ t58 < (b56.length : Int) then
 (b56[t58.toNat]?).bind fun e59 =>
 let w60 : List File := b56.set t58.toNat (File.mk e59.name e59.kind []);
 (if 0 <= (1 : Int) ∧ (1 : Int) <= ((b57.length : Nat) : Int) then
 let t61 : List Int := cutL b57 ((1 : Int).toNat) b57.length;
 some (Sum.inl (p51.2.1, p51.2.2.1, p51.2.2.2.1, w60, t61))
 else
 none)
 else
 none)
 else
 none)
 else
 some (Sum.inr (p51.2.1, p51.2.2.1, p51.2.2.2.1, b56, b57))))
theorem Z11l10_F_le (fuel : Nat) (s31 : Bool × (List Int) × Int × (List File) × (List Int)) : Ole (Z11l10_F fuel s31) (Z11l10 s31) := by
  unfold Z11l10_F Z11l10; try dsimp only
  repeat' first | with_reducible exact Ole.refl _ | refine Ole.ite ?_ ?_ | with_reducible exact Z17_F_le .. | with_reducible exact Z12_F_le .. | with_reducible exact Z29_F_le .. | with_reducible exact Z30_F_le .. | with_reducible exact Z28_F_le .. | refine Ole.iter fun _ => ?_ | refine Ole.elim (fun _ => ?_) (fun _ => ?_) | refine Ole.bind ?_ fun _ => ?_ | refine Ole.demD ?_ ?_
noncomputable def Z11_F (fuel : Nat) (name1 data2 : List Int) (b3 : Bool) (b4 : List Int) (b5 : Int) (b6 : List File) (b7 : List Int) : Option (Int × Bool × (List Int) × Int × (List File) × (List Int)) :=
 (Z28_F fuel b3 b4 b5 b6 b7).bind fun q8 =>
 (if q8.1 = true then
 some (7, q8.2.1, q8.2.2.1, q8.2.2.2.1, q8.2.2.2.2.1, q8.2.2.2.2.2)
 else
 (Z29_F fuel name1 q8.2.1 q8.2.2.1 q8.2.2.2.1 q8.2.2.2.2.1 q8.2.2.2.2.2).bind fun q15 =>
 let tr18 := q15.2.2.1;
 let tr20 := q15.2.2.2.2.1;
 (if (decide (q15.1 < 0)) = true then
 some (5, q15.2.1, tr18, q15.2.2.2.1, tr20, q15.2.2.2.2.2)
 else
 (if 0 <= q15.1 ∧ q15.1 < (tr18.length : Int) then
 (if (!decide (((data2.length : Nat) : Int) = rd tr18 q15.1)) = true then
 some (110, q15.2.1, tr18, q15.2.2.2.1, tr20, q15.2.2.2.2.2)
 else
 (Z17_F fuel data2).bind fun q22 =>
 (if 0 <= q15.1 ∧ q15.1 < (tr20.length : Int) then
 (tr20[q15.1.toNat]?).bind fun e23 =>
 let w24 : List File := tr20.set q15.1.toNat (File.mk e23.name e23.kind q22);
 (Z30_F fuel q15.1 q15.2.1 tr18 q15.2.2.2.1 w24 q15.2.2.2.2.2).bind fun q25 =>
 (iter (Z11l10_F fuel) fuel (q25.1, q25.2.1, q25.2.2.1, q25.2.2.2.1, q25.2.2.2.2)).bind (fun p62 =>
 some (0, p62.1, p62.2.1, p62.2.2.1, p62.2.2.2.1, p62.2.2.2.2))
 else
 none))
 else
 none)))
theorem Z11_F_le (fuel : Nat) (name1 data2 : List Int) (b3 : Bool) (b4 : List Int) (b5 : Int) (b6 : List File) (b7 : List Int) : Ole (Z11_F fuel name1 data2 b3 b4 b5 b6 b7) (Z11 name1 data2 b3 b4 b5 b6 b7) := by
  rw [Z11_eq]; unfold Z11_F; try dsimp only
  repeat' first | with_reducible exact Ole.refl _ | refine Ole.ite ?_ ?_ | with_reducible exact Z17_F_le .. | with_reducible exact Z12_F_le .. | with_reducible exact Z29_F_le .. | with_reducible exact Z30_F_le .. | with_reducible exact Z28_F_le .. | with_reducible exact Z11l10_F_le .. | refine Ole.iter fun _ => ?_ | refine Ole.elim (fun _ => ?_) (fun _ => ?_) | refine Ole.bind ?_ fun _ => ?_ | refine Ole.demD ?_ ?_
instance Z11_o f name1 data2 b3 b4 b5 b6 b7 : OL (Z11_F f name1 data2 b3 b4 b5 b6 b7) (Z11 name1 data2 b3 b4 b5 b6 b7) := ⟨Z11_F_le f name1 data2 b3 b4 b5 b6 b7⟩
noncomputable def Z13_F (f : Nat) := Z13_b (Z28_F f) (itf f) Z13l5
instance Z13_o f b1 b2 b3 b4 b5 : OL (Z13_F f b1 b2 b3 b4 b5) (Z13 b1 b2 b3 b4 b5) := ⟨by rw [Z13_eq]; unfold Z13_F Z13_b; (try dsimp only); exact OL.le⟩
noncomputable def Z14_F (f : Nat) := Z14_b (Z28_F f) (itf f) Z14l5
instance Z14_o f b1 b2 b3 b4 b5 : OL (Z14_F f b1 b2 b3 b4 b5) (Z14 b1 b2 b3 b4 b5) := ⟨by rw [Z14_eq]; unfold Z14_F Z14_b; (try dsimp only); exact OL.le⟩
noncomputable def Z2_F (f : Nat) := Z2_b (Z3_F f) (Z10_F f) (Z11_F f) (Z12_F f) (Z13_F f) (Z14_F f)
instance Z2_o f : OL (Z2_F f) (Z2) := ⟨by rw [Z2_eq]; unfold Z2_F Z2_b; (try dsimp only); exact OL.le⟩
theorem Z2_F_le f : Ole (Z2_F f) (Z2) := OL.le
end
end Go.Proofs.YtcphcfknnfibmaaGreat.P
