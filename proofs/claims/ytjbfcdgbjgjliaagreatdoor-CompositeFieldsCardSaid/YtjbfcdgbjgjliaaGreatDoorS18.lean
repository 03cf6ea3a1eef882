/- A verified symbolic run of functions, part 18: lemmas, no claim of their own. -/
import Derived.Test.YtjbfcdgbjgjliaaGreatDoorS17
/- Contracts. -/
namespace Go.Sx
open U
theorem c20a : Fn P1 gl1 20 [ptV [1092616192, 1101004800, 1092616192, 1101004800] [1077936128] [3221225472], iV 0] (.tup [.one (.frs (.flt .f32) [1095761920, 1099956224, 1088421888, 1102053376]), iV 0]) true := by
  have h := fn20 [1092616192, 1101004800, 1092616192, 1101004800] [1077936128] [3221225472] 0 (by decide)
  rw [show encL [1092616192, 1101004800, 1092616192, 1101004800] [1077936128] [3221225472] 0 = [1095761920, 1099956224, 1088421888, 1102053376] from by decide +kernel, show encE [1092616192, 1101004800, 1092616192, 1101004800] [1077936128] [3221225472] 0 = 0 from by decide +kernel] at h
  exact h
theorem c20b : Fn P1 gl1 20 [ptV [1092616192, 1101004800, 1092616192, 1101004800] [1077936128] [3221225472], iV 1] (.tup [.one (.frs (.flt .f32) [1088421888, 1102053376, 1095761920, 1099956224]), iV 0]) true := by
  have h := fn20 [1092616192, 1101004800, 1092616192, 1101004800] [1077936128] [3221225472] 1 (by decide)
  rw [show encL [1092616192, 1101004800, 1092616192, 1101004800] [1077936128] [3221225472] 1 = [1088421888, 1102053376, 1095761920, 1099956224] from by decide +kernel, show encE [1092616192, 1101004800, 1092616192, 1101004800] [1077936128] [3221225472] 1 = 0 from by decide +kernel] at h
  exact h
theorem so20h_ : SpecOk P1 gl1 20 sp20h := by
  intro vs ps r h hp
  simp only [sp20h] at h
  split at h
  · split at h
    · cases h
      have q0 := hp _ (.head _)
      have q1 := hp _ (.tail _ (.head _))
      have q2 := hp _ (.tail _ (.tail _ (.head _)))
      have q3 := hp _ (.tail _ (.tail _ (.tail _ (.head _))))
      subst q0 q1 q2 q3
      exact c20a
    · cases h
      have q0 := hp _ (.head _)
      have q1 := hp _ (.tail _ (.head _))
      have q2 := hp _ (.tail _ (.tail _ (.head _)))
      have q3 := hp _ (.tail _ (.tail _ (.tail _ (.head _))))
      subst q0 q1 q2 q3
      exact c20b
  · cases h
theorem so20h : Sp1 20 sp20h := ⟨so20h_, Proofs.Tryz.f20, _, by kernel_rfl, rfl, by kernel_rfl⟩
theorem c33a : Fn P1 gl1 33 [.one (.sl (.flt .f32) [1095761920, 1099956224, 1088421888, 1102053376])] (.tup [.one (.frs panT [[(1114636288, 0), (1086324736, 1082130432), (3248488448, 0), (1086324736, 3229614080)]]), iV 0]) true := by
  have h := fn33 [1095761920, 1099956224, 1088421888, 1102053376]
  rw [show panN [1095761920, 1099956224, 1088421888, 1102053376] = [[(1114636288, 0), (1086324736, 1082130432), (3248488448, 0), (1086324736, 3229614080)]] from by decide +kernel, show chkSig [1095761920, 1099956224, 1088421888, 1102053376] = 0 from by decide +kernel] at h
  exact h
theorem so33h_ : SpecOk P1 gl1 33 sp33h := by
  intro vs ps r h hp
  simp only [sp33h] at h
  split at h
  · cases h
    have q0 := hp _ (.head _)
    subst q0
    exact c33a
  · cases h
theorem so33h : Sp1 33 sp33h := ⟨so33h_, Proofs.Tryz.f33, _, by kernel_rfl, rfl, by kernel_rfl⟩
theorem c43a : Fn P1 gl1 43 [.one (.sl (.flt .f32) [1095761920, 1099956224, 1088421888, 1102053376]), iV 0] (.tup [ptV [1092616192, 1101004800, 1092616192, 1101004800] [1077936128] [3221225472], iV 0]) true := by
  have h := fn43 [1095761920, 1099956224, 1088421888, 1102053376] 0
  rw [show bndP [1095761920, 1099956224, 1088421888, 1102053376] 0 = ([1092616192, 1101004800, 1092616192, 1101004800], [1077936128], [3221225472]) from by decide +kernel, show bndE [1095761920, 1099956224, 1088421888, 1102053376] 0 = 0 from by decide +kernel] at h
  exact h
theorem c43b : Fn P1 gl1 43 [.one (.sl (.flt .f32) [1095761920, 1099956224, 1093664768, 1102053376]), iV 0] (.tup [ptV [1094713344, 1101004800, 1094713344, 1101004800] [1065353216] [3221225472], iV 0]) true := by
  have h := fn43 [1095761920, 1099956224, 1093664768, 1102053376] 0
  rw [show bndP [1095761920, 1099956224, 1093664768, 1102053376] 0 = ([1094713344, 1101004800, 1094713344, 1101004800], [1065353216], [3221225472]) from by decide +kernel, show bndE [1095761920, 1099956224, 1093664768, 1102053376] 0 = 0 from by decide +kernel] at h
  exact h
theorem so43h_ : SpecOk P1 gl1 43 sp43h := by
  intro vs ps r h hp
  simp only [sp43h] at h
  split at h
  · split at h
    · cases h
      have q0 := hp _ (.head _)
      have q1 := hp _ (.tail _ (.head _))
      subst q0 q1
      exact c43a
    · cases h
      have q0 := hp _ (.head _)
      have q1 := hp _ (.tail _ (.head _))
      subst q0 q1
      exact c43b
  · cases h
theorem so43h : Sp1 43 sp43h := ⟨so43h_, Proofs.Tryz.f43, _, by kernel_rfl, rfl, by kernel_rfl⟩
theorem c57a : Fn P1 gl1 57 [ptV [1092616192, 1101004800, 1096810496, 1101004800] [1077936128] [3221225472]] (.tup [fV 1073741824, iV 0]) true := by
  have h := fn57 [1092616192, 1101004800, 1096810496, 1101004800] [1077936128] [3221225472] (by decide)
  rw [show (if chkPt [1092616192, 1101004800, 1096810496, 1101004800] [1077936128] [3221225472] = 0 then smp ((unevI (sixs [1092616192, 1101004800, 1096810496, 1101004800]) + 1) / 2) else 0) = 1073741824 from by decide +kernel, show chkPt [1092616192, 1101004800, 1096810496, 1101004800] [1077936128] [3221225472] = 0 from by decide +kernel] at h
  exact h
theorem so57h_ : SpecOk P1 gl1 57 sp57h := by
  intro vs ps r h hp
  simp only [sp57h] at h
  split at h
  · cases h
    have q0 := hp _ (.head _)
    have q1 := hp _ (.tail _ (.head _))
    have q2 := hp _ (.tail _ (.tail _ (.head _)))
    subst q0 q1 q2
    exact c57a
  · cases h
theorem so57h : Sp1 57 sp57h := ⟨so57h_, Proofs.Tryz.f57, _, by kernel_rfl, rfl, by kernel_rfl⟩
theorem c58a : Fn P1 gl1 58 [ptV [1092616192, 1101004800, 1096810496, 1101004800] [1077936128] [3221225472], ptV [1094713344, 1101004800, 1094713344, 1101004800] [1065353216] [3221225472]] (.tup [.agg [.arr 2 (.flt .f32) [1073741824, 1073741824]], iV 0]) true := by
  have h := fn58 [1092616192, 1101004800, 1096810496, 1101004800] [1077936128] [3221225472] [1094713344, 1101004800, 1094713344, 1101004800] [1065353216] [3221225472] (by decide) (by decide)
  rw [show difP [1092616192, 1101004800, 1096810496, 1101004800] [1077936128] [3221225472] [1094713344, 1101004800, 1094713344, 1101004800] [1065353216] [3221225472] = [1073741824, 1073741824] from by decide +kernel, show difE [1092616192, 1101004800, 1096810496, 1101004800] [1077936128] [3221225472] [1094713344, 1101004800, 1094713344, 1101004800] [1065353216] [3221225472] = 0 from by decide +kernel] at h
  exact h
theorem so58h_ : SpecOk P1 gl1 58 sp58h := by
  intro vs ps r h hp
  simp only [sp58h] at h
  split at h
  · cases h
    have q0 := hp _ (.head _)
    have q1 := hp _ (.tail _ (.head _))
    have q2 := hp _ (.tail _ (.tail _ (.head _)))
    have q3 := hp _ (.tail _ (.tail _ (.tail _ (.head _))))
    have q4 := hp _ (.tail _ (.tail _ (.tail _ (.tail _ (.head _)))))
    have q5 := hp _ (.tail _ (.tail _ (.tail _ (.tail _ (.tail _ (.head _))))))
    subst q0 q1 q2 q3 q4 q5
    exact c58a
  · cases h
theorem so58h : Sp1 58 sp58h := ⟨so58h_, Proofs.Tryz.f58, _, by kernel_rfl, rfl, by kernel_rfl⟩
theorem c47a : Fn P1 gl1 47 [fldV [[1095761920, 1099956224, 1093664768, 1102053376], [1088421888, 1102053376, 1099431936, 1099956224]], iV 0] (.tup [ptV [1092616192, 1101004800, 1096810496, 1101004800] [1077936128] [3221225472], iV 0]) true := by
  have h := fn47 [[1095761920, 1099956224, 1093664768, 1102053376], [1088421888, 1102053376, 1099431936, 1099956224]] 0
  rw [show errP (twoE [[1095761920, 1099956224, 1093664768, 1102053376], [1088421888, 1102053376, 1099431936, 1099956224]] 0) (twoI [[1095761920, 1099956224, 1093664768, 1102053376], [1088421888, 1102053376, 1099431936, 1099956224]] 0) = ([1092616192, 1101004800, 1096810496, 1101004800], [1077936128], [3221225472]) from by decide +kernel, show errE (twoE [[1095761920, 1099956224, 1093664768, 1102053376], [1088421888, 1102053376, 1099431936, 1099956224]] 0) (twoI [[1095761920, 1099956224, 1093664768, 1102053376], [1088421888, 1102053376, 1099431936, 1099956224]] 0) = 0 from by decide +kernel] at h
  exact h
theorem so47h_ : SpecOk P1 gl1 47 sp47h := by
  intro vs ps r h hp
  simp only [sp47h] at h
  split at h
  · cases h
    have q0 := hp _ (.head _)
    have q1 := hp _ (.tail _ (.head _))
    subst q0 q1
    exact c47a
  · cases h
theorem so47h : Sp1 47 sp47h := ⟨so47h_, Proofs.Tryz.f47, _, by kernel_rfl, rfl, by kernel_rfl⟩
theorem c48a : Fn P1 gl1 48 [fldV [[1095761920, 1099956224, 1093664768, 1102053376], [1088421888, 1102577664, 1100480512, 1100480512], [1099431936, 1101004800, 1093664768, 1103101952]], iV 1] (.tup [ptV [1093664768, 1101529088, 1097859072, 1101529088] [1082130432] [3221225472], iV 0]) true := by
  have h := fn48 [[1095761920, 1099956224, 1093664768, 1102053376], [1088421888, 1102577664, 1100480512, 1100480512], [1099431936, 1101004800, 1093664768, 1103101952]] 1
  rw [show errP (threeE [[1095761920, 1099956224, 1093664768, 1102053376], [1088421888, 1102577664, 1100480512, 1100480512], [1099431936, 1101004800, 1093664768, 1103101952]] 1) (threeL [[1095761920, 1099956224, 1093664768, 1102053376], [1088421888, 1102577664, 1100480512, 1100480512], [1099431936, 1101004800, 1093664768, 1103101952]] 1) = ([1093664768, 1101529088, 1097859072, 1101529088], [1082130432], [3221225472]) from by decide +kernel, show errE (threeE [[1095761920, 1099956224, 1093664768, 1102053376], [1088421888, 1102577664, 1100480512, 1100480512], [1099431936, 1101004800, 1093664768, 1103101952]] 1) (threeL [[1095761920, 1099956224, 1093664768, 1102053376], [1088421888, 1102577664, 1100480512, 1100480512], [1099431936, 1101004800, 1093664768, 1103101952]] 1) = 0 from by decide +kernel] at h
  exact h
theorem so48h_ : SpecOk P1 gl1 48 sp48h := by
  intro vs ps r h hp
  simp only [sp48h] at h
  split at h
  · cases h
    have q0 := hp _ (.head _)
    have q1 := hp _ (.tail _ (.head _))
    subst q0 q1
    exact c48a
  · cases h
theorem so48h : Sp1 48 sp48h := ⟨so48h_, Proofs.Tryz.f48, _, by kernel_rfl, rfl, by kernel_rfl⟩
theorem c62a : Fn P1 gl1 62 [b4V [0, 1084227584, 0, 3231711232]] (.tup [gsV (0, 160), iV 0]) true := by
  have h := fn62 [0, 1084227584, 0, 3231711232] rfl
  rw [show burZ [0, 1084227584, 0, 3231711232] = (0, 160) from by decide +kernel, show chkSs [0, 1084227584, 0, 3231711232] = 0 from by decide +kernel] at h
  exact h
theorem so62h_ : SpecOk P1 gl1 62 sp62h := by
  intro vs ps r h hp
  simp only [sp62h] at h
  split at h
  · cases h
    have q0 := hp _ (.head _)
    subst q0
    exact c62a
  · cases h
theorem so62h : Sp1 62 sp62h := ⟨so62h_, Proofs.Tryz.f62, _, by kernel_rfl, rfl, by kernel_rfl⟩
theorem c63a : Fn P1 gl1 63 [b4V [0, 1084227584, 0, 3231711232], iV 160] (.tup [iV 1, iV 0]) true := by
  have h := fn63 [0, 1084227584, 0, 3231711232] 160 rfl
  rw [show lkN [0, 1084227584, 0, 3231711232] 160 = 1 from by decide +kernel, show lkE [0, 1084227584, 0, 3231711232] 160 = 0 from by decide +kernel] at h
  exact h
theorem so63h_ : SpecOk P1 gl1 63 sp63h := by
  intro vs ps r h hp
  simp only [sp63h] at h
  split at h
  · cases h
    have q0 := hp _ (.head _)
    have q1 := hp _ (.tail _ (.head _))
    subst q0 q1
    exact c63a
  · cases h
theorem so63h : Sp1 63 sp63h := ⟨so63h_, Proofs.Tryz.f63, _, by kernel_rfl, rfl, by kernel_rfl⟩
theorem c67a : Fn P1 gl1 67 [.one (.sl (.flt .f32) [1065353216, 1073741824, 1077936128, 1082130432, 1084227584, 1086324736, 1088421888, 1090519040]), iV 1] (.tup [.one (.frs (.flt .f32) [1073741824, 1077936128, 1082130432, 1084227584]), iV 0]) true := by
  have h := fn67 [1065353216, 1073741824, 1077936128, 1082130432, 1084227584, 1086324736, 1088421888, 1090519040] 1
  rw [show algN [1065353216, 1073741824, 1077936128, 1082130432, 1084227584, 1086324736, 1088421888, 1090519040] 1 = [1073741824, 1077936128, 1082130432, 1084227584] from by decide +kernel, show algE [1065353216, 1073741824, 1077936128, 1082130432, 1084227584, 1086324736, 1088421888, 1090519040] 1 = 0 from by decide +kernel] at h
  exact h
theorem so67h_ : SpecOk P1 gl1 67 sp67h := by
  intro vs ps r h hp
  simp only [sp67h] at h
  split at h
  · cases h
    have q0 := hp _ (.head _)
    have q1 := hp _ (.tail _ (.head _))
    subst q0 q1
    exact c67a
  · cases h
theorem so67h : Sp1 67 sp67h := ⟨so67h_, Proofs.Tryz.f67, _, by kernel_rfl, rfl, by kernel_rfl⟩
theorem c68a : Fn P1 gl1 68 [.one (.sl (.flt .f32) [1077936128, 1084227584, 1088421888, 1091567616]), gsV (0, 2), fV 1065353216] (.tup [.one (.frs (.flt .f32) [0, 1073741824, 1082130432, 1086324736]), iV 0]) true := by
  have h := fn68 [1077936128, 1084227584, 1088421888, 1091567616] 0 2 1065353216
  rw [show clN [1077936128, 1084227584, 1088421888, 1091567616] 0 2 1065353216 = [0, 1073741824, 1082130432, 1086324736] from by decide +kernel, show clE [1077936128, 1084227584, 1088421888, 1091567616] 0 2 1065353216 = 0 from by decide +kernel] at h
  exact h
theorem so68h_ : SpecOk P1 gl1 68 sp68h := by
  intro vs ps r h hp
  simp only [sp68h] at h
  split at h
  · cases h
    have q0 := hp _ (.head _)
    have q1 := hp _ (.tail _ (.head _))
    have q2 := hp _ (.tail _ (.tail _ (.head _)))
    have q3 := hp _ (.tail _ (.tail _ (.tail _ (.head _))))
    subst q0 q1 q2 q3
    exact c68a
  · cases h
theorem so68h : Sp1 68 sp68h := ⟨so68h_, Proofs.Tryz.f68, _, by kernel_rfl, rfl, by kernel_rfl⟩
theorem c72a : Fn P1 gl1 72 [.one (.sl (.int .i64) [1, 0, -1])] (.tup [.agg [.arr 4 (.cpx .f64) [(0, 0), (4611686018427387904, 0), (0, 0), (4611686018427387904, 0)]], iV 0]) true := by
  have h := fn72 [1, 0, -1]
  rw [show resN [1, 0, -1] = [(0, 0), (4611686018427387904, 0), (0, 0), (4611686018427387904, 0)] from by decide +kernel, show chkTap [1, 0, -1] = 0 from by decide +kernel] at h
  exact h
theorem so72h_ : SpecOk P1 gl1 72 sp72h := by
  intro vs ps r h hp
  simp only [sp72h] at h
  split at h
  · cases h
    have q0 := hp _ (.head _)
    subst q0
    exact c72a
  · cases h
theorem so72h : Sp1 72 sp72h := ⟨so72h_, Proofs.Tryz.f72, _, by kernel_rfl, rfl, by kernel_rfl⟩
theorem c74a : Fn P1 gl1 74 [.one (.sl (.flt .f32) [1065353216, 1073741824, 1082130432, 1090519040]), .one (.sl (.int .i64) [1, 0, -1])] (.tup [.one (.frs (.flt .f32) [1065353216, 1073741824, 1077936128, 1086324736]), iV 0]) true := by
  have h := fn74 [1065353216, 1073741824, 1082130432, 1090519040] [1, 0, -1]
  rw [show fltN [1065353216, 1073741824, 1082130432, 1090519040] [1, 0, -1] 1 = [1065353216, 1073741824, 1077936128, 1086324736] from by decide +kernel, show fltE [1065353216, 1073741824, 1082130432, 1090519040] [1, 0, -1] 1 = 0 from by decide +kernel] at h
  exact h
theorem so74h_ : SpecOk P1 gl1 74 sp74h := by
  intro vs ps r h hp
  simp only [sp74h] at h
  split at h
  · cases h
    have q0 := hp _ (.head _)
    have q1 := hp _ (.tail _ (.head _))
    subst q0 q1
    exact c74a
  · cases h
theorem so74h : Sp1 74 sp74h := ⟨so74h_, Proofs.Tryz.f74, _, by kernel_rfl, rfl, by kernel_rfl⟩
theorem c75a : Fn P1 gl1 75 [.one (.sl (.flt .f32) [1065353216, 1073741824, 1082130432, 1090519040]), .one (.sl (.int .i64) [1, 0, -1])] (.tup [.one (.frs (.flt .f32) [3225419776, 3233808384, 1082130432, 1090519040]), iV 0]) true := by
  have h := fn75 [1065353216, 1073741824, 1082130432, 1090519040] [1, 0, -1]
  rw [show fltN [1065353216, 1073741824, 1082130432, 1090519040] [1, 0, -1] (-1) = [3225419776, 3233808384, 1082130432, 1090519040] from by decide +kernel, show fltE [1065353216, 1073741824, 1082130432, 1090519040] [1, 0, -1] (-1) = 0 from by decide +kernel] at h
  exact h
theorem so75h_ : SpecOk P1 gl1 75 sp75h := by
  intro vs ps r h hp
  simp only [sp75h] at h
  split at h
  · cases h
    have q0 := hp _ (.head _)
    have q1 := hp _ (.tail _ (.head _))
    subst q0 q1
    exact c75a
  · cases h
theorem so75h : Sp1 75 sp75h := ⟨so75h_, Proofs.Tryz.f75, _, by kernel_rfl, rfl, by kernel_rfl⟩
theorem c88a : Fn P1 gl1 88 [ptV [1092616192, 1101004800, 1092616192, 1101004800] [1077936128] [3221225472]] (.tup [sV [108, 117, 109, 97, 32, 49, 54, 48, 32, 51, 50, 48, 32, 49, 54, 48, 32, 51, 50, 48, 10, 117, 32, 52, 56, 10, 118, 32, 45, 51, 50, 10], iV 0]) true := by
  have h := fn88 [1092616192, 1101004800, 1092616192, 1101004800] [1077936128] [3221225472] (by decide)
  rw [show prN [1092616192, 1101004800, 1092616192, 1101004800] [1077936128] [3221225472] = [108, 117, 109, 97, 32, 49, 54, 48, 32, 51, 50, 48, 32, 49, 54, 48, 32, 51, 50, 48, 10, 117, 32, 52, 56, 10, 118, 32, 45, 51, 50, 10] from by decide +kernel, show chkPt [1092616192, 1101004800, 1092616192, 1101004800] [1077936128] [3221225472] = 0 from by decide +kernel] at h
  exact h
theorem so88h_ : SpecOk P1 gl1 88 sp88h := by
  intro vs ps r h hp
  simp only [sp88h] at h
  split at h
  · cases h
    have q0 := hp _ (.head _)
    have q1 := hp _ (.tail _ (.head _))
    have q2 := hp _ (.tail _ (.tail _ (.head _)))
    subst q0 q1 q2
    exact c88a
  · cases h
theorem so88h : Sp1 88 sp88h := ⟨so88h_, Proofs.Tryz.f88, _, by kernel_rfl, rfl, by kernel_rfl⟩
theorem so27h_ : SpecOk P1 gl1 27 sp27h := by
  intro vs ps r h hp
  simp only [sp27h] at h
  split at h
  · rename_i a b
    split at h
    · rename_i e
      cases h
      obtain rfl : a = b := e
      have q0 := hp _ (.head _)
      have h := fn27 a a (hp _ (.tail _ (.head _)))
      rw [sameS_self (chkSs_zero.1 q0)] at h
      exact h
    · cases h
  · cases h
theorem so27h : Sp1 27 sp27h := ⟨so27h_, Proofs.Tryz.f27, _, by kernel_rfl, rfl, by kernel_rfl⟩
theorem so45h_ : SpecOk P1 gl1 45 sp45h := by
  intro vs ps r h hp
  simp only [sp45h] at h
  split at h
  · rename_i y u v y' u' v'
    split at h
    · rename_i e
      cases h
      obtain ⟨rfl, e2⟩ := Prod.mk.inj e
      obtain ⟨rfl, rfl⟩ := Prod.mk.inj e2
      have q0 := hp _ (.head _)
      have q2 := hp _ (.tail _ (.tail _ (.head _)))
      have q4 := hp _ (.tail _ (.tail _ (.tail _ (.tail _ (.head _)))))
      have h := fn45 (y, u, v) (y, u, v) (hp _ (.tail _ (.head _))) (hp _ (.tail _ (.tail _ (.tail _ (.head _))))) (hp _ (.tail _ (.tail _ (.tail _ (.tail _ (.tail _ (.head _)))))))
      rw [show sameP (y, u, v) (y, u, v) = true by unfold sameP; rw [sameS_self (chkSs_zero.1 q0), sameS_self (chkSs_zero.1 q2), sameS_self (chkSs_zero.1 q4)]; rfl] at h
      exact h
    · cases h
  · cases h
theorem so45h : Sp1 45 sp45h := ⟨so45h_, Proofs.Tryz.f45, _, by kernel_rfl, rfl, by kernel_rfl⟩
theorem fn93   : Fn P1 gl1 93 [] (.val (ptV [1092616192, 1101004800, 1092616192, 1101004800] [1077936128] [3221225472])) true := by
  refine fn_ofr false [] [] h0 0 Proofs.Tryz.f93 trivial trivial (by kernel_rfl) rfl (by kernel_rfl) rfl rfl rfl ?_
  rw [vc93 ()]
  try simp only [splitB_iff, -eq_self]
  exact ⟨rfl, rfl, rfl, trivial⟩
theorem so93_ : SpecOk P1 gl1 93 sp93 := by
  intro vs ps r h _
  simp only [sp93] at h
  split at h
  · cases h; exact fn93  
  · cases h
theorem so93 : Sp1 93 sp93 := ⟨so93_, Proofs.Tryz.f93, _, by kernel_rfl, rfl, by kernel_rfl⟩
theorem fn94   : Fn P1 gl1 94 [] (.val (ptV [1092616192, 1101004800, 1096810496, 1101004800] [1077936128] [3221225472])) true := by
  refine fn_ofr false [] [] h0 0 Proofs.Tryz.f94 trivial trivial (by kernel_rfl) rfl (by kernel_rfl) rfl rfl rfl ?_
  rw [vc94 ()]
  try simp only [splitB_iff, -eq_self]
  exact ⟨rfl, rfl, rfl, trivial⟩
theorem so94_ : SpecOk P1 gl1 94 sp94 := by
  intro vs ps r h _
  simp only [sp94] at h
  split at h
  · cases h; exact fn94  
  · cases h
theorem so94 : Sp1 94 sp94 := ⟨so94_, Proofs.Tryz.f94, _, by kernel_rfl, rfl, by kernel_rfl⟩
theorem fn19   : Fn P1 gl1 19 [] (.val (bV true)) true := by
  refine Fn.flat ?_ rfl
  refine fn_of false [(93, sp93), (94, sp94), (46, sp46), (20, sp20h), (33, sp33h), (43, sp43h), (57, sp57h), (58, sp58h), (47, sp47h), (48, sp48h), (62, sp62h), (63, sp63h), (67, sp67h), (68, sp68h), (72, sp72h), (74, sp74h), (75, sp75h), (88, sp88h), (27, sp27h), (45, sp45h)] [] h0 0 Proofs.Tryz.f19 ⟨so93, so94, so46, so20h, so33h, so43h, so57h, so58h, so47h, so48h, so62h, so63h, so67h, so68h, so72h, so74h, so75h, so88h, so27h, so45h, trivial⟩ trivial (by kernel_rfl) rfl (by kernel_rfl) rfl rfl rfl ?_
  rw [vc19 ()]
  try simp only [-eq_self]
  repeat' first | apply And.intro | intro hh
  all_goals first | rfl | trivial | decide +kernel | exact absurd hh (by decide +kernel)
theorem so19_ : SpecOk P1 gl1 19 sp19 := by
  intro vs ps r h _
  simp only [sp19] at h
  split at h
  · cases h; exact fn19  
  · cases h
theorem so19 : Sp1 19 sp19 := ⟨so19_, Proofs.Tryz.f19, _, by kernel_rfl, rfl, by kernel_rfl⟩
end Go.Sx

/- Plain functions of composite: what the laws compare. -/
namespace Go.Sx.U
open Ieee
theorem smpsN_len (l : List Int) : (smpsN l).length ≤ l.length := by
  unfold smpsN
  split <;> simp
theorem shortS_len {l : List Nat} (h : shortS l = true) : l.length ≤ 260 := by
  unfold shortS at h
  simp only [Bool.or_eq_true, decide_eq_true_eq] at h
  omega
theorem shortP_len {y u v : List Nat} (h : shortP y u v = true) : y.length ≤ 260 ∧ u.length ≤ 24 ∧ v.length ≤ 24 := by
  unfold shortP at h
  simp only [Bool.and_eq_true, decide_eq_true_eq] at h
  have := shortS_len h.1
  omega
theorem sameS_nil : sameS [] [] = true := rfl
theorem encL_len (y u v : List Nat) (line : Int) : (encL y u v line).length ≤ y.length := by
  unfold encL
  split
  · simp
  · have := smpsN_len (encI y u v line)
    rw [encI_len] at this
    exact this
theorem partsP_len (x : It) : (partsP x).1.length ≤ x.1.length ∧ (partsP x).2.1.length ≤ x.2.1.length ∧ (partsP x).2.2.length ≤ x.2.2.length := by
  unfold partsP
  split
  · exact ⟨smpsN_len _, smpsN_len _, smpsN_len _⟩
  · simp
theorem partsP_ok (x : It) : OkS (partsP x).1 ∧ OkS (partsP x).2.1 ∧ OkS (partsP x).2.2 := by
  unfold partsP
  split
  · exact ⟨smpsN_ok _, smpsN_ok _, smpsN_ok _⟩
  · exact ⟨fun _ h => (by cases h), fun _ h => (by cases h), fun _ h => (by cases h)⟩
theorem sameP_self {x : Pt} (h1 : OkS x.1) (h2 : OkS x.2.1) (h3 : OkS x.2.2) : sameP x x = true := by
  unfold sameP
  rw [sameS_self h1, sameS_self h2, sameS_self h3]; rfl
theorem sameP_parts (x : It) : sameP (partsP x) (partsP x) = true := by
  obtain ⟨h1, h2, h3⟩ := partsP_ok x
  exact sameP_self h1 h2 h3
theorem sameP_nil : sameP ([], [], []) ([], [], []) = true := rfl
theorem bandI_len (l : List Int) (line : Int) : (bandI l line).1.length = l.length ∧ (bandI l line).2.1.length = l.length / 4 ∧ (bandI l line).2.2.length = l.length / 4 := by
  unfold bandI apartI
  exact ⟨combI_len _ _ _, diffN_len _ _ _ _, diffN_len _ _ _ _⟩
theorem bndP_len (l : List Nat) (line : Int) : (bndP l line).1.length ≤ l.length ∧ (bndP l line).2.1.length ≤ l.length ∧ (bndP l line).2.2.length ≤ l.length := by
  unfold bndP
  split
  · simp
  · obtain ⟨h1, h2, h3⟩ := partsP_len (bandI (sixs l) line)
    obtain ⟨k1, k2, k3⟩ := bandI_len (sixs l) line
    rw [k1] at h1
    rw [k2] at h2
    rw [k3] at h3
    rw [sixs_len] at h1 h2 h3
    omega
theorem nearest_intD {n : Int} (h : n.natAbs < 9007199254740992) : numWD (double.nearest (n < 0) n.natAbs 0) = true := by
  by_cases h0 : n.natAbs = 0
  · rw [h0]
    exact numW_ofD (nearest_0D _ _)
  · have hl : n.natAbs.log2 < 53 := (Nat.log2_lt h0 (k := 53)).2 (by omega)
    obtain ⟨m, last, h1, _⟩ := nearest_exactD (neg := decide (n < 0)) (mag := n.natAbs) (c := n.natAbs) (k := 0) (place := 0) (by simp) h0 h (by omega) (by omega)
    exact numW_ofD h1
theorem floatEqD_self {b : Nat} (h : numWD b = true) : Op.floatEq .f64 b b = true := by
  unfold Op.floatEq
  rw [show FloatKind.format .f64 = double from rfl, order_valD h h]
  simp
theorem resp_num {n : Int} (h : -100000 ≤ n ∧ n ≤ 100000) : Op.floatEq .f64 (FloatKind.nearest .f64 n) (FloatKind.nearest .f64 n) = true :=
  floatEqD_self (nearest_intD (by omega))
theorem eq4C (a b c d : Nat × Nat) (ha : Op.floatEq .f64 a.1 a.1 = true ∧ Op.floatEq .f64 a.2 a.2 = true) (hb : Op.floatEq .f64 b.1 b.1 = true ∧ Op.floatEq .f64 b.2 b.2 = true) (hc : Op.floatEq .f64 c.1 c.1 = true ∧ Op.floatEq .f64 c.2 c.2 = true) (hd : Op.floatEq .f64 d.1 d.1 = true ∧ Op.floatEq .f64 d.2 d.2 = true) :
    eqT (.arr 4 (.cpx .f64)) [a, b, c, d] [a, b, c, d] = true := by
  show ((Op.floatEq .f64 a.1 a.1 && Op.floatEq .f64 a.2 a.2) && ((Op.floatEq .f64 b.1 b.1 && Op.floatEq .f64 b.2 b.2) && ((Op.floatEq .f64 c.1 c.1 && Op.floatEq .f64 c.2 c.2) && ((Op.floatEq .f64 d.1 d.1 && Op.floatEq .f64 d.2 d.2) && true)))) = true
  rw [ha.1, ha.2, hb.1, hb.2, hc.1, hc.2, hd.1, hd.2]
  rfl
end Go.Sx.U

/- Plain functions and hints. -/
namespace Go.Sx
open U
def sp27n : FSpec := ⟨fun vs => match vs with
  | [.one (.sl (.flt .f32) a), .one (.sl (.flt .f32) b)] => some ([List.length a ≤ 1000000000], .val (bV (sameS a b)))
  | [.one (.sl (.flt .f32) a), .one .nils] => some ([List.length a ≤ 1000000000], .val (bV (sameS a [])))
  | _ => none, true⟩
def sp45n : FSpec := ⟨fun vs => match vs with
  | [.agg [.one (.sl (.flt .f32) y), .one (.sl (.flt .f32) u), .one (.sl (.flt .f32) v)], .agg [.one (.sl (.flt .f32) y'), .one (.sl (.flt .f32) u'), .one (.sl (.flt .f32) v')]] => some ([List.length y ≤ 1000000000, List.length u ≤ 1000000000, List.length v ≤ 1000000000], .val (bV (sameP (y, u, v) (y', u', v'))))
  | [.agg [.one (.sl (.flt .f32) y), .one (.sl (.flt .f32) u), .one (.sl (.flt .f32) v)], .agg [.one .nils, .one .nils, .one .nils]] => some ([List.length y ≤ 1000000000, List.length u ≤ 1000000000, List.length v ≤ 1000000000], .val (bV (sameP (y, u, v) ([], [], []))))
  | _ => none, true⟩
end Go.Sx

/- What the engine asks, written out (printed by a program). -/
namespace Go.Sx
open U
end Go.Sx

/- Contracts. -/
namespace Go.Sx
open U
theorem nil_sl {t : Ty} {H : IH} {v : Value} (h : DenV ρ0 H (.one .nils) v) : DenV ρ0 H (.one (.sl t [])) v := by
  rw [show v = _ from h]
  exact ⟨none, 0, rfl, Nat.le_refl _, .inl rfl⟩
theorem so27n_ : SpecOk P1 gl1 27 sp27n := by
  intro vs ps r h hp
  simp only [sp27n] at h
  split at h
  · cases h
    exact fn27 _ _ (hp _ (.head _))
  · cases h
    exact Fn.args (fn27 _ [] (hp _ (.head _))) fun H vs d => by
      obtain ⟨v0, r0, rfl, h0, v1, r1, rfl, h1, hz⟩ := d
      exact ⟨_, _, rfl, h0, _, _, rfl, nil_sl h1, hz⟩
  · cases h
theorem so27n : Sp1 27 sp27n := ⟨so27n_, Proofs.Tryz.f27, _, by kernel_rfl, rfl, by kernel_rfl⟩
theorem so45n_ : SpecOk P1 gl1 45 sp45n := by
  intro vs ps r h hp
  simp only [sp45n] at h
  split at h
  · cases h
    exact fn45 (_, _, _) (_, _, _) (hp _ (.head _)) (hp _ (.tail _ (.head _))) (hp _ (.tail _ (.tail _ (.head _))))
  · cases h
    exact Fn.args (fn45 (_, _, _) ([], [], []) (hp _ (.head _)) (hp _ (.tail _ (.head _))) (hp _ (.tail _ (.tail _ (.head _))))) fun H vs d => by
      obtain ⟨v0, r0, rfl, h0, v1, r1, rfl, h1, hz⟩ := d
      obtain ⟨ws, e, a, q1, rfl, k1, b, q2, rfl, k2, c, q3, rfl, k3, hq⟩ := h1
      exact ⟨_, _, rfl, h0, _, _, rfl, ⟨_, e, _, _, rfl, nil_sl k1, _, _, rfl, nil_sl k2, _, _, rfl, nil_sl k3, hq⟩, hz⟩
  · cases h
theorem so45n : Sp1 45 sp45n := ⟨so45n_, Proofs.Tryz.f45, _, by kernel_rfl, rfl, by kernel_rfl⟩
end Go.Sx

/- Plain functions of composite: lists of parts, encoded fields. -/
namespace Go.Sx.U
def pAt (l : List Pt) (i : Nat) : Pt := List.getD l i ([], [], [])
def chkP (x : Pt) : Int := chkPt x.1 x.2.1 x.2.2
def chkLi (l : List Pt) (i : Nat) : Int := if chkP (pAt l i) = 0 then (if (pAt l i).1.length = (pAt l 0).1.length then 0 else 2) else chkP (pAt l i)
def chkLs (l : List Pt) : Int := if 32 < l.length then 5 else upTo (chkLi l) l.length
def encP (l : List Pt) (i : Nat) : List Int := encI (pAt l i).1 (pAt l i).2.1 (pAt l i).2.2 i
def encFE (l : List Pt) : Int := if chkLs l = 0 then upTo (fun i => lgE (encP l i)) l.length else chkLs l
def encFN (l : List Pt) : Fld := if encFE l = 0 then tab l.length fun i => smpsN (encP l i) else []
theorem li_first (l : List Pt) (g : Nat) : first [chkP (pAt l g), whenE (((pAt l g).1.length : Int) != ((pAt l 0).1.length : Int)) 2] = chkLi l g := by
  unfold chkLi
  generalize chkP (pAt l g) = e
  generalize (pAt l g).1.length = a
  generalize (pAt l 0).1.length = b
  by_cases h : e = 0
  · by_cases h2 : a = b
    · simp [first, whenE, h, h2]
    · have : ¬ (a : Int) = b := by omega
      simp [first, whenE, h, h2, this]
  · simp [first, h]
theorem chkLi_zero {l : List Pt} {i : Nat} : chkLi l i = 0 ↔ chkP (pAt l i) = 0 ∧ (pAt l i).1.length = (pAt l 0).1.length := by
  unfold chkLi
  generalize chkP (pAt l i) = e
  by_cases h : e = 0
  · by_cases h2 : (pAt l i).1.length = (pAt l 0).1.length <;> simp [h, h2]
  · simp [h]
theorem chkLs_zero {l : List Pt} : chkLs l = 0 ↔ l.length ≤ 32 ∧ ∀ i, i < l.length → chkP (pAt l i) = 0 ∧ (pAt l i).1.length = (pAt l 0).1.length := by
  unfold chkLs
  by_cases h : 32 < l.length
  · simp [h]; omega
  · rw [if_neg h, upTo_zero]
    simp only [chkLi_zero]
    exact ⟨fun k => ⟨by omega, k⟩, fun k => k.2⟩
def shortL (l : List Pt) : Bool := (l.all fun x => shortP x.1 x.2.1 x.2.2) && (decide ((l.length : Int) ≤ 5) || decide ((l.length : Int) = 33))
def shortF (l : Fld) : Bool := (l.all shortS) && (decide ((l.length : Int) ≤ 5) || decide ((l.length : Int) = 33))
def sameF (a b : Fld) : Bool := decide ((a.length : Int) = b.length) && (List.range a.length).all fun i => sameS (List.getD a i []) (List.getD b i [])
theorem sameF_self {l : Fld} (h : ∀ x ∈ l, OkS x) : sameF l l = true := by
  unfold sameF
  simp only [decide_true, Bool.true_and, List.all_eq_true, List.mem_range]
  exact fun i hi => sameS_self (h _ (getD_mem' hi))
theorem all_get {α : Type} {l : List α} {d : α} {p : α → Bool} : l.all p = true ↔ ∀ i, i < l.length → p (List.getD l i d) = true := by
  rw [List.all_eq_true]
  constructor
  · exact fun h i hi => h _ (getD_mem' hi)
  · intro h x hx
    obtain ⟨i, hi, e⟩ := List.mem_iff_getElem.1 hx
    have := h i hi
    rw [List.getD_eq_getElem?_getD, List.getElem?_eq_getElem hi, Option.getD_some, e] at this
    exact this
end Go.Sx.U

/- Plain functions and hints. -/
namespace Go.Sx
open U
abbrev pT : Ty := .pair (.sl (.flt .f32)) (.pair (.sl (.flt .f32)) (.sl (.flt .f32)))
@[reducible] def plV (l : List Pt) : V := .one (.sl pT l)
def h31 : Hints := ⟨fun f k s => match f, k with
  | 106, 3 => hMapG pT (.int .i64) (fun x => ((List.length x.1 : Nat) : Int)) 8 10 5 [1, 9] s
  | 31, 5 => match listAs s 0 pT with
    | some l => some ⟨Nat, fun i => s.at [0, 4, 18, 19] [tI 20 i], fun i => i ≤ List.length l ∧ upTo (chkLi l) i = 0, fun i => List.length l - i⟩
    | none => none
  | 31, 13 => match listAs s 0 pT with
    | some l => some ⟨Nat, fun i => ⟨[tI 44 i, (8, .val (.one (.own s.nx)))] ++ keepT [0, 42, 43] s.tm, (s.nx, some (.row lnT (tab i fun i => smpsN (encP l i)))) :: lessO s [8], s.nx + 1, s.lr⟩, fun i => i ≤ List.length l ∧ upTo (fun i => lgE (encP l i)) i = 0, fun i => List.length l - i⟩
    | none => none
  | 32, 3 => hMapG pT pT (fun x => x) 6 8 3 [7] s
  | 39, 3 => hMapG lnT lnT (fun x => x) 6 8 3 [7] s
  | 35, 4 => match listAs s 0 pT with
    | some l => some ⟨Nat, fun i => s.at [0] [tI 3 i], fun i => i ≤ List.length l ∧ upTo (chkLi l) i = 0, fun i => List.length l - i⟩
    | none => none
  | 28, 2 => match listAs s 0 pT with
    | some l => some ⟨Nat, fun i => s.at [0] [tI 3 i], fun i => i ≤ List.length l ∧ ∀ j, j < i → shortP (pAt l j).1 (pAt l j).2.1 (pAt l j).2.2 = true, fun i => List.length l - i⟩
    | none => none
  | 29, 2 => match listAs s 0 lnT with
    | some l => some ⟨Nat, fun i => s.at [0] [tI 3 i], fun i => i ≤ List.length l ∧ ∀ j, j < i → shortS (List.getD l j []) = true, fun i => List.length l - i⟩
    | none => none
  | 42, 4 => match listAs s 0 lnT, listAs s 1 lnT with
    | some a, some b => some ⟨Nat, fun i => s.at [0, 1] [tI 5 i], fun i => i ≤ List.length a ∧ ∀ j, j < i → sameS (List.getD a j []) (List.getD b j []) = true, fun i => List.length a - i⟩
    | _, _ => none
  | _, _ => none, 0⟩
def sp42 : FSpec := ⟨fun vs => match vs with
  | [.one (.sl (.sl (.flt .f32)) a), .one (.sl (.sl (.flt .f32)) b)] => some ([List.length a ≤ 1000000, ∀ x ∈ a, List.length x ≤ 1000000], .val (bV (sameF a b)))
  | [.one (.sl (.sl (.flt .f32)) a), .one .nils] => some ([List.length a ≤ 1000000, ∀ x ∈ a, List.length x ≤ 1000000], .val (bV (sameF a [])))
  | _ => none, true⟩
end Go.Sx
namespace Go.Sx
open U
def sp106 : FSpec := ⟨fun vs => match vs with
  | [.one (.sl (.pair (.sl (.flt .f32)) (.pair (.sl (.flt .f32)) (.sl (.flt .f32)))) l), .one (.fn 103 [] [])] => some ([List.length l ≤ 1000000], .val (.one (.frs (.int .i64) (List.map (fun x => ((List.length (show Pt from x).1 : Nat) : Int)) l))))
  | _ => none, true⟩
def sp31 : FSpec := ⟨fun vs => match vs with
  | [.one (.sl (.pair (.sl (.flt .f32)) (.pair (.sl (.flt .f32)) (.sl (.flt .f32)))) l)] => some ([∀ x ∈ (show List Pt from l), List.length x.1 ≤ 1000000000], .tup [fldV (encFN l), iV (encFE l)])
  | _ => none, false⟩
def sp32 : FSpec := ⟨fun vs => match vs with
  | [.one (.sl (.pair (.sl (.flt .f32)) (.pair (.sl (.flt .f32)) (.sl (.flt .f32)))) l)] => some ([List.length l ≤ 1000000, ∀ x ∈ (show List Pt from l), List.length x.1 ≤ 1000000 ∧ List.length x.2.1 ≤ 1000000 ∧ List.length x.2.2 ≤ 1000000], .val (plV l))
  | _ => none, false⟩
def sp39 : FSpec := ⟨fun vs => match vs with
  | [.one (.sl (.sl (.flt .f32)) l)] => some ([List.length l ≤ 1000000, ∀ x ∈ l, List.length x ≤ 1000000], .val (fldV l))
  | _ => none, false⟩
def sp35 : FSpec := ⟨fun vs => match vs with
  | [.one (.sl (.pair (.sl (.flt .f32)) (.pair (.sl (.flt .f32)) (.sl (.flt .f32)))) l)] => some ([∀ x ∈ (show List Pt from l), List.length x.1 ≤ 1000000000], .val (iV (chkLs l)))
  | _ => none, true⟩
def sp28 : FSpec := ⟨fun vs => match vs with
  | [.one (.sl (.pair (.sl (.flt .f32)) (.pair (.sl (.flt .f32)) (.sl (.flt .f32)))) l)] => some ([List.length l ≤ 9223372036854775807], .val (bV (shortL l)))
  | _ => none, true⟩
def sp29 : FSpec := ⟨fun vs => match vs with
  | [.one (.sl (.sl (.flt .f32)) l)] => some ([List.length l ≤ 9223372036854775807], .val (bV (shortF l)))
  | _ => none, true⟩
end Go.Sx

/- What the engine asks, written out (printed by a program). -/
namespace Go.Sx
open U
theorem vc106 (l : List Pt) : exF (env false [(103, sp103)] []) h31 0 106 Proofs.Tryz.f106 [plV l, .one (.fn 103 [] [])] (.val (.one (.frs (.int .i64) (l.map fun x => ((List.length x.1 : Nat) : Int))))) = (let q0 := (↑(List.length l) : Int); (∃ (g : Nat), Nat.le g (List.length l) ∧ (0 : Int) = (↑g : Int) ∧ q0 = q0 ∧ l = l ∧ List.map (fun (x : List Nat × List Nat × List Nat) => (↑(List.length x.1) : Int)) (List.take g l) = [] ∧ True) ∧ ∀ (g : Nat), Nat.le g (List.length l) → splitB (decide ((↑g : Int) < q0)) (((0 : Int) ≤ (↑g : Int) ∧ (↑g : Int) < q0) ∧ room (List.length (List.map (fun (x : List Nat × List Nat × List Nat) => (↑(List.length x.1) : Int)) (List.take g l)) + (1 : Nat)) (8 : Nat) ∧ fits IntKind.i64 ((↑g : Int) + (1 : Int)) ∧ ∃ (g' : Nat), Nat.le g' (List.length l) ∧ List.length l - g' < List.length l - g ∧ (↑g : Int) + (1 : Int) = (↑g' : Int) ∧ q0 = q0 ∧ l = l ∧ List.map (fun (x : List Nat × List Nat × List Nat) => (↑(List.length x.1) : Int)) (List.take g l) ++ [(↑(List.length (List.getD l g ([], [], [])).1) : Int)] = List.map (fun (x : List Nat × List Nat × List Nat) => (↑(List.length x.1) : Int)) (List.take g' l) ∧ True) (List.map (fun (x : List Nat × List Nat × List Nat) => (↑(List.length x.1) : Int)) (List.take g l) = List.map (fun (x : Pt) => (↑(List.length x.1) : Int)) l ∧ True)) := by
  kernel_rfl
theorem vc31 (l : List Pt) : exF (env false [(106, sp106), (26, sp26), (104, sp104), (95, sp95), (97, sp97)] []) h31 0 31 Proofs.Tryz.f31 [plV l] (.tup [fldV (encFN l), iV (encFE l)]) = (let q1 := (↑(List.length l) : Int); splitB (decide ((32 : Int) < q1)) (encFN l = [] ∧ (5 : Int) = encFE l ∧ True) (List.length l ≤ (1000000 : Nat) ∧ (∃ (g : Nat), (g ≤ List.length l ∧ upTo (chkLi l) g = (0 : Int)) ∧ (0 : Int) = (↑g : Int) ∧ q1 = q1 ∧ l = l ∧ l = l ∧ List.map (fun (x : Pt) => (↑(List.length x.1) : Int)) l = List.map (fun (x : Pt) => (↑(List.length x.1) : Int)) l ∧ True) ∧ ∀ (g : Nat), let q2 := (List.getD l g ([], [], [])); g ≤ List.length l ∧ upTo (chkLi l) g = (0 : Int) → splitB (decide ((↑g : Int) < q1)) (((0 : Int) ≤ (↑g : Int) ∧ (↑g : Int) < q1) ∧ List.length q2.1 ≤ (1000000000 : Nat) ∧ ((0 : Int) ≤ (↑g : Int) ∧ (↑g : Int) < (↑(List.length (List.map (fun (x : Pt) => (↑(List.length x.1) : Int)) l)) : Int)) ∧ g < List.length (List.map (fun (x : Pt) => (↑(List.length x.1) : Int)) l) ∧ ((0 : Int) ≤ (0 : Int) ∧ (0 : Int) < (↑(List.length (List.map (fun (x : Pt) => (↑(List.length x.1) : Int)) l)) : Int)) ∧ (0 : Nat) < List.length (List.map (fun (x : Pt) => (↑(List.length x.1) : Int)) l) ∧ (2 : Nat) ≤ (1000000000 : Nat) ∧ splitB (first [chkPt q2.1 q2.2.1 q2.2.2, whenE (List.getD (List.map (fun (x : Pt) => (↑(List.length x.1) : Int)) l) g (0 : Int) != List.getD (List.map (fun (x : Pt) => (↑(List.length x.1) : Int)) l) (0 : Nat) (0 : Int)) (2 : Int)] != (0 : Int)) (encFN l = [] ∧ first [chkPt q2.1 q2.2.1 q2.2.2, whenE (List.getD (List.map (fun (x : Pt) => (↑(List.length x.1) : Int)) l) g (0 : Int) != List.getD (List.map (fun (x : Pt) => (↑(List.length x.1) : Int)) l) (0 : Nat) (0 : Int)) (2 : Int)] = encFE l ∧ True) (fits IntKind.i64 ((↑g : Int) + (1 : Int)) ∧ ∃ (g' : Nat), (g' ≤ List.length l ∧ upTo (chkLi l) g' = (0 : Int)) ∧ List.length l - g' < List.length l - g ∧ (↑g : Int) + (1 : Int) = (↑g' : Int) ∧ q1 = q1 ∧ l = l ∧ l = l ∧ List.map (fun (x : Pt) => (↑(List.length x.1) : Int)) l = List.map (fun (x : Pt) => (↑(List.length x.1) : Int)) l ∧ True)) ((∃ (g : Nat), (g ≤ List.length l ∧ upTo (fun (i : Nat) => lgE (encP l i)) g = (0 : Int)) ∧ (0 : Int) = (↑g : Int) ∧ q1 = q1 ∧ l = l ∧ l = l ∧ (tab g fun (i : Nat) => smpsN (encP l i)) = [] ∧ List.map (fun (x : Pt) => (↑(List.length x.1) : Int)) l = List.map (fun (x : Pt) => (↑(List.length x.1) : Int)) l ∧ True) ∧ ∀ (g : Nat), let q0 := (List.getD l g ([], [], [])); let q3 := (encI q0.1 q0.2.1 q0.2.2 (↑g : Int)); g ≤ List.length l ∧ upTo (fun (i : Nat) => lgE (encP l i)) g = (0 : Int) → splitB (decide ((↑g : Int) < q1)) (((0 : Int) ≤ (↑g : Int) ∧ (↑g : Int) < q1) ∧ chkPt q0.1 q0.2.1 q0.2.2 = (0 : Int) ∧ (0 : Int) ≤ (↑g : Int) ∧ splitB (lgE q3 != (0 : Int)) (encFN l = [] ∧ lgE q3 = encFE l ∧ True) (room (List.length (tab g fun (i : Nat) => smpsN (encP l i)) + (1 : Nat)) (24 : Nat) ∧ fits IntKind.i64 ((↑g : Int) + (1 : Int)) ∧ ∃ (g' : Nat), (g' ≤ List.length l ∧ upTo (fun (i : Nat) => lgE (encP l i)) g' = (0 : Int)) ∧ List.length l - g' < List.length l - g ∧ (↑g : Int) + (1 : Int) = (↑g' : Int) ∧ q1 = q1 ∧ l = l ∧ l = l ∧ ((tab g fun (i : Nat) => smpsN (encP l i)) ++ [smpsN q3] = tab g' fun (i : Nat) => smpsN (encP l i)) ∧ List.map (fun (x : Pt) => (↑(List.length x.1) : Int)) l = List.map (fun (x : Pt) => (↑(List.length x.1) : Int)) l ∧ True)) ((tab g fun (i : Nat) => smpsN (encP l i)) = encFN l ∧ (0 : Int) = encFE l ∧ True)))) := by
  kernel_rfl
theorem vc32 (l : List Pt) : exF (env false [(21, sp21)] []) h31 0 32 Proofs.Tryz.f32 [plV l] (.val (plV l)) = (let q1 := (↑(List.length l) : Int); (∃ (g : Nat), Nat.le g (List.length l) ∧ (0 : Int) = (↑g : Int) ∧ q1 = q1 ∧ l = l ∧ List.map (fun (x : List Nat × List Nat × List Nat) => x) (List.take g l) = [] ∧ True) ∧ ∀ (g : Nat), let q0 := (List.getD l g ([], [], [])); Nat.le g (List.length l) → splitB (decide ((↑g : Int) < q1)) (((0 : Int) ≤ (↑g : Int) ∧ (↑g : Int) < q1) ∧ List.length q0.1 ≤ (1000000 : Nat) ∧ List.length q0.2.1 ≤ (1000000 : Nat) ∧ List.length q0.2.2 ≤ (1000000 : Nat) ∧ room (List.length (List.map (fun (x : List Nat × List Nat × List Nat) => x) (List.take g l)) + (1 : Nat)) (72 : Nat) ∧ fits IntKind.i64 ((↑g : Int) + (1 : Int)) ∧ ∃ (g' : Nat), Nat.le g' (List.length l) ∧ List.length l - g' < List.length l - g ∧ (↑g : Int) + (1 : Int) = (↑g' : Int) ∧ q1 = q1 ∧ l = l ∧ List.map (fun (x : List Nat × List Nat × List Nat) => x) (List.take g l) ++ [(q0.1, q0.2.1, q0.2.2)] = List.map (fun (x : List Nat × List Nat × List Nat) => x) (List.take g' l) ∧ True) (List.map (fun (x : List Nat × List Nat × List Nat) => x) (List.take g l) = l ∧ True)) := by
  kernel_rfl
theorem vc39 (l : Fld) : exF (env false [(34, sp34)] []) h31 0 39 Proofs.Tryz.f39 [fldV l] (.val (fldV l)) = (let q0 := (↑(List.length l) : Int); (∃ (g : Nat), Nat.le g (List.length l) ∧ (0 : Int) = (↑g : Int) ∧ q0 = q0 ∧ l = l ∧ List.map (fun (x : List Nat) => x) (List.take g l) = [] ∧ True) ∧ ∀ (g : Nat), Nat.le g (List.length l) → splitB (decide ((↑g : Int) < q0)) (((0 : Int) ≤ (↑g : Int) ∧ (↑g : Int) < q0) ∧ List.length (List.getD l g []) ≤ (1000000 : Nat) ∧ room (List.length (List.map (fun (x : List Nat) => x) (List.take g l)) + (1 : Nat)) (24 : Nat) ∧ fits IntKind.i64 ((↑g : Int) + (1 : Int)) ∧ ∃ (g' : Nat), Nat.le g' (List.length l) ∧ List.length l - g' < List.length l - g ∧ (↑g : Int) + (1 : Int) = (↑g' : Int) ∧ q0 = q0 ∧ l = l ∧ List.map (fun (x : List Nat) => x) (List.take g l) ++ [List.getD l g []] = List.map (fun (x : List Nat) => x) (List.take g' l) ∧ True) (List.map (fun (x : List Nat) => x) (List.take g l) = l ∧ True)) := by
  kernel_rfl
theorem vc35 (l : List Pt) : exF (env false [(23, sp23)] []) h31 0 35 Proofs.Tryz.f35 [plV l] (.val (iV (chkLs l))) = (let q1 := (↑(List.length l) : Int); splitB (decide ((32 : Int) < q1)) ((5 : Int) = chkLs l ∧ True) ((∃ (g : Nat), (g ≤ List.length l ∧ upTo (chkLi l) g = (0 : Int)) ∧ (0 : Int) = (↑g : Int) ∧ l = l ∧ True) ∧ ∀ (g : Nat), let q0 := (List.getD l g ([], [], [])); g ≤ List.length l ∧ upTo (chkLi l) g = (0 : Int) → splitB (decide ((↑g : Int) < q1)) (((0 : Int) ≤ (↑g : Int) ∧ (↑g : Int) < q1) ∧ List.length q0.1 ≤ (1000000000 : Nat) ∧ splitB (chkPt q0.1 q0.2.1 q0.2.2 != (0 : Int)) (chkPt q0.1 q0.2.1 q0.2.2 = chkLs l ∧ True) (((0 : Int) ≤ (↑g : Int) ∧ (↑g : Int) < q1) ∧ ((0 : Int) ≤ (0 : Int) ∧ (0 : Int) < q1) ∧ splitB ((↑(List.length q0.1) : Int) != (↑(List.length (List.getD l (0 : Nat) ([], [], [])).1) : Int)) ((2 : Int) = chkLs l ∧ True) (fits IntKind.i64 ((↑g : Int) + (1 : Int)) ∧ ∃ (g' : Nat), (g' ≤ List.length l ∧ upTo (chkLi l) g' = (0 : Int)) ∧ List.length l - g' < List.length l - g ∧ (↑g : Int) + (1 : Int) = (↑g' : Int) ∧ l = l ∧ True))) ((0 : Int) = chkLs l ∧ True))) := by
  kernel_rfl
theorem vc28 (l : List Pt) : exF (env false [(18, sp18)] []) h31 0 28 Proofs.Tryz.f28 [plV l] (.val (bV (shortL l))) = (let q0 := (↑(List.length l) : Int); (∃ (g : Nat), (g ≤ List.length l ∧ ∀ (j : Nat), j < g → shortP (pAt l j).1 (pAt l j).2.1 (pAt l j).2.2 = true) ∧ (0 : Int) = (↑g : Int) ∧ l = l ∧ True) ∧ ∀ (g : Nat), let q1 := (List.getD l g ([], [], [])); (g ≤ List.length l ∧ ∀ (j : Nat), j < g → shortP (pAt l j).1 (pAt l j).2.1 (pAt l j).2.2 = true) → splitB (decide ((↑g : Int) < q0)) (((0 : Int) ≤ (↑g : Int) ∧ (↑g : Int) < q0) ∧ splitB (!shortP q1.1 q1.2.1 q1.2.2) (false = shortL l ∧ True) (fits IntKind.i64 ((↑g : Int) + (1 : Int)) ∧ ∃ (g' : Nat), (g' ≤ List.length l ∧ ∀ (j : Nat), j < g' → shortP (pAt l j).1 (pAt l j).2.1 (pAt l j).2.2 = true) ∧ List.length l - g' < List.length l - g ∧ (↑g : Int) + (1 : Int) = (↑g' : Int) ∧ l = l ∧ True)) ((bif decide (q0 ≤ (5 : Int)) then true else q0 == (33 : Int)) = shortL l ∧ True)) := by
  kernel_rfl
theorem vc29 (l : Fld) : exF (env false [(30, sp30)] []) h31 0 29 Proofs.Tryz.f29 [fldV l] (.val (bV (shortF l))) = (let q0 := (↑(List.length l) : Int); (∃ (g : Nat), (g ≤ List.length l ∧ ∀ (j : Nat), j < g → shortS (List.getD l j []) = true) ∧ (0 : Int) = (↑g : Int) ∧ l = l ∧ True) ∧ ∀ (g : Nat), (g ≤ List.length l ∧ ∀ (j : Nat), j < g → shortS (List.getD l j []) = true) → splitB (decide ((↑g : Int) < q0)) (((0 : Int) ≤ (↑g : Int) ∧ (↑g : Int) < q0) ∧ splitB (!shortS (List.getD l g [])) (false = shortF l ∧ True) (fits IntKind.i64 ((↑g : Int) + (1 : Int)) ∧ ∃ (g' : Nat), (g' ≤ List.length l ∧ ∀ (j : Nat), j < g' → shortS (List.getD l j []) = true) ∧ List.length l - g' < List.length l - g ∧ (↑g : Int) + (1 : Int) = (↑g' : Int) ∧ l = l ∧ True)) ((bif decide (q0 ≤ (5 : Int)) then true else q0 == (33 : Int)) = shortF l ∧ True)) := by
  kernel_rfl
theorem vc42 (a b : Fld) : exF (env false [(27, sp27)] []) h31 0 42 Proofs.Tryz.f42 [fldV a, fldV b] (.val (bV (sameF a b))) = (splitB ((↑(List.length a) : Int) != (↑(List.length b) : Int)) (false = sameF a b ∧ True) ((∃ (g : Nat), (g ≤ List.length a ∧ ∀ (j : Nat), j < g → sameS (List.getD a j []) (List.getD b j []) = true) ∧ (0 : Int) = (↑g : Int) ∧ a = a ∧ b = b ∧ True) ∧ ∀ (g : Nat), (g ≤ List.length a ∧ ∀ (j : Nat), j < g → sameS (List.getD a j []) (List.getD b j []) = true) → splitB (decide ((↑g : Int) < (↑(List.length a) : Int))) (((0 : Int) ≤ (↑g : Int) ∧ (↑g : Int) < (↑(List.length a) : Int)) ∧ ((0 : Int) ≤ (↑g : Int) ∧ (↑g : Int) < (↑(List.length b) : Int)) ∧ List.length (List.getD a g []) ≤ (1000000000 : Nat) ∧ splitB (!sameS (List.getD a g []) (List.getD b g [])) (false = sameF a b ∧ True) (fits IntKind.i64 ((↑g : Int) + (1 : Int)) ∧ ∃ (g' : Nat), (g' ≤ List.length a ∧ ∀ (j : Nat), j < g' → sameS (List.getD a j []) (List.getD b j []) = true) ∧ List.length a - g' < List.length a - g ∧ (↑g : Int) + (1 : Int) = (↑g' : Int) ∧ a = a ∧ b = b ∧ True)) (true = sameF a b ∧ True))) := by
  kernel_rfl
end Go.Sx

/- Contracts. -/
namespace Go.Sx
open U
theorem fn106 (l : List Pt) (hl : l.length ≤ 1000000) : Fn P1 gl1 106 [plV l, .one (.fn 103 [] [])] (.val (.one (.frs (.int .i64) (l.map fun x => ((List.length x.1 : Nat) : Int))))) true := by
  refine Fn.flat ?_ rfl
  refine fn_of false [(103, sp103)] [] h31 0 Proofs.Tryz.f106 ⟨so103, trivial⟩ trivial (by kernel_rfl) rfl (by kernel_rfl) rfl rfl rfl ?_
  rw [vc106]
  try simp only [splitB_iff, -eq_self]
  refine ⟨⟨0, Nat.zero_le _, rfl, rfl, rfl, by simp⟩, fun g hg => ⟨fun hlt => ?_, fun hge => ?_⟩⟩
  · have hlt' : g < l.length := by simpa using hlt
    refine ⟨by omega, by simp only [room, List.length_map, List.length_take]; omega, by simp only [fits]; omega, g + 1, hlt', by omega, by simp, rfl, rfl, ?_, trivial⟩
    rw [getD_of hlt', List.take_succ_eq_append_getElem hlt', List.map_append]
    rfl
  · have hge' : ¬ g < l.length := by simpa using hge
    rw [List.take_of_length_le (by omega)]
    exact ⟨rfl, trivial⟩
theorem so106_ : SpecOk P1 gl1 106 sp106 := by
  intro vs ps r h hp
  simp only [sp106] at h
  split at h
  · cases h; exact fn106 _ (hp _ (.head _))
  · cases h
theorem so106 : Sp1 106 sp106 := ⟨so106_, Proofs.Tryz.f106, _, by kernel_rfl, rfl, by kernel_rfl⟩
theorem fn31 (l : List Pt) (hy : ∀ x ∈ l, x.1.length ≤ 1000000000) : Fn P1 gl1 31 [plV l] (.tup [fldV (encFN l), iV (encFE l)]) false := by
  refine fn_of false [(106, sp106), (26, sp26), (104, sp104), (95, sp95), (97, sp97)] [] h31 0 Proofs.Tryz.f31 ⟨so106, so26, so104, so95, so97, trivial⟩ trivial (by kernel_rfl) rfl (by kernel_rfl) rfl rfl rfl ?_
  rw [vc31]
  try simp only [splitB_iff, -eq_self]
  have hm : ∀ g, g < l.length → List.getD (l.map fun x : Pt => ((List.length x.1 : Nat) : Int)) g 0 = ((pAt l g).1.length : Int) := fun g hg => by
    rw [List.getD_eq_getElem?_getD, List.getElem?_map, List.getElem?_eq_getElem hg]
    show _ = (((List.getD l g ([], [], [])).1.length : Nat) : Int)
    rw [getD_of hg]
    rfl
  have hN : encFE l ≠ 0 → encFN l = [] := fun e => by unfold encFN; rw [if_neg e]
  refine ⟨fun h => ?_, fun h => ?_⟩
  · have h : (32 : Int) < (l.length : Int) := of_decide_eq_true h
    have e : encFE l = 5 := by
      have : chkLs l = 5 := by unfold chkLs; rw [if_pos (by omega)]
      unfold encFE
      rw [this]; rfl
    rw [hN (by rw [e]; decide), e]
    exact ⟨rfl, rfl, trivial⟩
  · have h : ¬ (32 : Int) < (l.length : Int) := of_decide_eq_false h
    refine ⟨by omega, ⟨0, ⟨by omega, rfl⟩, rfl, rfl, rfl, rfl, rfl, trivial⟩, fun g hg => ⟨fun hlt => ?_, fun hge => ?_⟩⟩
    · have hlt : g < l.length := by simpa using hlt
      rw [hm g hlt, hm 0 (by omega), List.length_map]
      have e : first [chkPt (List.getD l g ([], [], [])).1 (List.getD l g ([], [], [])).2.1 (List.getD l g ([], [], [])).2.2, whenE (((pAt l g).1.length : Int) != ((pAt l 0).1.length : Int)) 2] = chkLi l g := li_first l g
      rw [e]
      refine ⟨by omega, hy _ (getD_mem' hlt), by omega, by omega, by omega, by omega, by decide, fun k => ?_, fun k => ⟨by simp only [fits]; omega, g + 1, ⟨by omega, upTo_next hg.2 (bneF.1 k)⟩, by omega, by simp, rfl, rfl, rfl, rfl, trivial⟩⟩
      have k := bneZ.1 k
      have e2 : chkLs l = chkLi l g := by unfold chkLs; rw [if_neg (by omega), upTo_stop hg.2 k hlt]
      have e3 : encFE l = chkLi l g := by unfold encFE; rw [e2, if_neg k]
      rw [hN (by rw [e3]; exact k), e3]
      exact ⟨rfl, rfl, trivial⟩
    · have hge : ¬ g < l.length := by simpa using hge
      have e : g = l.length := by omega
      subst e
      have hc : chkLs l = 0 := by unfold chkLs; rw [if_neg (by omega)]; exact hg.2
      have hE : encFE l = upTo (fun i => lgE (encP l i)) l.length := by unfold encFE; rw [if_pos hc]
      refine ⟨⟨0, ⟨by omega, rfl⟩, rfl, rfl, rfl, rfl, rfl, rfl, trivial⟩, fun g hg2 => ⟨fun hlt => ?_, fun hge => ?_⟩⟩
      · have hlt : g < l.length := by simpa using hlt
        have hp : chkP (pAt l g) = 0 := ((chkLs_zero.1 hc).2 g hlt).1
        refine ⟨by omega, hp, by omega, fun k => ?_, fun k => ?_⟩
        · have k : lgE (encP l g) ≠ 0 := bneZ.1 k
          have e3 : encFE l = lgE (encP l g) := by rw [hE, upTo_stop (f := fun i => lgE (encP l i)) hg2.2 k hlt]
          rw [hN (by rw [e3]; exact k), e3]
          exact ⟨rfl, rfl, trivial⟩
        · have k : lgE (encP l g) = 0 := bneF.1 k
          exact ⟨by simp only [room, tab_len]; omega, by simp only [fits]; omega, g + 1, ⟨by omega, upTo_next (f := fun i => lgE (encP l i)) hg2.2 k⟩, by omega, by simp, rfl, rfl, rfl, (tab_succ g fun i => smpsN (encP l i)).symm, rfl, trivial⟩
      · have hge : ¬ g < l.length := by simpa using hge
        have e : g = l.length := by omega
        subst e
        have hE0 : encFE l = 0 := by rw [hE]; exact hg2.2
        rw [hE0]
        unfold encFN
        rw [if_pos hE0]
        exact ⟨rfl, rfl, trivial⟩
theorem so31_ : SpecOk P1 gl1 31 sp31 := by
  intro vs ps r h hp
  simp only [sp31] at h
  split at h
  · cases h; exact fn31 _ (hp _ (.head _))
  · cases h
theorem so31 : Sp1 31 sp31 := ⟨so31_, Proofs.Tryz.f31, _, by kernel_rfl, rfl, by kernel_rfl⟩
theorem fn32 (l : List Pt) (hl : l.length ≤ 1000000) (hy : ∀ x ∈ l, x.1.length ≤ 1000000 ∧ x.2.1.length ≤ 1000000 ∧ x.2.2.length ≤ 1000000) : Fn P1 gl1 32 [plV l] (.val (plV l)) false := by
  refine fn_of false [(21, sp21)] [] h31 0 Proofs.Tryz.f32 ⟨so21, trivial⟩ trivial (by kernel_rfl) rfl (by kernel_rfl) rfl rfl rfl ?_
  rw [vc32]
  try simp only [splitB_iff, -eq_self]
  refine ⟨⟨0, Nat.zero_le _, rfl, rfl, rfl, by simp⟩, fun g hg => ⟨fun hlt => ?_, fun hge => ?_⟩⟩
  · have hlt' : g < l.length := by simpa using hlt
    have hk := hy _ (getD_mem' (d := ([], [], [])) hlt')
    refine ⟨by omega, hk.1, hk.2.1, hk.2.2, by simp only [room, List.length_map, List.length_take]; omega, by simp only [fits]; omega, g + 1, hlt', by omega, by simp, rfl, rfl, ?_, trivial⟩
    rw [getD_of hlt', List.take_succ_eq_append_getElem hlt', List.map_append]
    rfl
  · have hge' : ¬ g < l.length := by simpa using hge
    rw [List.take_of_length_le (by omega)]
    exact ⟨by simp, trivial⟩
theorem so32_ : SpecOk P1 gl1 32 sp32 := by
  intro vs ps r h hp
  simp only [sp32] at h
  split at h
  · cases h; exact fn32 _ (hp _ (.head _)) (hp _ (.tail _ (.head _)))
  · cases h
theorem so32 : Sp1 32 sp32 := ⟨so32_, Proofs.Tryz.f32, _, by kernel_rfl, rfl, by kernel_rfl⟩
theorem fn39 (l : Fld) (hl : l.length ≤ 1000000) (hy : ∀ x ∈ l, x.length ≤ 1000000) : Fn P1 gl1 39 [fldV l] (.val (fldV l)) false := by
  refine fn_of false [(34, sp34)] [] h31 0 Proofs.Tryz.f39 ⟨so34, trivial⟩ trivial (by kernel_rfl) rfl (by kernel_rfl) rfl rfl rfl ?_
  rw [vc39]
  try simp only [splitB_iff, -eq_self]
  refine ⟨⟨0, Nat.zero_le _, rfl, rfl, rfl, by simp⟩, fun g hg => ⟨fun hlt => ?_, fun hge => ?_⟩⟩
  · have hlt' : g < l.length := by simpa using hlt
    refine ⟨by omega, hy _ (getD_mem' hlt'), by simp only [room, List.length_map, List.length_take]; omega, by simp only [fits]; omega, g + 1, hlt', by omega, by simp, rfl, rfl, ?_, trivial⟩
    rw [getD_of hlt', List.take_succ_eq_append_getElem hlt', List.map_append]
    rfl
  · have hge' : ¬ g < l.length := by simpa using hge
    rw [List.take_of_length_le (by omega)]
    exact ⟨by simp, trivial⟩
theorem so39_ : SpecOk P1 gl1 39 sp39 := by
  intro vs ps r h hp
  simp only [sp39] at h
  split at h
  · cases h; exact fn39 _ (hp _ (.head _)) (hp _ (.tail _ (.head _)))
  · cases h
theorem so39 : Sp1 39 sp39 := ⟨so39_, Proofs.Tryz.f39, _, by kernel_rfl, rfl, by kernel_rfl⟩
theorem fn35 (l : List Pt) (hy : ∀ x ∈ l, x.1.length ≤ 1000000000) : Fn P1 gl1 35 [plV l] (.val (iV (chkLs l))) true := by
  refine Fn.flat ?_ rfl
  refine fn_of false [(23, sp23)] [] h31 0 Proofs.Tryz.f35 ⟨so23, trivial⟩ trivial (by kernel_rfl) rfl (by kernel_rfl) rfl rfl rfl ?_
  rw [vc35]
  try simp only [splitB_iff, -eq_self]
  refine ⟨fun h => ?_, fun h => ⟨⟨0, ⟨by omega, rfl⟩, rfl, rfl, trivial⟩, fun g hg => ⟨fun hlt => ?_, fun hge => ?_⟩⟩⟩
  · have h : (32 : Int) < (l.length : Int) := of_decide_eq_true h
    unfold chkLs
    rw [if_pos (by omega)]
    exact ⟨rfl, trivial⟩
  · have h : ¬ (32 : Int) < (l.length : Int) := of_decide_eq_false h
    have hlt : g < l.length := by simpa using hlt
    refine ⟨by omega, hy _ (getD_mem' hlt), fun k => ?_, fun k => ⟨by omega, by omega, fun k2 => ?_, fun k2 => ⟨by simp only [fits]; omega, g + 1, ⟨by omega, ?_⟩, by omega, by simp, rfl, trivial⟩⟩⟩
    · have k : chkP (pAt l g) ≠ 0 := bneZ.1 k
      have e : chkLi l g = chkP (pAt l g) := by unfold chkLi; rw [if_neg k]
      unfold chkLs
      rw [if_neg (by omega), upTo_stop hg.2 (by rw [e]; exact k) hlt, e]
      exact ⟨rfl, trivial⟩
    · have k : chkP (pAt l g) = 0 := bneF.1 k
      have k2 : ¬ ((pAt l g).1.length : Int) = ((pAt l 0).1.length : Int) := bne_iff_ne.1 k2
      have e : chkLi l g = 2 := by unfold chkLi; rw [if_pos k, if_neg (by omega)]
      unfold chkLs
      rw [if_neg (by omega), upTo_stop hg.2 (by rw [e]; decide) hlt, e]
      exact ⟨rfl, trivial⟩
    · have k : chkP (pAt l g) = 0 := bneF.1 k
      have k2 : ((pAt l g).1.length : Int) = ((pAt l 0).1.length : Int) := bne_eq_false_iff_eq.1 k2
      exact upTo_next hg.2 (chkLi_zero.2 ⟨k, by omega⟩)
  · have h : ¬ (32 : Int) < (l.length : Int) := of_decide_eq_false h
    have hge : ¬ g < l.length := by simpa using hge
    have e : g = l.length := by omega
    subst e
    unfold chkLs
    rw [if_neg (by omega), hg.2]
    exact ⟨rfl, trivial⟩
theorem so35_ : SpecOk P1 gl1 35 sp35 := by
  intro vs ps r h hp
  simp only [sp35] at h
  split at h
  · cases h; exact fn35 _ (hp _ (.head _))
  · cases h
theorem so35 : Sp1 35 sp35 := ⟨so35_, Proofs.Tryz.f35, _, by kernel_rfl, rfl, by kernel_rfl⟩
theorem fn28 (l : List Pt) (hl : l.length ≤ 9223372036854775807) : Fn P1 gl1 28 [plV l] (.val (bV (shortL l))) true := by
  refine Fn.flat ?_ rfl
  refine fn_of false [(18, sp18)] [] h31 0 Proofs.Tryz.f28 ⟨so18, trivial⟩ trivial (by kernel_rfl) rfl (by kernel_rfl) rfl rfl rfl ?_
  rw [vc28]
  try simp only [splitB_iff, -eq_self]
  refine ⟨⟨0, ⟨by omega, fun j hj => absurd hj (by omega)⟩, rfl, rfl, trivial⟩, fun g hg => ⟨fun hlt => ?_, fun hge => ?_⟩⟩
  · have hlt : g < l.length := by simpa using hlt
    refine ⟨by omega, fun k => ?_, fun k => ⟨by simp only [fits]; omega, g + 1, ⟨by omega, fun j hj => ?_⟩, by omega, by simp, rfl, trivial⟩⟩
    · have k : shortP (pAt l g).1 (pAt l g).2.1 (pAt l g).2.2 = false := by rw [Bool.not_eq_true'] at k; exact k
      have : (l.all fun x => shortP x.1 x.2.1 x.2.2) = false := List.all_eq_false.2 ⟨_, getD_mem' (d := ([], [], [])) hlt, by
        show ¬ shortP (pAt l g).1 (pAt l g).2.1 (pAt l g).2.2 = true
        rw [k]; decide⟩
      unfold shortL
      rw [this]
      exact ⟨rfl, trivial⟩
    · by_cases e : j = g
      · subst e; rw [Bool.not_eq_false'] at k; exact k
      · exact hg.2 j (by omega)
  · have hge : ¬ g < l.length := by simpa using hge
    have : (l.all fun x => shortP x.1 x.2.1 x.2.2) = true := (all_get (d := ([], [], []))).2 fun i hi => hg.2 i (by omega)
    unfold shortL
    rw [this, bcond_l, Bool.true_and]
    refine ⟨?_, trivial⟩
    rw [Bool.eq_iff_iff]
    simp
theorem so28_ : SpecOk P1 gl1 28 sp28 := by
  intro vs ps r h hp
  simp only [sp28] at h
  split at h
  · cases h; exact fn28 _ (hp _ (.head _))
  · cases h
theorem so28 : Sp1 28 sp28 := ⟨so28_, Proofs.Tryz.f28, _, by kernel_rfl, rfl, by kernel_rfl⟩
theorem fn29 (l : Fld) (hl : l.length ≤ 9223372036854775807) : Fn P1 gl1 29 [fldV l] (.val (bV (shortF l))) true := by
  refine Fn.flat ?_ rfl
  refine fn_of false [(30, sp30)] [] h31 0 Proofs.Tryz.f29 ⟨so30, trivial⟩ trivial (by kernel_rfl) rfl (by kernel_rfl) rfl rfl rfl ?_
  rw [vc29]
  try simp only [splitB_iff, -eq_self]
  refine ⟨⟨0, ⟨by omega, fun j hj => absurd hj (by omega)⟩, rfl, rfl, trivial⟩, fun g hg => ⟨fun hlt => ?_, fun hge => ?_⟩⟩
  · have hlt : g < l.length := by simpa using hlt
    refine ⟨by omega, fun k => ?_, fun k => ⟨by simp only [fits]; omega, g + 1, ⟨by omega, fun j hj => ?_⟩, by omega, by simp, rfl, trivial⟩⟩
    · rw [Bool.not_eq_true'] at k
      have : l.all shortS = false := List.all_eq_false.2 ⟨_, getD_mem' (d := []) hlt, by rw [k]; decide⟩
      unfold shortF
      rw [this]
      exact ⟨rfl, trivial⟩
    · by_cases e : j = g
      · subst e; rw [Bool.not_eq_false'] at k; exact k
      · exact hg.2 j (by omega)
  · have hge : ¬ g < l.length := by simpa using hge
    have : l.all shortS = true := (all_get (d := [])).2 fun i hi => hg.2 i (by omega)
    unfold shortF
    rw [this, bcond_l, Bool.true_and]
    refine ⟨?_, trivial⟩
    rw [Bool.eq_iff_iff]
    simp
theorem so29_ : SpecOk P1 gl1 29 sp29 := by
  intro vs ps r h hp
  simp only [sp29] at h
  split at h
  · cases h; exact fn29 _ (hp _ (.head _))
  · cases h
theorem so29 : Sp1 29 sp29 := ⟨so29_, Proofs.Tryz.f29, _, by kernel_rfl, rfl, by kernel_rfl⟩
theorem fn42 (a b : Fld) (hl : a.length ≤ 1000000) (hy : ∀ x ∈ a, x.length ≤ 1000000) : Fn P1 gl1 42 [fldV a, fldV b] (.val (bV (sameF a b))) true := by
  refine Fn.flat ?_ rfl
  refine fn_of false [(27, sp27)] [] h31 0 Proofs.Tryz.f42 ⟨so27, trivial⟩ trivial (by kernel_rfl) rfl (by kernel_rfl) rfl rfl rfl ?_
  rw [vc42]
  try simp only [splitB_iff, -eq_self]
  refine ⟨fun h => ?_, fun h => ⟨⟨0, ⟨by omega, fun j hj => absurd hj (by omega)⟩, rfl, rfl, rfl, trivial⟩, fun g hg => ⟨fun hlt => ?_, fun hge => ?_⟩⟩⟩
  · have h : ¬ (a.length : Int) = b.length := bne_iff_ne.1 h
    unfold sameF
    rw [decide_eq_false h]
    exact ⟨rfl, trivial⟩
  · have h : (a.length : Int) = b.length := bne_eq_false_iff_eq.1 h
    have hlt : g < a.length := by simpa using hlt
    have hk := hy _ (getD_mem' (d := []) hlt)
    refine ⟨by omega, by omega, by omega, fun k => ?_, fun k => ⟨by simp only [fits]; omega, g + 1, ⟨by omega, fun j hj => ?_⟩, by omega, by simp, rfl, rfl, trivial⟩⟩
    · rw [Bool.not_eq_true'] at k
      have : sameF a b = false := by
        unfold sameF
        rw [Bool.and_eq_false_iff]
        exact .inr (List.all_eq_false.2 ⟨g, List.mem_range.2 hlt, by rw [k]; decide⟩)
      rw [this]
      exact ⟨rfl, trivial⟩
    · by_cases e : j = g
      · subst e; rw [Bool.not_eq_false'] at k; exact k
      · exact hg.2 j (by omega)
  · have h : (a.length : Int) = b.length := bne_eq_false_iff_eq.1 h
    have hge : ¬ g < a.length := by simpa using hge
    have : sameF a b = true := by
      unfold sameF
      simp only [Bool.and_eq_true, decide_eq_true_eq, List.all_eq_true, List.mem_range]
      exact ⟨h, fun i hi => hg.2 i (by omega)⟩
    rw [this]
    exact ⟨rfl, trivial⟩
theorem so42_ : SpecOk P1 gl1 42 sp42 := by
  intro vs ps r h hp
  simp only [sp42] at h
  split at h
  · cases h
    exact fn42 _ _ (hp _ (.head _)) (hp _ (.tail _ (.head _)))
  · cases h
    exact Fn.args (fn42 _ [] (hp _ (.head _)) (hp _ (.tail _ (.head _)))) fun H vs d => by
      obtain ⟨v0, r0, rfl, h0, v1, r1, rfl, h1, hz⟩ := d
      exact ⟨_, _, rfl, h0, _, _, rfl, nil_sl h1, hz⟩
  · cases h
theorem so42 : Sp1 42 sp42 := ⟨so42_, Proofs.Tryz.f42, _, by kernel_rfl, rfl, by kernel_rfl⟩
end Go.Sx

/- Plain functions of the law Fields. -/
namespace Go.Sx.U
def encT (l : List Pt) (i : Nat) : Int := if chkLs l = 0 then upTo (fun i => lgE (encP l i)) i else chkLs l
theorem encT_all (l : List Pt) : encT l l.length = encFE l := rfl
theorem upTo_keep {f : Nat → Int} {i : Nat} (h : upTo f i ≠ 0) : ∀ {n : Nat}, i ≤ n → upTo f n = upTo f i
  | 0, hi => by
    have : i = 0 := by omega
    subst this; rfl
  | n + 1, hi => by
    by_cases e : i = n + 1
    · subst e; rfl
    · have k := upTo_keep h (n := n) (by omega)
      show (if upTo f n = 0 then f n else upTo f n) = _
      rw [if_neg (by rw [k]; exact h), k]
theorem encT_stop {l : List Pt} {i : Nat} (h : encT l i ≠ 0) (hi : i ≤ l.length) : encFE l = encT l i := by
  unfold encT at h ⊢
  unfold encFE
  by_cases k : chkLs l = 0
  · rw [if_pos k] at h ⊢
    rw [if_pos k]
    exact upTo_keep h hi
  · rw [if_neg k] at h ⊢
    rw [if_neg k]
theorem encT_next {l : List Pt} {i : Nat} (h : encT l i = 0) : chkLs l = 0 ∧ encT l (i + 1) = lgE (encP l i) := by
  unfold encT at h
  by_cases k : chkLs l = 0
  · rw [if_pos k] at h
    refine ⟨k, ?_⟩
    unfold encT
    rw [if_pos k]
    show (if upTo (fun i => lgE (encP l i)) i = 0 then _ else _) = _
    rw [if_pos h]
  · rw [if_neg k] at h; exact absurd h k
theorem shortL_len {l : List Pt} (h : shortL l = true) : l.length ≤ 33 ∧ ∀ x ∈ l, x.1.length ≤ 260 ∧ x.2.1.length ≤ 24 ∧ x.2.2.length ≤ 24 := by
  unfold shortL at h
  simp only [Bool.and_eq_true, Bool.or_eq_true, decide_eq_true_eq, List.all_eq_true] at h
  exact ⟨by omega, fun x hx => shortP_len (h.1 x hx)⟩
theorem shortF_len {l : Fld} (h : shortF l = true) : l.length ≤ 33 ∧ ∀ x ∈ l, x.length ≤ 260 := by
  unfold shortF at h
  simp only [Bool.and_eq_true, Bool.or_eq_true, decide_eq_true_eq, List.all_eq_true] at h
  exact ⟨by omega, fun x hx => shortS_len (h.1 x hx)⟩
theorem encFN_mem {l : List Pt} {x : List Nat} (h : x ∈ encFN l) : ∃ i, i < l.length ∧ x = smpsN (encP l i) := by
  unfold encFN at h
  split at h
  · obtain ⟨i, hi, e⟩ := mem_tab h
    exact ⟨i, hi, e.symm⟩
  · cases h
theorem encFN_len {l : List Pt} (hl : l.length ≤ 33) (hx : ∀ x ∈ l, x.1.length ≤ 260 ∧ x.2.1.length ≤ 24 ∧ x.2.2.length ≤ 24) : (encFN l).length ≤ 33 ∧ (∀ x ∈ encFN l, x.length ≤ 260) ∧ ∀ x ∈ encFN l, OkS x := by
  refine ⟨?_, fun x hx2 => ?_, fun x hx2 => ?_⟩
  · unfold encFN
    split
    · rw [tab_len]; exact hl
    · simp
  · obtain ⟨i, hi, e⟩ := encFN_mem hx2
    have k := smpsN_len (encP l i)
    have k2 := (hx _ (getD_mem' (d := ([], [], [])) hi)).1
    rw [e]
    unfold encP at k
    rw [encI_len] at k
    exact Nat.le_trans k k2
  · obtain ⟨i, hi, e⟩ := encFN_mem hx2
    rw [e]
    exact smpsN_ok _
theorem pan_eq {s : List Nat} (hs : chkSig s = 0) {c k : Nat} (hc : c < s.length / 4) (hk : k < 4) :
    Option.isSome (Ieee.Format.div (FloatKind.format FloatKind.f32) (FloatKind.nearest FloatKind.f32 (qu (List.take 4 (List.drop (4 * c) (sixs s))) k).1) 1098907648) = true ∧
    Option.isSome (Ieee.Format.div (FloatKind.format FloatKind.f32) (FloatKind.nearest FloatKind.f32 (qu (List.take 4 (List.drop (4 * c) (sixs s))) k).2) 1098907648) = true ∧
    (!(Op.floatEq FloatKind.f32 (List.getD (List.getD (panN s) c (List.replicate 4 (0, 0))) k (0, 0)).1 (Option.getD (Ieee.Format.div (FloatKind.format FloatKind.f32) (FloatKind.nearest FloatKind.f32 (qu (List.take 4 (List.drop (4 * c) (sixs s))) k).1) 1098907648) 0) && Op.floatEq FloatKind.f32 (List.getD (List.getD (panN s) c (List.replicate 4 (0, 0))) k (0, 0)).2 (Option.getD (Ieee.Format.div (FloatKind.format FloatKind.f32) (FloatKind.nearest FloatKind.f32 (qu (List.take 4 (List.drop (4 * c) (sixs s))) k).2) 1098907648) 0))) = false := by
  obtain ⟨k1, k2, k3⟩ := chkSig_zero.1 hs
  have hb : Bd 16384 (List.take 4 (List.drop (4 * c) (sixs s))) := fun n hn => bd_sixs k3 n (List.mem_of_mem_drop (List.mem_of_mem_take hn))
  have hlen : (List.take 4 (List.drop (4 * c) (sixs s))).length ≤ 4 := by rw [List.length_take]; omega
  obtain ⟨q1, q2⟩ := quTo_bd hb (by omega) k (List.take 4 (List.drop (4 * c) (sixs s))).length
  have e0 : List.getD (List.getD (panN s) c (List.replicate 4 (0, 0))) k (0, 0) = (smp (qu (List.take 4 (List.drop (4 * c) (sixs s))) k).1, smp (qu (List.take 4 (List.drop (4 * c) (sixs s))) k).2) := by
    unfold panN
    rw [if_pos hs, tab_get hc]
    unfold panI
    rw [tab_get hk]
  rw [e0]
  unfold qu
  generalize quTo (List.take 4 (List.drop (4 * c) (sixs s))) k (List.take 4 (List.drop (4 * c) (sixs s))).length = z at q1 q2 ⊢
  have b1 : z.1.natAbs < 16777216 := by omega
  have b2 : z.2.natAbs < 16777216 := by omega
  have e1 : Ieee.Format.div (FloatKind.format .f32) (FloatKind.nearest .f32 z.1) 1098907648 = some (smp z.1) := (smp_num b1).1
  have e2 : Ieee.Format.div (FloatKind.format .f32) (FloatKind.nearest .f32 z.2) 1098907648 = some (smp z.2) := (smp_num b2).1
  rw [e1, e2]
  refine ⟨rfl, rfl, ?_⟩
  rw [Option.getD_some, Option.getD_some, eq_smp b1 b1, eq_smp b2 b2]
  simp
theorem panN_len {s : List Nat} : (panN s).length = if chkSig s = 0 then s.length / 4 else 0 := by
  unfold panN
  split
  · rw [tab_len]
  · rfl
end Go.Sx.U

/- Plain functions and hints. -/
namespace Go.Sx
open U
def keepN (l : List Nat) (tm : List (Nat × SV)) : List (Nat × SV) := l.filterMap fun t => (lookT tm t).map fun v => (t, v)
def h4 : Hints := ⟨fun f k s => match f, k with
  | 4, 8 => match listAs s 0 pT with
    | some l => some ⟨Nat, fun i => ⟨[tI 14 i, tI 11 (encT l i), (13, .val (.one (.own s.nx)))] ++ keepT [0, 1, 2, 7, 8, 9, 10, 12] s.tm, (s.nx, some (.row lnT (tab i fun i => smpsN (encP l i)))) :: lessO s [13], s.nx + 1, s.lr⟩, fun i => i ≤ List.length l ∧ (chkLs l = 0 ∨ i = 0), fun i => List.length l - i⟩
    | none => none
  | 4, 21 => match listAs s 9 panT with
    | some p => some ⟨Nat, fun i => ⟨[tI 88 i, (9, .val (.one (.sl panT p)))] ++ keepN [1, 2, 7, 8, 10, 11, 12, 13, 87] s.tm, lessO s [9], s.nx, s.lr⟩, fun i => i ≤ List.length p, fun i => List.length p - i⟩
    | none => none
  | _, _ => none, 5⟩
end Go.Sx

/- What the engine asks, written out (printed by a program). -/
namespace Go.Sx
open U
theorem vc4 (l : List Pt) (f : Fld) (s : List Nat) : exF (env false [(19, sp19), (34, sp34), (32, sp32), (39, sp39), (28, sp28), (29, sp29), (30, sp30), (31, sp31), (33, sp33), (35, sp35), (36, sp36), (25, sp25), (37, sp37), (38, sp38), (41, sp41), (40, sp40), (42, sp42)] []) h4 0 4 Proofs.Tryz.f4 [plV l, fldV f, .one (.sl (.flt .f32) s)] (.val (bV true)) = (let q0 := (FloatKind.format FloatKind.f32); let q8 := ((0 : Nat), (0 : Nat)); let q1 := (List.replicate (4 : Nat) q8); let q13 := (List.length (panN s)); let q2 := (↑q13 : Int); let q3 := (1098907648 : Nat); let q9 := (↑(List.length s) : Int); let q10 := (bif chkFld f == chkFld f then chkSig s == chkSig s else false); let q11 := (false = true ∧ True); let q12 := (1000000 : Nat); let q24 := ((chkFld f == chkFld f) = true → List.length s ≤ q12); let q25 := ((0 : Int) ≤ (0 : Int) ∧ (0 : Int) ≤ (3 : Int)); let q26 := ((0 : Int) ≤ (0 : Int) ∧ (0 : Int) < (4 : Int)); let q27 := ((0 : Int) ≤ (1 : Int) ∧ (1 : Int) ≤ (3 : Int)); let q28 := ((0 : Int) ≤ (1 : Int) ∧ (1 : Int) < (4 : Int)); let q29 := ((0 : Int) ≤ (2 : Int) ∧ (2 : Int) ≤ (3 : Int)); let q30 := ((0 : Int) ≤ (2 : Int) ∧ (2 : Int) < (4 : Int)); let q31 := ((0 : Int) ≤ (3 : Int) ∧ (3 : Int) ≤ (3 : Int)); let q32 := ((0 : Int) ≤ (3 : Int) ∧ (3 : Int) < (4 : Int)); let q37 := (q10 = true → List.length (encFN l) ≤ q12); let q70 := ((0 : Int) ≤ q9 ∧ (0 : Int) < (4 : Int) ∧ fits IntKind.i64 (q9 / (4 : Int))); List.length l ≤ (9223372036854775807 : Nat) ∧ ((!shortL l) = false → List.length f ≤ (9223372036854775807 : Nat)) ∧ splitB (bif bif !shortL l then true else !shortF f then true else !shortS s) (true = true ∧ True) (List.length l ≤ q12 ∧ (∀ (x : Pt), x ∈ l → List.length x.1 ≤ q12 ∧ List.length x.2.1 ≤ q12 ∧ List.length x.2.2 ≤ q12) ∧ (∀ (x : Pt), x ∈ l → List.length x.1 ≤ (1000000000 : Nat)) ∧ List.length s ≤ q12 ∧ (∀ (x : Pt), x ∈ l → List.length x.1 ≤ (1000000000 : Nat)) ∧ (∃ (g : Nat), (g ≤ List.length l ∧ (chkLs l = (0 : Int) ∨ g = (0 : Nat))) ∧ (0 : Int) = (↑g : Int) ∧ chkLs l = encT l g ∧ chkSig s = chkSig s ∧ chkSig s = chkSig s ∧ encFE l = encFE l ∧ encFN l = encFN l ∧ l = l ∧ f = f ∧ s = s ∧ (tab g fun (i : Nat) => smpsN (encP l i)) = [] ∧ panN s = panN s ∧ s = s ∧ True) ∧ ∀ (g : Nat), let q14 := (bif bif bif bif bif chkFld f == chkFld f then chkSig s == chkSig s else false then sameF (encFN l) [] else false then encFE l == encT l g else false then chkSig s == chkSig s else false then true else false); let q19 := (List.getD l g ([], [], [])); g ≤ List.length l ∧ (chkLs l = (0 : Int) ∨ g = (0 : Nat)) → splitB (bif encT l g == (0 : Int) then decide ((↑g : Int) < (↑(List.length l) : Int)) else false) (((0 : Int) ≤ (↑g : Int) ∧ (↑g : Int) < (↑(List.length l) : Int)) ∧ chkPt q19.1 q19.2.1 q19.2.2 = (0 : Int) ∧ (0 : Int) ≤ (↑g : Int) ∧ room (List.length (tab g fun (i : Nat) => smpsN (encP l i)) + (1 : Nat)) (24 : Nat) ∧ fits IntKind.i64 ((↑g : Int) + (1 : Int)) ∧ ∃ (g' : Nat), (g' ≤ List.length l ∧ (chkLs l = (0 : Int) ∨ g' = (0 : Nat))) ∧ List.length l - g' < List.length l - g ∧ (↑g : Int) + (1 : Int) = (↑g' : Int) ∧ lgE (encI q19.1 q19.2.1 q19.2.2 (↑g : Int)) = encT l g' ∧ chkSig s = chkSig s ∧ chkSig s = chkSig s ∧ encFE l = encFE l ∧ encFN l = encFN l ∧ l = l ∧ f = f ∧ s = s ∧ ((tab g fun (i : Nat) => smpsN (encP l i)) ++ [smpsN (encI q19.1 q19.2.1 q19.2.2 (↑g : Int))] = tab g' fun (i : Nat) => smpsN (encP l i)) ∧ panN s = panN s ∧ s = s ∧ True) (splitB (encT l g != (0 : Int)) (splitB (chkSig s == (0 : Int)) (q70 ∧ splitB (q2 != q9 / (4 : Int)) q11 ((∃ (g_1 : Nat), Nat.le g_1 q13 ∧ (0 : Int) = (↑g_1 : Int) ∧ panN s = panN s ∧ f = f ∧ s = s ∧ encFN l = encFN l ∧ encFE l = encFE l ∧ chkSig s = chkSig s ∧ encT l g = encT l g ∧ chkSig s = chkSig s ∧ q2 = q2 ∧ ((tab g fun (i : Nat) => smpsN (encP l i)) = tab g fun (i : Nat) => smpsN (encP l i)) ∧ s = s ∧ True) ∧ ∀ (g_1 : Nat), let q4 := (List.take (4 : Nat) (List.drop ((4 : Nat) * g_1) (sixs s))); let q15 := ((0 : Int) ≤ (↑g_1 : Int) ∧ (4 : Int) * (↑g_1 : Int) + (4 : Int) ≤ q9); let q20 := (List.getD (panN s) g_1 q1); let q33 := ((0 : Int) ≤ (↑g_1 : Int) ∧ (↑g_1 : Int) < q2); let q38 := (Ieee.Format.div q0 (FloatKind.nearest FloatKind.f32 (qu q4 (0 : Nat)).1) q3); let q39 := (Ieee.Format.div q0 (FloatKind.nearest FloatKind.f32 (qu q4 (0 : Nat)).2) q3); let q40 := (Ieee.Format.div q0 (FloatKind.nearest FloatKind.f32 (qu q4 (1 : Nat)).1) q3); let q41 := (Ieee.Format.div q0 (FloatKind.nearest FloatKind.f32 (qu q4 (1 : Nat)).2) q3); let q42 := (Ieee.Format.div q0 (FloatKind.nearest FloatKind.f32 (qu q4 (2 : Nat)).1) q3); let q43 := (Ieee.Format.div q0 (FloatKind.nearest FloatKind.f32 (qu q4 (2 : Nat)).2) q3); let q44 := (Ieee.Format.div q0 (FloatKind.nearest FloatKind.f32 (qu q4 (3 : Nat)).1) q3); let q45 := (Ieee.Format.div q0 (FloatKind.nearest FloatKind.f32 (qu q4 (3 : Nat)).2) q3); Nat.le g_1 q13 → splitB (decide ((↑g_1 : Int) < q2)) (chkSig s = (0 : Int) ∧ q15 ∧ q25 ∧ q33 ∧ q26 ∧ Option.isSome q38 = true ∧ Option.isSome q39 = true ∧ splitB (!(Op.floatEq FloatKind.f32 (List.getD q20 (0 : Nat) q8).1 (Option.getD q38 (0 : Nat)) && Op.floatEq FloatKind.f32 (List.getD q20 (0 : Nat) q8).2 (Option.getD q39 (0 : Nat)))) q11 (fits IntKind.i64 (1 : Int) ∧ chkSig s = (0 : Int) ∧ q15 ∧ q27 ∧ q33 ∧ q28 ∧ Option.isSome q40 = true ∧ Option.isSome q41 = true ∧ splitB (!(Op.floatEq FloatKind.f32 (List.getD q20 (1 : Nat) q8).1 (Option.getD q40 (0 : Nat)) && Op.floatEq FloatKind.f32 (List.getD q20 (1 : Nat) q8).2 (Option.getD q41 (0 : Nat)))) q11 (fits IntKind.i64 (2 : Int) ∧ chkSig s = (0 : Int) ∧ q15 ∧ q29 ∧ q33 ∧ q30 ∧ Option.isSome q42 = true ∧ Option.isSome q43 = true ∧ splitB (!(Op.floatEq FloatKind.f32 (List.getD q20 (2 : Nat) q8).1 (Option.getD q42 (0 : Nat)) && Op.floatEq FloatKind.f32 (List.getD q20 (2 : Nat) q8).2 (Option.getD q43 (0 : Nat)))) q11 (fits IntKind.i64 (3 : Int) ∧ chkSig s = (0 : Int) ∧ q15 ∧ q31 ∧ q33 ∧ q32 ∧ Option.isSome q44 = true ∧ Option.isSome q45 = true ∧ splitB (!(Op.floatEq FloatKind.f32 (List.getD q20 (3 : Nat) q8).1 (Option.getD q44 (0 : Nat)) && Op.floatEq FloatKind.f32 (List.getD q20 (3 : Nat) q8).2 (Option.getD q45 (0 : Nat)))) q11 (fits IntKind.i64 (4 : Int) ∧ fits IntKind.i64 ((↑g_1 : Int) + (1 : Int)) ∧ ∃ (g' : Nat), Nat.le g' q13 ∧ List.length (panN s) - g' < List.length (panN s) - g_1 ∧ (↑g_1 : Int) + (1 : Int) = (↑g' : Int) ∧ panN s = panN s ∧ f = f ∧ s = s ∧ encFN l = encFN l ∧ encFE l = encFE l ∧ chkSig s = chkSig s ∧ encT l g = encT l g ∧ chkSig s = chkSig s ∧ q2 = q2 ∧ ((tab g fun (i : Nat) => smpsN (encP l i)) = tab g fun (i : Nat) => smpsN (encP l i)) ∧ s = s ∧ True))))) (List.length f ≤ q12 ∧ (∀ (x : List Nat), x ∈ f → List.length x ≤ q12) ∧ q24 ∧ q37 ∧ (q10 = true → ∀ (x : List Nat), x ∈ encFN l → List.length x ≤ q12) ∧ q14 = true ∧ True))) (splitB (q2 != (0 : Int)) q11 ((∃ (g_1 : Nat), Nat.le g_1 q13 ∧ (0 : Int) = (↑g_1 : Int) ∧ panN s = panN s ∧ f = f ∧ s = s ∧ encFN l = encFN l ∧ encFE l = encFE l ∧ chkSig s = chkSig s ∧ encT l g = encT l g ∧ chkSig s = chkSig s ∧ q2 = q2 ∧ ((tab g fun (i : Nat) => smpsN (encP l i)) = tab g fun (i : Nat) => smpsN (encP l i)) ∧ s = s ∧ True) ∧ ∀ (g_1 : Nat), let q5 := (List.take (4 : Nat) (List.drop ((4 : Nat) * g_1) (sixs s))); let q16 := ((0 : Int) ≤ (↑g_1 : Int) ∧ (4 : Int) * (↑g_1 : Int) + (4 : Int) ≤ q9); let q21 := (List.getD (panN s) g_1 q1); let q34 := ((0 : Int) ≤ (↑g_1 : Int) ∧ (↑g_1 : Int) < q2); let q46 := (Ieee.Format.div q0 (FloatKind.nearest FloatKind.f32 (qu q5 (0 : Nat)).1) q3); let q47 := (Ieee.Format.div q0 (FloatKind.nearest FloatKind.f32 (qu q5 (0 : Nat)).2) q3); let q48 := (Ieee.Format.div q0 (FloatKind.nearest FloatKind.f32 (qu q5 (1 : Nat)).1) q3); let q49 := (Ieee.Format.div q0 (FloatKind.nearest FloatKind.f32 (qu q5 (1 : Nat)).2) q3); let q50 := (Ieee.Format.div q0 (FloatKind.nearest FloatKind.f32 (qu q5 (2 : Nat)).1) q3); let q51 := (Ieee.Format.div q0 (FloatKind.nearest FloatKind.f32 (qu q5 (2 : Nat)).2) q3); let q52 := (Ieee.Format.div q0 (FloatKind.nearest FloatKind.f32 (qu q5 (3 : Nat)).1) q3); let q53 := (Ieee.Format.div q0 (FloatKind.nearest FloatKind.f32 (qu q5 (3 : Nat)).2) q3); Nat.le g_1 q13 → splitB (decide ((↑g_1 : Int) < q2)) (chkSig s = (0 : Int) ∧ q16 ∧ q25 ∧ q34 ∧ q26 ∧ Option.isSome q46 = true ∧ Option.isSome q47 = true ∧ splitB (!(Op.floatEq FloatKind.f32 (List.getD q21 (0 : Nat) q8).1 (Option.getD q46 (0 : Nat)) && Op.floatEq FloatKind.f32 (List.getD q21 (0 : Nat) q8).2 (Option.getD q47 (0 : Nat)))) q11 (fits IntKind.i64 (1 : Int) ∧ chkSig s = (0 : Int) ∧ q16 ∧ q27 ∧ q34 ∧ q28 ∧ Option.isSome q48 = true ∧ Option.isSome q49 = true ∧ splitB (!(Op.floatEq FloatKind.f32 (List.getD q21 (1 : Nat) q8).1 (Option.getD q48 (0 : Nat)) && Op.floatEq FloatKind.f32 (List.getD q21 (1 : Nat) q8).2 (Option.getD q49 (0 : Nat)))) q11 (fits IntKind.i64 (2 : Int) ∧ chkSig s = (0 : Int) ∧ q16 ∧ q29 ∧ q34 ∧ q30 ∧ Option.isSome q50 = true ∧ Option.isSome q51 = true ∧ splitB (!(Op.floatEq FloatKind.f32 (List.getD q21 (2 : Nat) q8).1 (Option.getD q50 (0 : Nat)) && Op.floatEq FloatKind.f32 (List.getD q21 (2 : Nat) q8).2 (Option.getD q51 (0 : Nat)))) q11 (fits IntKind.i64 (3 : Int) ∧ chkSig s = (0 : Int) ∧ q16 ∧ q31 ∧ q34 ∧ q32 ∧ Option.isSome q52 = true ∧ Option.isSome q53 = true ∧ splitB (!(Op.floatEq FloatKind.f32 (List.getD q21 (3 : Nat) q8).1 (Option.getD q52 (0 : Nat)) && Op.floatEq FloatKind.f32 (List.getD q21 (3 : Nat) q8).2 (Option.getD q53 (0 : Nat)))) q11 (fits IntKind.i64 (4 : Int) ∧ fits IntKind.i64 ((↑g_1 : Int) + (1 : Int)) ∧ ∃ (g' : Nat), Nat.le g' q13 ∧ List.length (panN s) - g' < List.length (panN s) - g_1 ∧ (↑g_1 : Int) + (1 : Int) = (↑g' : Int) ∧ panN s = panN s ∧ f = f ∧ s = s ∧ encFN l = encFN l ∧ encFE l = encFE l ∧ chkSig s = chkSig s ∧ encT l g = encT l g ∧ chkSig s = chkSig s ∧ q2 = q2 ∧ ((tab g fun (i : Nat) => smpsN (encP l i)) = tab g fun (i : Nat) => smpsN (encP l i)) ∧ s = s ∧ True))))) (List.length f ≤ q12 ∧ (∀ (x : List Nat), x ∈ f → List.length x ≤ q12) ∧ q24 ∧ q37 ∧ (q10 = true → ∀ (x : List Nat), x ∈ encFN l → List.length x ≤ q12) ∧ q14 = true ∧ True)))) (splitB (chkSig s == (0 : Int)) (q70 ∧ splitB (q2 != q9 / (4 : Int)) q11 ((∃ (g_1 : Nat), Nat.le g_1 q13 ∧ (0 : Int) = (↑g_1 : Int) ∧ panN s = panN s ∧ f = f ∧ s = s ∧ encFN l = encFN l ∧ encFE l = encFE l ∧ chkSig s = chkSig s ∧ encT l g = encT l g ∧ chkSig s = chkSig s ∧ q2 = q2 ∧ ((tab g fun (i : Nat) => smpsN (encP l i)) = tab g fun (i : Nat) => smpsN (encP l i)) ∧ s = s ∧ True) ∧ ∀ (g_1 : Nat), let q6 := (List.take (4 : Nat) (List.drop ((4 : Nat) * g_1) (sixs s))); let q17 := ((0 : Int) ≤ (↑g_1 : Int) ∧ (4 : Int) * (↑g_1 : Int) + (4 : Int) ≤ q9); let q22 := (List.getD (panN s) g_1 q1); let q35 := ((0 : Int) ≤ (↑g_1 : Int) ∧ (↑g_1 : Int) < q2); let q54 := (Ieee.Format.div q0 (FloatKind.nearest FloatKind.f32 (qu q6 (0 : Nat)).1) q3); let q55 := (Ieee.Format.div q0 (FloatKind.nearest FloatKind.f32 (qu q6 (0 : Nat)).2) q3); let q56 := (Ieee.Format.div q0 (FloatKind.nearest FloatKind.f32 (qu q6 (1 : Nat)).1) q3); let q57 := (Ieee.Format.div q0 (FloatKind.nearest FloatKind.f32 (qu q6 (1 : Nat)).2) q3); let q58 := (Ieee.Format.div q0 (FloatKind.nearest FloatKind.f32 (qu q6 (2 : Nat)).1) q3); let q59 := (Ieee.Format.div q0 (FloatKind.nearest FloatKind.f32 (qu q6 (2 : Nat)).2) q3); let q60 := (Ieee.Format.div q0 (FloatKind.nearest FloatKind.f32 (qu q6 (3 : Nat)).1) q3); let q61 := (Ieee.Format.div q0 (FloatKind.nearest FloatKind.f32 (qu q6 (3 : Nat)).2) q3); Nat.le g_1 q13 → splitB (decide ((↑g_1 : Int) < q2)) (chkSig s = (0 : Int) ∧ q17 ∧ q25 ∧ q35 ∧ q26 ∧ Option.isSome q54 = true ∧ Option.isSome q55 = true ∧ splitB (!(Op.floatEq FloatKind.f32 (List.getD q22 (0 : Nat) q8).1 (Option.getD q54 (0 : Nat)) && Op.floatEq FloatKind.f32 (List.getD q22 (0 : Nat) q8).2 (Option.getD q55 (0 : Nat)))) q11 (fits IntKind.i64 (1 : Int) ∧ chkSig s = (0 : Int) ∧ q17 ∧ q27 ∧ q35 ∧ q28 ∧ Option.isSome q56 = true ∧ Option.isSome q57 = true ∧ splitB (!(Op.floatEq FloatKind.f32 (List.getD q22 (1 : Nat) q8).1 (Option.getD q56 (0 : Nat)) && Op.floatEq FloatKind.f32 (List.getD q22 (1 : Nat) q8).2 (Option.getD q57 (0 : Nat)))) q11 (fits IntKind.i64 (2 : Int) ∧ chkSig s = (0 : Int) ∧ q17 ∧ q29 ∧ q35 ∧ q30 ∧ Option.isSome q58 = true ∧ Option.isSome q59 = true ∧ splitB (!(Op.floatEq FloatKind.f32 (List.getD q22 (2 : Nat) q8).1 (Option.getD q58 (0 : Nat)) && Op.floatEq FloatKind.f32 (List.getD q22 (2 : Nat) q8).2 (Option.getD q59 (0 : Nat)))) q11 (fits IntKind.i64 (3 : Int) ∧ chkSig s = (0 : Int) ∧ q17 ∧ q31 ∧ q35 ∧ q32 ∧ Option.isSome q60 = true ∧ Option.isSome q61 = true ∧ splitB (!(Op.floatEq FloatKind.f32 (List.getD q22 (3 : Nat) q8).1 (Option.getD q60 (0 : Nat)) && Op.floatEq FloatKind.f32 (List.getD q22 (3 : Nat) q8).2 (Option.getD q61 (0 : Nat)))) q11 (fits IntKind.i64 (4 : Int) ∧ fits IntKind.i64 ((↑g_1 : Int) + (1 : Int)) ∧ ∃ (g' : Nat), Nat.le g' q13 ∧ List.length (panN s) - g' < List.length (panN s) - g_1 ∧ (↑g_1 : Int) + (1 : Int) = (↑g' : Int) ∧ panN s = panN s ∧ f = f ∧ s = s ∧ encFN l = encFN l ∧ encFE l = encFE l ∧ chkSig s = chkSig s ∧ encT l g = encT l g ∧ chkSig s = chkSig s ∧ q2 = q2 ∧ ((tab g fun (i : Nat) => smpsN (encP l i)) = tab g fun (i : Nat) => smpsN (encP l i)) ∧ s = s ∧ True))))) (List.length f ≤ q12 ∧ (∀ (x : List Nat), x ∈ f → List.length x ≤ q12) ∧ q24 ∧ q37 ∧ (q10 = true → ∀ (x : List Nat), x ∈ encFN l → List.length x ≤ q12) ∧ (bif bif bif bif bif chkFld f == chkFld f then chkSig s == chkSig s else false then sameF (encFN l) (tab g fun (i : Nat) => smpsN (encP l i)) else false then encFE l == encT l g else false then chkSig s == chkSig s else false then true else false) = true ∧ True))) (splitB (q2 != (0 : Int)) q11 ((∃ (g_1 : Nat), Nat.le g_1 q13 ∧ (0 : Int) = (↑g_1 : Int) ∧ panN s = panN s ∧ f = f ∧ s = s ∧ encFN l = encFN l ∧ encFE l = encFE l ∧ chkSig s = chkSig s ∧ encT l g = encT l g ∧ chkSig s = chkSig s ∧ q2 = q2 ∧ ((tab g fun (i : Nat) => smpsN (encP l i)) = tab g fun (i : Nat) => smpsN (encP l i)) ∧ s = s ∧ True) ∧ ∀ (g_1 : Nat), let q7 := (List.take (4 : Nat) (List.drop ((4 : Nat) * g_1) (sixs s))); let q18 := ((0 : Int) ≤ (↑g_1 : Int) ∧ (4 : Int) * (↑g_1 : Int) + (4 : Int) ≤ q9); let q23 := (List.getD (panN s) g_1 q1); let q36 := ((0 : Int) ≤ (↑g_1 : Int) ∧ (↑g_1 : Int) < q2); let q62 := (Ieee.Format.div q0 (FloatKind.nearest FloatKind.f32 (qu q7 (0 : Nat)).1) q3); let q63 := (Ieee.Format.div q0 (FloatKind.nearest FloatKind.f32 (qu q7 (0 : Nat)).2) q3); let q64 := (Ieee.Format.div q0 (FloatKind.nearest FloatKind.f32 (qu q7 (1 : Nat)).1) q3); let q65 := (Ieee.Format.div q0 (FloatKind.nearest FloatKind.f32 (qu q7 (1 : Nat)).2) q3); let q66 := (Ieee.Format.div q0 (FloatKind.nearest FloatKind.f32 (qu q7 (2 : Nat)).1) q3); let q67 := (Ieee.Format.div q0 (FloatKind.nearest FloatKind.f32 (qu q7 (2 : Nat)).2) q3); let q68 := (Ieee.Format.div q0 (FloatKind.nearest FloatKind.f32 (qu q7 (3 : Nat)).1) q3); let q69 := (Ieee.Format.div q0 (FloatKind.nearest FloatKind.f32 (qu q7 (3 : Nat)).2) q3); Nat.le g_1 q13 → splitB (decide ((↑g_1 : Int) < q2)) (chkSig s = (0 : Int) ∧ q18 ∧ q25 ∧ q36 ∧ q26 ∧ Option.isSome q62 = true ∧ Option.isSome q63 = true ∧ splitB (!(Op.floatEq FloatKind.f32 (List.getD q23 (0 : Nat) q8).1 (Option.getD q62 (0 : Nat)) && Op.floatEq FloatKind.f32 (List.getD q23 (0 : Nat) q8).2 (Option.getD q63 (0 : Nat)))) q11 (fits IntKind.i64 (1 : Int) ∧ chkSig s = (0 : Int) ∧ q18 ∧ q27 ∧ q36 ∧ q28 ∧ Option.isSome q64 = true ∧ Option.isSome q65 = true ∧ splitB (!(Op.floatEq FloatKind.f32 (List.getD q23 (1 : Nat) q8).1 (Option.getD q64 (0 : Nat)) && Op.floatEq FloatKind.f32 (List.getD q23 (1 : Nat) q8).2 (Option.getD q65 (0 : Nat)))) q11 (fits IntKind.i64 (2 : Int) ∧ chkSig s = (0 : Int) ∧ q18 ∧ q29 ∧ q36 ∧ q30 ∧ Option.isSome q66 = true ∧ Option.isSome q67 = true ∧ splitB (!(Op.floatEq FloatKind.f32 (List.getD q23 (2 : Nat) q8).1 (Option.getD q66 (0 : Nat)) && Op.floatEq FloatKind.f32 (List.getD q23 (2 : Nat) q8).2 (Option.getD q67 (0 : Nat)))) q11 (fits IntKind.i64 (3 : Int) ∧ chkSig s = (0 : Int) ∧ q18 ∧ q31 ∧ q36 ∧ q32 ∧ Option.isSome q68 = true ∧ Option.isSome q69 = true ∧ splitB (!(Op.floatEq FloatKind.f32 (List.getD q23 (3 : Nat) q8).1 (Option.getD q68 (0 : Nat)) && Op.floatEq FloatKind.f32 (List.getD q23 (3 : Nat) q8).2 (Option.getD q69 (0 : Nat)))) q11 (fits IntKind.i64 (4 : Int) ∧ fits IntKind.i64 ((↑g_1 : Int) + (1 : Int)) ∧ ∃ (g' : Nat), Nat.le g' q13 ∧ List.length (panN s) - g' < List.length (panN s) - g_1 ∧ (↑g_1 : Int) + (1 : Int) = (↑g' : Int) ∧ panN s = panN s ∧ f = f ∧ s = s ∧ encFN l = encFN l ∧ encFE l = encFE l ∧ chkSig s = chkSig s ∧ encT l g = encT l g ∧ chkSig s = chkSig s ∧ q2 = q2 ∧ ((tab g fun (i : Nat) => smpsN (encP l i)) = tab g fun (i : Nat) => smpsN (encP l i)) ∧ s = s ∧ True))))) (List.length f ≤ q12 ∧ (∀ (x : List Nat), x ∈ f → List.length x ≤ q12) ∧ q24 ∧ q37 ∧ (q10 = true → ∀ (x : List Nat), x ∈ encFN l → List.length x ≤ q12) ∧ (bif bif bif bif bif chkFld f == chkFld f then chkSig s == chkSig s else false then sameF (encFN l) (tab g fun (i : Nat) => smpsN (encP l i)) else false then encFE l == encT l g else false then chkSig s == chkSig s else false then true else false) = true ∧ True))))))) := by
  kernel_rfl
end Go.Sx
