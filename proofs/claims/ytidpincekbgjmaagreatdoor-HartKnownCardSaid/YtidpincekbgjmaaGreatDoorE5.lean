/-
  Functions of the program in a shallow form (printed by a program of mine), each shown to be what the machine runs. No condition.
-/
import Derived.Test.YtidpincekbgjmaaGreatDoorD
set_option linter.unusedVariables false
set_option linter.unusedSimpArgs false
open Go Go.Abs Go.Proofs
namespace Go.Sh
noncomputable section
set_option maxRecDepth 100000
set_option maxHeartbeats 0
-- 16 ravelin/trap Enter
noncomputable def p16_3 {α : Type} (π : Prims α) (C : CallF α) (fr : Fr) (σ : St) (k : Ex → Fr → St → Option α) : Option α :=
  (fun no => (dV fr.slots no fun t0 r1 => (dK 9 r1 no fun r10 => (dB r10 no fun t10 r11 => (dK 27 r11 no fun r38 => (dV r38 no fun t38 r39 => (dK 2 r39 no fun r41 => (dN fr.esc 0 no (π.cond t38 (fun _ => (C 34 [t0] σ (fun x0 σ1 => (π.put t10 0 8 x0 fun c2 => (updS fr [(10, .box c2), (28, .val t0), (0, .val x0)] fun fr3 => (k .normal fr3 σ1)))) (fun x4 σ5 => (updS fr [(39, .val t0)] fun fr6 => (k (.panic x4) fr6 σ5))))) (fun _ => (k .normal fr σ))))))))))) (execG π PG C (sB (sA (sB (sB (sB (cd PG 16)))))) fr σ k)
theorem p16_3_eq {α : Type} (π : Prims α) (C : CallF α) : execG π PG C (sB (sA (sB (sB (sB (cd PG 16)))))) = p16_3 π C := by
  funext fr σ k
  obtain ⟨slots, defers, esc, rc⟩ := fr
  unfold p16_3
  refine dV_eq fun _ _ h => ?_; subst h
  iterate 9 (refine dKs_eq fun _ _ h => ?_; subst h)
  refine dK0_eq ?_
  refine dB_eq fun _ _ h => ?_; subst h
  iterate 27 (refine dKs_eq fun _ _ h => ?_; subst h)
  refine dK0_eq ?_
  refine dV_eq fun _ _ h => ?_; subst h
  iterate 2 (refine dKs_eq fun _ _ h => ?_; subst h)
  refine dK0_eq ?_
  refine dN_eq fun h => ?_; subst h
  refine sk_eq (.cond (cX (sB (sA (sB (sB (sB (cd PG 16))))))) (.run (cA (sB (sA (sB (sB (sB (cd PG 16)))))))) (.run (cB (sB (sA (sB (sB (sB (cd PG 16))))))))) (by kernel_rfl) ?_
  generalize execG π PG C = H
  kernel_rfl
noncomputable def p16_6 {α : Type} (π : Prims α) (C : CallF α) (fr : Fr) (σ : St) (k : Ex → Fr → St → Option α) : Option α :=
  (fun no => (dK 1 fr.slots no fun r1 => (dV r1 no fun t1 r2 => (dK 9 r2 no fun r11 => (dV r11 no fun t11 r12 => (dK 104 r12 no fun r116 => (dV r116 no fun t116 r117 => (dK 5 r117 no fun r122 => (dN fr.esc 0 no (π.cond t116 (fun _ => (π.conv PG 3 22 t1 fun x0 => (π.bin PG .mul 22 true (.int .u64 (Int.ofNat 4)) x0 fun x1 => (π.bin PG .add 22 false t11 x1 fun x2 => (updS fr [(11, .val x2), (105, .val t11), (0, .val t1), (0, .val x0), (0, .val x1), (0, .val x2)] fun fr3 => (k .normal fr3 σ)))))) (fun _ => (k .normal fr σ)))))))))))) (execG π PG C (sB (sA (sB (sB (sB (sB (sB (sB (sB (sB (sB (cd PG 16)))))))))))) fr σ k)
theorem p16_6_eq {α : Type} (π : Prims α) (C : CallF α) : execG π PG C (sB (sA (sB (sB (sB (sB (sB (sB (sB (sB (sB (cd PG 16)))))))))))) = p16_6 π C := by
  funext fr σ k
  obtain ⟨slots, defers, esc, rc⟩ := fr
  unfold p16_6
  iterate 1 (refine dKs_eq fun _ _ h => ?_; subst h)
  refine dK0_eq ?_
  refine dV_eq fun _ _ h => ?_; subst h
  iterate 9 (refine dKs_eq fun _ _ h => ?_; subst h)
  refine dK0_eq ?_
  refine dV_eq fun _ _ h => ?_; subst h
  iterate 104 (refine dKs_eq fun _ _ h => ?_; subst h)
  refine dK0_eq ?_
  refine dV_eq fun _ _ h => ?_; subst h
  iterate 5 (refine dKs_eq fun _ _ h => ?_; subst h)
  refine dK0_eq ?_
  refine dN_eq fun h => ?_; subst h
  refine sk_eq (.cond (cX (sB (sA (sB (sB (sB (sB (sB (sB (sB (sB (sB (cd PG 16))))))))))))) (.run (cA (sB (sA (sB (sB (sB (sB (sB (sB (sB (sB (sB (cd PG 16)))))))))))))) (.run (cB (sB (sA (sB (sB (sB (sB (sB (sB (sB (sB (sB (cd PG 16))))))))))))))) (by kernel_rfl) ?_
  generalize execG π PG C = H
  kernel_rfl
noncomputable def p16_5 {α : Type} (π : Prims α) (C : CallF α) (fr : Fr) (σ : St) (k : Ex → Fr → St → Option α) : Option α :=
  (fun no => (dV fr.slots no fun t0 r1 => (dK 9 r1 no fun r10 => (dB r10 no fun t10 r11 => (dV r11 no fun t11 r12 => (dK 128 r12 no fun r140 => (dN fr.esc 0 no (π.part false t10 2 1 fun x0 => (π.nc x0 fun _ => (π.ld σ true 9 x0 fun x1 => (C 37 [x1] σ (fun x2 σ3 => (C 36 [x2, t11] σ3 (fun x4 σ5 => (π.nc t0 fun _ => (π.add t0 288 fun x6 => (π.st σ5 9 x6 x4 fun σ7 => (π.part false t10 0 1 fun x8 => (π.nc t0 fun _ => (π.add t0 378 fun x9 => (π.st σ7 1 x9 x8 fun σ10 => (π.nc t0 fun _ => (π.add t0 395 fun x11 => (π.st σ10 1 x11 (.bool false) fun σ12 => (updS fr [(122, .val t0), (0, .ref 10 2), (0, .val x0), (0, .val x0), (0, .val x1), (0, .val x2), (0, .val t11), (0, .val x4), (0, .val t0), (0, .val x6), (0, .val t0), (0, .val t0), (0, .ref 10 0), (0, .val x8), (0, .val t0), (0, .val x9), (0, .val t0), (0, .val x11)] fun fr13 => (k .normal fr13 σ12))))))))))))) (fun x14 σ15 => (updS fr [(122, .val t0), (0, .ref 10 2), (0, .val x0), (0, .val x0), (0, .val x1), (0, .val x2), (0, .val t11)] fun fr16 => (k (.panic x14) fr16 σ15))))) (fun x17 σ18 => (updS fr [(122, .val t0), (0, .ref 10 2), (0, .val x0), (0, .val x0), (0, .val x1)] fun fr19 => (k (.panic x17) fr19 σ18)))))))))))))) (execG π PG C (sB (sB (sB (sB (sB (sB (sB (sB (sB (sB (cd PG 16))))))))))) fr σ k)
theorem p16_5_eq {α : Type} (π : Prims α) (C : CallF α) : execG π PG C (sB (sB (sB (sB (sB (sB (sB (sB (sB (sB (cd PG 16))))))))))) = p16_5 π C := by
  funext fr σ k
  obtain ⟨slots, defers, esc, rc⟩ := fr
  unfold p16_5
  refine dV_eq fun _ _ h => ?_; subst h
  iterate 9 (refine dKs_eq fun _ _ h => ?_; subst h)
  refine dK0_eq ?_
  refine dB_eq fun _ _ h => ?_; subst h
  refine dV_eq fun _ _ h => ?_; subst h
  iterate 128 (refine dKs_eq fun _ _ h => ?_; subst h)
  refine dK0_eq ?_
  refine dN_eq fun h => ?_; subst h
  refine sk_eq (.seq (.run (sA (sB (sB (sB (sB (sB (sB (sB (sB (sB (sB (cd PG 16))))))))))))) (.run (sB (sB (sB (sB (sB (sB (sB (sB (sB (sB (sB (cd PG 16)))))))))))))) (by kernel_rfl) ?_
  generalize execG π PG C = H
  kernel_rfl
noncomputable def p16_4 {α : Type} (π : Prims α) (C : CallF α) (fr : Fr) (σ : St) (k : Ex → Fr → St → Option α) : Option α :=
  (fun no => (dV fr.slots no fun t0 r1 => (dK 1 r1 no fun r2 => (dV r2 no fun t2 r3 => (dK 7 r3 no fun r10 => (dB r10 no fun t10 r11 => (dK 73 r11 no fun r84 => (dV r84 no fun t84 r85 => (dV r85 no fun t85 r86 => (dV r86 no fun t86 r87 => (dV r87 no fun t87 r88 => (dV r88 no fun t88 r89 => (dV r89 no fun t89 r90 => (dV r90 no fun t90 r91 => (dV r91 no fun t91 r92 => (dV r92 no fun t92 r93 => (dV r93 no fun t93 r94 => (dV r94 no fun t94 r95 => (dV r95 no fun t95 r96 => (dV r96 no fun t96 r97 => (dV r97 no fun t97 r98 => (dV r98 no fun t98 r99 => (dV r99 no fun t99 r100 => (dV r100 no fun t100 r101 => (dK 16 r101 no fun r117 => (dN fr.esc 0 no (π.nc t0 fun _ => (π.add t0 379 fun x0 => (π.ld σ false 1 x0 fun x1 => (π.part false t10 6 1 fun x2 => (π.part false t10 7 1 fun x3 => (π.nc t0 fun _ => (π.add t0 378 fun x4 => (π.ld σ false 1 x4 fun x5 => (π.conv PG 3 22 x5 fun x6 => ((lockCall false C) 35 [x1, x2, x3, x6] σ (fun x7 σ8 => (π.nc t0 fun _ => (π.add t0 379 fun x9 => (π.st σ8 1 x9 x7 fun σ10 => (π.part false t10 2 1 fun x11 => (π.nc x11 fun _ => (π.add x11 8 fun x12 => (π.ld σ10 false 1 x12 fun x13 => (π.bin PG .andNot 22 true x13 (.int .u64 (Int.ofNat 3)) fun x14 => (gdF t2 (fun _ => (π.part false t10 2 1 fun x15 => (π.nc x15 fun _ => (π.add x15 8 fun x16 => (π.ld σ10 false 1 x16 fun x17 => (π.bin PG .and 22 true x17 (.int .u64 (Int.ofNat 1)) fun x18 => (π.bin PG .eql 22 true x18 (.int .u64 (Int.ofNat 1)) fun x19 => (updS fr [(11, .val x14), (72, .val t0), (0, .val t0), (0, .val t0), (0, .val x0), (0, .val x1), (0, .ref 10 6), (0, .val x2), (0, .ref 10 7), (0, .val x3), (0, .val t0), (0, .val t0), (0, .val x4), (0, .val x5), (0, .val x6), (0, .val x7), (0, .val t0), (0, .val x9), (0, .ref 10 2), (0, .val x11), (0, .val x11), (0, .val x12), (0, .val x13), (0, .val x14), (0, .val t2), (0, .val (.bool true)), (0, .ref 10 2), (0, .val x15), (0, .val x15), (0, .val x16), (0, .val x17), (0, .val x18), (0, .val x19), (0, .val x19)] fun fr20 => (p16_6 π C fr20 σ10 (seqK (p16_5 π C) k)))))))))) (fun _ => (updS fr [(11, .val x14), (72, .val t0), (0, .val t0), (0, .val t0), (0, .val x0), (0, .val x1), (0, .ref 10 6), (0, .val x2), (0, .ref 10 7), (0, .val x3), (0, .val t0), (0, .val t0), (0, .val x4), (0, .val x5), (0, .val x6), (0, .val x7), (0, .val t0), (0, .val x9), (0, .ref 10 2), (0, .val x11), (0, .val x11), (0, .val x12), (0, .val x13), (0, .val x14), (0, .val t2), (0, .val (.bool false)), (0, .val (.tuple [])), (0, .val (.tuple [])), (0, .val (.tuple [])), (0, .val (.tuple [])), (0, .val (.tuple [])), (0, .val (.tuple [])), (0, .val (.tuple [])), (0, .val (.bool false))] fun fr21 => (p16_6 π C fr21 σ10 (seqK (p16_5 π C) k)))) (fun _ => none))))))))))) (fun x22 σ23 => none))))))))))))))))))))))))))))))))))))) (execG π PG C (sB (sB (sB (sB (sB (sB (sB (cd PG 16)))))))) fr σ k)
theorem p16_4_eq {α : Type} (π : Prims α) (C : CallF α) : execG π PG C (sB (sB (sB (sB (sB (sB (sB (cd PG 16)))))))) = p16_4 π C := by
  funext fr σ k
  obtain ⟨slots, defers, esc, rc⟩ := fr
  unfold p16_4
  refine dV_eq fun _ _ h => ?_; subst h
  iterate 1 (refine dKs_eq fun _ _ h => ?_; subst h)
  refine dK0_eq ?_
  refine dV_eq fun _ _ h => ?_; subst h
  iterate 7 (refine dKs_eq fun _ _ h => ?_; subst h)
  refine dK0_eq ?_
  refine dB_eq fun _ _ h => ?_; subst h
  iterate 73 (refine dKs_eq fun _ _ h => ?_; subst h)
  refine dK0_eq ?_
  iterate 17 (refine dV_eq fun _ _ h => ?_; subst h)
  iterate 16 (refine dKs_eq fun _ _ h => ?_; subst h)
  refine dK0_eq ?_
  refine dN_eq fun h => ?_; subst h
  try rw [← p16_6_eq π C]
  try rw [← p16_5_eq π C]
  refine sk_eq (.seq (.run (sA (sB (sB (sB (sB (sB (sB (sB (cd PG 16)))))))))) (.seq (.run (sA (sB (sB (sB (sB (sB (sB (sB (sB (cd PG 16))))))))))) (.seq (.seq (.run (sA (sA (sB (sB (sB (sB (sB (sB (sB (sB (sB (cd PG 16))))))))))))) (.hole (sB (sA (sB (sB (sB (sB (sB (sB (sB (sB (sB (cd PG 16)))))))))))))) (.hole (sB (sB (sB (sB (sB (sB (sB (sB (sB (sB (cd PG 16))))))))))))))) (by kernel_rfl) ?_
  generalize execG π PG C = H
  kernel_rfl
noncomputable def p16_2 {α : Type} (π : Prims α) (C : CallF α) (fr : Fr) (σ : St) (k : Ex → Fr → St → Option α) : Option α :=
  (fun no => (dV fr.slots no fun t0 r1 => (dK 2 r1 no fun r3 => (dV r3 no fun t3 r4 => (dK 5 r4 no fun r9 => (dV r9 no fun t9 r10 => (dB r10 no fun t10 r11 => (dK 30 r11 no fun r41 => (dV r41 no fun t41 r42 => (dV r42 no fun t42 r43 => (dV r43 no fun t43 r44 => (dV r44 no fun t44 r45 => (dV r45 no fun t45 r46 => (dV r46 no fun t46 r47 => (dV r47 no fun t47 r48 => (dV r48 no fun t48 r49 => (dV r49 no fun t49 r50 => (dV r50 no fun t50 r51 => (dV r51 no fun t51 r52 => (dV r52 no fun t52 r53 => (dV r53 no fun t53 r54 => (dV r54 no fun t54 r55 => (dV r55 no fun t55 r56 => (dV r56 no fun t56 r57 => (dV r57 no fun t57 r58 => (dV r58 no fun t58 r59 => (dV r59 no fun t59 r60 => (dV r60 no fun t60 r61 => (dV r61 no fun t61 r62 => (dV r62 no fun t62 r63 => (dV r63 no fun t63 r64 => (dV r64 no fun t64 r65 => (dV r65 no fun t65 r66 => (dV r66 no fun t66 r67 => (dV r67 no fun t67 r68 => (dV r68 no fun t68 r69 => (dV r69 no fun t69 r70 => (dV r70 no fun t70 r71 => (dV r71 no fun t71 r72 => (dV r72 no fun t72 r73 => (dV r73 no fun t73 r74 => (dV r74 no fun t74 r75 => (dV r75 no fun t75 r76 => (dV r76 no fun t76 r77 => (dV r77 no fun t77 r78 => (dV r78 no fun t78 r79 => (dV r79 no fun t79 r80 => (dV r80 no fun t80 r81 => (dV r81 no fun t81 r82 => (dV r82 no fun t82 r83 => (dV r83 no fun t83 r84 => (dN fr.esc 0 no (π.part false t10 1 1 fun x0 => (π.part false t10 3 1 fun x1 => (π.part false t10 4 1 fun x2 => (π.nc t0 fun _ => (π.add t0 288 fun x3 => (π.ld σ true 9 x3 fun x4 => (π.nc x0 fun _ => (π.st σ 9 x0 x4 fun σ5 => (π.nc x1 fun _ => (π.st σ5 1 x1 t9 fun σ6 => (π.nc x2 fun _ => (π.st σ6 1 x2 t3 fun σ7 => (π.nc t0 fun _ => (π.add t0 379 fun x8 => (π.ld σ7 false 1 x8 fun x9 => (π.part false t10 5 1 fun x10 => (π.bin PG .add 80 true x10 (.int .u64 (Int.ofNat 4)) fun x11 => (π.nc t0 fun _ => (π.add t0 379 fun x12 => (π.ld σ7 false 1 x12 fun x13 => (π.part false t10 5 1 fun x14 => (π.bin PG .shr 22 false x13 x14 fun x15 => ((lockCall false C) 35 [x9, x11, (.int .u64 (Int.ofNat 1)), x15] σ7 (fun x16 σ17 => (π.nc t0 fun _ => (π.add t0 379 fun x18 => (π.st σ17 1 x18 x16 fun σ19 => (π.nc t0 fun _ => (π.add t0 379 fun x20 => (π.ld σ19 false 1 x20 fun x21 => (π.part false t10 5 1 fun x22 => ((lockCall false C) 35 [x21, x22, (.int .u64 (Int.ofNat 1)), (.int .u64 (Int.ofNat 0))] σ19 (fun x23 σ24 => (π.nc t0 fun _ => (π.add t0 379 fun x25 => (π.st σ24 1 x25 x23 fun σ26 => (updS fr [(41, .ref 10 1), (0, .val x0), (0, .ref 10 3), (0, .val x1), (0, .ref 10 4), (0, .val x2), (0, .val t0), (0, .val t0), (0, .val x3), (0, .val x4), (0, .val t9), (0, .val t3), (0, .val x0), (0, .val x1), (0, .val x2), (0, .val t0), (0, .val t0), (0, .val t0), (0, .val x8), (0, .val x9), (0, .ref 10 5), (0, .val x10), (0, .val x11), (0, .val t0), (0, .val t0), (0, .val x12), (0, .val x13), (0, .ref 10 5), (0, .val x14), (0, .val x15), (0, .val x16), (0, .val t0), (0, .val x18), (0, .val t0), (0, .val t0), (0, .val t0), (0, .val x20), (0, .val x21), (0, .ref 10 5), (0, .val x22), (0, .val x23), (0, .val t0), (0, .val x25)] fun fr27 => (p16_4 π C fr27 σ26 k)))))) (fun x28 σ29 => none)))))))))) (fun x30 σ31 => none)))))))))))))))))))))))))))))))))))))))))))))))))))))))))))))))))))))))))))) (execG π PG C (sB (sB (sB (sB (cd PG 16))))) fr σ k)
theorem p16_2_eq {α : Type} (π : Prims α) (C : CallF α) : execG π PG C (sB (sB (sB (sB (cd PG 16))))) = p16_2 π C := by
  funext fr σ k
  obtain ⟨slots, defers, esc, rc⟩ := fr
  unfold p16_2
  refine dV_eq fun _ _ h => ?_; subst h
  iterate 2 (refine dKs_eq fun _ _ h => ?_; subst h)
  refine dK0_eq ?_
  refine dV_eq fun _ _ h => ?_; subst h
  iterate 5 (refine dKs_eq fun _ _ h => ?_; subst h)
  refine dK0_eq ?_
  refine dV_eq fun _ _ h => ?_; subst h
  refine dB_eq fun _ _ h => ?_; subst h
  iterate 30 (refine dKs_eq fun _ _ h => ?_; subst h)
  refine dK0_eq ?_
  iterate 43 (refine dV_eq fun _ _ h => ?_; subst h)
  refine dN_eq fun h => ?_; subst h
  try rw [← p16_4_eq π C]
  refine sk_eq (.seq (.run (sA (sB (sB (sB (sB (cd PG 16))))))) (.seq (.run (sA (sB (sB (sB (sB (sB (cd PG 16)))))))) (.seq (.run (sA (sB (sB (sB (sB (sB (sB (cd PG 16))))))))) (.hole (sB (sB (sB (sB (sB (sB (sB (cd PG 16)))))))))))) (by kernel_rfl) ?_
  generalize execG π PG C = H
  kernel_rfl
noncomputable def p16_1 {α : Type} (π : Prims α) (C : CallF α) (fr : Fr) (σ : St) (k : Ex → Fr → St → Option α) : Option α :=
  (fun no => (dV fr.slots no fun t0 r1 => (dV r1 no fun t1 r2 => (dK 6 r2 no fun r8 => (dV r8 no fun t8 r9 => (dK 30 r9 no fun r39 => (dN fr.esc 0 no (C 33 [t0] σ (fun x0 σ1 => (updS fr [(25, .val t0), (0, .val x0)] fun fr2 => (nbS fr2 10 zl97 fun fr3 => (π.put zl97 0 8 x0 fun c4 => (π.nc t0 fun _ => (π.add t0 378 fun x5 => (π.ld σ1 false 1 x5 fun x6 => (π.bin PG .leq 3 true x6 (.int .i64 (Int.ofNat 1)) fun x7 => (gdF x7 (fun _ => (π.bin PG .shr 22 false t8 t1 fun x8 => (π.bin PG .and 22 true x8 (.int .u64 (Int.ofNat 1)) fun x9 => (π.bin PG .eql 22 true x9 (.int .u64 (Int.ofNat 1)) fun x10 => (updS fr3 [(10, .box c4), (16, .val t0), (0, .val t0), (0, .val x5), (0, .val x6), (0, .val x7), (0, .val (.bool true)), (0, .val t8), (0, .val t1), (0, .val x8), (0, .val x9), (0, .val x10), (0, .val x10)] fun fr11 => (p16_3 π C fr11 σ1 (seqK (p16_2 π C) k))))))) (fun _ => (updS fr3 [(10, .box c4), (16, .val t0), (0, .val t0), (0, .val x5), (0, .val x6), (0, .val x7), (0, .val (.bool false)), (0, .val (.tuple [])), (0, .val (.tuple [])), (0, .val (.tuple [])), (0, .val (.tuple [])), (0, .val (.tuple [])), (0, .val (.bool false))] fun fr12 => (p16_3 π C fr12 σ1 (seqK (p16_2 π C) k)))) (fun _ => none)))))))))) (fun x13 σ14 => (updS fr [(25, .val t0)] fun fr15 => (k (.panic x13) fr15 σ14))))))))))) (execG π PG C (sB (sB (cd PG 16))) fr σ k)
theorem p16_1_eq {α : Type} (π : Prims α) (C : CallF α) : execG π PG C (sB (sB (cd PG 16))) = p16_1 π C := by
  funext fr σ k
  obtain ⟨slots, defers, esc, rc⟩ := fr
  unfold p16_1
  iterate 2 (refine dV_eq fun _ _ h => ?_; subst h)
  iterate 6 (refine dKs_eq fun _ _ h => ?_; subst h)
  refine dK0_eq ?_
  refine dV_eq fun _ _ h => ?_; subst h
  iterate 30 (refine dKs_eq fun _ _ h => ?_; subst h)
  refine dK0_eq ?_
  refine dN_eq fun h => ?_; subst h
  try rw [← p16_3_eq π C]
  try rw [← p16_2_eq π C]
  refine sk_eq (.seq (.run (sA (sB (sB (cd PG 16))))) (.seq (.seq (.run (sA (sA (sB (sB (sB (cd PG 16))))))) (.hole (sB (sA (sB (sB (sB (cd PG 16)))))))) (.hole (sB (sB (sB (sB (cd PG 16)))))))) (by kernel_rfl) ?_
  generalize execG π PG C = H
  kernel_rfl
noncomputable def p16_0 {α : Type} (π : Prims α) (C : CallF α) (fr : Fr) (σ : St) (k : Ex → Fr → St → Option α) : Option α :=
  (fun no => (dV fr.slots no fun t0 r1 => (dV r1 no fun t1 r2 => (dV r2 no fun t2 r3 => (dK 22 r3 no fun r25 => (dN fr.esc 0 no (π.nc t0 fun _ => (π.add t0 380 fun x0 => (π.ld σ false 1 x0 fun x1 => (π.conv PG 3 22 t1 fun x2 => (π.cond t2 (fun _ => (π.nc t0 fun _ => (π.add t0 381 fun x3 => (π.ld σ false 1 x3 fun x4 => (π.bin PG .or 22 true x2 (.int .u64 (Int.ofNat 9223372036854775808)) fun x5 => (updS fr [(8, .val x4), (0, .val x5), (2, .val t0), (0, .val t0), (0, .val x0), (0, .val x1), (0, .val t1), (0, .val x2), (0, .val t2), (0, .val t0), (0, .val t0), (0, .val x3), (0, .val x4), (0, .val x2), (0, .val x5)] fun fr6 => (p16_1 π C fr6 σ k))))))) (fun _ => (updS fr [(8, .val x1), (0, .val x2), (2, .val t0), (0, .val t0), (0, .val x0), (0, .val x1), (0, .val t1), (0, .val x2), (0, .val t2)] fun fr7 => (p16_1 π C fr7 σ k)))))))))))))) (execG π PG C (cd PG 16) fr σ k)
theorem p16_0_eq {α : Type} (π : Prims α) (C : CallF α) : execG π PG C (cd PG 16) = p16_0 π C := by
  funext fr σ k
  obtain ⟨slots, defers, esc, rc⟩ := fr
  unfold p16_0
  iterate 3 (refine dV_eq fun _ _ h => ?_; subst h)
  iterate 22 (refine dKs_eq fun _ _ h => ?_; subst h)
  refine dK0_eq ?_
  refine dN_eq fun h => ?_; subst h
  try rw [← p16_1_eq π C]
  refine sk_eq (.seq (.run (sA (cd PG 16))) (.seq (.seq (.run (sA (sA (sB (cd PG 16))))) (.cond (cX (sB (sA (sB (cd PG 16))))) (.run (cA (sB (sA (sB (cd PG 16)))))) (.run (cB (sB (sA (sB (cd PG 16)))))))) (.hole (sB (sB (cd PG 16)))))) (by kernel_rfl) ?_
  generalize execG π PG C = H
  kernel_rfl
-- 12 ravelin/ravelinlaw19 Right
noncomputable def p12_2 {α : Type} (π : Prims α) (C : CallF α) (fr : Fr) (σ : St) (k : Ex → Fr → St → Option α) : Option α :=
  (fun no => (dK 1 fr.slots no fun r1 => (dB r1 no fun t1 r2 => (dK 9 r2 no fun r11 => (dV r11 no fun t11 r12 => (dK 1 r12 no fun r13 => (dN fr.esc 0 no (π.cond t11 (fun _ => (π.put t1 378 1 (.int .i64 (Int.ofNat 3)) fun c0 => (updS fr [(1, .box c0), (10, .ref 1 378)] fun fr1 => (k .normal fr1 σ)))) (fun _ => (k .normal fr σ)))))))))) (execG π PG C (sB (sA (sB (cd PG 12)))) fr σ k)
theorem p12_2_eq {α : Type} (π : Prims α) (C : CallF α) : execG π PG C (sB (sA (sB (cd PG 12)))) = p12_2 π C := by
  funext fr σ k
  obtain ⟨slots, defers, esc, rc⟩ := fr
  unfold p12_2
  iterate 1 (refine dKs_eq fun _ _ h => ?_; subst h)
  refine dK0_eq ?_
  refine dB_eq fun _ _ h => ?_; subst h
  iterate 9 (refine dKs_eq fun _ _ h => ?_; subst h)
  refine dK0_eq ?_
  refine dV_eq fun _ _ h => ?_; subst h
  iterate 1 (refine dKs_eq fun _ _ h => ?_; subst h)
  refine dK0_eq ?_
  refine dN_eq fun h => ?_; subst h
  refine sk_eq (.cond (cX (sB (sA (sB (cd PG 12))))) (.run (cA (sB (sA (sB (cd PG 12)))))) (.run (cB (sB (sA (sB (cd PG 12))))))) (by kernel_rfl) ?_
  generalize execG π PG C = H
  kernel_rfl
noncomputable def p12_6 {α : Type} (π : Prims α) (C : CallF α) (fr : Fr) (σ : St) (k : Ex → Fr → St → Option α) : Option α :=
  (fun no => (dK 1 fr.slots no fun r1 => (dB r1 no fun t1 r2 => (dK 1 r2 no fun r3 => (dV r3 no fun t3 r4 => (dK 30 r4 no fun r34 => (dN fr.esc 0 no (ixRF 32 9 0 t3 fun o0 => (π.part true t1 o0 9 fun x1 => (C 26 [x1] σ (fun x2 σ3 => (ixRF 32 9 0 t3 fun o4 => (π.put t1 o4 9 x2 fun c5 => (π.bin PG .add 3 true t3 (.int .i64 (Int.ofNat 1)) fun x6 => (updS fr [(1, .box c5), (1, .val x6), (20, .val t3), (0, .val x6), (0, .val t3), (0, .val t3), (0, .ref 1 0), (0, .ref 1 o0), (0, .val x1), (0, .val x2), (0, .ref 1 0), (0, .ref 1 o4)] fun fr7 => (k .normal fr7 σ3)))))) (fun x8 σ9 => (updS fr [(26, .val t3), (0, .val t3), (0, .ref 1 0), (0, .ref 1 o0), (0, .val x1)] fun fr10 => (k (.panic x8) fr10 σ9))))))))))))) (execG π PG C (sB (lK (bK (sB (sA (sB (sB (sB (cd PG 12))))))))) fr σ k)
theorem p12_6_eq {α : Type} (π : Prims α) (C : CallF α) : execG π PG C (sB (lK (bK (sB (sA (sB (sB (sB (cd PG 12))))))))) = p12_6 π C := by
  funext fr σ k
  obtain ⟨slots, defers, esc, rc⟩ := fr
  unfold p12_6
  iterate 1 (refine dKs_eq fun _ _ h => ?_; subst h)
  refine dK0_eq ?_
  refine dB_eq fun _ _ h => ?_; subst h
  iterate 1 (refine dKs_eq fun _ _ h => ?_; subst h)
  refine dK0_eq ?_
  refine dV_eq fun _ _ h => ?_; subst h
  iterate 30 (refine dKs_eq fun _ _ h => ?_; subst h)
  refine dK0_eq ?_
  refine dN_eq fun h => ?_; subst h
  refine sk_eq (.seq (.block 1 (.run (bK (sA (sB (lK (bK (sB (sA (sB (sB (sB (cd PG 12))))))))))))) (.run (sB (sB (lK (bK (sB (sA (sB (sB (sB (cd PG 12)))))))))))) (by kernel_rfl) ?_
  generalize execG π PG C = H
  kernel_rfl
noncomputable def p12_5 {α : Type} (π : Prims α) (C : CallF α) (fr : Fr) (σ : St) (k : Ex → Fr → St → Option α) : Option α :=
  (fun no => (dK 3 fr.slots no fun r3 => (dV r3 no fun t3 r4 => (dK 20 r4 no fun r24 => (dN fr.esc 0 no (π.bin PG .lss 3 true t3 (.int .i64 (Int.ofNat 32)) fun x0 => (π.cond x0 (fun _ => (updS fr [(22, .val t3), (0, .val x0)] fun fr1 => (p12_6 π C fr1 σ k))) (fun _ => (updS fr [(22, .val t3), (0, .val x0)] fun fr2 => (k (.exit 0) fr2 σ)))))))))) (execG π PG C (lK (bK (sB (sA (sB (sB (sB (cd PG 12)))))))) fr σ k)
theorem p12_5_eq {α : Type} (π : Prims α) (C : CallF α) : execG π PG C (lK (bK (sB (sA (sB (sB (sB (cd PG 12)))))))) = p12_5 π C := by
  funext fr σ k
  obtain ⟨slots, defers, esc, rc⟩ := fr
  unfold p12_5
  iterate 3 (refine dKs_eq fun _ _ h => ?_; subst h)
  refine dK0_eq ?_
  refine dV_eq fun _ _ h => ?_; subst h
  iterate 20 (refine dKs_eq fun _ _ h => ?_; subst h)
  refine dK0_eq ?_
  refine dN_eq fun h => ?_; subst h
  try rw [← p12_6_eq π C]
  refine sk_eq (.seq (.seq (.run (sA (sA (lK (bK (sB (sA (sB (sB (sB (cd PG 12))))))))))) (.cond (cX (sB (sA (lK (bK (sB (sA (sB (sB (sB (cd PG 12))))))))))) (.run (cA (sB (sA (lK (bK (sB (sA (sB (sB (sB (cd PG 12)))))))))))) (.run (cB (sB (sA (lK (bK (sB (sA (sB (sB (sB (cd PG 12)))))))))))))) (.hole (sB (lK (bK (sB (sA (sB (sB (sB (cd PG 12))))))))))) (by kernel_rfl) ?_
  generalize execG π PG C = H
  kernel_rfl
noncomputable def p12_7 {α : Type} (π : Prims α) (C : CallF α) (fr : Fr) (σ : St) (k : Ex → Fr → St → Option α) : Option α :=
  (fun no => (dK 1 fr.slots no fun r1 => (dB r1 no fun t1 r2 => (dB r2 no fun t2 r3 => (dK 75 r3 no fun r78 => (dN fr.esc 0 no (π.part true t1 360 9 fun x0 => (C 26 [x0] σ (fun x1 σ2 => (π.put t1 360 9 x1 fun c3 => (π.part true c3 369 9 fun x4 => (C 26 [x4] σ2 (fun x5 σ6 => (π.put c3 369 9 x5 fun c7 => (π.part true c7 0 396 fun x8 => (π.put t2 0 396 x8 fun c9 => (updS fr [(1, .box c7), (0, .box c9), (66, .ref 1 360), (0, .val x0), (0, .val x1), (0, .ref 1 360), (0, .ref 1 369), (0, .val x4), (0, .val x5), (0, .ref 1 369), (0, .val x8)] fun fr10 => (k .ret fr10 σ6)))))) (fun x11 σ12 => (updS fr [(1, .box c3), (67, .ref 1 360), (0, .val x0), (0, .val x1), (0, .ref 1 360), (0, .ref 1 369), (0, .val x4)] fun fr13 => (k (.panic x11) fr13 σ12))))))) (fun x14 σ15 => (updS fr [(69, .ref 1 360), (0, .val x0)] fun fr16 => (k (.panic x14) fr16 σ15))))))))))) (execG π PG C (sB (sB (sB (sB (sB (sB (sB (sB (sB (sB (sB (sB (sB (cd PG 12)))))))))))))) fr σ k)
theorem p12_7_eq {α : Type} (π : Prims α) (C : CallF α) : execG π PG C (sB (sB (sB (sB (sB (sB (sB (sB (sB (sB (sB (sB (sB (cd PG 12)))))))))))))) = p12_7 π C := by
  funext fr σ k
  obtain ⟨slots, defers, esc, rc⟩ := fr
  unfold p12_7
  iterate 1 (refine dKs_eq fun _ _ h => ?_; subst h)
  refine dK0_eq ?_
  iterate 2 (refine dB_eq fun _ _ h => ?_; subst h)
  iterate 75 (refine dKs_eq fun _ _ h => ?_; subst h)
  refine dK0_eq ?_
  refine dN_eq fun h => ?_; subst h
  refine sk_eq (.seq (.run (sA (sB (sB (sB (sB (sB (sB (sB (sB (sB (sB (sB (sB (sB (cd PG 12)))))))))))))))) (.seq (.run (sA (sB (sB (sB (sB (sB (sB (sB (sB (sB (sB (sB (sB (sB (sB (cd PG 12))))))))))))))))) (.seq (.run (sA (sB (sB (sB (sB (sB (sB (sB (sB (sB (sB (sB (sB (sB (sB (sB (cd PG 12)))))))))))))))))) (.run (sB (sB (sB (sB (sB (sB (sB (sB (sB (sB (sB (sB (sB (sB (sB (sB (cd PG 12))))))))))))))))))))) (by kernel_rfl) ?_
  generalize execG π PG C = H
  kernel_rfl
noncomputable def p12_4 {α : Type} (π : Prims α) (C : CallF α) (fr : Fr) (σ : St) (k : Ex → Fr → St → Option α) : Option α :=
  (fun no => (dK 1 fr.slots no fun r1 => (dB r1 no fun t1 r2 => (dK 67 r2 no fun r69 => (dN fr.esc 0 no (C 27 [(.int .u64 (Int.ofNat 0))] σ (fun x0 σ1 => (π.put t1 0 9 x0 fun c2 => (π.part true c2 288 9 fun x3 => (C 26 [x3] σ1 (fun x4 σ5 => (π.put c2 288 9 x4 fun c6 => (π.part true c6 297 9 fun x7 => (C 26 [x7] σ5 (fun x8 σ9 => (π.put c6 297 9 x8 fun c10 => (π.part true c10 306 9 fun x11 => (C 26 [x11] σ9 (fun x12 σ13 => (π.put c10 306 9 x12 fun c14 => (π.part true c14 315 9 fun x15 => (C 26 [x15] σ13 (fun x16 σ17 => (π.put c14 315 9 x16 fun c18 => (π.part true c18 324 9 fun x19 => (C 26 [x19] σ17 (fun x20 σ21 => (π.put c18 324 9 x20 fun c22 => (π.part true c22 333 9 fun x23 => (C 26 [x23] σ21 (fun x24 σ25 => (π.put c22 333 9 x24 fun c26 => (π.part true c26 342 9 fun x27 => (C 26 [x27] σ25 (fun x28 σ29 => (π.put c26 342 9 x28 fun c30 => (π.part true c30 351 9 fun x31 => (C 26 [x31] σ29 (fun x32 σ33 => (π.put c30 351 9 x32 fun c34 => (updS fr [(1, .box c34), (32, .val x0), (0, .ref 1 0), (0, .ref 1 0), (0, .ref 1 288), (0, .val x3), (0, .val x4), (0, .ref 1 288), (0, .ref 1 297), (0, .val x7), (0, .val x8), (0, .ref 1 297), (0, .ref 1 306), (0, .val x11), (0, .val x12), (0, .ref 1 306), (0, .ref 1 315), (0, .val x15), (0, .val x16), (0, .ref 1 315), (0, .ref 1 324), (0, .val x19), (0, .val x20), (0, .ref 1 324), (0, .ref 1 333), (0, .val x23), (0, .val x24), (0, .ref 1 333), (0, .ref 1 342), (0, .val x27), (0, .val x28), (0, .ref 1 342), (0, .ref 1 351), (0, .val x31), (0, .val x32), (0, .ref 1 351)] fun fr35 => (p12_7 π C fr35 σ33 k)))) (fun x36 σ37 => (updS fr [(1, .box c30), (32, .val x0), (0, .ref 1 0), (0, .ref 1 0), (0, .ref 1 288), (0, .val x3), (0, .val x4), (0, .ref 1 288), (0, .ref 1 297), (0, .val x7), (0, .val x8), (0, .ref 1 297), (0, .ref 1 306), (0, .val x11), (0, .val x12), (0, .ref 1 306), (0, .ref 1 315), (0, .val x15), (0, .val x16), (0, .ref 1 315), (0, .ref 1 324), (0, .val x19), (0, .val x20), (0, .ref 1 324), (0, .ref 1 333), (0, .val x23), (0, .val x24), (0, .ref 1 333), (0, .ref 1 342), (0, .val x27), (0, .val x28), (0, .ref 1 342), (0, .ref 1 351), (0, .val x31)] fun fr38 => (k (.panic x36) fr38 σ37))))))) (fun x39 σ40 => (updS fr [(1, .box c26), (32, .val x0), (0, .ref 1 0), (0, .ref 1 0), (0, .ref 1 288), (0, .val x3), (0, .val x4), (0, .ref 1 288), (0, .ref 1 297), (0, .val x7), (0, .val x8), (0, .ref 1 297), (0, .ref 1 306), (0, .val x11), (0, .val x12), (0, .ref 1 306), (0, .ref 1 315), (0, .val x15), (0, .val x16), (0, .ref 1 315), (0, .ref 1 324), (0, .val x19), (0, .val x20), (0, .ref 1 324), (0, .ref 1 333), (0, .val x23), (0, .val x24), (0, .ref 1 333), (0, .ref 1 342), (0, .val x27)] fun fr41 => (k (.panic x39) fr41 σ40))))))) (fun x42 σ43 => (updS fr [(1, .box c22), (32, .val x0), (0, .ref 1 0), (0, .ref 1 0), (0, .ref 1 288), (0, .val x3), (0, .val x4), (0, .ref 1 288), (0, .ref 1 297), (0, .val x7), (0, .val x8), (0, .ref 1 297), (0, .ref 1 306), (0, .val x11), (0, .val x12), (0, .ref 1 306), (0, .ref 1 315), (0, .val x15), (0, .val x16), (0, .ref 1 315), (0, .ref 1 324), (0, .val x19), (0, .val x20), (0, .ref 1 324), (0, .ref 1 333), (0, .val x23)] fun fr44 => (k (.panic x42) fr44 σ43))))))) (fun x45 σ46 => (updS fr [(1, .box c18), (32, .val x0), (0, .ref 1 0), (0, .ref 1 0), (0, .ref 1 288), (0, .val x3), (0, .val x4), (0, .ref 1 288), (0, .ref 1 297), (0, .val x7), (0, .val x8), (0, .ref 1 297), (0, .ref 1 306), (0, .val x11), (0, .val x12), (0, .ref 1 306), (0, .ref 1 315), (0, .val x15), (0, .val x16), (0, .ref 1 315), (0, .ref 1 324), (0, .val x19)] fun fr47 => (k (.panic x45) fr47 σ46))))))) (fun x48 σ49 => (updS fr [(1, .box c14), (32, .val x0), (0, .ref 1 0), (0, .ref 1 0), (0, .ref 1 288), (0, .val x3), (0, .val x4), (0, .ref 1 288), (0, .ref 1 297), (0, .val x7), (0, .val x8), (0, .ref 1 297), (0, .ref 1 306), (0, .val x11), (0, .val x12), (0, .ref 1 306), (0, .ref 1 315), (0, .val x15)] fun fr50 => (k (.panic x48) fr50 σ49))))))) (fun x51 σ52 => (updS fr [(1, .box c10), (32, .val x0), (0, .ref 1 0), (0, .ref 1 0), (0, .ref 1 288), (0, .val x3), (0, .val x4), (0, .ref 1 288), (0, .ref 1 297), (0, .val x7), (0, .val x8), (0, .ref 1 297), (0, .ref 1 306), (0, .val x11)] fun fr53 => (k (.panic x51) fr53 σ52))))))) (fun x54 σ55 => (updS fr [(1, .box c6), (32, .val x0), (0, .ref 1 0), (0, .ref 1 0), (0, .ref 1 288), (0, .val x3), (0, .val x4), (0, .ref 1 288), (0, .ref 1 297), (0, .val x7)] fun fr56 => (k (.panic x54) fr56 σ55))))))) (fun x57 σ58 => (updS fr [(1, .box c2), (32, .val x0), (0, .ref 1 0), (0, .ref 1 0), (0, .ref 1 288), (0, .val x3)] fun fr59 => (k (.panic x57) fr59 σ58))))))) (fun x60 σ61 => (k (.panic x60) fr σ61)))))))) (execG π PG C (sB (sB (sB (sB (cd PG 12))))) fr σ k)
theorem p12_4_eq {α : Type} (π : Prims α) (C : CallF α) : execG π PG C (sB (sB (sB (sB (cd PG 12))))) = p12_4 π C := by
  funext fr σ k
  obtain ⟨slots, defers, esc, rc⟩ := fr
  unfold p12_4
  iterate 1 (refine dKs_eq fun _ _ h => ?_; subst h)
  refine dK0_eq ?_
  refine dB_eq fun _ _ h => ?_; subst h
  iterate 67 (refine dKs_eq fun _ _ h => ?_; subst h)
  refine dK0_eq ?_
  refine dN_eq fun h => ?_; subst h
  try rw [← p12_7_eq π C]
  refine sk_eq (.seq (.run (sA (sB (sB (sB (sB (cd PG 12))))))) (.seq (.run (sA (sB (sB (sB (sB (sB (cd PG 12)))))))) (.seq (.run (sA (sB (sB (sB (sB (sB (sB (cd PG 12))))))))) (.seq (.run (sA (sB (sB (sB (sB (sB (sB (sB (cd PG 12)))))))))) (.seq (.run (sA (sB (sB (sB (sB (sB (sB (sB (sB (cd PG 12))))))))))) (.seq (.run (sA (sB (sB (sB (sB (sB (sB (sB (sB (sB (cd PG 12)))))))))))) (.seq (.run (sA (sB (sB (sB (sB (sB (sB (sB (sB (sB (sB (cd PG 12))))))))))))) (.seq (.run (sA (sB (sB (sB (sB (sB (sB (sB (sB (sB (sB (sB (cd PG 12)))))))))))))) (.seq (.run (sA (sB (sB (sB (sB (sB (sB (sB (sB (sB (sB (sB (sB (cd PG 12))))))))))))))) (.hole (sB (sB (sB (sB (sB (sB (sB (sB (sB (sB (sB (sB (sB (cd PG 12)))))))))))))))))))))))) (by kernel_rfl) ?_
  generalize execG π PG C = H
  kernel_rfl
noncomputable def p12_3 {α : Type} (π : Prims α) (C : CallF α) (fr : Fr) (σ : St) (k : Ex → Fr → St → Option α) : Option α :=
  (fun no => (dK 4 fr.slots no fun r4 => (dN fr.esc 0 no (updS fr [(3, .val (.int .i64 (Int.ofNat 1)))] fun fr0 => (π.loop (p12_5 π C) fr0 σ (blkK 0 (seqK (p12_4 π C) k))))))) (execG π PG C (sB (sB (sB (cd PG 12)))) fr σ k)
theorem p12_3_eq {α : Type} (π : Prims α) (C : CallF α) : execG π PG C (sB (sB (sB (cd PG 12)))) = p12_3 π C := by
  funext fr σ k
  obtain ⟨slots, defers, esc, rc⟩ := fr
  unfold p12_3
  iterate 4 (refine dKs_eq fun _ _ h => ?_; subst h)
  refine dK0_eq ?_
  refine dN_eq fun h => ?_; subst h
  try rw [← p12_5_eq π C]
  try rw [← p12_4_eq π C]
  refine sk_eq (.seq (.seq (.run (sA (sA (sB (sB (sB (cd PG 12))))))) (.block 0 (.loopH (lK (bK (sB (sA (sB (sB (sB (cd PG 12))))))))))) (.hole (sB (sB (sB (sB (cd PG 12))))))) (by kernel_rfl) ?_
  generalize execG π PG C = H
  kernel_rfl
noncomputable def p12_1 {α : Type} (π : Prims α) (C : CallF α) (fr : Fr) (σ : St) (k : Ex → Fr → St → Option α) : Option α :=
  (fun no => (dK 1 fr.slots no fun r1 => (dB r1 no fun t1 r2 => (dK 20 r2 no fun r22 => (dN fr.esc 0 no (π.part false t1 379 1 fun x0 => (π.bin PG .shr 22 true x0 (.int .u64 (Int.ofNat 11)) fun x1 => (π.bin PG .rem 22 true x1 (.int .u64 (Int.ofNat 4)) fun x2 => (π.bin PG .eql 22 true x2 (.int .u64 (Int.ofNat 2)) fun x3 => (π.cond x3 (fun _ => (π.part false t1 379 1 fun x4 => (π.bin PG .andNot 22 true x4 (.int .u64 (Int.ofNat 6144)) fun x5 => (π.put t1 379 1 x5 fun c6 => (updS fr [(1, .box c6), (11, .ref 1 379), (0, .val x0), (0, .val x1), (0, .val x2), (0, .val x3), (0, .ref 1 379), (0, .val x4), (0, .val x5), (0, .ref 1 379)] fun fr7 => (p12_3 π C fr7 σ k)))))) (fun _ => (updS fr [(13, .ref 1 379), (0, .val x0), (0, .val x1), (0, .val x2), (0, .val x3)] fun fr8 => (p12_3 π C fr8 σ k))))))))))))) (execG π PG C (sB (sB (cd PG 12))) fr σ k)
theorem p12_1_eq {α : Type} (π : Prims α) (C : CallF α) : execG π PG C (sB (sB (cd PG 12))) = p12_1 π C := by
  funext fr σ k
  obtain ⟨slots, defers, esc, rc⟩ := fr
  unfold p12_1
  iterate 1 (refine dKs_eq fun _ _ h => ?_; subst h)
  refine dK0_eq ?_
  refine dB_eq fun _ _ h => ?_; subst h
  iterate 20 (refine dKs_eq fun _ _ h => ?_; subst h)
  refine dK0_eq ?_
  refine dN_eq fun h => ?_; subst h
  try rw [← p12_3_eq π C]
  refine sk_eq (.seq (.seq (.run (sA (sA (sB (sB (cd PG 12)))))) (.cond (cX (sB (sA (sB (sB (cd PG 12)))))) (.run (cA (sB (sA (sB (sB (cd PG 12))))))) (.run (cB (sB (sA (sB (sB (cd PG 12))))))))) (.hole (sB (sB (sB (cd PG 12)))))) (by kernel_rfl) ?_
  generalize execG π PG C = H
  kernel_rfl
noncomputable def p12_0 {α : Type} (π : Prims α) (C : CallF α) (fr : Fr) (σ : St) (k : Ex → Fr → St → Option α) : Option α :=
  (fun no => (dV fr.slots no fun t0 r1 => (dK 11 r1 no fun r12 => (dN fr.esc 0 no (dataF t0 1 fun _ => (nbS fr 1 (AVal.cells t0) fun fr0 => (nbS fr0 2 zl27 fun fr1 => (π.part false (AVal.cells t0) 378 1 fun x2 => (π.bin PG .neq 3 true x2 (.int .i64 (Int.ofNat 0)) fun x3 => (gdF x3 (fun _ => (π.part false (AVal.cells t0) 378 1 fun x4 => (π.bin PG .neq 3 true x4 (.int .i64 (Int.ofNat 1)) fun x5 => (updS fr1 [(4, .ref 1 378), (0, .val x2), (0, .val x3), (0, .val (.bool true)), (0, .ref 1 378), (0, .val x4), (0, .val x5), (0, .val x5)] fun fr6 => (p12_2 π C fr6 σ (seqK (p12_1 π C) k)))))) (fun _ => (updS fr1 [(4, .ref 1 378), (0, .val x2), (0, .val x3), (0, .val (.bool false)), (0, .val (.tuple [])), (0, .val (.tuple [])), (0, .val (.tuple [])), (0, .val (.bool false))] fun fr7 => (p12_2 π C fr7 σ (seqK (p12_1 π C) k)))) (fun _ => none))))))))))) (execG π PG C (cd PG 12) fr σ k)
theorem p12_0_eq {α : Type} (π : Prims α) (C : CallF α) : execG π PG C (cd PG 12) = p12_0 π C := by
  funext fr σ k
  obtain ⟨slots, defers, esc, rc⟩ := fr
  unfold p12_0
  refine dV_eq fun _ _ h => ?_; subst h
  iterate 11 (refine dKs_eq fun _ _ h => ?_; subst h)
  refine dK0_eq ?_
  refine dN_eq fun h => ?_; subst h
  try rw [← p12_2_eq π C]
  try rw [← p12_1_eq π C]
  refine sk_eq (.seq (.run (sA (cd PG 12))) (.seq (.seq (.run (sA (sA (sB (cd PG 12))))) (.hole (sB (sA (sB (cd PG 12)))))) (.hole (sB (sB (cd PG 12)))))) (by kernel_rfl) ?_
  generalize execG π PG C = H
  kernel_rfl
-- 405 ravelin/clint part
noncomputable def p405_2 {α : Type} (π : Prims α) (C : CallF α) (fr : Fr) (σ : St) (k : Ex → Fr → St → Option α) : Option α :=
  (fun no => (dK 7 fr.slots no fun r7 => (dN fr.esc 0 no (updS fr [(4, .val (.int .i64 (Int.ofNat 0))), (0, .val (.int .i64 (Int.ofNat 0))), (0, .val (.bool false))] fun fr0 => (k .ret fr0 σ))))) (execG π PG C (sB (sB (cd PG 405))) fr σ k)
theorem p405_2_eq {α : Type} (π : Prims α) (C : CallF α) : execG π PG C (sB (sB (cd PG 405))) = p405_2 π C := by
  funext fr σ k
  obtain ⟨slots, defers, esc, rc⟩ := fr
  unfold p405_2
  iterate 7 (refine dKs_eq fun _ _ h => ?_; subst h)
  refine dK0_eq ?_
  refine dN_eq fun h => ?_; subst h
  refine sk_eq (.seq (.run (sA (sB (sB (cd PG 405))))) (.run (sB (sB (sB (cd PG 405)))))) (by kernel_rfl) ?_
  generalize execG π PG C = H
  kernel_rfl
noncomputable def p405_5 {α : Type} (π : Prims α) (C : CallF α) (fr : Fr) (σ : St) (k : Ex → Fr → St → Option α) : Option α :=
  (fun no => (dV fr.slots no fun t0 r1 => (dK 37 r1 no fun r38 => (dV r38 no fun t38 r39 => (dK 12 r39 no fun r51 => (dN fr.esc 0 no (π.cond t38 (fun _ => (π.bin PG .sub 3 true t0 (.int .i64 (Int.ofNat 4)) fun x0 => (updS fr [(4, .val x0), (0, .val (.int .i64 (Int.ofNat 32))), (0, .val (.bool true)), (42, .val t0), (0, .val x0)] fun fr1 => (k .ret fr1 σ)))) (fun _ => (k .normal fr σ))))))))) (execG π PG C (sB (cB (sB (cB (sB (cB (sB (bK (sA (sB (cd PG 405))))))))))) fr σ k)
theorem p405_5_eq {α : Type} (π : Prims α) (C : CallF α) : execG π PG C (sB (cB (sB (cB (sB (cB (sB (bK (sA (sB (cd PG 405))))))))))) = p405_5 π C := by
  funext fr σ k
  obtain ⟨slots, defers, esc, rc⟩ := fr
  unfold p405_5
  refine dV_eq fun _ _ h => ?_; subst h
  iterate 37 (refine dKs_eq fun _ _ h => ?_; subst h)
  refine dK0_eq ?_
  refine dV_eq fun _ _ h => ?_; subst h
  iterate 12 (refine dKs_eq fun _ _ h => ?_; subst h)
  refine dK0_eq ?_
  refine dN_eq fun h => ?_; subst h
  refine sk_eq (.cond (cX (sB (cB (sB (cB (sB (cB (sB (bK (sA (sB (cd PG 405)))))))))))) (.seq (.run (sA (cA (sB (cB (sB (cB (sB (cB (sB (bK (sA (sB (cd PG 405)))))))))))))) (.run (sB (cA (sB (cB (sB (cB (sB (cB (sB (bK (sA (sB (cd PG 405))))))))))))))) (.run (cB (sB (cB (sB (cB (sB (cB (sB (bK (sA (sB (cd PG 405)))))))))))))) (by kernel_rfl) ?_
  generalize execG π PG C = H
  kernel_rfl
noncomputable def p405_4 {α : Type} (π : Prims α) (C : CallF α) (fr : Fr) (σ : St) (k : Ex → Fr → St → Option α) : Option α :=
  (fun no => (dV fr.slots no fun t0 r1 => (dV r1 no fun t1 r2 => (dK 24 r2 no fun r26 => (dV r26 no fun t26 r27 => (dK 22 r27 no fun r49 => (dN fr.esc 0 no (π.cond t26 (fun _ => (updS fr [(4, .val t0), (0, .val (.int .i64 (Int.ofNat 0))), (0, .val (.bool true)), (30, .val t0)] fun fr0 => (k .ret fr0 σ))) (fun _ => (π.bin PG .eql 3 true t0 (.int .i64 (Int.ofNat 16388)) fun x1 => (gdF x1 (fun _ => (π.bin PG .eql 3 true t1 (.int .i64 (Int.ofNat 4)) fun x2 => (updS fr [(38, .val x2), (0, .val t0), (0, .val x1), (0, .val (.bool true)), (0, .val (.tuple [])), (0, .val (.tuple [])), (0, .val (.bool true)), (0, .val (.bool true)), (0, .val t1), (0, .val x2), (0, .val x2)] fun fr3 => (p405_5 π C fr3 σ k)))) (fun _ => (π.bin PG .eql 3 true t0 (.int .i64 (Int.ofNat 49148)) fun x4 => (gdF x4 (fun _ => (π.bin PG .eql 3 true t1 (.int .i64 (Int.ofNat 4)) fun x5 => (updS fr [(38, .val x5), (0, .val t0), (0, .val x1), (0, .val (.bool false)), (0, .val t0), (0, .val x4), (0, .val x4), (0, .val (.bool true)), (0, .val t1), (0, .val x5), (0, .val x5)] fun fr6 => (p405_5 π C fr6 σ k)))) (fun _ => (updS fr [(38, .val (.bool false)), (0, .val t0), (0, .val x1), (0, .val (.bool false)), (0, .val t0), (0, .val x4), (0, .val x4), (0, .val (.bool false)), (0, .val (.tuple [])), (0, .val (.tuple [])), (0, .val (.bool false))] fun fr7 => (p405_5 π C fr7 σ k))) (fun _ => none)))) (fun _ => none)))))))))))) (execG π PG C (sB (cB (sB (cB (sB (bK (sA (sB (cd PG 405))))))))) fr σ k)
theorem p405_4_eq {α : Type} (π : Prims α) (C : CallF α) : execG π PG C (sB (cB (sB (cB (sB (bK (sA (sB (cd PG 405))))))))) = p405_4 π C := by
  funext fr σ k
  obtain ⟨slots, defers, esc, rc⟩ := fr
  unfold p405_4
  iterate 2 (refine dV_eq fun _ _ h => ?_; subst h)
  iterate 24 (refine dKs_eq fun _ _ h => ?_; subst h)
  refine dK0_eq ?_
  refine dV_eq fun _ _ h => ?_; subst h
  iterate 22 (refine dKs_eq fun _ _ h => ?_; subst h)
  refine dK0_eq ?_
  refine dN_eq fun h => ?_; subst h
  try rw [← p405_5_eq π C]
  refine sk_eq (.cond (cX (sB (cB (sB (cB (sB (bK (sA (sB (cd PG 405)))))))))) (.seq (.run (sA (cA (sB (cB (sB (cB (sB (bK (sA (sB (cd PG 405)))))))))))) (.run (sB (cA (sB (cB (sB (cB (sB (bK (sA (sB (cd PG 405))))))))))))) (.seq (.run (sA (cB (sB (cB (sB (cB (sB (bK (sA (sB (cd PG 405)))))))))))) (.hole (sB (cB (sB (cB (sB (cB (sB (bK (sA (sB (cd PG 405)))))))))))))) (by kernel_rfl) ?_
  generalize execG π PG C = H
  kernel_rfl
noncomputable def p405_3 {α : Type} (π : Prims α) (C : CallF α) (fr : Fr) (σ : St) (k : Ex → Fr → St → Option α) : Option α :=
  (fun no => (dV fr.slots no fun t0 r1 => (dV r1 no fun t1 r2 => (dK 12 r2 no fun r14 => (dV r14 no fun t14 r15 => (dK 22 r15 no fun r37 => (dN fr.esc 0 no (π.cond t14 (fun _ => (updS fr [(4, .val t0), (0, .val (.int .i64 (Int.ofNat 0))), (0, .val (.bool true)), (18, .val t0)] fun fr0 => (k .ret fr0 σ))) (fun _ => (π.bin PG .eql 3 true t0 (.int .i64 (Int.ofNat 16384)) fun x1 => (gdF x1 (fun _ => (π.bin PG .eql 3 true t1 (.int .i64 (Int.ofNat 4)) fun x2 => (updS fr [(26, .val x2), (0, .val t0), (0, .val x1), (0, .val (.bool true)), (0, .val (.tuple [])), (0, .val (.tuple [])), (0, .val (.bool true)), (0, .val (.bool true)), (0, .val t1), (0, .val x2), (0, .val x2)] fun fr3 => (p405_4 π C fr3 σ k)))) (fun _ => (π.bin PG .eql 3 true t0 (.int .i64 (Int.ofNat 49144)) fun x4 => (gdF x4 (fun _ => (π.bin PG .eql 3 true t1 (.int .i64 (Int.ofNat 4)) fun x5 => (updS fr [(26, .val x5), (0, .val t0), (0, .val x1), (0, .val (.bool false)), (0, .val t0), (0, .val x4), (0, .val x4), (0, .val (.bool true)), (0, .val t1), (0, .val x5), (0, .val x5)] fun fr6 => (p405_4 π C fr6 σ k)))) (fun _ => (updS fr [(26, .val (.bool false)), (0, .val t0), (0, .val x1), (0, .val (.bool false)), (0, .val t0), (0, .val x4), (0, .val x4), (0, .val (.bool false)), (0, .val (.tuple [])), (0, .val (.tuple [])), (0, .val (.bool false))] fun fr7 => (p405_4 π C fr7 σ k))) (fun _ => none)))) (fun _ => none)))))))))))) (execG π PG C (sB (cB (sB (bK (sA (sB (cd PG 405))))))) fr σ k)
theorem p405_3_eq {α : Type} (π : Prims α) (C : CallF α) : execG π PG C (sB (cB (sB (bK (sA (sB (cd PG 405))))))) = p405_3 π C := by
  funext fr σ k
  obtain ⟨slots, defers, esc, rc⟩ := fr
  unfold p405_3
  iterate 2 (refine dV_eq fun _ _ h => ?_; subst h)
  iterate 12 (refine dKs_eq fun _ _ h => ?_; subst h)
  refine dK0_eq ?_
  refine dV_eq fun _ _ h => ?_; subst h
  iterate 22 (refine dKs_eq fun _ _ h => ?_; subst h)
  refine dK0_eq ?_
  refine dN_eq fun h => ?_; subst h
  try rw [← p405_4_eq π C]
  refine sk_eq (.cond (cX (sB (cB (sB (bK (sA (sB (cd PG 405)))))))) (.seq (.run (sA (cA (sB (cB (sB (bK (sA (sB (cd PG 405)))))))))) (.run (sB (cA (sB (cB (sB (bK (sA (sB (cd PG 405))))))))))) (.seq (.run (sA (cB (sB (cB (sB (bK (sA (sB (cd PG 405)))))))))) (.hole (sB (cB (sB (cB (sB (bK (sA (sB (cd PG 405)))))))))))) (by kernel_rfl) ?_
  generalize execG π PG C = H
  kernel_rfl
noncomputable def p405_1 {α : Type} (π : Prims α) (C : CallF α) (fr : Fr) (σ : St) (k : Ex → Fr → St → Option α) : Option α :=
  (fun no => (dV fr.slots no fun t0 r1 => (dV r1 no fun t1 r2 => (dK 5 r2 no fun r7 => (dV r7 no fun t7 r8 => (dK 17 r8 no fun r25 => (dN fr.esc 0 no (π.cond t7 (fun _ => (updS fr [(4, .val (.int .i64 (Int.ofNat 0))), (0, .val (.int .i64 (Int.ofNat 0))), (0, .val (.bool true))] fun fr0 => (k .ret fr0 σ))) (fun _ => (π.bin PG .eql 3 true t0 (.int .i64 (Int.ofNat 16384)) fun x1 => (gdF x1 (fun _ => (π.bin PG .eql 3 true t1 (.int .i64 (Int.ofNat 8)) fun x2 => (updS fr [(14, .val x2), (0, .val t0), (0, .val x1), (0, .val (.bool true)), (0, .val (.tuple [])), (0, .val (.tuple [])), (0, .val (.bool true)), (0, .val (.bool true)), (0, .val t1), (0, .val x2), (0, .val x2)] fun fr3 => (p405_3 π C fr3 σ k)))) (fun _ => (π.bin PG .eql 3 true t0 (.int .i64 (Int.ofNat 49144)) fun x4 => (gdF x4 (fun _ => (π.bin PG .eql 3 true t1 (.int .i64 (Int.ofNat 8)) fun x5 => (updS fr [(14, .val x5), (0, .val t0), (0, .val x1), (0, .val (.bool false)), (0, .val t0), (0, .val x4), (0, .val x4), (0, .val (.bool true)), (0, .val t1), (0, .val x5), (0, .val x5)] fun fr6 => (p405_3 π C fr6 σ k)))) (fun _ => (updS fr [(14, .val (.bool false)), (0, .val t0), (0, .val x1), (0, .val (.bool false)), (0, .val t0), (0, .val x4), (0, .val x4), (0, .val (.bool false)), (0, .val (.tuple [])), (0, .val (.tuple [])), (0, .val (.bool false))] fun fr7 => (p405_3 π C fr7 σ k))) (fun _ => none)))) (fun _ => none)))))))))))) (execG π PG C (sB (bK (sA (sB (cd PG 405))))) fr σ k)
theorem p405_1_eq {α : Type} (π : Prims α) (C : CallF α) : execG π PG C (sB (bK (sA (sB (cd PG 405))))) = p405_1 π C := by
  funext fr σ k
  obtain ⟨slots, defers, esc, rc⟩ := fr
  unfold p405_1
  iterate 2 (refine dV_eq fun _ _ h => ?_; subst h)
  iterate 5 (refine dKs_eq fun _ _ h => ?_; subst h)
  refine dK0_eq ?_
  refine dV_eq fun _ _ h => ?_; subst h
  iterate 17 (refine dKs_eq fun _ _ h => ?_; subst h)
  refine dK0_eq ?_
  refine dN_eq fun h => ?_; subst h
  try rw [← p405_3_eq π C]
  refine sk_eq (.cond (cX (sB (bK (sA (sB (cd PG 405)))))) (.seq (.run (sA (cA (sB (bK (sA (sB (cd PG 405)))))))) (.run (sB (cA (sB (bK (sA (sB (cd PG 405))))))))) (.seq (.run (sA (cB (sB (bK (sA (sB (cd PG 405)))))))) (.hole (sB (cB (sB (bK (sA (sB (cd PG 405)))))))))) (by kernel_rfl) ?_
  generalize execG π PG C = H
  kernel_rfl
noncomputable def p405_0 {α : Type} (π : Prims α) (C : CallF α) (fr : Fr) (σ : St) (k : Ex → Fr → St → Option α) : Option α :=
  (fun no => (dV fr.slots no fun t0 r1 => (dV r1 no fun t1 r2 => (dK 12 r2 no fun r14 => (dN fr.esc 0 no (π.bin PG .eql 3 true t0 (.int .i64 (Int.ofNat 0)) fun x0 => (gdF x0 (fun _ => (π.bin PG .eql 3 true t1 (.int .i64 (Int.ofNat 4)) fun x1 => (updS fr [(4, .val (.int .i64 (Int.ofNat 0))), (0, .val (.int .i64 (Int.ofNat 0))), (0, .val (.bool false)), (0, .val x1), (0, .val t0), (0, .val x0), (0, .val (.bool true)), (0, .val t1), (0, .val x1), (0, .val x1)] fun fr2 => (p405_1 π C fr2 σ (blkK 0 (seqK (p405_2 π C) k)))))) (fun _ => (updS fr [(4, .val (.int .i64 (Int.ofNat 0))), (0, .val (.int .i64 (Int.ofNat 0))), (0, .val (.bool false)), (0, .val (.bool false)), (0, .val t0), (0, .val x0), (0, .val (.bool false)), (0, .val (.tuple [])), (0, .val (.tuple [])), (0, .val (.bool false))] fun fr3 => (p405_1 π C fr3 σ (blkK 0 (seqK (p405_2 π C) k))))) (fun _ => none)))))))) (execG π PG C (cd PG 405) fr σ k)
theorem p405_0_eq {α : Type} (π : Prims α) (C : CallF α) : execG π PG C (cd PG 405) = p405_0 π C := by
  funext fr σ k
  obtain ⟨slots, defers, esc, rc⟩ := fr
  unfold p405_0
  iterate 2 (refine dV_eq fun _ _ h => ?_; subst h)
  iterate 12 (refine dKs_eq fun _ _ h => ?_; subst h)
  refine dK0_eq ?_
  refine dN_eq fun h => ?_; subst h
  try rw [← p405_2_eq π C]
  try rw [← p405_1_eq π C]
  refine sk_eq (.seq (.run (sA (cd PG 405))) (.seq (.block 0 (.seq (.run (sA (bK (sA (sB (cd PG 405)))))) (.hole (sB (bK (sA (sB (cd PG 405)))))))) (.hole (sB (sB (cd PG 405)))))) (by kernel_rfl) ?_
  generalize execG π PG C = H
  kernel_rfl
-- 19 ravelin/hart do
noncomputable def p19_3 {α : Type} (π : Prims α) (C : CallF α) (fr : Fr) (σ : St) (k : Ex → Fr → St → Option α) : Option α :=
  (fun no => (dK 8 fr.slots no fun r8 => (dV r8 no fun t8 r9 => (dB r9 no fun t9 r10 => (dK 13 r10 no fun r23 => (dV r23 no fun t23 r24 => (dK 1 r24 no fun r25 => (dV r25 no fun t25 r26 => (dK 9 r26 no fun r35 => (dV r35 no fun t35 r36 => (dV r36 no fun t36 r37 => (dK 1 r37 no fun r38 => (dN fr.esc 496 no (π.idxAddr PG 118 t23 t25 fun x0 => (π.ld σ false 1 x0 fun x1 => (callV C x1 [] σ (fun x2 σ3 => (π.extract x2 0 fun x4 => (π.extract x2 1 fun x5 => (updS fr [(12, .val x1), (14, .val x0), (0, .val x1), (0, .val x2), (0, .val x1), (0, .val x2), (0, .val x4), (0, .val x5)] fun fr6 => (nbS fr6 13 zl60 fun fr7 => (π.put zl60 0 3 x4 fun c8 => (π.cond x5 (fun _ => (π.ld σ3 false 1 t8 fun x9 => (π.part true c8 0 3 fun x10 => (π.st σ3 1 t8 x9 fun σ11 => (π.put t9 0 3 x10 fun c12 => (updS fr7 [(9, .box c12), (3, .box c8), (0, .val x5), (19, .val x5), (0, .val x9), (0, .val x10)] fun fr13 => (k .ret fr13 σ11))))))) (fun _ => (π.bin PG .add 3 true t25 (.int .i64 (Int.ofNat 1)) fun x14 => (updS fr7 [(13, .box c8), (0, .val x5), (10, .val x14), (8, .val x5), (2, .val x14)] fun fr15 => (k .normal fr15 σ3))))))))))) (fun x16 σ17 => (updS fr [(12, .val x1), (14, .val x0), (0, .val x1), (1, .val x1)] fun fr18 => (k (.panic x16) fr18 σ17))))))))))))))))))) (execG π PG C (sB (sB (lK (bK (sB (cA (sB (sA (sB (sB (cd PG 19))))))))))) fr σ k)
theorem p19_3_eq {α : Type} (π : Prims α) (C : CallF α) : execG π PG C (sB (sB (lK (bK (sB (cA (sB (sA (sB (sB (cd PG 19))))))))))) = p19_3 π C := by
  funext fr σ k
  obtain ⟨slots, defers, esc, rc⟩ := fr
  unfold p19_3
  iterate 8 (refine dKs_eq fun _ _ h => ?_; subst h)
  refine dK0_eq ?_
  refine dV_eq fun _ _ h => ?_; subst h
  refine dB_eq fun _ _ h => ?_; subst h
  iterate 13 (refine dKs_eq fun _ _ h => ?_; subst h)
  refine dK0_eq ?_
  refine dV_eq fun _ _ h => ?_; subst h
  iterate 1 (refine dKs_eq fun _ _ h => ?_; subst h)
  refine dK0_eq ?_
  refine dV_eq fun _ _ h => ?_; subst h
  iterate 9 (refine dKs_eq fun _ _ h => ?_; subst h)
  refine dK0_eq ?_
  iterate 2 (refine dV_eq fun _ _ h => ?_; subst h)
  iterate 1 (refine dKs_eq fun _ _ h => ?_; subst h)
  refine dK0_eq ?_
  refine dN_eq fun h => ?_; subst h
  refine sk_eq (.seq (.block 1 (.seq (.run (sA (bK (sA (sB (sB (lK (bK (sB (cA (sB (sA (sB (sB (cd PG 19))))))))))))))) (.seq (.run (sA (sB (bK (sA (sB (sB (lK (bK (sB (cA (sB (sA (sB (sB (cd PG 19)))))))))))))))) (.seq (.run (sA (sB (sB (bK (sA (sB (sB (lK (bK (sB (cA (sB (sA (sB (sB (cd PG 19))))))))))))))))) (.cond (cX (sB (sB (sB (bK (sA (sB (sB (lK (bK (sB (cA (sB (sA (sB (sB (cd PG 19))))))))))))))))) (.seq (.run (sA (cA (sB (sB (sB (bK (sA (sB (sB (lK (bK (sB (cA (sB (sA (sB (sB (cd PG 19))))))))))))))))))) (.run (sB (cA (sB (sB (sB (bK (sA (sB (sB (lK (bK (sB (cA (sB (sA (sB (sB (cd PG 19)))))))))))))))))))) (.run (cB (sB (sB (sB (bK (sA (sB (sB (lK (bK (sB (cA (sB (sA (sB (sB (cd PG 19))))))))))))))))))))))) (.run (sB (sB (sB (lK (bK (sB (cA (sB (sA (sB (sB (cd PG 19)))))))))))))) (by kernel_rfl) ?_
  generalize execG π PG C = H
  kernel_rfl
noncomputable def p19_2 {α : Type} (π : Prims α) (C : CallF α) (fr : Fr) (σ : St) (k : Ex → Fr → St → Option α) : Option α :=
  (fun no => (dK 24 fr.slots no fun r24 => (dV r24 no fun t24 r25 => (dV r25 no fun t25 r26 => (dK 1 r26 no fun r27 => (dN fr.esc 496 no (π.bin PG .lss 3 false t25 t24 fun x0 => (π.cond x0 (fun _ => (updS fr [(26, .val x0)] fun fr1 => (p19_3 π C fr1 σ k))) (fun _ => (updS fr [(26, .val x0)] fun fr2 => (k (.exit 0) fr2 σ))))))))))) (execG π PG C (lK (bK (sB (cA (sB (sA (sB (sB (cd PG 19))))))))) fr σ k)
theorem p19_2_eq {α : Type} (π : Prims α) (C : CallF α) : execG π PG C (lK (bK (sB (cA (sB (sA (sB (sB (cd PG 19))))))))) = p19_2 π C := by
  funext fr σ k
  obtain ⟨slots, defers, esc, rc⟩ := fr
  unfold p19_2
  iterate 24 (refine dKs_eq fun _ _ h => ?_; subst h)
  refine dK0_eq ?_
  iterate 2 (refine dV_eq fun _ _ h => ?_; subst h)
  iterate 1 (refine dKs_eq fun _ _ h => ?_; subst h)
  refine dK0_eq ?_
  refine dN_eq fun h => ?_; subst h
  try rw [← p19_3_eq π C]
  refine sk_eq (.seq (.run (sA (lK (bK (sB (cA (sB (sA (sB (sB (cd PG 19))))))))))) (.seq (.cond (cX (sA (sB (lK (bK (sB (cA (sB (sA (sB (sB (cd PG 19)))))))))))) (.run (cA (sA (sB (lK (bK (sB (cA (sB (sA (sB (sB (cd PG 19))))))))))))) (.run (cB (sA (sB (lK (bK (sB (cA (sB (sA (sB (sB (cd PG 19)))))))))))))) (.hole (sB (sB (lK (bK (sB (cA (sB (sA (sB (sB (cd PG 19)))))))))))))) (by kernel_rfl) ?_
  generalize execG π PG C = H
  kernel_rfl
noncomputable def p19_1 {α : Type} (π : Prims α) (C : CallF α) (fr : Fr) (σ : St) (k : Ex → Fr → St → Option α) : Option α :=
  (fun no => (dK 6 fr.slots no fun r6 => (dV r6 no fun t6 r7 => (dK 1 r7 no fun r8 => (dV r8 no fun t8 r9 => (dB r9 no fun t9 r10 => (dK 28 r10 no fun r38 => (dV r38 no fun t38 r39 => (dV r39 no fun t39 r40 => (dV r40 no fun t40 r41 => (dV r41 no fun t41 r42 => (dN fr.esc 496 no (π.add t6 10 fun x0 => (π.ld σ false 1 x0 fun x1 => (π.conv PG 32 22 x1 fun x2 => (π.put zl60 0 1 (.bool true) fun c3 => (π.put c3 1 1 (.int .i64 (Int.ofNat 2)) fun c4 => (π.put c4 2 1 x2 fun c5 => (ckF (true && (Go.Abs.differ x0 t8 && true) && true) fun _ => (π.st σ 1 t8 (.slice none 0) fun σ6 => (π.put t9 0 3 (.agg c5) fun c7 => (updS fr [(9, .box c7), (28, .val x0), (0, .val x1), (0, .val x2), (0, .val (.agg c5))] fun fr8 => (k .ret fr8 σ6))))))))))))))))))))))) (execG π PG C (sB (sB (sB (cd PG 19)))) fr σ k)
theorem p19_1_eq {α : Type} (π : Prims α) (C : CallF α) : execG π PG C (sB (sB (sB (cd PG 19)))) = p19_1 π C := by
  funext fr σ k
  obtain ⟨slots, defers, esc, rc⟩ := fr
  unfold p19_1
  iterate 6 (refine dKs_eq fun _ _ h => ?_; subst h)
  refine dK0_eq ?_
  refine dV_eq fun _ _ h => ?_; subst h
  iterate 1 (refine dKs_eq fun _ _ h => ?_; subst h)
  refine dK0_eq ?_
  refine dV_eq fun _ _ h => ?_; subst h
  refine dB_eq fun _ _ h => ?_; subst h
  iterate 28 (refine dKs_eq fun _ _ h => ?_; subst h)
  refine dK0_eq ?_
  iterate 4 (refine dV_eq fun _ _ h => ?_; subst h)
  refine dN_eq fun h => ?_; subst h
  refine sk_eq (.seq (.run (sA (sB (sB (sB (cd PG 19)))))) (.run (sB (sB (sB (sB (cd PG 19))))))) (by kernel_rfl) ?_
  generalize execG π PG C = H
  kernel_rfl
noncomputable def p19_0 {α : Type} (π : Prims α) (C : CallF α) (fr : Fr) (σ : St) (k : Ex → Fr → St → Option α) : Option α :=
  (fun no => (dV fr.slots no fun t0 r1 => (dV r1 no fun t1 r2 => (dV r2 no fun t2 r3 => (dV r3 no fun t3 r4 => (dK 22 r4 no fun r26 => (dN fr.esc 496 no (dataF t0 4 fun _ => π.alloc σ (.cells 0 (AVal.cells t0)) fun x0 σ1 => (dataF t1 5 fun _ => π.alloc σ1 (.cells 0 (AVal.cells t1)) fun x2 σ3 => (dataF t2 6 fun _ => π.alloc σ3 (.cells 0 (AVal.cells t2)) fun x4 σ5 => (dataF t3 7 fun _ => π.alloc σ5 (.cells 0 (AVal.cells t3)) fun x6 σ7 => (π.alloc σ7 (.cells 0 zl40) fun x8 σ9 => (updS fr [(4, .val x0), (0, .val x2), (0, .val x4), (0, .val x6), (0, .val x8)] fun fr10 => (nbS fr10 9 zl60 fun fr11 => (π.put [.nilFunc, .nilFunc, .nilFunc, .nilFunc] 0 1 (.func (.func 43) [] [x2, x4]) fun c12 => (π.put c12 1 1 (.func (.func 45) [] [x2, x4]) fun c13 => (π.put c13 2 1 (.func (.func 47) [] [x0, x2, x4, x6, x8]) fun c14 => (π.put c14 3 1 (.func (.func 49) [] [x0, x2, x4]) fun c15 => (π.newSl σ9 1 c15 4 fun x17 σ16 => (π.add x4 0 fun x18 => (π.ld σ16 false 1 x18 fun x19 => (π.bin PG .neq 3 true x19 (.int .i64 (Int.ofNat 0)) fun x20 => (π.cond x20 (fun _ => (π.len PG 118 x17 fun x21 => (updS fr11 [(10, .val x17), (4, .val (.func (.func 43) [] [x2, x4])), (0, .val (.func (.func 45) [] [x2, x4])), (0, .val (.func (.func 47) [] [x0, x2, x4, x6, x8])), (0, .val (.func (.func 49) [] [x0, x2, x4])), (0, .val x17), (0, .val x18), (0, .val x19), (0, .val x20), (0, .val x17), (0, .val x21), (0, .val (.int .i64 (Int.ofNat 0)))] fun fr22 => (π.loop (p19_2 π C) fr22 σ16 (blkK 0 (seqK (p19_1 π C) k)))))) (fun _ => (updS fr11 [(10, .val x17), (4, .val (.func (.func 43) [] [x2, x4])), (0, .val (.func (.func 45) [] [x2, x4])), (0, .val (.func (.func 47) [] [x0, x2, x4, x6, x8])), (0, .val (.func (.func 49) [] [x0, x2, x4])), (0, .val x17), (0, .val x18), (0, .val x19), (0, .val x20)] fun fr23 => (p19_1 π C fr23 σ16 k)))))))))))))))))))))))))) (execG π PG C (cd PG 19) fr σ k)
theorem p19_0_eq {α : Type} (π : Prims α) (C : CallF α) : execG π PG C (cd PG 19) = p19_0 π C := by
  funext fr σ k
  obtain ⟨slots, defers, esc, rc⟩ := fr
  unfold p19_0
  iterate 4 (refine dV_eq fun _ _ h => ?_; subst h)
  iterate 22 (refine dKs_eq fun _ _ h => ?_; subst h)
  refine dK0_eq ?_
  refine dN_eq fun h => ?_; subst h
  try rw [← p19_2_eq π C]
  try rw [← p19_1_eq π C]
  refine sk_eq (.seq (.run (sA (cd PG 19))) (.seq (.run (sA (sB (cd PG 19)))) (.seq (.seq (.run (sA (sA (sB (sB (cd PG 19)))))) (.cond (cX (sB (sA (sB (sB (cd PG 19)))))) (.seq (.run (sA (cA (sB (sA (sB (sB (cd PG 19)))))))) (.block 0 (.loopH (lK (bK (sB (cA (sB (sA (sB (sB (cd PG 19)))))))))))) (.run (cB (sB (sA (sB (sB (cd PG 19))))))))) (.hole (sB (sB (sB (cd PG 19)))))))) (by kernel_rfl) ?_
  generalize execG π PG C = H
  kernel_rfl
-- 401 (*ravelin/ram Ram) Store
noncomputable def p401_3 {α : Type} (π : Prims α) (C : CallF α) (fr : Fr) (σ : St) (k : Ex → Fr → St → Option α) : Option α :=
  (fun no => (dV fr.slots no fun t0 r1 => (dK 31 r1 no fun r32 => (dV r32 no fun t32 r33 => (dK 1 r33 no fun r34 => (dV r34 no fun t34 r35 => (dK 16 r35 no fun r51 => (dN fr.esc 0 no (π.idxAddr PG 404 t32 t34 fun x0 => (π.ld σ false 1 x0 fun x1 => (C 103 [t0, x1] σ (fun x2 σ3 => (π.extract x2 0 fun x4 => (π.extract x2 1 fun x5 => (π.nc x4 fun _ => (π.ld σ3 false 1 x4 fun x6 => (π.bin PG .andNot 22 false x6 x5 fun x7 => (π.nc x4 fun _ => (π.st σ3 1 x4 x7 fun σ8 => (π.bin PG .add 3 true t34 (.int .i64 (Int.ofNat 1)) fun x9 => (updS fr [(12, .val x1), (0, .val x4), (0, .val x5), (19, .val x9), (1, .val x0), (0, .val x1), (0, .val x2), (0, .val t0), (0, .val x1), (0, .val x2), (0, .val x4), (0, .val x5), (0, .val x4), (0, .val x4), (0, .val x6), (0, .val x5), (0, .val x7), (0, .val x4), (0, .val x9)] fun fr10 => (k .normal fr10 σ8))))))))))) (fun x11 σ12 => (updS fr [(12, .val x1), (23, .val x0), (0, .val x1), (1, .val t0), (0, .val x1)] fun fr13 => (k (.panic x11) fr13 σ12)))))))))))))) (execG π PG C (sB (sB (lK (bK (sB (sA (sB (sB (sB (sB (cd PG 401))))))))))) fr σ k)
theorem p401_3_eq {α : Type} (π : Prims α) (C : CallF α) : execG π PG C (sB (sB (lK (bK (sB (sA (sB (sB (sB (sB (cd PG 401))))))))))) = p401_3 π C := by
  funext fr σ k
  obtain ⟨slots, defers, esc, rc⟩ := fr
  unfold p401_3
  refine dV_eq fun _ _ h => ?_; subst h
  iterate 31 (refine dKs_eq fun _ _ h => ?_; subst h)
  refine dK0_eq ?_
  refine dV_eq fun _ _ h => ?_; subst h
  iterate 1 (refine dKs_eq fun _ _ h => ?_; subst h)
  refine dK0_eq ?_
  refine dV_eq fun _ _ h => ?_; subst h
  iterate 16 (refine dKs_eq fun _ _ h => ?_; subst h)
  refine dK0_eq ?_
  refine dN_eq fun h => ?_; subst h
  refine sk_eq (.seq (.block 1 (.seq (.run (sA (bK (sA (sB (sB (lK (bK (sB (sA (sB (sB (sB (sB (cd PG 401))))))))))))))) (.seq (.run (sA (sB (bK (sA (sB (sB (lK (bK (sB (sA (sB (sB (sB (sB (cd PG 401)))))))))))))))) (.run (sB (sB (bK (sA (sB (sB (lK (bK (sB (sA (sB (sB (sB (sB (cd PG 401))))))))))))))))))) (.run (sB (sB (sB (lK (bK (sB (sA (sB (sB (sB (sB (cd PG 401)))))))))))))) (by kernel_rfl) ?_
  generalize execG π PG C = H
  kernel_rfl
noncomputable def p401_2 {α : Type} (π : Prims α) (C : CallF α) (fr : Fr) (σ : St) (k : Ex → Fr → St → Option α) : Option α :=
  (fun no => (dK 33 fr.slots no fun r33 => (dV r33 no fun t33 r34 => (dV r34 no fun t34 r35 => (dK 1 r35 no fun r36 => (dN fr.esc 0 no (π.bin PG .lss 3 false t34 t33 fun x0 => (π.cond x0 (fun _ => (updS fr [(35, .val x0)] fun fr1 => (p401_3 π C fr1 σ k))) (fun _ => (updS fr [(35, .val x0)] fun fr2 => (k (.exit 0) fr2 σ))))))))))) (execG π PG C (lK (bK (sB (sA (sB (sB (sB (sB (cd PG 401))))))))) fr σ k)
theorem p401_2_eq {α : Type} (π : Prims α) (C : CallF α) : execG π PG C (lK (bK (sB (sA (sB (sB (sB (sB (cd PG 401))))))))) = p401_2 π C := by
  funext fr σ k
  obtain ⟨slots, defers, esc, rc⟩ := fr
  unfold p401_2
  iterate 33 (refine dKs_eq fun _ _ h => ?_; subst h)
  refine dK0_eq ?_
  iterate 2 (refine dV_eq fun _ _ h => ?_; subst h)
  iterate 1 (refine dKs_eq fun _ _ h => ?_; subst h)
  refine dK0_eq ?_
  refine dN_eq fun h => ?_; subst h
  try rw [← p401_3_eq π C]
  refine sk_eq (.seq (.run (sA (lK (bK (sB (sA (sB (sB (sB (sB (cd PG 401))))))))))) (.seq (.cond (cX (sA (sB (lK (bK (sB (sA (sB (sB (sB (sB (cd PG 401)))))))))))) (.run (cA (sA (sB (lK (bK (sB (sA (sB (sB (sB (sB (cd PG 401))))))))))))) (.run (cB (sA (sB (lK (bK (sB (sA (sB (sB (sB (sB (cd PG 401)))))))))))))) (.hole (sB (sB (lK (bK (sB (sA (sB (sB (sB (sB (cd PG 401)))))))))))))) (by kernel_rfl) ?_
  generalize execG π PG C = H
  kernel_rfl
noncomputable def p401_1 {α : Type} (π : Prims α) (C : CallF α) (fr : Fr) (σ : St) (k : Ex → Fr → St → Option α) : Option α :=
  (fun no => (dK 9 fr.slots no fun r9 => (dN fr.esc 0 no (updS fr [(8, .val (.bool true))] fun fr0 => (k .ret fr0 σ))))) (execG π PG C (sB (sB (sB (sB (sB (cd PG 401)))))) fr σ k)
theorem p401_1_eq {α : Type} (π : Prims α) (C : CallF α) : execG π PG C (sB (sB (sB (sB (sB (cd PG 401)))))) = p401_1 π C := by
  funext fr σ k
  obtain ⟨slots, defers, esc, rc⟩ := fr
  unfold p401_1
  iterate 9 (refine dKs_eq fun _ _ h => ?_; subst h)
  refine dK0_eq ?_
  refine dN_eq fun h => ?_; subst h
  refine sk_eq (.seq (.run (sA (sB (sB (sB (sB (sB (cd PG 401)))))))) (.run (sB (sB (sB (sB (sB (sB (cd PG 401))))))))) (by kernel_rfl) ?_
  generalize execG π PG C = H
  kernel_rfl
noncomputable def p401_0 {α : Type} (π : Prims α) (C : CallF α) (fr : Fr) (σ : St) (k : Ex → Fr → St → Option α) : Option α :=
  (fun no => (dV fr.slots no fun t0 r1 => (dV r1 no fun t1 r2 => (dV r2 no fun t2 r3 => (dV r3 no fun t3 r4 => (dK 31 r4 no fun r35 => (dN fr.esc 0 no (C 402 [t0, t1, t2] σ (fun x0 σ1 => (π.extract x0 0 fun x2 => (π.extract x0 1 fun x3 => (π.un .not x3 fun x4 => (π.cond x4 (fun _ => (updS fr [(8, .val (.bool false)), (0, .val x2), (0, .val x3), (4, .val x0), (0, .val t0), (0, .val t1), (0, .val t2), (0, .val x0), (0, .val x2), (0, .val x3), (0, .val x3), (0, .val x4)] fun fr5 => (k .ret fr5 σ1))) (fun _ => (C 102 [x2, t3] σ1 (fun x6 σ7 => (π.bin PG .add 3 false t1 t2 fun x8 => (π.bin PG .sub 3 true x8 (.int .i64 (Int.ofNat 1)) fun x9 => (π.put [(.int .i64 (Int.ofNat 0)), (.int .i64 (Int.ofNat 0))] 0 1 t1 fun c10 => (π.put c10 1 1 x9 fun c11 => (π.newSl σ7 1 c11 2 fun x13 σ12 => (π.len PG 404 x13 fun x14 => (updS fr [(8, .val (.bool false)), (0, .val x2), (0, .val x3), (4, .val x0), (0, .val t0), (0, .val t1), (0, .val t2), (0, .val x0), (0, .val x2), (0, .val x3), (0, .val x3), (0, .val x4), (0, .val x2), (0, .val t3), (0, .val x6), (0, .val t1), (0, .val t1), (0, .val t2), (0, .val x8), (0, .val x9), (0, .val x13), (0, .val x14), (0, .val (.int .i64 (Int.ofNat 0)))] fun fr15 => (π.loop (p401_2 π C) fr15 σ12 (blkK 0 (seqK (p401_1 π C) k))))))))))) (fun x16 σ17 => (updS fr [(8, .val (.bool false)), (0, .val x2), (0, .val x3), (4, .val x0), (0, .val t0), (0, .val t1), (0, .val t2), (0, .val x0), (0, .val x2), (0, .val x3), (0, .val x3), (0, .val x4), (0, .val x2), (0, .val t3)] fun fr18 => (k (.panic x16) fr18 σ17)))))))))) (fun x19 σ20 => (updS fr [(8, .val (.bool false)), (7, .val t0), (0, .val t1), (0, .val t2)] fun fr21 => (k (.panic x19) fr21 σ20))))))))))) (execG π PG C (cd PG 401) fr σ k)
theorem p401_0_eq {α : Type} (π : Prims α) (C : CallF α) : execG π PG C (cd PG 401) = p401_0 π C := by
  funext fr σ k
  obtain ⟨slots, defers, esc, rc⟩ := fr
  unfold p401_0
  iterate 4 (refine dV_eq fun _ _ h => ?_; subst h)
  iterate 31 (refine dKs_eq fun _ _ h => ?_; subst h)
  refine dK0_eq ?_
  refine dN_eq fun h => ?_; subst h
  try rw [← p401_2_eq π C]
  try rw [← p401_1_eq π C]
  refine sk_eq (.seq (.run (sA (cd PG 401))) (.seq (.run (sA (sB (cd PG 401)))) (.seq (.seq (.run (sA (sA (sB (sB (cd PG 401)))))) (.cond (cX (sB (sA (sB (sB (cd PG 401)))))) (.seq (.run (sA (cA (sB (sA (sB (sB (cd PG 401)))))))) (.run (sB (cA (sB (sA (sB (sB (cd PG 401))))))))) (.run (cB (sB (sA (sB (sB (cd PG 401))))))))) (.seq (.run (sA (sB (sB (sB (cd PG 401)))))) (.seq (.seq (.run (sA (sA (sB (sB (sB (sB (cd PG 401)))))))) (.block 0 (.loopH (lK (bK (sB (sA (sB (sB (sB (sB (cd PG 401)))))))))))) (.hole (sB (sB (sB (sB (sB (cd PG 401)))))))))))) (by kernel_rfl) ?_
  generalize execG π PG C = H
  kernel_rfl
-- 18 ravelin/access Fetch
noncomputable def p18_1 {α : Type} (π : Prims α) (C : CallF α) (fr : Fr) (σ : St) (k : Ex → Fr → St → Option α) : Option α :=
  (fun no => (dK 5 fr.slots no fun r5 => (dV r5 no fun t5 r6 => (dV r6 no fun t6 r7 => (dV r7 no fun t7 r8 => (dV r8 no fun t8 r9 => (dK 45 r9 no fun r54 => (dN fr.esc 131168 no (C 41 [t7] σ (fun x0 σ1 => (π.conv PG 109 32 x0 fun x2 => (π.bin PG .shl 32 true x2 (.int .u64 (Int.ofNat 16)) fun x3 => (π.conv PG 109 32 t8 fun x4 => (π.bin PG .or 32 false x3 x4 fun x5 => (π.st σ1 1 t5 (.slice none 0) fun σ6 => (π.st σ6 3 t6 (.agg zl60) fun σ7 => (updS fr [(4, .val x5), (41, .val t7), (0, .val x0), (0, .val x2), (0, .val x3), (0, .val t8), (0, .val x4), (0, .val x5), (0, .val (.agg zl60))] fun fr8 => (k .ret fr8 σ7))))))))) (fun x9 σ10 => (updS fr [(46, .val t7)] fun fr11 => (k (.panic x9) fr11 σ10)))))))))))) (execG π PG C (sB (sB (sB (sB (sB (sB (sB (sB (cd PG 18))))))))) fr σ k)
theorem p18_1_eq {α : Type} (π : Prims α) (C : CallF α) : execG π PG C (sB (sB (sB (sB (sB (sB (sB (sB (cd PG 18))))))))) = p18_1 π C := by
  funext fr σ k
  obtain ⟨slots, defers, esc, rc⟩ := fr
  unfold p18_1
  iterate 5 (refine dKs_eq fun _ _ h => ?_; subst h)
  refine dK0_eq ?_
  iterate 4 (refine dV_eq fun _ _ h => ?_; subst h)
  iterate 45 (refine dKs_eq fun _ _ h => ?_; subst h)
  refine dK0_eq ?_
  refine dN_eq fun h => ?_; subst h
  refine sk_eq (.seq (.run (sA (sB (sB (sB (sB (sB (sB (sB (sB (cd PG 18))))))))))) (.run (sB (sB (sB (sB (sB (sB (sB (sB (sB (cd PG 18)))))))))))) (by kernel_rfl) ?_
  generalize execG π PG C = H
  kernel_rfl
noncomputable def p18_0 {α : Type} (π : Prims α) (C : CallF α) (fr : Fr) (σ : St) (k : Ex → Fr → St → Option α) : Option α :=
  (fun no => (dV fr.slots no fun t0 r1 => (dV r1 no fun t1 r2 => (dK 44 r2 no fun r46 => (dN fr.esc 131168 no (π.alloc σ (.cells 0 zl40) fun x0 σ1 => (π.alloc σ1 (.cells 0 zl60) fun x2 σ3 => (π.nc t1 fun _ => (π.add t1 288 fun x4 => (π.add x4 8 fun x5 => (π.ld σ3 false 1 x5 fun x6 => (π.put zl103 0 1 t0 fun c7 => (π.put c7 1 1 t1 fun c8 => (π.put c8 2 1 (.int .i64 (Int.ofNat 32)) fun c9 => (π.put c9 3 1 x6 fun c10 => (dataF (.agg c10) 17 fun _ => π.alloc σ3 (.cells 0 (AVal.cells (.agg c10))) fun x11 σ12 => (updS fr [(4, .val (.int .u32 (Int.ofNat 0))), (0, .val x0), (0, .val x2), (0, .val x11), (1, .val t0), (0, .val t1), (0, .val t1), (0, .val t1), (0, .val x4), (0, .val x5), (0, .val x6), (0, .val (.agg c10)), (0, .val x11), (0, .val x11)] fun fr13 => (dfS fr13 (38, [x11, x0, x2]) fun fr14 => (π.nc t1 fun _ => (π.add t1 288 fun x15 => (π.ld σ12 true 9 x15 fun x16 => (C 40 [x16, (.int .i64 (Int.ofNat 2))] σ12 (fun x17 σ18 => (C 39 [x17] σ18 (fun x19 σ20 => (C 41 [x11] σ20 (fun x21 σ22 => (C 42 [x21] σ22 (fun x23 σ24 => (π.un .not x23 fun x25 => (π.cond x25 (fun _ => (π.conv PG 109 32 x21 fun x26 => (π.st σ24 1 x0 (.slice none 0) fun σ27 => (π.st σ27 3 x2 (.agg zl60) fun σ28 => (updS fr14 [(4, .val x26), (3, .val x21), (10, .val t1), (0, .val t1), (0, .val x15), (0, .val x16), (0, .val x17), (0, .val x19), (0, .val x11), (0, .val x21), (0, .val x21), (0, .val x23), (0, .val x25), (0, .val x21), (0, .val x26), (0, .val (.agg zl60))] fun fr29 => (k .ret fr29 σ28)))))) (fun _ => (π.nc t1 fun _ => (π.add t1 288 fun x30 => (π.ld σ24 true 9 x30 fun x31 => (C 40 [x31, (.int .i64 (Int.ofNat 4))] σ24 (fun x32 σ33 => (C 39 [x32] σ33 (fun x34 σ35 => (π.nc x11 fun _ => (π.add x11 3 fun x36 => (π.ld σ35 false 1 x36 fun x37 => (π.bin PG .add 22 true x37 (.int .u64 (Int.ofNat 2)) fun x38 => (π.nc x11 fun _ => (π.add x11 3 fun x39 => (π.st σ35 1 x39 x38 fun σ40 => (updS fr14 [(8, .val x21), (10, .val t1), (0, .val t1), (0, .val x15), (0, .val x16), (0, .val x17), (0, .val x19), (0, .val x11), (0, .val x21), (0, .val x21), (0, .val x23), (0, .val x25), (3, .val t1), (0, .val t1), (0, .val x30), (0, .val x31), (0, .val x32), (0, .val x34), (0, .val x11), (0, .val x11), (0, .val x36), (0, .val x37), (0, .val x38), (0, .val x11), (0, .val x39)] fun fr41 => (p18_1 π C fr41 σ40 k)))))))))) (fun x42 σ43 => (updS fr14 [(8, .val x21), (10, .val t1), (0, .val t1), (0, .val x15), (0, .val x16), (0, .val x17), (0, .val x19), (0, .val x11), (0, .val x21), (0, .val x21), (0, .val x23), (0, .val x25), (3, .val t1), (0, .val t1), (0, .val x30), (0, .val x31), (0, .val x32)] fun fr44 => (k (.panic x42) fr44 σ43))))) (fun x45 σ46 => (updS fr14 [(8, .val x21), (10, .val t1), (0, .val t1), (0, .val x15), (0, .val x16), (0, .val x17), (0, .val x19), (0, .val x11), (0, .val x21), (0, .val x21), (0, .val x23), (0, .val x25), (3, .val t1), (0, .val t1), (0, .val x30), (0, .val x31)] fun fr47 => (k (.panic x45) fr47 σ46))))))))))) (fun x48 σ49 => (updS fr14 [(8, .val x21), (10, .val t1), (0, .val t1), (0, .val x15), (0, .val x16), (0, .val x17), (0, .val x19), (0, .val x11), (0, .val x21), (0, .val x21)] fun fr50 => (k (.panic x48) fr50 σ49))))) (fun x51 σ52 => (updS fr14 [(19, .val t1), (0, .val t1), (0, .val x15), (0, .val x16), (0, .val x17), (0, .val x19), (0, .val x11)] fun fr53 => (k (.panic x51) fr53 σ52))))) (fun x54 σ55 => (updS fr14 [(19, .val t1), (0, .val t1), (0, .val x15), (0, .val x16), (0, .val x17)] fun fr56 => (k (.panic x54) fr56 σ55))))) (fun x57 σ58 => (updS fr14 [(19, .val t1), (0, .val t1), (0, .val x15), (0, .val x16)] fun fr59 => (k (.panic x57) fr59 σ58))))))))))))))))))))))))) (execG π PG C (cd PG 18) fr σ k)
theorem p18_0_eq {α : Type} (π : Prims α) (C : CallF α) : execG π PG C (cd PG 18) = p18_0 π C := by
  funext fr σ k
  obtain ⟨slots, defers, esc, rc⟩ := fr
  unfold p18_0
  iterate 2 (refine dV_eq fun _ _ h => ?_; subst h)
  iterate 44 (refine dKs_eq fun _ _ h => ?_; subst h)
  refine dK0_eq ?_
  refine dN_eq fun h => ?_; subst h
  try rw [← p18_1_eq π C]
  refine sk_eq (.seq (.run (sA (cd PG 18))) (.seq (.run (sA (sB (cd PG 18)))) (.seq (.run (sA (sB (sB (cd PG 18))))) (.seq (.run (sA (sB (sB (sB (cd PG 18)))))) (.seq (.run (sA (sB (sB (sB (sB (cd PG 18))))))) (.seq (.seq (.run (sA (sA (sB (sB (sB (sB (sB (cd PG 18))))))))) (.cond (cX (sB (sA (sB (sB (sB (sB (sB (cd PG 18))))))))) (.seq (.run (sA (cA (sB (sA (sB (sB (sB (sB (sB (cd PG 18))))))))))) (.run (sB (cA (sB (sA (sB (sB (sB (sB (sB (cd PG 18)))))))))))) (.run (cB (sB (sA (sB (sB (sB (sB (sB (cd PG 18)))))))))))) (.seq (.run (sA (sB (sB (sB (sB (sB (sB (cd PG 18))))))))) (.seq (.run (sA (sB (sB (sB (sB (sB (sB (sB (cd PG 18)))))))))) (.hole (sB (sB (sB (sB (sB (sB (sB (sB (cd PG 18)))))))))))))))))) (by kernel_rfl) ?_
  generalize execG π PG C = H
  kernel_rfl
-- 41 (*ravelin/access job) half
noncomputable def p41_0 {α : Type} (π : Prims α) (C : CallF α) (fr : Fr) (σ : St) (k : Ex → Fr → St → Option α) : Option α :=
  (fun no => (dV fr.slots no fun t0 r1 => (dK 11 r1 no fun r12 => (dV r12 no fun t12 r13 => (dV r13 no fun t13 r14 => (dV r14 no fun t14 r15 => (dV r15 no fun t15 r16 => (dV r16 no fun t16 r17 => (dV r17 no fun t17 r18 => (dV r18 no fun t18 r19 => (dV r19 no fun t19 r20 => (dV r20 no fun t20 r21 => (dV r21 no fun t21 r22 => (dV r22 no fun t22 r23 => (dV r23 no fun t23 r24 => (dK 17 r24 no fun r41 => (dN fr.esc 0 no (C 71 [t0, (.int .i64 (Int.ofNat 1))] σ (fun x0 σ1 => (π.extract x0 0 fun x2 => (π.extract x0 1 fun x3 => (π.nc t0 fun _ => (π.add t0 0 fun x4 => (π.ld σ1 false 1 x4 fun x5 => (π.nc x5 fun _ => (π.add x5 0 fun x6 => (π.ld σ1 false 1 x6 fun x7 => ((lockCall true C) 58 [x7, x2, (.int .i64 (Int.ofNat 2))] σ1 (fun x8 σ9 => (π.ld σ9 true 3 (.ptr (some (1, 0))) fun x10 => ((lockCall false C) 72 [t0, x8, (.int .i64 (Int.ofNat 1)), x10] σ9 (fun x11 σ12 => (π.nc t0 fun _ => (π.add t0 0 fun x13 => (π.ld σ12 false 1 x13 fun x14 => (π.nc x14 fun _ => (π.add x14 0 fun x15 => (π.ld σ12 false 1 x15 fun x16 => (C 73 [x16, x2, (.int .i64 (Int.ofNat 2))] σ12 (fun x17 σ18 => (π.extract x17 0 fun x19 => (π.extract x17 1 fun x20 => (C 74 [t0, (.int .i64 (Int.ofNat 1)), (.int .i64 (Int.ofNat 2)), x2] σ18 (fun x21 σ22 => (π.conv PG 22 109 x19 fun x23 => (updS fr [(2, .val x23), (0, .val x2), (0, .val x3), (0, .val x19), (0, .val x20), (0, .val x0), (0, .val t0), (0, .val x0), (0, .val x2), (0, .val x3), (0, .val t0), (0, .val t0), (0, .val t0), (0, .val x4), (0, .val x5), (0, .val x5), (0, .val x6), (0, .val x7), (0, .val x2), (0, .val x8), (0, .val x10), (0, .val x11), (0, .val x17), (0, .val t0), (0, .val t0), (0, .val x13), (0, .val x14), (0, .val x14), (0, .val x15), (0, .val x16), (0, .val x2), (0, .val x17), (0, .val x19), (0, .val x20), (0, .val t0), (0, .val x2), (0, .val x21), (0, .val x19), (0, .val x23)] fun fr24 => (k .ret fr24 σ22)))) (fun x25 σ26 => (updS fr [(2, .val (.int .u16 (Int.ofNat 0))), (0, .val x2), (0, .val x3), (0, .val x19), (0, .val x20), (0, .val x0), (0, .val t0), (0, .val x0), (0, .val x2), (0, .val x3), (0, .val t0), (0, .val t0), (0, .val t0), (0, .val x4), (0, .val x5), (0, .val x5), (0, .val x6), (0, .val x7), (0, .val x2), (0, .val x8), (0, .val x10), (0, .val x11), (0, .val x17), (0, .val t0), (0, .val t0), (0, .val x13), (0, .val x14), (0, .val x14), (0, .val x15), (0, .val x16), (0, .val x2), (0, .val x17), (0, .val x19), (0, .val x20), (0, .val t0), (0, .val x2)] fun fr27 => (k (.panic x25) fr27 σ26))))))) (fun x28 σ29 => (updS fr [(2, .val (.int .u16 (Int.ofNat 0))), (0, .val x2), (0, .val x3), (2, .val x0), (0, .val t0), (0, .val x0), (0, .val x2), (0, .val x3), (0, .val t0), (0, .val t0), (0, .val t0), (0, .val x4), (0, .val x5), (0, .val x5), (0, .val x6), (0, .val x7), (0, .val x2), (0, .val x8), (0, .val x10), (0, .val x11), (1, .val t0), (0, .val t0), (0, .val x13), (0, .val x14), (0, .val x14), (0, .val x15), (0, .val x16), (0, .val x2)] fun fr30 => (k (.panic x28) fr30 σ29))))))))))) (fun x31 σ32 => none)))) (fun x33 σ34 => none))))))))))) (fun x35 σ36 => (updS fr [(2, .val (.int .u16 (Int.ofNat 0))), (5, .val t0)] fun fr37 => (k (.panic x35) fr37 σ36))))))))))))))))))))) (execG π PG C (cd PG 41) fr σ k)
theorem p41_0_eq {α : Type} (π : Prims α) (C : CallF α) : execG π PG C (cd PG 41) = p41_0 π C := by
  funext fr σ k
  obtain ⟨slots, defers, esc, rc⟩ := fr
  unfold p41_0
  refine dV_eq fun _ _ h => ?_; subst h
  iterate 11 (refine dKs_eq fun _ _ h => ?_; subst h)
  refine dK0_eq ?_
  iterate 12 (refine dV_eq fun _ _ h => ?_; subst h)
  iterate 17 (refine dKs_eq fun _ _ h => ?_; subst h)
  refine dK0_eq ?_
  refine dN_eq fun h => ?_; subst h
  refine sk_eq (.seq (.run (sA (cd PG 41))) (.seq (.run (sA (sB (cd PG 41)))) (.seq (.run (sA (sB (sB (cd PG 41))))) (.seq (.run (sA (sB (sB (sB (cd PG 41)))))) (.seq (.run (sA (sB (sB (sB (sB (cd PG 41))))))) (.seq (.run (sA (sB (sB (sB (sB (sB (cd PG 41)))))))) (.run (sB (sB (sB (sB (sB (sB (cd PG 41)))))))))))))) (by kernel_rfl) ?_
  generalize execG π PG C = H
  kernel_rfl
-- 172 ravelin/access privilege
noncomputable def p172_2 {α : Type} (π : Prims α) (C : CallF α) (fr : Fr) (σ : St) (k : Ex → Fr → St → Option α) : Option α :=
  (fun no => (dV fr.slots no fun t0 r1 => (dK 25 r1 no fun r26 => (dN fr.esc 0 no (π.nc t0 fun _ => (π.add t0 378 fun x0 => (π.ld σ false 1 x0 fun x1 => (updS fr [(4, .val x1), (17, .val t0), (0, .val t0), (0, .val x0), (0, .val x1)] fun fr2 => (k .ret fr2 σ))))))))) (execG π PG C (sB (sB (cd PG 172))) fr σ k)
theorem p172_2_eq {α : Type} (π : Prims α) (C : CallF α) : execG π PG C (sB (sB (cd PG 172))) = p172_2 π C := by
  funext fr σ k
  obtain ⟨slots, defers, esc, rc⟩ := fr
  unfold p172_2
  refine dV_eq fun _ _ h => ?_; subst h
  iterate 25 (refine dKs_eq fun _ _ h => ?_; subst h)
  refine dK0_eq ?_
  refine dN_eq fun h => ?_; subst h
  refine sk_eq (.seq (.run (sA (sB (sB (cd PG 172))))) (.run (sB (sB (sB (cd PG 172)))))) (by kernel_rfl) ?_
  generalize execG π PG C = H
  kernel_rfl
noncomputable def p172_1 {α : Type} (π : Prims α) (C : CallF α) (fr : Fr) (σ : St) (k : Ex → Fr → St → Option α) : Option α :=
  (fun no => (dV fr.slots no fun t0 r1 => (dK 13 r1 no fun r14 => (dV r14 no fun t14 r15 => (dK 7 r15 no fun r22 => (dN fr.esc 0 no (π.cond t14 (fun _ => (π.nc t0 fun _ => (π.add t0 379 fun x0 => (π.ld σ false 1 x0 fun x1 => (π.bin PG .shr 22 true x1 (.int .u64 (Int.ofNat 11)) fun x2 => (π.bin PG .and 22 true x2 (.int .u64 (Int.ofNat 3)) fun x3 => (π.conv PG 22 3 x3 fun x4 => (updS fr [(4, .val x4), (10, .val t0), (0, .val t0), (0, .val x0), (0, .val x1), (0, .val x2), (0, .val x3), (0, .val x4)] fun fr5 => (k .ret fr5 σ))))))))) (fun _ => (k .normal fr σ))))))))) (execG π PG C (sB (sA (sB (cd PG 172)))) fr σ k)
theorem p172_1_eq {α : Type} (π : Prims α) (C : CallF α) : execG π PG C (sB (sA (sB (cd PG 172)))) = p172_1 π C := by
  funext fr σ k
  obtain ⟨slots, defers, esc, rc⟩ := fr
  unfold p172_1
  refine dV_eq fun _ _ h => ?_; subst h
  iterate 13 (refine dKs_eq fun _ _ h => ?_; subst h)
  refine dK0_eq ?_
  refine dV_eq fun _ _ h => ?_; subst h
  iterate 7 (refine dKs_eq fun _ _ h => ?_; subst h)
  refine dK0_eq ?_
  refine dN_eq fun h => ?_; subst h
  refine sk_eq (.cond (cX (sB (sA (sB (cd PG 172))))) (.seq (.run (sA (cA (sB (sA (sB (cd PG 172))))))) (.run (sB (cA (sB (sA (sB (cd PG 172)))))))) (.run (cB (sB (sA (sB (cd PG 172))))))) (by kernel_rfl) ?_
  generalize execG π PG C = H
  kernel_rfl
noncomputable def p172_0 {α : Type} (π : Prims α) (C : CallF α) (fr : Fr) (σ : St) (k : Ex → Fr → St → Option α) : Option α :=
  (fun no => (dV fr.slots no fun t0 r1 => (dV r1 no fun t1 r2 => (dK 13 r2 no fun r15 => (dN fr.esc 0 no (π.bin PG .neq 3 true t1 (.int .i64 (Int.ofNat 1)) fun x0 => (gdF x0 (fun _ => (π.nc t0 fun _ => (π.add t0 379 fun x1 => (π.ld σ false 1 x1 fun x2 => (π.bin PG .and 22 true x2 (.int .u64 (Int.ofNat 131072)) fun x3 => (π.bin PG .neq 22 true x3 (.int .u64 (Int.ofNat 0)) fun x4 => (updS fr [(4, .val (.int .i64 (Int.ofNat 0))), (0, .val t1), (0, .val x0), (0, .val (.bool true)), (0, .val t0), (0, .val t0), (0, .val x1), (0, .val x2), (0, .val x3), (0, .val x4), (0, .val x4)] fun fr5 => (p172_1 π C fr5 σ (seqK (p172_2 π C) k))))))))) (fun _ => (updS fr [(4, .val (.int .i64 (Int.ofNat 0))), (0, .val t1), (0, .val x0), (0, .val (.bool false)), (0, .val (.tuple [])), (0, .val (.tuple [])), (0, .val (.tuple [])), (0, .val (.tuple [])), (0, .val (.tuple [])), (0, .val (.tuple [])), (0, .val (.bool false))] fun fr6 => (p172_1 π C fr6 σ (seqK (p172_2 π C) k)))) (fun _ => none)))))))) (execG π PG C (cd PG 172) fr σ k)
theorem p172_0_eq {α : Type} (π : Prims α) (C : CallF α) : execG π PG C (cd PG 172) = p172_0 π C := by
  funext fr σ k
  obtain ⟨slots, defers, esc, rc⟩ := fr
  unfold p172_0
  iterate 2 (refine dV_eq fun _ _ h => ?_; subst h)
  iterate 13 (refine dKs_eq fun _ _ h => ?_; subst h)
  refine dK0_eq ?_
  refine dN_eq fun h => ?_; subst h
  try rw [← p172_2_eq π C]
  try rw [← p172_1_eq π C]
  refine sk_eq (.seq (.run (sA (cd PG 172))) (.seq (.seq (.run (sA (sA (sB (cd PG 172))))) (.hole (sB (sA (sB (cd PG 172)))))) (.hole (sB (sB (cd PG 172)))))) (by kernel_rfl) ?_
  generalize execG π PG C = H
  kernel_rfl
-- 71 (*ravelin/access job) place
noncomputable def p71_0 {α : Type} (π : Prims α) (C : CallF α) (fr : Fr) (σ : St) (k : Ex → Fr → St → Option α) : Option α :=
  (fun no => (dV fr.slots no fun t0 r1 => (dV r1 no fun t1 r2 => (dK 4 r2 no fun r6 => (dV r6 no fun t6 r7 => (dV r7 no fun t7 r8 => (dV r8 no fun t8 r9 => (dV r9 no fun t9 r10 => (dV r10 no fun t10 r11 => (dV r11 no fun t11 r12 => (dV r12 no fun t12 r13 => (dV r13 no fun t13 r14 => (dV r14 no fun t14 r15 => (dV r15 no fun t15 r16 => (dV r16 no fun t16 r17 => (dV r17 no fun t17 r18 => (dV r18 no fun t18 r19 => (dV r19 no fun t19 r20 => (dV r20 no fun t20 r21 => (dV r21 no fun t21 r22 => (dV r22 no fun t22 r23 => (dV r23 no fun t23 r24 => (dV r24 no fun t24 r25 => (dV r25 no fun t25 r26 => (dV r26 no fun t26 r27 => (dK 13 r27 no fun r40 => (dN fr.esc 0 no (π.nc t0 fun _ => (π.add t0 0 fun x0 => (π.ld σ false 1 x0 fun x1 => (π.nc t0 fun _ => (π.add t0 1 fun x2 => (π.ld σ false 1 x2 fun x3 => (π.nc t0 fun _ => (π.add t0 3 fun x4 => (π.ld σ false 1 x4 fun x5 => ((lockCall false C) 109 [x1, x3, t1, x5] σ (fun x6 σ7 => (π.extract x6 0 fun x8 => (π.extract x6 1 fun x9 => (π.extract x6 2 fun x10 => (π.extract x6 3 fun x11 => (updS fr [(4, .val (.int .u64 (Int.ofNat 0))), (0, .val (.int .u64 (Int.ofNat 0))), (2, .val x6), (0, .val t0), (0, .val t0), (0, .val x0), (0, .val x1), (0, .val t0), (0, .val t0), (0, .val x2), (0, .val x3), (0, .val t1), (0, .val t0), (0, .val t0), (0, .val x4), (0, .val x5), (0, .val x6), (0, .val x8), (0, .val x9), (0, .val x10), (0, .val x11)] fun fr12 => (frF fr12 7 fun _ => (nbS fr12 7 zl60 fun fr13 => (π.put zl60 0 3 x11 fun c14 => (π.nc t0 fun _ => (π.add t0 4 fun x15 => (π.ld σ7 false 1 x15 fun x16 => (π.append PG σ7 40 x16 x10 fun x17 σ18 => (π.nc t0 fun _ => (π.add t0 4 fun x19 => (π.st σ18 1 x19 x17 fun σ20 => (π.part true c14 0 3 fun x21 => (C 39 [x21] σ20 (fun x22 σ23 => (updS fr13 [(4, .val x8), (0, .val x9), (0, .val x10), (0, .box c14), (19, .val t0), (0, .val t0), (0, .val t0), (0, .val x15), (0, .val x16), (0, .val x10), (0, .val x17), (0, .val t0), (0, .val x19), (0, .val x21), (0, .val x22), (0, .val x8), (0, .val x9)] fun fr24 => (k .ret fr24 σ23))) (fun x25 σ26 => (updS fr13 [(4, .val x8), (0, .val x9), (0, .val x10), (0, .box c14), (19, .val t0), (0, .val t0), (0, .val t0), (0, .val x15), (0, .val x16), (0, .val x10), (0, .val x17), (0, .val t0), (0, .val x19), (0, .val x21)] fun fr27 => (k (.panic x25) fr27 σ26))))))))))))))))))))) (fun x28 σ29 => none)))))))))))))))))))))))))))))))))))))) (execG π PG C (cd PG 71) fr σ k)
theorem p71_0_eq {α : Type} (π : Prims α) (C : CallF α) : execG π PG C (cd PG 71) = p71_0 π C := by
  funext fr σ k
  obtain ⟨slots, defers, esc, rc⟩ := fr
  unfold p71_0
  iterate 2 (refine dV_eq fun _ _ h => ?_; subst h)
  iterate 4 (refine dKs_eq fun _ _ h => ?_; subst h)
  refine dK0_eq ?_
  iterate 21 (refine dV_eq fun _ _ h => ?_; subst h)
  iterate 13 (refine dKs_eq fun _ _ h => ?_; subst h)
  refine dK0_eq ?_
  refine dN_eq fun h => ?_; subst h
  refine sk_eq (.seq (.run (sA (cd PG 71))) (.seq (.run (sA (sB (cd PG 71)))) (.seq (.run (sA (sB (sB (cd PG 71))))) (.seq (.run (sA (sB (sB (sB (cd PG 71)))))) (.seq (.run (sA (sB (sB (sB (sB (cd PG 71))))))) (.run (sB (sB (sB (sB (sB (cd PG 71)))))))))))) (by kernel_rfl) ?_
  generalize execG π PG C = H
  kernel_rfl
-- 78 ravelin/xint Set
noncomputable def p78_1 {α : Type} (π : Prims α) (C : CallF α) (fr : Fr) (σ : St) (k : Ex → Fr → St → Option α) : Option α :=
  (fun no => (dV fr.slots no fun t0 r1 => (dV r1 no fun t1 r2 => (dK 3 r2 no fun r5 => (dB r5 no fun t5 r6 => (dK 5 r6 no fun r11 => (dV r11 no fun t11 r12 => (dV r12 no fun t12 r13 => (dV r13 no fun t13 r14 => (dV r14 no fun t14 r15 => (dV r15 no fun t15 r16 => (dV r16 no fun t16 r17 => (dV r17 no fun t17 r18 => (dN fr.esc 0 no (π.cond t11 (fun _ => (π.part true t5 0 9 fun x0 => (π.nc t0 fun _ => (π.add t0 0 fun x1 => (π.idxAddr PG 25 x1 t1 fun x2 => (π.st σ 9 x2 x0 fun σ3 => (updS fr [(12, .val t0), (0, .val t1), (0, .val x0), (0, .val t0), (0, .val x1), (0, .val x2)] fun fr4 => (k .normal fr4 σ3)))))))) (fun _ => (k .normal fr σ))))))))))))))))) (execG π PG C (sB (sB (cd PG 78))) fr σ k)
theorem p78_1_eq {α : Type} (π : Prims α) (C : CallF α) : execG π PG C (sB (sB (cd PG 78))) = p78_1 π C := by
  funext fr σ k
  obtain ⟨slots, defers, esc, rc⟩ := fr
  unfold p78_1
  iterate 2 (refine dV_eq fun _ _ h => ?_; subst h)
  iterate 3 (refine dKs_eq fun _ _ h => ?_; subst h)
  refine dK0_eq ?_
  refine dB_eq fun _ _ h => ?_; subst h
  iterate 5 (refine dKs_eq fun _ _ h => ?_; subst h)
  refine dK0_eq ?_
  iterate 7 (refine dV_eq fun _ _ h => ?_; subst h)
  refine dN_eq fun h => ?_; subst h
  refine sk_eq (.cond (cX (sB (sB (cd PG 78)))) (.run (cA (sB (sB (cd PG 78))))) (.run (cB (sB (sB (cd PG 78)))))) (by kernel_rfl) ?_
  generalize execG π PG C = H
  kernel_rfl
noncomputable def p78_0 {α : Type} (π : Prims α) (C : CallF α) (fr : Fr) (σ : St) (k : Ex → Fr → St → Option α) : Option α :=
  (fun no => (dK 1 fr.slots no fun r1 => (dV r1 no fun t1 r2 => (dV r2 no fun t2 r3 => (dK 9 r3 no fun r12 => (dN fr.esc 0 no (dataF t2 5 fun _ => (nbS fr 5 (AVal.cells t2) fun fr0 => (π.bin PG .gtr 3 true t1 (.int .i64 (Int.ofNat 0)) fun x1 => (gdF x1 (fun _ => (π.bin PG .lss 3 true t1 (.int .i64 (Int.ofNat 32)) fun x2 => (updS fr0 [(6, .val t1), (0, .val x1), (0, .val (.bool true)), (0, .val t1), (0, .val x2), (0, .val x2)] fun fr3 => (p78_1 π C fr3 σ k)))) (fun _ => (updS fr0 [(6, .val t1), (0, .val x1), (0, .val (.bool false)), (0, .val (.tuple [])), (0, .val (.tuple [])), (0, .val (.bool false))] fun fr4 => (p78_1 π C fr4 σ k))) (fun _ => none))))))))))) (execG π PG C (cd PG 78) fr σ k)
theorem p78_0_eq {α : Type} (π : Prims α) (C : CallF α) : execG π PG C (cd PG 78) = p78_0 π C := by
  funext fr σ k
  obtain ⟨slots, defers, esc, rc⟩ := fr
  unfold p78_0
  iterate 1 (refine dKs_eq fun _ _ h => ?_; subst h)
  refine dK0_eq ?_
  iterate 2 (refine dV_eq fun _ _ h => ?_; subst h)
  iterate 9 (refine dKs_eq fun _ _ h => ?_; subst h)
  refine dK0_eq ?_
  refine dN_eq fun h => ?_; subst h
  try rw [← p78_1_eq π C]
  refine sk_eq (.seq (.run (sA (cd PG 78))) (.seq (.run (sA (sB (cd PG 78)))) (.hole (sB (sB (cd PG 78)))))) (by kernel_rfl) ?_
  generalize execG π PG C = H
  kernel_rfl
-- 67 ravelin/capops keep
noncomputable def p67_1 {α : Type} (π : Prims α) (C : CallF α) (fr : Fr) (σ : St) (k : Ex → Fr → St → Option α) : Option α :=
  (fun no => (dK 2 fr.slots no fun r2 => (dB r2 no fun t2 r3 => (dK 1 r3 no fun r4 => (dB r4 no fun t4 r5 => (dK 7 r5 no fun r12 => (dN fr.esc 0 no (π.part true t2 0 9 fun x0 => (π.put t4 0 9 x0 fun c1 => (updS fr [(4, .box c1), (6, .val x0)] fun fr2 => (k .ret fr2 σ))))))))))) (execG π PG C (sB (sB (cd PG 67))) fr σ k)
theorem p67_1_eq {α : Type} (π : Prims α) (C : CallF α) : execG π PG C (sB (sB (cd PG 67))) = p67_1 π C := by
  funext fr σ k
  obtain ⟨slots, defers, esc, rc⟩ := fr
  unfold p67_1
  iterate 2 (refine dKs_eq fun _ _ h => ?_; subst h)
  refine dK0_eq ?_
  refine dB_eq fun _ _ h => ?_; subst h
  iterate 1 (refine dKs_eq fun _ _ h => ?_; subst h)
  refine dK0_eq ?_
  refine dB_eq fun _ _ h => ?_; subst h
  iterate 7 (refine dKs_eq fun _ _ h => ?_; subst h)
  refine dK0_eq ?_
  refine dN_eq fun h => ?_; subst h
  refine sk_eq (.seq (.run (sA (sB (sB (cd PG 67))))) (.run (sB (sB (sB (cd PG 67)))))) (by kernel_rfl) ?_
  generalize execG π PG C = H
  kernel_rfl
noncomputable def p67_0 {α : Type} (π : Prims α) (C : CallF α) (fr : Fr) (σ : St) (k : Ex → Fr → St → Option α) : Option α :=
  (fun no => (dV fr.slots no fun t0 r1 => (dV r1 no fun t1 r2 => (dK 9 r2 no fun r11 => (dN fr.esc 0 no (dataF t0 2 fun _ => (nbS fr 2 (AVal.cells t0) fun fr0 => (nbS fr0 4 zl24 fun fr1 => (π.part false (AVal.cells t0) 0 1 fun x2 => (gdF x2 (fun _ => (π.put (AVal.cells t0) 0 1 t1 fun c3 => (updS fr1 [(2, .box c3), (2, .ref 2 0), (0, .val x2), (0, .val (.bool true)), (0, .val t1), (0, .val t1), (0, .ref 2 0)] fun fr4 => (p67_1 π C fr4 σ k)))) (fun _ => (π.put (AVal.cells t0) 0 1 (.bool false) fun c5 => (updS fr1 [(2, .box c5), (2, .ref 2 0), (0, .val x2), (0, .val (.bool false)), (0, .val (.tuple [])), (0, .val (.bool false)), (0, .ref 2 0)] fun fr6 => (p67_1 π C fr6 σ k)))) (fun _ => none))))))))))) (execG π PG C (cd PG 67) fr σ k)
theorem p67_0_eq {α : Type} (π : Prims α) (C : CallF α) : execG π PG C (cd PG 67) = p67_0 π C := by
  funext fr σ k
  obtain ⟨slots, defers, esc, rc⟩ := fr
  unfold p67_0
  iterate 2 (refine dV_eq fun _ _ h => ?_; subst h)
  iterate 9 (refine dKs_eq fun _ _ h => ?_; subst h)
  refine dK0_eq ?_
  refine dN_eq fun h => ?_; subst h
  try rw [← p67_1_eq π C]
  refine sk_eq (.seq (.run (sA (cd PG 67))) (.seq (.run (sA (sB (cd PG 67)))) (.hole (sB (sB (cd PG 67)))))) (by kernel_rfl) ?_
  generalize execG π PG C = H
  kernel_rfl
-- 93 ravelin/rvc Expand
noncomputable def p93_0 {α : Type} (π : Prims α) (C : CallF α) (fr : Fr) (σ : St) (k : Ex → Fr → St → Option α) : Option α :=
  (fun no => (dV fr.slots no fun t0 r1 => (dK 18 r1 no fun r19 => (dN fr.esc 0 no (π.bin PG .and 109 true t0 (.int .u16 (Int.ofNat 3)) fun x0 => (π.bin PG .eql 109 true x0 (.int .u16 (Int.ofNat 3)) fun x1 => (π.cond x1 (fun _ => (updS fr [(2, .val (.int .u32 (Int.ofNat 0))), (0, .val (.bool false)), (0, .val t0), (0, .val x0), (0, .val x1)] fun fr2 => (k .ret fr2 σ))) (fun _ => (C 162 [] σ (fun x3 σ4 => (π.bin PG .and 109 true t0 (.int .u16 (Int.ofNat 3)) fun x5 => (π.idx PG 268 x3 x5 fun x6 => (π.bin PG .shr 109 true t0 (.int .u64 (Int.ofNat 13)) fun x7 => (π.idx PG 267 x6 x7 fun x8 => (π.conv PG 109 270 t0 fun x9 => (callV C x8 [x9] σ4 (fun x10 σ11 => (π.extract x10 0 fun x12 => (π.extract x10 1 fun x13 => (updS fr [(2, .val x12), (0, .val x13), (0, .val t0), (0, .val x0), (0, .val x1), (0, .val x3), (0, .val t0), (0, .val x5), (0, .val x6), (0, .val t0), (0, .val x7), (0, .val x8), (0, .val t0), (0, .val x9), (0, .val x10), (0, .val x12), (0, .val x13)] fun fr14 => (k .ret fr14 σ11))))) (fun x15 σ16 => (updS fr [(2, .val (.int .u32 (Int.ofNat 0))), (0, .val (.bool false)), (0, .val t0), (0, .val x0), (0, .val x1), (0, .val x3), (0, .val t0), (0, .val x5), (0, .val x6), (0, .val t0), (0, .val x7), (0, .val x8), (0, .val t0), (0, .val x9)] fun fr17 => (k (.panic x15) fr17 σ16)))))))))) (fun x18 σ19 => (updS fr [(2, .val (.int .u32 (Int.ofNat 0))), (0, .val (.bool false)), (0, .val t0), (0, .val x0), (0, .val x1)] fun fr20 => (k (.panic x18) fr20 σ19)))))))))))) (execG π PG C (cd PG 93) fr σ k)
theorem p93_0_eq {α : Type} (π : Prims α) (C : CallF α) : execG π PG C (cd PG 93) = p93_0 π C := by
  funext fr σ k
  obtain ⟨slots, defers, esc, rc⟩ := fr
  unfold p93_0
  refine dV_eq fun _ _ h => ?_; subst h
  iterate 18 (refine dKs_eq fun _ _ h => ?_; subst h)
  refine dK0_eq ?_
  refine dN_eq fun h => ?_; subst h
  refine sk_eq (.seq (.run (sA (cd PG 93))) (.seq (.seq (.run (sA (sA (sB (cd PG 93))))) (.cond (cX (sB (sA (sB (cd PG 93))))) (.seq (.run (sA (cA (sB (sA (sB (cd PG 93))))))) (.run (sB (cA (sB (sA (sB (cd PG 93)))))))) (.run (cB (sB (sA (sB (cd PG 93)))))))) (.seq (.run (sA (sB (sB (cd PG 93))))) (.run (sB (sB (sB (cd PG 93)))))))) (by kernel_rfl) ?_
  generalize execG π PG C = H
  kernel_rfl
-- 79 ravelin/xint Next
noncomputable def p79_0 {α : Type} (π : Prims α) (C : CallF α) (fr : Fr) (σ : St) (k : Ex → Fr → St → Option α) : Option α :=
  (fun no => (dV fr.slots no fun t0 r1 => (dV r1 no fun t1 r2 => (dK 2 r2 no fun r4 => (dV r4 no fun t4 r5 => (dV r5 no fun t5 r6 => (dV r6 no fun t6 r7 => (dV r7 no fun t7 r8 => (dV r8 no fun t8 r9 => (dV r9 no fun t9 r10 => (dV r10 no fun t10 r11 => (dV r11 no fun t11 r12 => (dV r12 no fun t12 r13 => (dV r13 no fun t13 r14 => (dV r14 no fun t14 r15 => (dV r15 no fun t15 r16 => (dV r16 no fun t16 r17 => (dV r17 no fun t17 r18 => (dV r18 no fun t18 r19 => (dV r19 no fun t19 r20 => (dN fr.esc 0 no (π.nc t0 fun _ => (π.add t0 288 fun x0 => (π.ld σ true 9 x0 fun x1 => (π.nc t0 fun _ => (π.add t0 288 fun x2 => (π.add x2 8 fun x3 => (π.ld σ false 1 x3 fun x4 => (π.conv PG 3 22 t1 fun x5 => (π.bin PG .add 22 false x4 x5 fun x6 => ((lockCall false C) 36 [x1, x6] σ (fun x7 σ8 => (π.nc t0 fun _ => (π.add t0 288 fun x9 => (π.st σ8 9 x9 x7 fun σ10 => (updS fr [(4, .val t0), (0, .val t0), (0, .val t0), (0, .val x0), (0, .val x1), (0, .val t0), (0, .val t0), (0, .val x2), (0, .val x3), (0, .val x4), (0, .val t1), (0, .val x5), (0, .val x6), (0, .val x7), (0, .val t0), (0, .val x9)] fun fr11 => (k .normal fr11 σ10)))))) (fun x12 σ13 => none)))))))))))))))))))))))))))))))) (execG π PG C (cd PG 79) fr σ k)
theorem p79_0_eq {α : Type} (π : Prims α) (C : CallF α) : execG π PG C (cd PG 79) = p79_0 π C := by
  funext fr σ k
  obtain ⟨slots, defers, esc, rc⟩ := fr
  unfold p79_0
  iterate 2 (refine dV_eq fun _ _ h => ?_; subst h)
  iterate 2 (refine dKs_eq fun _ _ h => ?_; subst h)
  refine dK0_eq ?_
  iterate 16 (refine dV_eq fun _ _ h => ?_; subst h)
  refine dN_eq fun h => ?_; subst h
  refine sk_eq (.run (cd PG 79)) (by kernel_rfl) ?_
  generalize execG π PG C = H
  kernel_rfl
-- 72 (*ravelin/access job) must
noncomputable def p72_0 {α : Type} (π : Prims α) (C : CallF α) (fr : Fr) (σ : St) (k : Ex → Fr → St → Option α) : Option α :=
  (fun no => (dV fr.slots no fun t0 r1 => (dV r1 no fun t1 r2 => (dV r2 no fun t2 r3 => (dV r3 no fun t3 r4 => (dK 6 r4 no fun r10 => (dV r10 no fun t10 r11 => (dV r11 no fun t11 r12 => (dV r12 no fun t12 r13 => (dV r13 no fun t13 r14 => (dV r14 no fun t14 r15 => (dV r15 no fun t15 r16 => (dV r16 no fun t16 r17 => (dV r17 no fun t17 r18 => (dV r18 no fun t18 r19 => (dN fr.esc 0 no (dataF t3 7 fun _ => (nbS fr 7 (AVal.cells t3) fun fr0 => (π.un .not t1 fun x1 => (π.cond x1 (fun _ => (π.part true (AVal.cells t3) 0 3 fun x2 => (π.nc t0 fun _ => (π.add t0 3 fun x3 => (π.ld σ false 1 x3 fun x4 => ((lockCall false C) 110 [t2, x2, x4] σ (fun x5 σ6 => (π.put zl160 0 3 x5 fun c7 => none)) (fun x8 σ9 => none))))))) (fun _ => (updS fr0 [(8, .val t1), (0, .val x1)] fun fr10 => (k .normal fr10 σ))))))))))))))))))))))) (execG π PG C (cd PG 72) fr σ k)
theorem p72_0_eq {α : Type} (π : Prims α) (C : CallF α) : execG π PG C (cd PG 72) = p72_0 π C := by
  funext fr σ k
  obtain ⟨slots, defers, esc, rc⟩ := fr
  unfold p72_0
  iterate 4 (refine dV_eq fun _ _ h => ?_; subst h)
  iterate 6 (refine dKs_eq fun _ _ h => ?_; subst h)
  refine dK0_eq ?_
  iterate 9 (refine dV_eq fun _ _ h => ?_; subst h)
  refine dN_eq fun h => ?_; subst h
  refine sk_eq (.seq (.run (sA (cd PG 72))) (.seq (.run (sA (sB (cd PG 72)))) (.cond (cX (sB (sB (cd PG 72)))) (.run (cA (sB (sB (cd PG 72))))) (.run (cB (sB (sB (cd PG 72)))))))) (by kernel_rfl) ?_
  generalize execG π PG C = H
  kernel_rfl
-- 35 ravelin/trap lay
noncomputable def p35_0 {α : Type} (π : Prims α) (C : CallF α) (fr : Fr) (σ : St) (k : Ex → Fr → St → Option α) : Option α :=
  (fun no => (dV fr.slots no fun t0 r1 => (dV r1 no fun t1 r2 => (dV r2 no fun t2 r3 => (dV r3 no fun t3 r4 => (dK 20 r4 no fun r24 => (dN fr.esc 0 no (π.bin PG .shl 22 true (.int .u64 (Int.ofNat 1)) t2 fun x0 => (π.bin PG .sub 22 true x0 (.int .u64 (Int.ofNat 1)) fun x1 => (π.bin PG .shl 22 false x1 t1 fun x2 => (π.bin PG .andNot 22 false t0 x2 fun x3 => (π.bin PG .and 22 false t3 x1 fun x4 => (π.bin PG .shl 22 false x4 t1 fun x5 => (π.bin PG .or 22 false x3 x5 fun x6 => (updS fr [(8, .val x6), (0, .val x1), (0, .val t2), (0, .val x0), (0, .val x1), (0, .val t0), (0, .val x1), (0, .val t1), (0, .val x2), (0, .val x3), (0, .val t3), (0, .val x1), (0, .val x4), (0, .val t1), (0, .val x5), (0, .val x6)] fun fr7 => (k .ret fr7 σ)))))))))))))))) (execG π PG C (cd PG 35) fr σ k)
theorem p35_0_eq {α : Type} (π : Prims α) (C : CallF α) : execG π PG C (cd PG 35) = p35_0 π C := by
  funext fr σ k
  obtain ⟨slots, defers, esc, rc⟩ := fr
  unfold p35_0
  iterate 4 (refine dV_eq fun _ _ h => ?_; subst h)
  iterate 20 (refine dKs_eq fun _ _ h => ?_; subst h)
  refine dK0_eq ?_
  refine dN_eq fun h => ?_; subst h
  refine sk_eq (.seq (.run (sA (cd PG 35))) (.seq (.run (sA (sB (cd PG 35)))) (.seq (.run (sA (sB (sB (cd PG 35))))) (.run (sB (sB (sB (cd PG 35)))))))) (by kernel_rfl) ?_
  generalize execG π PG C = H
  kernel_rfl
-- 233 (ravelin/base word) signed
noncomputable def p233_0 {α : Type} (π : Prims α) (C : CallF α) (fr : Fr) (σ : St) (k : Ex → Fr → St → Option α) : Option α :=
  (fun no => (dV fr.slots no fun t0 r1 => (dV r1 no fun t1 r2 => (dV r2 no fun t2 r3 => (dK 15 r3 no fun r18 => (dN fr.esc 0 no (π.conv PG 197 21 t0 fun x0 => (π.bin PG .sub 3 true (.int .i64 (Int.ofNat 31)) t1 fun x1 => (π.bin PG .shl 21 false x0 x1 fun x2 => (π.bin PG .sub 3 true (.int .i64 (Int.ofNat 31)) t1 fun x3 => (π.bin PG .add 3 false x3 t2 fun x4 => (π.bin PG .shr 21 false x2 x4 fun x5 => (π.conv PG 21 3 x5 fun x6 => (updS fr [(6, .val x6), (0, .val t0), (0, .val x0), (0, .val t1), (0, .val x1), (0, .val x2), (0, .val t1), (0, .val x3), (0, .val t2), (0, .val x4), (0, .val x5), (0, .val x6)] fun fr7 => (k .ret fr7 σ))))))))))))))) (execG π PG C (cd PG 233) fr σ k)
theorem p233_0_eq {α : Type} (π : Prims α) (C : CallF α) : execG π PG C (cd PG 233) = p233_0 π C := by
  funext fr σ k
  obtain ⟨slots, defers, esc, rc⟩ := fr
  unfold p233_0
  iterate 3 (refine dV_eq fun _ _ h => ?_; subst h)
  iterate 15 (refine dKs_eq fun _ _ h => ?_; subst h)
  refine dK0_eq ?_
  refine dN_eq fun h => ?_; subst h
  refine sk_eq (.seq (.run (sA (cd PG 233))) (.seq (.run (sA (sB (cd PG 233)))) (.run (sB (sB (cd PG 233)))))) (by kernel_rfl) ?_
  generalize execG π PG C = H
  kernel_rfl
-- 43 ravelin/hart do$1
noncomputable def p43_0 {α : Type} (π : Prims α) (C : CallF α) (fr : Fr) (σ : St) (k : Ex → Fr → St → Option α) : Option α :=
  (fun no => (dV fr.slots no fun t0 r1 => (dV r1 no fun t1 r2 => (dK 7 r2 no fun r9 => (dN fr.esc 0 no (nbS fr 2 zl60 fun fr0 => (π.ld σ false 1 t0 fun x1 => (π.ld σ true 11 t1 fun x2 => (C 44 [x1, x2] σ (fun x3 σ4 => (π.extract x3 0 fun x5 => (π.extract x3 1 fun x6 => (π.put zl60 0 3 x5 fun c7 => (updS fr0 [(2, .box c7), (0, .val x6), (0, .val x1), (0, .val x2), (0, .val x3), (0, .val x5), (0, .val x6)] fun fr8 => (k .ret fr8 σ4)))))) (fun x9 σ10 => (updS fr0 [(3, .val (.bool false)), (0, .val x1), (0, .val x2)] fun fr11 => (k (.panic x9) fr11 σ10)))))))))))) (execG π PG C (cd PG 43) fr σ k)
theorem p43_0_eq {α : Type} (π : Prims α) (C : CallF α) : execG π PG C (cd PG 43) = p43_0 π C := by
  funext fr σ k
  obtain ⟨slots, defers, esc, rc⟩ := fr
  unfold p43_0
  iterate 2 (refine dV_eq fun _ _ h => ?_; subst h)
  iterate 7 (refine dKs_eq fun _ _ h => ?_; subst h)
  refine dK0_eq ?_
  refine dN_eq fun h => ?_; subst h
  refine sk_eq (.seq (.run (sA (cd PG 43))) (.seq (.run (sA (sB (cd PG 43)))) (.run (sB (sB (cd PG 43)))))) (by kernel_rfl) ?_
  generalize execG π PG C = H
  kernel_rfl
-- 245 ravelin/rvc near
noncomputable def p245_0 {α : Type} (π : Prims α) (C : CallF α) (fr : Fr) (σ : St) (k : Ex → Fr → St → Option α) : Option α :=
  (fun no => (dV fr.slots no fun t0 r1 => (dV r1 no fun t1 r2 => (dV r2 no fun t2 r3 => (dK 5 r3 no fun r8 => (dN fr.esc 56 no (dataF t0 3 fun _ => π.alloc σ (.cells 0 (AVal.cells t0)) fun x0 σ1 => (dataF t1 4 fun _ => π.alloc σ1 (.cells 0 (AVal.cells t1)) fun x2 σ3 => (dataF t2 5 fun _ => π.alloc σ3 (.cells 0 (AVal.cells t2)) fun x4 σ5 => (updS fr [(3, .val x0), (0, .val x2), (0, .val x4), (0, .val (.func (.func 320) [] [x4, x0, x2])), (0, .val (.func (.func 320) [] [x4, x0, x2]))] fun fr6 => (k .ret fr6 σ5))))))))))) (execG π PG C (cd PG 245) fr σ k)
theorem p245_0_eq {α : Type} (π : Prims α) (C : CallF α) : execG π PG C (cd PG 245) = p245_0 π C := by
  funext fr σ k
  obtain ⟨slots, defers, esc, rc⟩ := fr
  unfold p245_0
  iterate 3 (refine dV_eq fun _ _ h => ?_; subst h)
  iterate 5 (refine dKs_eq fun _ _ h => ?_; subst h)
  refine dK0_eq ?_
  refine dN_eq fun h => ?_; subst h
  refine sk_eq (.seq (.run (sA (cd PG 245))) (.seq (.run (sA (sB (cd PG 245)))) (.run (sB (sB (cd PG 245)))))) (by kernel_rfl) ?_
  generalize execG π PG C = H
  kernel_rfl
-- 10 ravelin/capenc Number
noncomputable def p10_0 {α : Type} (π : Prims α) (C : CallF α) (fr : Fr) (σ : St) (k : Ex → Fr → St → Option α) : Option α :=
  (fun no => (dV fr.slots no fun t0 r1 => (dK 4 r1 no fun r5 => (dN fr.esc 0 no (nbS fr 2 zl24 fun fr0 => (π.put zl24 2 1 (.int .i64 (Int.ofNat 262143)) fun c1 => (π.put c1 4 1 (.int .i64 (Int.ofNat 52)) fun c2 => (π.put c2 7 1 (.bool true) fun c3 => (π.put c3 8 1 t0 fun c4 => (π.put zl24 0 9 (.agg c4) fun c5 => (updS fr0 [(2, .box c5), (0, .val t0), (0, .val (.agg c4))] fun fr6 => (k .ret fr6 σ)))))))))))) (execG π PG C (cd PG 10) fr σ k)
theorem p10_0_eq {α : Type} (π : Prims α) (C : CallF α) : execG π PG C (cd PG 10) = p10_0 π C := by
  funext fr σ k
  obtain ⟨slots, defers, esc, rc⟩ := fr
  unfold p10_0
  refine dV_eq fun _ _ h => ?_; subst h
  iterate 4 (refine dKs_eq fun _ _ h => ?_; subst h)
  refine dK0_eq ?_
  refine dN_eq fun h => ?_; subst h
  refine sk_eq (.seq (.run (sA (cd PG 10))) (.seq (.run (sA (sB (cd PG 10)))) (.run (sB (sB (cd PG 10)))))) (by kernel_rfl) ?_
  generalize execG π PG C = H
  kernel_rfl
-- 231 (ravelin/base word) of
noncomputable def p231_0 {α : Type} (π : Prims α) (C : CallF α) (fr : Fr) (σ : St) (k : Ex → Fr → St → Option α) : Option α :=
  (fun no => (dV fr.slots no fun t0 r1 => (dV r1 no fun t1 r2 => (dK 6 r2 no fun r8 => (dN fr.esc 0 no (nbS fr 4 zl66 fun fr0 => (π.put zl66 0 1 t1 fun c1 => (π.put c1 9 1 (.int .i64 (Int.ofNat 4)) fun c2 => (π.put c2 10 1 t0 fun c3 => (π.put zl66 0 11 (.agg c3) fun c4 => (updS fr0 [(4, .box c4), (0, .val t1), (0, .val t0), (0, .val (.agg c3))] fun fr5 => (k .ret fr5 σ)))))))))))) (execG π PG C (cd PG 231) fr σ k)
theorem p231_0_eq {α : Type} (π : Prims α) (C : CallF α) : execG π PG C (cd PG 231) = p231_0 π C := by
  funext fr σ k
  obtain ⟨slots, defers, esc, rc⟩ := fr
  unfold p231_0
  iterate 2 (refine dV_eq fun _ _ h => ?_; subst h)
  iterate 6 (refine dKs_eq fun _ _ h => ?_; subst h)
  refine dK0_eq ?_
  refine dN_eq fun h => ?_; subst h
  refine sk_eq (.seq (.run (sA (cd PG 231))) (.seq (.run (sA (sB (cd PG 231)))) (.run (sB (sB (cd PG 231)))))) (by kernel_rfl) ?_
  generalize execG π PG C = H
  kernel_rfl
-- 96 ravelin/clint New
noncomputable def p96_0 {α : Type} (π : Prims α) (C : CallF α) (fr : Fr) (σ : St) (k : Ex → Fr → St → Option α) : Option α :=
  (fun no => (dK 3 fr.slots no fun r3 => (dN fr.esc 4 no (π.put zl146 1 1 (.int .u64 (Int.ofNat 18446744073709551615)) fun c0 => (dataF (.agg c0) 2 fun _ => π.alloc σ (.cells 0 (AVal.cells (.agg c0))) fun x1 σ2 => (updS fr [(0, .val x1), (0, .val (.agg c0)), (0, .val x1)] fun fr3 => (k .ret fr3 σ2))))))) (execG π PG C (cd PG 96) fr σ k)
theorem p96_0_eq {α : Type} (π : Prims α) (C : CallF α) : execG π PG C (cd PG 96) = p96_0 π C := by
  funext fr σ k
  obtain ⟨slots, defers, esc, rc⟩ := fr
  unfold p96_0
  iterate 3 (refine dKs_eq fun _ _ h => ?_; subst h)
  refine dK0_eq ?_
  refine dN_eq fun h => ?_; subst h
  refine sk_eq (.seq (.run (sA (cd PG 96))) (.seq (.run (sA (sB (cd PG 96)))) (.run (sB (sB (cd PG 96)))))) (by kernel_rfl) ?_
  generalize execG π PG C = H
  kernel_rfl
-- 99 ravelin/serial NewPower
noncomputable def p99_0 {α : Type} (π : Prims α) (C : CallF α) (fr : Fr) (σ : St) (k : Ex → Fr → St → Option α) : Option α :=
  (fun no => (dK 3 fr.slots no fun r3 => (dN fr.esc 4 no (dataF (.agg zl280) 2 fun _ => π.alloc σ (.cells 0 (AVal.cells (.agg zl280))) fun x0 σ1 => (updS fr [(0, .val x0), (0, .val (.agg zl280)), (0, .val x0)] fun fr2 => (k .ret fr2 σ1)))))) (execG π PG C (cd PG 99) fr σ k)
theorem p99_0_eq {α : Type} (π : Prims α) (C : CallF α) : execG π PG C (cd PG 99) = p99_0 π C := by
  funext fr σ k
  obtain ⟨slots, defers, esc, rc⟩ := fr
  unfold p99_0
  iterate 3 (refine dKs_eq fun _ _ h => ?_; subst h)
  refine dK0_eq ?_
  refine dN_eq fun h => ?_; subst h
  refine sk_eq (.seq (.run (sA (cd PG 99))) (.seq (.run (sA (sB (cd PG 99)))) (.run (sB (sB (cd PG 99)))))) (by kernel_rfl) ?_
  generalize execG π PG C = H
  kernel_rfl
end
end Go.Sh
