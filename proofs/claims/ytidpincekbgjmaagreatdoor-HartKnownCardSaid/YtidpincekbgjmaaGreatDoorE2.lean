/-
  Functions of the program in a shallow form (printed by a program of mine), each shown to be what the machine runs. No condition.
-/
import Derived.Test.YtidpincekbgjmaaGreatDoorD
set_option linter.unusedVariables false
set_option linter.unusedSimpArgs false
open Go Go.Abs Go.Proofs
namespace Go.Sh
noncomputable section
set_option maxRecDepth 100000
set_option maxHeartbeats 0
-- 109 ravelin/access Place
noncomputable def p109_4 {α : Type} (π : Prims α) (C : CallF α) (fr : Fr) (σ : St) (k : Ex → Fr → St → Option α) : Option α :=
  (fun no => (dV fr.slots no fun t0 r1 => (dV r1 no fun t1 r2 => (dV r2 no fun t2 r3 => (dV r3 no fun t3 r4 => (dK 4 r4 no fun r8 => (dV r8 no fun t8 r9 => (dV r9 no fun t9 r10 => (dV r10 no fun t10 r11 => (dB r11 no fun t11 r12 => (dV r12 no fun t12 r13 => (dB r13 no fun t13 r14 => (dK 1 r14 no fun r15 => (dV r15 no fun t15 r16 => (dK 61 r16 no fun r77 => (dV r77 no fun t77 r78 => (dV r78 no fun t78 r79 => (dV r79 no fun t79 r80 => (dV r80 no fun t80 r81 => (dV r81 no fun t81 r82 => (dV r82 no fun t82 r83 => (dV r83 no fun t83 r84 => (dV r84 no fun t84 r85 => (dV r85 no fun t85 r86 => (dV r86 no fun t86 r87 => (dV r87 no fun t87 r88 => (dV r88 no fun t88 r89 => (dV r89 no fun t89 r90 => (dV r90 no fun t90 r91 => (dV r91 no fun t91 r92 => (dV r92 no fun t92 r93 => (dV r93 no fun t93 r94 => (dV r94 no fun t94 r95 => (dV r95 no fun t95 r96 => (dV r96 no fun t96 r97 => (dK 15 r97 no fun r112 => (dV r112 no fun t112 r113 => (dV r113 no fun t113 r114 => (dV r114 no fun t114 r115 => (dV r115 no fun t115 r116 => (dV r116 no fun t116 r117 => (dV r117 no fun t117 r118 => (dV r118 no fun t118 r119 => (dV r119 no fun t119 r120 => (dV r120 no fun t120 r121 => (dV r121 no fun t121 r122 => (dV r122 no fun t122 r123 => (dV r123 no fun t123 r124 => (dV r124 no fun t124 r125 => (dV r125 no fun t125 r126 => (dV r126 no fun t126 r127 => (dV r127 no fun t127 r128 => (dN fr.esc 0 no (π.nc t0 fun _ => (π.add t0 0 fun x0 => (π.ld σ false 1 x0 fun x1 => (π.nc t1 fun _ => (π.add t1 390 fun x2 => (π.ld σ false 1 x2 fun x3 => (π.nc t1 fun _ => (π.add t1 379 fun x4 => (π.ld σ false 1 x4 fun x5 => ((lockCall false C) 177 [x1, x3, t3, t2, t12, x5] σ (fun x6 σ7 => (π.extract x6 0 fun x8 => (π.extract x6 1 fun x9 => (π.extract x6 2 fun x10 => (π.put t13 0 4 x8 fun c11 => (π.bin PG .eql 3 true x10 (.int .i64 (Int.ofNat 1)) fun x12 => (π.cond x12 (fun _ => (π.ld σ7 true 3 (.ptr (some (2, 0))) fun x13 => (C 110 [t2, x13, t3] σ7 (fun x14 σ15 => (π.put t11 0 3 x14 fun c16 => (updS fr [(8, .val (.int .u64 (Int.ofNat 0))), (0, .val (.int .u64 (Int.ofNat 0))), (0, .val x9), (0, .box c16), (1, .box c11), (1, .val x10), (61, .val x6), (0, .val t0), (0, .val t0), (0, .val x0), (0, .val x1), (0, .val t1), (0, .val t1), (0, .val x2), (0, .val x3), (0, .val t3), (0, .val t2), (0, .val t12), (0, .val t1), (0, .val t1), (0, .val x4), (0, .val x5), (0, .val x6), (0, .val x8), (0, .val x9), (0, .val x10), (0, .val x10), (0, .val x12), (0, .val x12), (0, .val x9), (0, .val t2), (0, .val x13), (0, .val t3), (0, .val x14)] fun fr17 => (k .ret fr17 σ15)))) (fun x18 σ19 => (updS fr [(10, .val x9), (2, .box c11), (1, .val x10), (61, .val x6), (0, .val t0), (0, .val t0), (0, .val x0), (0, .val x1), (0, .val t1), (0, .val t1), (0, .val x2), (0, .val x3), (0, .val t3), (0, .val t2), (0, .val t12), (0, .val t1), (0, .val t1), (0, .val x4), (0, .val x5), (0, .val x6), (0, .val x8), (0, .val x9), (0, .val x10), (0, .val x10), (0, .val x12), (0, .val x12), (0, .val x9), (0, .val t2), (0, .val x13), (0, .val t3)] fun fr20 => (k (.panic x18) fr20 σ19)))))) (fun _ => (π.bin PG .eql 3 true x10 (.int .i64 (Int.ofNat 2)) fun x21 => (π.cond x21 (fun _ => (π.ld σ7 true 3 (.ptr (some (1, 0))) fun x22 => (C 110 [t2, x22, t3] σ7 (fun x23 σ24 => (π.put t11 0 3 x23 fun c25 => (updS fr [(8, .val (.int .u64 (Int.ofNat 0))), (0, .val (.int .u64 (Int.ofNat 0))), (0, .val x9), (0, .box c25), (1, .box c11), (1, .val x10), (61, .val x6), (0, .val t0), (0, .val t0), (0, .val x0), (0, .val x1), (0, .val t1), (0, .val t1), (0, .val x2), (0, .val x3), (0, .val t3), (0, .val t2), (0, .val t12), (0, .val t1), (0, .val t1), (0, .val x4), (0, .val x5), (0, .val x6), (0, .val x8), (0, .val x9), (0, .val x10), (0, .val x10), (0, .val x12), (0, .val x12), (5, .val x21), (0, .val x21), (0, .val x9), (0, .val t2), (0, .val x22), (0, .val t3), (0, .val x23)] fun fr26 => (k .ret fr26 σ24)))) (fun x27 σ28 => (updS fr [(10, .val x9), (2, .box c11), (1, .val x10), (61, .val x6), (0, .val t0), (0, .val t0), (0, .val x0), (0, .val x1), (0, .val t1), (0, .val t1), (0, .val x2), (0, .val x3), (0, .val t3), (0, .val t2), (0, .val t12), (0, .val t1), (0, .val t1), (0, .val x4), (0, .val x5), (0, .val x6), (0, .val x8), (0, .val x9), (0, .val x10), (0, .val x10), (0, .val x12), (0, .val x12), (5, .val x21), (0, .val x21), (0, .val x9), (0, .val t2), (0, .val x22), (0, .val t3)] fun fr29 => (k (.panic x27) fr29 σ28)))))) (fun _ => (π.nc t0 fun _ => (π.add t0 1 fun x30 => (π.ld σ7 false 1 x30 fun x31 => (π.part true c11 0 4 fun x32 => ((lockCall false C) 178 [x31, x32] σ7 (fun x33 σ34 => (π.part false c11 3 1 fun x35 => (π.part false c11 1 1 fun x36 => ((lockCall true C) 176 [x35, x36, t3] σ34 (fun x37 σ38 => (π.part false c11 3 1 fun x39 => (π.put t11 0 3 (.agg zl60) fun c40 => (updS fr [(8, .val x37), (0, .val x39), (0, .val x9), (0, .box c40), (1, .box c11), (1, .val x10), (61, .val x6), (0, .val t0), (0, .val t0), (0, .val x0), (0, .val x1), (0, .val t1), (0, .val t1), (0, .val x2), (0, .val x3), (0, .val t3), (0, .val t2), (0, .val t12), (0, .val t1), (0, .val t1), (0, .val x4), (0, .val x5), (0, .val x6), (0, .val x8), (0, .val x9), (0, .val x10), (0, .val x10), (0, .val x12), (0, .val x12), (5, .val x21), (0, .val x21), (5, .val t0), (0, .val t0), (0, .val x30), (0, .val x31), (0, .val x32), (0, .val x33), (0, .ref 13 3), (0, .val x35), (0, .ref 13 1), (0, .val x36), (0, .val t3), (0, .val x37), (0, .ref 13 3), (0, .val x39), (0, .val x9), (0, .val (.agg zl60))] fun fr41 => (k .ret fr41 σ38))))) (fun x42 σ43 => none))))) (fun x44 σ45 => none))))))))))))))))) (fun x46 σ47 => none)))))))))))))))))))))))))))))))))))))))))))))))))))))))))))))))) (execG π PG C (sB (sB (sB (sB (sB (cd PG 109)))))) fr σ k)
theorem p109_4_eq {α : Type} (π : Prims α) (C : CallF α) : execG π PG C (sB (sB (sB (sB (sB (cd PG 109)))))) = p109_4 π C := by
  funext fr σ k
  obtain ⟨slots, defers, esc, rc⟩ := fr
  unfold p109_4
  iterate 4 (refine dV_eq fun _ _ h => ?_; subst h)
  iterate 4 (refine dKs_eq fun _ _ h => ?_; subst h)
  refine dK0_eq ?_
  iterate 3 (refine dV_eq fun _ _ h => ?_; subst h)
  refine dB_eq fun _ _ h => ?_; subst h
  refine dV_eq fun _ _ h => ?_; subst h
  refine dB_eq fun _ _ h => ?_; subst h
  iterate 1 (refine dKs_eq fun _ _ h => ?_; subst h)
  refine dK0_eq ?_
  refine dV_eq fun _ _ h => ?_; subst h
  iterate 61 (refine dKs_eq fun _ _ h => ?_; subst h)
  refine dK0_eq ?_
  iterate 20 (refine dV_eq fun _ _ h => ?_; subst h)
  iterate 15 (refine dKs_eq fun _ _ h => ?_; subst h)
  refine dK0_eq ?_
  iterate 16 (refine dV_eq fun _ _ h => ?_; subst h)
  refine dN_eq fun h => ?_; subst h
  refine sk_eq (.seq (.run (sA (sB (sB (sB (sB (sB (cd PG 109)))))))) (.seq (.seq (.run (sA (sA (sB (sB (sB (sB (sB (sB (cd PG 109)))))))))) (.block 0 (.seq (.run (sA (bK (sB (sA (sB (sB (sB (sB (sB (sB (cd PG 109)))))))))))) (.cond (cX (sB (bK (sB (sA (sB (sB (sB (sB (sB (sB (cd PG 109)))))))))))) (.seq (.run (sA (cA (sB (bK (sB (sA (sB (sB (sB (sB (sB (sB (cd PG 109)))))))))))))) (.run (sB (cA (sB (bK (sB (sA (sB (sB (sB (sB (sB (sB (cd PG 109))))))))))))))) (.seq (.run (sA (cB (sB (bK (sB (sA (sB (sB (sB (sB (sB (sB (cd PG 109)))))))))))))) (.cond (cX (sB (cB (sB (bK (sB (sA (sB (sB (sB (sB (sB (sB (cd PG 109)))))))))))))) (.seq (.run (sA (cA (sB (cB (sB (bK (sB (sA (sB (sB (sB (sB (sB (sB (cd PG 109)))))))))))))))) (.run (sB (cA (sB (cB (sB (bK (sB (sA (sB (sB (sB (sB (sB (sB (cd PG 109))))))))))))))))) (.run (cB (sB (cB (sB (bK (sB (sA (sB (sB (sB (sB (sB (sB (cd PG 109))))))))))))))))))))) (.seq (.run (sA (sB (sB (sB (sB (sB (sB (sB (cd PG 109)))))))))) (.seq (.run (sA (sB (sB (sB (sB (sB (sB (sB (sB (cd PG 109))))))))))) (.run (sB (sB (sB (sB (sB (sB (sB (sB (sB (cd PG 109))))))))))))))) (by kernel_rfl) ?_
  generalize execG π PG C = H
  kernel_rfl
noncomputable def p109_3 {α : Type} (π : Prims α) (C : CallF α) (fr : Fr) (σ : St) (k : Ex → Fr → St → Option α) : Option α :=
  (fun no => (dK 3 fr.slots no fun r3 => (dV r3 no fun t3 r4 => (dK 4 r4 no fun r8 => (dV r8 no fun t8 r9 => (dV r9 no fun t9 r10 => (dV r10 no fun t10 r11 => (dB r11 no fun t11 r12 => (dK 1 r12 no fun r13 => (dB r13 no fun t13 r14 => (dK 53 r14 no fun r67 => (dV r67 no fun t67 r68 => (dV r68 no fun t68 r69 => (dV r69 no fun t69 r70 => (dV r70 no fun t70 r71 => (dV r71 no fun t71 r72 => (dV r72 no fun t72 r73 => (dV r73 no fun t73 r74 => (dV r74 no fun t74 r75 => (dV r75 no fun t75 r76 => (dV r76 no fun t76 r77 => (dN fr.esc 0 no (π.cond t67 (fun _ => (π.part false t13 3 1 fun x0 => (π.part false t13 1 1 fun x1 => ((lockCall true C) 176 [x0, x1, t3] σ (fun x2 σ3 => (π.part false t13 3 1 fun x4 => (π.put t11 0 3 (.agg zl60) fun c5 => (updS fr [(8, .val x2), (0, .val x4), (0, .val (.slice none 0)), (0, .box c5), (56, .ref 13 3), (0, .val x0), (0, .ref 13 1), (0, .val x1), (0, .val t3), (0, .val x2), (0, .ref 13 3), (0, .val x4), (0, .val (.agg zl60))] fun fr6 => (k .ret fr6 σ3))))) (fun x7 σ8 => none))))) (fun _ => (k .normal fr σ))))))))))))))))))))))))) (execG π PG C (sB (sA (sB (sB (sB (sB (cd PG 109))))))) fr σ k)
theorem p109_3_eq {α : Type} (π : Prims α) (C : CallF α) : execG π PG C (sB (sA (sB (sB (sB (sB (cd PG 109))))))) = p109_3 π C := by
  funext fr σ k
  obtain ⟨slots, defers, esc, rc⟩ := fr
  unfold p109_3
  iterate 3 (refine dKs_eq fun _ _ h => ?_; subst h)
  refine dK0_eq ?_
  refine dV_eq fun _ _ h => ?_; subst h
  iterate 4 (refine dKs_eq fun _ _ h => ?_; subst h)
  refine dK0_eq ?_
  iterate 3 (refine dV_eq fun _ _ h => ?_; subst h)
  refine dB_eq fun _ _ h => ?_; subst h
  iterate 1 (refine dKs_eq fun _ _ h => ?_; subst h)
  refine dK0_eq ?_
  refine dB_eq fun _ _ h => ?_; subst h
  iterate 53 (refine dKs_eq fun _ _ h => ?_; subst h)
  refine dK0_eq ?_
  iterate 10 (refine dV_eq fun _ _ h => ?_; subst h)
  refine dN_eq fun h => ?_; subst h
  refine sk_eq (.cond (cX (sB (sA (sB (sB (sB (sB (cd PG 109)))))))) (.seq (.run (sA (cA (sB (sA (sB (sB (sB (sB (cd PG 109)))))))))) (.run (sB (cA (sB (sA (sB (sB (sB (sB (cd PG 109))))))))))) (.run (cB (sB (sA (sB (sB (sB (sB (cd PG 109)))))))))) (by kernel_rfl) ?_
  generalize execG π PG C = H
  kernel_rfl
noncomputable def p109_2 {α : Type} (π : Prims α) (C : CallF α) (fr : Fr) (σ : St) (k : Ex → Fr → St → Option α) : Option α :=
  (fun no => (dV fr.slots no fun t0 r1 => (dV r1 no fun t1 r2 => (dV r2 no fun t2 r3 => (dV r3 no fun t3 r4 => (dK 8 r4 no fun r12 => (dV r12 no fun t12 r13 => (dV r13 no fun t13 r14 => (dV r14 no fun t14 r15 => (dK 16 r15 no fun r31 => (dV r31 no fun t31 r32 => (dV r32 no fun t32 r33 => (dV r33 no fun t33 r34 => (dV r34 no fun t34 r35 => (dV r35 no fun t35 r36 => (dV r36 no fun t36 r37 => (dV r37 no fun t37 r38 => (dV r38 no fun t38 r39 => (dV r39 no fun t39 r40 => (dV r40 no fun t40 r41 => (dV r41 no fun t41 r42 => (dV r42 no fun t42 r43 => (dV r43 no fun t43 r44 => (dV r44 no fun t44 r45 => (dV r45 no fun t45 r46 => (dV r46 no fun t46 r47 => (dV r47 no fun t47 r48 => (dV r48 no fun t48 r49 => (dV r49 no fun t49 r50 => (dV r50 no fun t50 r51 => (dV r51 no fun t51 r52 => (dV r52 no fun t52 r53 => (dV r53 no fun t53 r54 => (dV r54 no fun t54 r55 => (dV r55 no fun t55 r56 => (dV r56 no fun t56 r57 => (dV r57 no fun t57 r58 => (dV r58 no fun t58 r59 => (dV r59 no fun t59 r60 => (dV r60 no fun t60 r61 => (dV r61 no fun t61 r62 => (dV r62 no fun t62 r63 => (dV r63 no fun t63 r64 => (dV r64 no fun t64 r65 => (dV r65 no fun t65 r66 => (dV r66 no fun t66 r67 => (dV r67 no fun t67 r68 => (dN fr.esc 0 no (π.nc t0 fun _ => (π.add t0 1 fun x0 => (π.ld σ false 1 x0 fun x1 => (π.nc t1 fun _ => (π.add t1 390 fun x2 => (π.ld σ false 1 x2 fun x3 => (π.bin PG .shr 22 true x3 (.int .u64 (Int.ofNat 44)) fun x4 => (π.bin PG .and 22 true x4 (.int .u64 (Int.ofNat 65535)) fun x5 => (π.conv PG 22 3 x5 fun x6 => ((lockCall false C) 173 [x1, x6, t3] σ (fun x7 σ8 => (π.extract x7 0 fun x9 => (π.extract x7 1 fun x10 => (updS fr [(31, .val x7), (0, .val t0), (0, .val t0), (0, .val x0), (0, .val x1), (0, .val t1), (0, .val t1), (0, .val x2), (0, .val x3), (0, .val x4), (0, .val x5), (0, .val x6), (0, .val t3), (0, .val x7), (0, .val x9), (0, .val x10)] fun fr11 => (frF fr11 13 fun _ => (nbS fr11 13 zl295 fun fr12 => (π.put zl295 0 4 x9 fun c13 => (gdF x10 (fun _ => (π.part false c13 3 1 fun x14 => (π.nc t1 fun _ => (π.add t1 379 fun x15 => (π.ld σ8 false 1 x15 fun x16 => ((lockCall false C) 174 [x14, t2, t12, x16] σ8 (fun x17 σ18 => (gdF x17 (fun _ => (π.part false c13 3 1 fun x19 => ((lockCall true C) 175 [x19, t2] σ18 (fun x20 σ21 => (π.part false c13 3 1 fun x22 => (π.bin PG .eql 22 false x20 x22 fun x23 => (updS fr12 [(13, .box c13), (0, .val x10), (32, .val x10), (0, .val (.bool true)), (0, .ref 13 3), (0, .val x14), (0, .val t2), (0, .val t12), (0, .val t1), (0, .val t1), (0, .val x15), (0, .val x16), (0, .val x17), (0, .val x17), (0, .val (.bool true)), (0, .ref 13 3), (0, .val x19), (0, .val t2), (0, .val x20), (0, .ref 13 3), (0, .val x22), (0, .val x23), (0, .val x23)] fun fr24 => (p109_3 π C fr24 σ21 (seqK (p109_4 π C) k)))))) (fun x25 σ26 => none)))) (fun _ => (updS fr12 [(13, .box c13), (0, .val x10), (32, .val x10), (0, .val (.bool true)), (0, .ref 13 3), (0, .val x14), (0, .val t2), (0, .val t12), (0, .val t1), (0, .val t1), (0, .val x15), (0, .val x16), (0, .val x17), (0, .val x17), (0, .val (.bool false)), (0, .val (.tuple [])), (0, .val (.tuple [])), (0, .val (.tuple [])), (0, .val (.tuple [])), (0, .val (.tuple [])), (0, .val (.tuple [])), (0, .val (.tuple [])), (0, .val (.bool false))] fun fr27 => (p109_3 π C fr27 σ18 (seqK (p109_4 π C) k)))) (fun _ => none))) (fun x28 σ29 => none))))))) (fun _ => (updS fr12 [(13, .box c13), (0, .val x10), (32, .val x10), (0, .val (.bool false)), (0, .val (.tuple [])), (0, .val (.tuple [])), (0, .val (.tuple [])), (0, .val (.tuple [])), (0, .val (.tuple [])), (0, .val (.tuple [])), (0, .val (.tuple [])), (0, .val (.tuple [])), (0, .val (.tuple [])), (0, .val (.bool false)), (0, .val (.bool false)), (0, .val (.tuple [])), (0, .val (.tuple [])), (0, .val (.tuple [])), (0, .val (.tuple [])), (0, .val (.tuple [])), (0, .val (.tuple [])), (0, .val (.tuple [])), (0, .val (.bool false))] fun fr30 => (p109_3 π C fr30 σ8 (seqK (p109_4 π C) k)))) (fun _ => none))))))))) (fun x31 σ32 => none))))))))))))))))))))))))))))))))))))))))))))))))))))))))))) (execG π PG C (sB (sB (sB (cd PG 109)))) fr σ k)
theorem p109_2_eq {α : Type} (π : Prims α) (C : CallF α) : execG π PG C (sB (sB (sB (cd PG 109)))) = p109_2 π C := by
  funext fr σ k
  obtain ⟨slots, defers, esc, rc⟩ := fr
  unfold p109_2
  iterate 4 (refine dV_eq fun _ _ h => ?_; subst h)
  iterate 8 (refine dKs_eq fun _ _ h => ?_; subst h)
  refine dK0_eq ?_
  iterate 3 (refine dV_eq fun _ _ h => ?_; subst h)
  iterate 16 (refine dKs_eq fun _ _ h => ?_; subst h)
  refine dK0_eq ?_
  iterate 37 (refine dV_eq fun _ _ h => ?_; subst h)
  refine dN_eq fun h => ?_; subst h
  try rw [← p109_4_eq π C]
  try rw [← p109_3_eq π C]
  refine sk_eq (.seq (.run (sA (sB (sB (sB (cd PG 109)))))) (.seq (.seq (.run (sA (sA (sB (sB (sB (sB (cd PG 109)))))))) (.hole (sB (sA (sB (sB (sB (sB (cd PG 109))))))))) (.hole (sB (sB (sB (sB (sB (cd PG 109))))))))) (by kernel_rfl) ?_
  generalize execG π PG C = H
  kernel_rfl
noncomputable def p109_1 {α : Type} (π : Prims α) (C : CallF α) (fr : Fr) (σ : St) (k : Ex → Fr → St → Option α) : Option α :=
  (fun no => (dK 3 fr.slots no fun r3 => (dV r3 no fun t3 r4 => (dK 7 r4 no fun r11 => (dB r11 no fun t11 r12 => (dK 16 r12 no fun r28 => (dV r28 no fun t28 r29 => (dK 2 r29 no fun r31 => (dN fr.esc 0 no (π.cond t28 (fun _ => (π.put t11 0 3 (.agg zl60) fun c0 => (updS fr [(8, .val t3), (0, .val (.int .u64 (Int.ofNat 0))), (0, .val (.slice none 0)), (0, .box c0), (17, .val t3), (0, .val (.agg zl60))] fun fr1 => (k .ret fr1 σ)))) (fun _ => (k .normal fr σ)))))))))))) (execG π PG C (sB (sA (sB (sB (cd PG 109))))) fr σ k)
theorem p109_1_eq {α : Type} (π : Prims α) (C : CallF α) : execG π PG C (sB (sA (sB (sB (cd PG 109))))) = p109_1 π C := by
  funext fr σ k
  obtain ⟨slots, defers, esc, rc⟩ := fr
  unfold p109_1
  iterate 3 (refine dKs_eq fun _ _ h => ?_; subst h)
  refine dK0_eq ?_
  refine dV_eq fun _ _ h => ?_; subst h
  iterate 7 (refine dKs_eq fun _ _ h => ?_; subst h)
  refine dK0_eq ?_
  refine dB_eq fun _ _ h => ?_; subst h
  iterate 16 (refine dKs_eq fun _ _ h => ?_; subst h)
  refine dK0_eq ?_
  refine dV_eq fun _ _ h => ?_; subst h
  iterate 2 (refine dKs_eq fun _ _ h => ?_; subst h)
  refine dK0_eq ?_
  refine dN_eq fun h => ?_; subst h
  refine sk_eq (.cond (cX (sB (sA (sB (sB (cd PG 109)))))) (.seq (.run (sA (cA (sB (sA (sB (sB (cd PG 109)))))))) (.run (sB (cA (sB (sA (sB (sB (cd PG 109))))))))) (.run (cB (sB (sA (sB (sB (cd PG 109)))))))) (by kernel_rfl) ?_
  generalize execG π PG C = H
  kernel_rfl
noncomputable def p109_0 {α : Type} (π : Prims α) (C : CallF α) (fr : Fr) (σ : St) (k : Ex → Fr → St → Option α) : Option α :=
  (fun no => (dK 1 fr.slots no fun r1 => (dV r1 no fun t1 r2 => (dV r2 no fun t2 r3 => (dK 26 r3 no fun r29 => (dN fr.esc 0 no (updS fr [(8, .val (.int .u64 (Int.ofNat 0))), (0, .val (.int .u64 (Int.ofNat 0))), (0, .val (.slice none 0))] fun fr0 => (nbS fr0 11 zl60 fun fr1 => (C 172 [t1, t2] σ (fun x2 σ3 => (π.bin PG .eql 3 true x2 (.int .i64 (Int.ofNat 3)) fun x4 => (gdF x4 (fun _ => (updS fr1 [(12, .val x2), (3, .val t1), (0, .val t2), (0, .val x2), (0, .val x2), (0, .val x4), (0, .val (.bool true)), (0, .val (.tuple [])), (0, .val (.tuple [])), (0, .val (.tuple [])), (0, .val (.tuple [])), (0, .val (.tuple [])), (0, .val (.tuple [])), (0, .val (.bool true))] fun fr5 => (p109_1 π C fr5 σ3 (seqK (p109_2 π C) k)))) (fun _ => (π.nc t1 fun _ => (π.add t1 390 fun x6 => (π.ld σ3 false 1 x6 fun x7 => (π.bin PG .shr 22 true x7 (.int .u64 (Int.ofNat 60)) fun x8 => (π.bin PG .neq 22 true x8 (.int .u64 (Int.ofNat 8)) fun x9 => (updS fr1 [(12, .val x2), (3, .val t1), (0, .val t2), (0, .val x2), (0, .val x2), (0, .val x4), (0, .val (.bool false)), (0, .val t1), (0, .val t1), (0, .val x6), (0, .val x7), (0, .val x8), (0, .val x9), (0, .val x9)] fun fr10 => (p109_1 π C fr10 σ3 (seqK (p109_2 π C) k))))))))) (fun _ => none)))) (fun x11 σ12 => (updS fr1 [(16, .val t1), (0, .val t2)] fun fr13 => (k (.panic x11) fr13 σ12)))))))))))) (execG π PG C (cd PG 109) fr σ k)
theorem p109_0_eq {α : Type} (π : Prims α) (C : CallF α) : execG π PG C (cd PG 109) = p109_0 π C := by
  funext fr σ k
  obtain ⟨slots, defers, esc, rc⟩ := fr
  unfold p109_0
  iterate 1 (refine dKs_eq fun _ _ h => ?_; subst h)
  refine dK0_eq ?_
  iterate 2 (refine dV_eq fun _ _ h => ?_; subst h)
  iterate 26 (refine dKs_eq fun _ _ h => ?_; subst h)
  refine dK0_eq ?_
  refine dN_eq fun h => ?_; subst h
  try rw [← p109_2_eq π C]
  try rw [← p109_1_eq π C]
  refine sk_eq (.seq (.run (sA (cd PG 109))) (.seq (.run (sA (sB (cd PG 109)))) (.seq (.seq (.run (sA (sA (sB (sB (cd PG 109)))))) (.hole (sB (sA (sB (sB (cd PG 109))))))) (.hole (sB (sB (sB (cd PG 109)))))))) (by kernel_rfl) ?_
  generalize execG π PG C = H
  kernel_rfl
-- 106 ravelin/bounds Of
noncomputable def p106_4 {α : Type} (π : Prims α) (C : CallF α) (fr : Fr) (σ : St) (k : Ex → Fr → St → Option α) : Option α :=
  (fun no => (dK 9 fr.slots no fun r9 => (dB r9 no fun t9 r10 => (dK 69 r10 no fun r79 => (dV r79 no fun t79 r80 => (dK 4 r80 no fun r84 => (dN fr.esc 114 no (π.cond t79 (fun _ => (π.part false t9 0 1 fun x0 => (π.bin PG .xor 22 true x0 (.int .u64 (Int.ofNat 1)) fun x1 => (π.put t9 0 1 x1 fun c2 => (updS fr [(9, .box c2), (70, .ref 9 0), (0, .val x0), (0, .val x1), (0, .ref 9 0)] fun fr3 => (k .normal fr3 σ)))))) (fun _ => (k .normal fr σ)))))))))) (execG π PG C (sB (sA (sB (sB (sB (sB (sB (sB (sB (sB (cd PG 106))))))))))) fr σ k)
theorem p106_4_eq {α : Type} (π : Prims α) (C : CallF α) : execG π PG C (sB (sA (sB (sB (sB (sB (sB (sB (sB (sB (cd PG 106))))))))))) = p106_4 π C := by
  funext fr σ k
  obtain ⟨slots, defers, esc, rc⟩ := fr
  unfold p106_4
  iterate 9 (refine dKs_eq fun _ _ h => ?_; subst h)
  refine dK0_eq ?_
  refine dB_eq fun _ _ h => ?_; subst h
  iterate 69 (refine dKs_eq fun _ _ h => ?_; subst h)
  refine dK0_eq ?_
  refine dV_eq fun _ _ h => ?_; subst h
  iterate 4 (refine dKs_eq fun _ _ h => ?_; subst h)
  refine dK0_eq ?_
  refine dN_eq fun h => ?_; subst h
  refine sk_eq (.cond (cX (sB (sA (sB (sB (sB (sB (sB (sB (sB (sB (cd PG 106)))))))))))) (.run (cA (sB (sA (sB (sB (sB (sB (sB (sB (sB (sB (cd PG 106))))))))))))) (.run (cB (sB (sA (sB (sB (sB (sB (sB (sB (sB (sB (cd PG 106)))))))))))))) (by kernel_rfl) ?_
  generalize execG π PG C = H
  kernel_rfl
noncomputable def p106_3 {α : Type} (π : Prims α) (C : CallF α) (fr : Fr) (σ : St) (k : Ex → Fr → St → Option α) : Option α :=
  (fun no => (dK 2 fr.slots no fun r2 => (dB r2 no fun t2 r3 => (dK 5 r3 no fun r8 => (dB r8 no fun t8 r9 => (dB r9 no fun t9 r10 => (dK 82 r10 no fun r92 => (dN fr.esc 114 no (π.part false t8 1 1 fun x0 => (π.part false t9 1 1 fun x1 => (π.part false t9 0 1 fun x2 => (π.bin PG .eql 22 true x2 (.int .u64 (Int.ofNat 1)) fun x3 => (π.put zl219 0 1 x0 fun c4 => (π.put c4 1 1 x1 fun c5 => (π.put c5 2 1 x3 fun c6 => (π.put t2 0 3 (.agg c6) fun c7 => (updS fr [(2, .box c7), (81, .ref 8 1), (0, .val x0), (0, .ref 9 1), (0, .val x1), (0, .ref 9 0), (0, .val x2), (0, .val x3), (0, .val (.agg c6))] fun fr8 => (k .ret fr8 σ)))))))))))))))))) (execG π PG C (sB (sB (sB (sB (sB (sB (sB (sB (sB (cd PG 106)))))))))) fr σ k)
theorem p106_3_eq {α : Type} (π : Prims α) (C : CallF α) : execG π PG C (sB (sB (sB (sB (sB (sB (sB (sB (sB (cd PG 106)))))))))) = p106_3 π C := by
  funext fr σ k
  obtain ⟨slots, defers, esc, rc⟩ := fr
  unfold p106_3
  iterate 2 (refine dKs_eq fun _ _ h => ?_; subst h)
  refine dK0_eq ?_
  refine dB_eq fun _ _ h => ?_; subst h
  iterate 5 (refine dKs_eq fun _ _ h => ?_; subst h)
  refine dK0_eq ?_
  iterate 2 (refine dB_eq fun _ _ h => ?_; subst h)
  iterate 82 (refine dKs_eq fun _ _ h => ?_; subst h)
  refine dK0_eq ?_
  refine dN_eq fun h => ?_; subst h
  refine sk_eq (.seq (.run (sA (sB (sB (sB (sB (sB (sB (sB (sB (sB (cd PG 106)))))))))))) (.run (sB (sB (sB (sB (sB (sB (sB (sB (sB (sB (cd PG 106))))))))))))) (by kernel_rfl) ?_
  generalize execG π PG C = H
  kernel_rfl
noncomputable def p106_2 {α : Type} (π : Prims α) (C : CallF α) (fr : Fr) (σ : St) (k : Ex → Fr → St → Option α) : Option α :=
  (fun no => (dK 1 fr.slots no fun r1 => (dV r1 no fun t1 r2 => (dK 1 r2 no fun r3 => (dV r3 no fun t3 r4 => (dV r4 no fun t4 r5 => (dV r5 no fun t5 r6 => (dV r6 no fun t6 r7 => (dK 73 r7 no fun r80 => (dN fr.esc 114 no (π.add t1 5 fun x0 => (π.ld σ false 1 x0 fun x1 => (callV C (.func (.func 166) [] [t4, t5, t6, t1]) [x1] σ (fun x2 σ3 => (callV C (.func (.func 166) [] [t4, t5, t6, t1]) [t3] σ3 (fun x4 σ5 => (updS fr [(7, .val (.func (.func 166) [] [t4, t5, t6, t1])), (46, .val (.func (.func 166) [] [t4, t5, t6, t1])), (0, .val (.func (.func 166) [] [t4, t5, t6, t1])), (0, .val x0), (0, .val x1), (0, .val x2), (0, .val (.func (.func 166) [] [t4, t5, t6, t1])), (0, .val t3), (0, .val x4)] fun fr6 => (nbS fr6 8 zl287 fun fr7 => (nbS fr7 9 zl287 fun fr8 => (π.put zl287 0 2 x2 fun c9 => (π.put zl287 0 2 x4 fun c10 => (π.add t1 4 fun x11 => (π.ld σ5 false 1 x11 fun x12 => (π.bin PG .lss 3 true x12 (.int .i64 (Int.ofNat 51)) fun x13 => (gdF x13 (fun _ => (π.part false c10 0 1 fun x14 => (π.bin PG .shl 22 true x14 (.int .u64 (Int.ofNat 1)) fun x15 => (π.part false c10 1 1 fun x16 => (π.bin PG .shr 22 true x16 (.int .u64 (Int.ofNat 63)) fun x17 => (π.bin PG .add 22 false x15 x17 fun x18 => (π.part false c9 1 1 fun x19 => (π.bin PG .shr 22 true x19 (.int .u64 (Int.ofNat 63)) fun x20 => (π.bin PG .sub 22 false x18 x20 fun x21 => (π.bin PG .and 22 true x21 (.int .u64 (Int.ofNat 3)) fun x22 => (π.bin PG .gtr 22 true x22 (.int .u64 (Int.ofNat 1)) fun x23 => (updS fr8 [(8, .box c9), (0, .box c10), (52, .val x11), (0, .val x12), (0, .val x13), (0, .val (.bool true)), (0, .ref 9 0), (0, .val x14), (0, .val x15), (0, .ref 9 1), (0, .val x16), (0, .val x17), (0, .val x18), (0, .ref 8 1), (0, .val x19), (0, .val x20), (0, .val x21), (0, .val x22), (0, .val x23), (0, .val x23)] fun fr24 => (p106_4 π C fr24 σ5 (seqK (p106_3 π C) k)))))))))))))) (fun _ => (updS fr8 [(8, .box c9), (0, .box c10), (52, .val x11), (0, .val x12), (0, .val x13), (0, .val (.bool false)), (0, .val (.tuple [])), (0, .val (.tuple [])), (0, .val (.tuple [])), (0, .val (.tuple [])), (0, .val (.tuple [])), (0, .val (.tuple [])), (0, .val (.tuple [])), (0, .val (.tuple [])), (0, .val (.tuple [])), (0, .val (.tuple [])), (0, .val (.tuple [])), (0, .val (.tuple [])), (0, .val (.tuple [])), (0, .val (.bool false))] fun fr25 => (p106_4 π C fr25 σ5 (seqK (p106_3 π C) k)))) (fun _ => none))))))))))) (fun x26 σ27 => (updS fr [(7, .val (.func (.func 166) [] [t4, t5, t6, t1])), (46, .val (.func (.func 166) [] [t4, t5, t6, t1])), (0, .val (.func (.func 166) [] [t4, t5, t6, t1])), (0, .val x0), (0, .val x1), (0, .val x2), (0, .val (.func (.func 166) [] [t4, t5, t6, t1])), (0, .val t3)] fun fr28 => (k (.panic x26) fr28 σ27))))) (fun x29 σ30 => (updS fr [(7, .val (.func (.func 166) [] [t4, t5, t6, t1])), (46, .val (.func (.func 166) [] [t4, t5, t6, t1])), (0, .val (.func (.func 166) [] [t4, t5, t6, t1])), (0, .val x0), (0, .val x1)] fun fr31 => (k (.panic x29) fr31 σ30)))))))))))))))) (execG π PG C (sB (sB (sB (sB (sB (sB (cd PG 106))))))) fr σ k)
theorem p106_2_eq {α : Type} (π : Prims α) (C : CallF α) : execG π PG C (sB (sB (sB (sB (sB (sB (cd PG 106))))))) = p106_2 π C := by
  funext fr σ k
  obtain ⟨slots, defers, esc, rc⟩ := fr
  unfold p106_2
  iterate 1 (refine dKs_eq fun _ _ h => ?_; subst h)
  refine dK0_eq ?_
  refine dV_eq fun _ _ h => ?_; subst h
  iterate 1 (refine dKs_eq fun _ _ h => ?_; subst h)
  refine dK0_eq ?_
  iterate 4 (refine dV_eq fun _ _ h => ?_; subst h)
  iterate 73 (refine dKs_eq fun _ _ h => ?_; subst h)
  refine dK0_eq ?_
  refine dN_eq fun h => ?_; subst h
  try rw [← p106_4_eq π C]
  try rw [← p106_3_eq π C]
  refine sk_eq (.seq (.run (sA (sB (sB (sB (sB (sB (sB (cd PG 106))))))))) (.seq (.run (sA (sB (sB (sB (sB (sB (sB (sB (cd PG 106)))))))))) (.seq (.seq (.run (sA (sA (sB (sB (sB (sB (sB (sB (sB (sB (cd PG 106)))))))))))) (.hole (sB (sA (sB (sB (sB (sB (sB (sB (sB (sB (cd PG 106))))))))))))) (.hole (sB (sB (sB (sB (sB (sB (sB (sB (sB (cd PG 106)))))))))))))) (by kernel_rfl) ?_
  generalize execG π PG C = H
  kernel_rfl
noncomputable def p106_1 {α : Type} (π : Prims α) (C : CallF α) (fr : Fr) (σ : St) (k : Ex → Fr → St → Option α) : Option α :=
  (fun no => (dK 1 fr.slots no fun r1 => (dV r1 no fun t1 r2 => (dK 4 r2 no fun r6 => (dV r6 no fun t6 r7 => (dK 47 r7 no fun r54 => (dN fr.esc 114 no (π.add t1 4 fun x0 => (π.ld σ false 1 x0 fun x1 => (π.bin PG .add 3 true x1 (.int .i64 (Int.ofNat 14)) fun x2 => (π.bin PG .lss 3 true x2 (.int .i64 (Int.ofNat 64)) fun x3 => (π.cond x3 (fun _ => (π.add t1 8 fun x4 => (π.ld σ false 1 x4 fun x5 => (π.add t1 4 fun x6 => (π.ld σ false 1 x6 fun x7 => (π.bin PG .add 3 true x7 (.int .i64 (Int.ofNat 14)) fun x8 => (π.bin PG .shr 22 false x5 x8 fun x9 => (π.conv PG 22 2 x9 fun x10 => (π.st σ 1 t6 x10 fun σ11 => (updS fr [(43, .val x0), (0, .val x1), (0, .val x2), (0, .val x3), (0, .val x4), (0, .val x5), (0, .val x6), (0, .val x7), (0, .val x8), (0, .val x9), (0, .val x10)] fun fr12 => (p106_2 π C fr12 σ11 k))))))))))) (fun _ => (updS fr [(43, .val x0), (0, .val x1), (0, .val x2), (0, .val x3)] fun fr13 => (p106_2 π C fr13 σ k))))))))))))))) (execG π PG C (sB (sB (sB (sB (sB (cd PG 106)))))) fr σ k)
theorem p106_1_eq {α : Type} (π : Prims α) (C : CallF α) : execG π PG C (sB (sB (sB (sB (sB (cd PG 106)))))) = p106_1 π C := by
  funext fr σ k
  obtain ⟨slots, defers, esc, rc⟩ := fr
  unfold p106_1
  iterate 1 (refine dKs_eq fun _ _ h => ?_; subst h)
  refine dK0_eq ?_
  refine dV_eq fun _ _ h => ?_; subst h
  iterate 4 (refine dKs_eq fun _ _ h => ?_; subst h)
  refine dK0_eq ?_
  refine dV_eq fun _ _ h => ?_; subst h
  iterate 47 (refine dKs_eq fun _ _ h => ?_; subst h)
  refine dK0_eq ?_
  refine dN_eq fun h => ?_; subst h
  try rw [← p106_2_eq π C]
  refine sk_eq (.seq (.seq (.run (sA (sA (sB (sB (sB (sB (sB (cd PG 106))))))))) (.cond (cX (sB (sA (sB (sB (sB (sB (sB (cd PG 106))))))))) (.run (cA (sB (sA (sB (sB (sB (sB (sB (cd PG 106)))))))))) (.run (cB (sB (sA (sB (sB (sB (sB (sB (cd PG 106)))))))))))) (.hole (sB (sB (sB (sB (sB (sB (cd PG 106))))))))) (by kernel_rfl) ?_
  generalize execG π PG C = H
  kernel_rfl
noncomputable def p106_0 {α : Type} (π : Prims α) (C : CallF α) (fr : Fr) (σ : St) (k : Ex → Fr → St → Option α) : Option α :=
  (fun no => (dV fr.slots no fun t0 r1 => (dK 2 r1 no fun r3 => (dV r3 no fun t3 r4 => (dK 6 r4 no fun r10 => (dV r10 no fun t10 r11 => (dV r11 no fun t11 r12 => (dV r12 no fun t12 r13 => (dV r13 no fun t13 r14 => (dV r14 no fun t14 r15 => (dV r15 no fun t15 r16 => (dV r16 no fun t16 r17 => (dV r17 no fun t17 r18 => (dV r18 no fun t18 r19 => (dV r19 no fun t19 r20 => (dV r20 no fun t20 r21 => (dV r21 no fun t21 r22 => (dV r22 no fun t22 r23 => (dV r23 no fun t23 r24 => (dV r24 no fun t24 r25 => (dV r25 no fun t25 r26 => (dV r26 no fun t26 r27 => (dV r27 no fun t27 r28 => (dV r28 no fun t28 r29 => (dV r29 no fun t29 r30 => (dK 13 r30 no fun r43 => (dN fr.esc 114 no (dataF t0 1 fun _ => π.alloc σ (.cells 0 (AVal.cells t0)) fun x0 σ1 => (updS fr [(1, .val x0)] fun fr2 => (nbS fr2 2 zl219 fun fr3 => (π.add x0 6 fun x4 => (π.ld σ1 false 1 x4 fun x5 => (π.add x0 5 fun x6 => (π.ld σ1 false 1 x6 fun x7 => (π.bin PG .shr 3 true x7 (.int .u64 (Int.ofNat 12)) fun x8 => (π.add x0 6 fun x9 => (π.ld σ1 false 1 x9 fun x10 => (π.add x0 5 fun x11 => (π.ld σ1 false 1 x11 fun x12 => (π.bin PG .and 3 true x12 (.int .i64 (Int.ofNat 4095)) fun x13 => (π.bin PG .lss 3 false x10 x13 fun x14 => ((lockCall true C) 165 [x14] σ1 (fun x15 σ16 => (π.bin PG .add 3 false x8 x15 fun x17 => (π.add x0 7 fun x18 => (π.ld σ16 false 1 x18 fun x19 => ((lockCall true C) 165 [x19] σ16 (fun x20 σ21 => (π.bin PG .add 3 false x17 x20 fun x22 => (π.bin PG .and 3 true x22 (.int .i64 (Int.ofNat 3)) fun x23 => (π.bin PG .shl 3 true x23 (.int .u64 (Int.ofNat 12)) fun x24 => (π.bin PG .or 3 false x5 x24 fun x25 => (π.add x0 5 fun x26 => (π.ld σ21 false 1 x26 fun x27 => (π.bin PG .shr 3 true x27 (.int .u64 (Int.ofNat 11)) fun x28 => (π.bin PG .sub 3 true x28 (.int .i64 (Int.ofNat 1)) fun x29 => (π.bin PG .and 3 true x29 (.int .i64 (Int.ofNat 7)) fun x30 => (π.bin PG .shl 3 true x30 (.int .u64 (Int.ofNat 11)) fun x31 => (π.alloc σ21 (.cells 0 zl3) fun x32 σ33 => (π.st σ33 1 x32 x31 fun σ34 => (π.add x0 8 fun x35 => (π.ld σ34 false 1 x35 fun x36 => (π.add x0 4 fun x37 => (π.ld σ34 false 1 x37 fun x38 => (π.bin PG .shr 22 false x36 x38 fun x39 => (π.conv PG 22 3 x39 fun x40 => (π.bin PG .and 3 true x40 (.int .i64 (Int.ofNat 16383)) fun x41 => (π.alloc σ34 (.cells 0 zl3) fun x42 σ43 => (π.st σ43 1 x42 x41 fun σ44 => (π.alloc σ44 (.cells 0 zl2) fun x45 σ46 => (π.st σ46 1 x45 (.int .i64 (Int.ofNat 0)) fun σ47 => (updS fr3 [(3, .val x25), (0, .val x32), (0, .val x42), (0, .val x45), (3, .val x4), (0, .val x5), (0, .val x6), (0, .val x7), (0, .val x8), (0, .val x9), (0, .val x10), (0, .val x11), (0, .val x12), (0, .val x13), (0, .val x14), (0, .val x15), (0, .val x17), (0, .val x18), (0, .val x19), (0, .val x20), (0, .val x22), (0, .val x23), (0, .val x24), (0, .val x25), (0, .val x26), (0, .val x27), (0, .val x28), (0, .val x29), (0, .val x30), (0, .val x31), (0, .val x35), (0, .val x36), (0, .val x37), (0, .val x38), (0, .val x39), (0, .val x40), (0, .val x41)] fun fr48 => (p106_1 π C fr48 σ47 k)))))))))))))))))))))))))) (fun x49 σ50 => none)))))) (fun x51 σ52 => none))))))))))))))))))))))))))))))))))))))))))) (execG π PG C (cd PG 106) fr σ k)
theorem p106_0_eq {α : Type} (π : Prims α) (C : CallF α) : execG π PG C (cd PG 106) = p106_0 π C := by
  funext fr σ k
  obtain ⟨slots, defers, esc, rc⟩ := fr
  unfold p106_0
  refine dV_eq fun _ _ h => ?_; subst h
  iterate 2 (refine dKs_eq fun _ _ h => ?_; subst h)
  refine dK0_eq ?_
  refine dV_eq fun _ _ h => ?_; subst h
  iterate 6 (refine dKs_eq fun _ _ h => ?_; subst h)
  refine dK0_eq ?_
  iterate 20 (refine dV_eq fun _ _ h => ?_; subst h)
  iterate 13 (refine dKs_eq fun _ _ h => ?_; subst h)
  refine dK0_eq ?_
  refine dN_eq fun h => ?_; subst h
  try rw [← p106_1_eq π C]
  refine sk_eq (.seq (.run (sA (cd PG 106))) (.seq (.run (sA (sB (cd PG 106)))) (.seq (.run (sA (sB (sB (cd PG 106))))) (.seq (.run (sA (sB (sB (sB (cd PG 106)))))) (.seq (.run (sA (sB (sB (sB (sB (cd PG 106))))))) (.hole (sB (sB (sB (sB (sB (cd PG 106)))))))))))) (by kernel_rfl) ?_
  generalize execG π PG C = H
  kernel_rfl
-- 6 ravelin/hart Step
noncomputable def p6_3 {α : Type} (π : Prims α) (C : CallF α) (fr : Fr) (σ : St) (k : Ex → Fr → St → Option α) : Option α :=
  (fun no => (dK 4 fr.slots no fun r4 => (dV r4 no fun t4 r5 => (dK 7 r5 no fun r12 => (dV r12 no fun t12 r13 => (dB r13 no fun t13 r14 => (dK 69 r14 no fun r83 => (dN fr.esc 16 no (π.part false t13 0 1 fun x0 => (π.cond x0 (fun _ => (π.ld σ false 1 t4 fun x1 => (π.part false t13 1 1 fun x2 => (π.part false t13 2 1 fun x3 => (C 16 [x1, x2, (.bool false), x3] σ (fun x4 σ5 => (updS fr [(6, .val (.bool true)), (0, .val t12), (58, .ref 13 0), (0, .val x0), (0, .val x1), (0, .ref 13 1), (0, .val x2), (0, .ref 13 2), (0, .val x3), (0, .val x4), (0, .val t12)] fun fr6 => (k .ret fr6 σ5))) (fun x7 σ8 => (updS fr [(66, .ref 13 0), (0, .val x0), (0, .val x1), (0, .ref 13 1), (0, .val x2), (0, .ref 13 2), (0, .val x3)] fun fr9 => (k (.panic x7) fr9 σ8)))))))) (fun _ => (π.ld σ false 1 t4 fun x10 => (π.nc x10 fun _ => (π.add x10 394 fun x11 => (π.ld σ false 1 x11 fun x12 => (π.bin PG .add 22 true x12 (.int .u64 (Int.ofNat 1)) fun x13 => (π.nc x10 fun _ => (π.add x10 394 fun x14 => (π.st σ 1 x14 x13 fun σ15 => (updS fr [(6, .val (.bool false)), (0, .val t12), (58, .ref 13 0), (0, .val x0), (7, .val x10), (0, .val x10), (0, .val x11), (0, .val x12), (0, .val x13), (0, .val x10), (0, .val x14), (0, .val t12)] fun fr16 => (k .ret fr16 σ15))))))))))))))))))))) (execG π PG C (sB (sB (sB (sB (sB (sB (sB (sB (cd PG 6))))))))) fr σ k)
theorem p6_3_eq {α : Type} (π : Prims α) (C : CallF α) : execG π PG C (sB (sB (sB (sB (sB (sB (sB (sB (cd PG 6))))))))) = p6_3 π C := by
  funext fr σ k
  obtain ⟨slots, defers, esc, rc⟩ := fr
  unfold p6_3
  iterate 4 (refine dKs_eq fun _ _ h => ?_; subst h)
  refine dK0_eq ?_
  refine dV_eq fun _ _ h => ?_; subst h
  iterate 7 (refine dKs_eq fun _ _ h => ?_; subst h)
  refine dK0_eq ?_
  refine dV_eq fun _ _ h => ?_; subst h
  refine dB_eq fun _ _ h => ?_; subst h
  iterate 69 (refine dKs_eq fun _ _ h => ?_; subst h)
  refine dK0_eq ?_
  refine dN_eq fun h => ?_; subst h
  refine sk_eq (.seq (.seq (.run (sA (sA (sB (sB (sB (sB (sB (sB (sB (sB (cd PG 6)))))))))))) (.cond (cX (sB (sA (sB (sB (sB (sB (sB (sB (sB (sB (cd PG 6)))))))))))) (.seq (.run (sA (cA (sB (sA (sB (sB (sB (sB (sB (sB (sB (sB (cd PG 6)))))))))))))) (.seq (.run (sA (sB (cA (sB (sA (sB (sB (sB (sB (sB (sB (sB (sB (cd PG 6))))))))))))))) (.run (sB (sB (cA (sB (sA (sB (sB (sB (sB (sB (sB (sB (sB (cd PG 6))))))))))))))))) (.run (cB (sB (sA (sB (sB (sB (sB (sB (sB (sB (sB (cd PG 6))))))))))))))) (.seq (.run (sA (sB (sB (sB (sB (sB (sB (sB (sB (sB (cd PG 6)))))))))))) (.seq (.run (sA (sB (sB (sB (sB (sB (sB (sB (sB (sB (sB (cd PG 6))))))))))))) (.run (sB (sB (sB (sB (sB (sB (sB (sB (sB (sB (sB (cd PG 6)))))))))))))))) (by kernel_rfl) ?_
  generalize execG π PG C = H
  kernel_rfl
noncomputable def p6_2 {α : Type} (π : Prims α) (C : CallF α) (fr : Fr) (σ : St) (k : Ex → Fr → St → Option α) : Option α :=
  (fun no => (dV fr.slots no fun t0 r1 => (dK 1 r1 no fun r2 => (dV r2 no fun t2 r3 => (dK 1 r3 no fun r4 => (dV r4 no fun t4 r5 => (dK 49 r5 no fun r54 => (dV r54 no fun t54 r55 => (dV r55 no fun t55 r56 => (dV r56 no fun t56 r57 => (dV r57 no fun t57 r58 => (dV r58 no fun t58 r59 => (dV r59 no fun t59 r60 => (dV r60 no fun t60 r61 => (dV r61 no fun t61 r62 => (dV r62 no fun t62 r63 => (dK 3 r63 no fun r66 => (dN fr.esc 16 no (π.ld σ false 1 t4 fun x0 => (π.nc x0 fun _ => (π.add x0 395 fun x1 => (π.st σ 1 x1 (.bool false) fun σ2 => (π.ld σ2 false 1 t4 fun x3 => (C 18 [t0, x3] σ2 (fun x4 σ5 => (π.extract x4 0 fun x6 => (π.extract x4 1 fun x7 => (π.extract x4 2 fun x8 => (updS fr [(41, .val x0), (0, .val x0), (0, .val x1), (0, .val x4), (0, .val t0), (0, .val x3), (0, .val x4), (0, .val x6), (0, .val x7), (0, .val x8)] fun fr9 => (nbS fr9 13 zl60 fun fr10 => (π.put zl60 0 3 x8 fun c11 => (π.part false c11 0 1 fun x12 => (π.un .not x12 fun x13 => (π.cond x13 (fun _ => (π.ld σ5 false 1 t4 fun x14 => ((lockCall true C) 20 [x6] σ5 (fun x15 σ16 => ((lockCall false C) 19 [t0, x14, x15, t2] σ16 (fun x17 σ18 => (π.extract x17 0 fun x19 => (π.extract x17 1 fun x20 => (π.put c11 0 3 x20 fun c21 => (π.append PG σ18 40 x7 x19 fun x22 σ23 => (updS fr10 [(11, .val x6), (0, .val x22), (0, .box c21), (0, .val x19), (36, .ref 13 0), (0, .val x12), (0, .val x13), (0, .val x17), (0, .val t0), (0, .val x14), (0, .val x6), (0, .val x15), (0, .val t2), (0, .val x17), (0, .val x19), (0, .val x20), (0, .val x7), (0, .val x19), (0, .val x22)] fun fr24 => (p6_3 π C fr24 σ23 k))))))) (fun x25 σ26 => none))) (fun x27 σ28 => none)))) (fun _ => (updS fr10 [(11, .val x6), (0, .val x7), (0, .box c11), (37, .ref 13 0), (0, .val x12), (0, .val x13)] fun fr29 => (p6_3 π C fr29 σ5 k))))))))))))) (fun x30 σ31 => (updS fr [(41, .val x0), (0, .val x0), (0, .val x1), (1, .val t0), (0, .val x3)] fun fr32 => (k (.panic x30) fr32 σ31))))))))))))))))))))))))))) (execG π PG C (sB (sB (sB (sB (sB (cd PG 6)))))) fr σ k)
theorem p6_2_eq {α : Type} (π : Prims α) (C : CallF α) : execG π PG C (sB (sB (sB (sB (sB (cd PG 6)))))) = p6_2 π C := by
  funext fr σ k
  obtain ⟨slots, defers, esc, rc⟩ := fr
  unfold p6_2
  refine dV_eq fun _ _ h => ?_; subst h
  iterate 1 (refine dKs_eq fun _ _ h => ?_; subst h)
  refine dK0_eq ?_
  refine dV_eq fun _ _ h => ?_; subst h
  iterate 1 (refine dKs_eq fun _ _ h => ?_; subst h)
  refine dK0_eq ?_
  refine dV_eq fun _ _ h => ?_; subst h
  iterate 49 (refine dKs_eq fun _ _ h => ?_; subst h)
  refine dK0_eq ?_
  iterate 9 (refine dV_eq fun _ _ h => ?_; subst h)
  iterate 3 (refine dKs_eq fun _ _ h => ?_; subst h)
  refine dK0_eq ?_
  refine dN_eq fun h => ?_; subst h
  try rw [← p6_3_eq π C]
  refine sk_eq (.seq (.run (sA (sB (sB (sB (sB (sB (cd PG 6)))))))) (.seq (.run (sA (sB (sB (sB (sB (sB (sB (cd PG 6))))))))) (.seq (.seq (.run (sA (sA (sB (sB (sB (sB (sB (sB (sB (cd PG 6))))))))))) (.cond (cX (sB (sA (sB (sB (sB (sB (sB (sB (sB (cd PG 6))))))))))) (.seq (.run (sA (cA (sB (sA (sB (sB (sB (sB (sB (sB (sB (cd PG 6))))))))))))) (.seq (.run (sA (sB (cA (sB (sA (sB (sB (sB (sB (sB (sB (sB (cd PG 6)))))))))))))) (.run (sB (sB (cA (sB (sA (sB (sB (sB (sB (sB (sB (sB (cd PG 6)))))))))))))))) (.run (cB (sB (sA (sB (sB (sB (sB (sB (sB (sB (cd PG 6)))))))))))))) (.hole (sB (sB (sB (sB (sB (sB (sB (sB (cd PG 6))))))))))))) (by kernel_rfl) ?_
  generalize execG π PG C = H
  kernel_rfl
noncomputable def p6_1 {α : Type} (π : Prims α) (C : CallF α) (fr : Fr) (σ : St) (k : Ex → Fr → St → Option α) : Option α :=
  (fun no => (dK 40 fr.slots no fun r40 => (dV r40 no fun t40 r41 => (dN fr.esc 16 no (π.cond t40 (fun _ => (updS fr [(6, .val (.bool false)), (0, .val (.slice none 0))] fun fr0 => (k .ret fr0 σ))) (fun _ => (k .normal fr σ))))))) (execG π PG C (sB (sA (sB (sB (sB (sB (cd PG 6))))))) fr σ k)
theorem p6_1_eq {α : Type} (π : Prims α) (C : CallF α) : execG π PG C (sB (sA (sB (sB (sB (sB (cd PG 6))))))) = p6_1 π C := by
  funext fr σ k
  obtain ⟨slots, defers, esc, rc⟩ := fr
  unfold p6_1
  iterate 40 (refine dKs_eq fun _ _ h => ?_; subst h)
  refine dK0_eq ?_
  refine dV_eq fun _ _ h => ?_; subst h
  refine dN_eq fun h => ?_; subst h
  refine sk_eq (.cond (cX (sB (sA (sB (sB (sB (sB (cd PG 6)))))))) (.seq (.run (sA (cA (sB (sA (sB (sB (sB (sB (cd PG 6)))))))))) (.run (sB (cA (sB (sA (sB (sB (sB (sB (cd PG 6))))))))))) (.run (cB (sB (sA (sB (sB (sB (sB (cd PG 6)))))))))) (by kernel_rfl) ?_
  generalize execG π PG C = H
  kernel_rfl
noncomputable def p6_0 {α : Type} (π : Prims α) (C : CallF α) (fr : Fr) (σ : St) (k : Ex → Fr → St → Option α) : Option α :=
  (fun no => (dV fr.slots no fun t0 r1 => (dV r1 no fun t1 r2 => (dK 39 r2 no fun r41 => (dN fr.esc 16 no (dataF t1 4 fun _ => π.alloc σ (.cells 0 (AVal.cells t1)) fun x0 σ1 => (updS fr [(4, .val x0), (1, .val (.bool false)), (0, .val (.slice none 0)), (7, .val (.func (.func 13) [] [x0]))] fun fr2 => (dfvF (.func (.func 13) [] [x0]) [] fun d4 => dfS fr2 d4 fun fr3 => (π.nc t0 fun _ => (π.add t0 0 fun x5 => (π.ld σ1 false 1 x5 fun x6 => (C 14 [x6] σ1 (fun x7 σ8 => (π.ld σ8 false 1 x0 fun x9 => (C 15 [x9, x7] σ8 (fun x10 σ11 => (π.extract x10 0 fun x12 => (π.extract x10 1 fun x13 => (π.cond x13 (fun _ => (π.ld σ11 false 1 x0 fun x14 => (C 16 [x14, x12, (.bool true), (.int .u64 (Int.ofNat 0))] σ11 (fun x15 σ16 => (updS fr3 [(6, .val (.bool true)), (0, .val (.slice none 0)), (0, .val x7), (0, .val x12), (0, .val x13), (5, .val t0), (0, .val t0), (0, .val x5), (0, .val x6), (0, .val x7), (0, .val x10), (0, .val x9), (0, .val x7), (0, .val x10), (0, .val x12), (0, .val x13), (0, .val x13), (0, .val x14), (0, .val x12), (0, .val x15)] fun fr17 => (k .ret fr17 σ16))) (fun x18 σ19 => (updS fr3 [(8, .val x7), (0, .val x12), (0, .val x13), (5, .val t0), (0, .val t0), (0, .val x5), (0, .val x6), (0, .val x7), (0, .val x10), (0, .val x9), (0, .val x7), (0, .val x10), (0, .val x12), (0, .val x13), (0, .val x13), (0, .val x14), (0, .val x12)] fun fr20 => (k (.panic x18) fr20 σ19)))))) (fun _ => (π.ld σ11 false 1 x0 fun x21 => (π.nc x21 fun _ => (π.add x21 395 fun x22 => (π.ld σ11 false 1 x22 fun x23 => (gdF x23 (fun _ => (π.ld σ11 false 1 x0 fun x24 => (C 17 [x24, x7] σ11 (fun x25 σ26 => (π.un .not x25 fun x27 => (updS fr3 [(8, .val x7), (0, .val x12), (0, .val x13), (5, .val t0), (0, .val t0), (0, .val x5), (0, .val x6), (0, .val x7), (0, .val x10), (0, .val x9), (0, .val x7), (0, .val x10), (0, .val x12), (0, .val x13), (0, .val x13), (3, .val x21), (0, .val x21), (0, .val x22), (0, .val x23), (0, .val (.bool true)), (0, .val x24), (0, .val x7), (0, .val x25), (0, .val x27), (0, .val x27)] fun fr28 => (p6_1 π C fr28 σ26 (seqK (p6_2 π C) k))))) (fun x29 σ30 => (updS fr3 [(8, .val x7), (0, .val x12), (0, .val x13), (5, .val t0), (0, .val t0), (0, .val x5), (0, .val x6), (0, .val x7), (0, .val x10), (0, .val x9), (0, .val x7), (0, .val x10), (0, .val x12), (0, .val x13), (0, .val x13), (3, .val x21), (0, .val x21), (0, .val x22), (0, .val x23), (0, .val (.bool true)), (0, .val x24), (0, .val x7)] fun fr31 => (k (.panic x29) fr31 σ30)))))) (fun _ => (updS fr3 [(8, .val x7), (0, .val x12), (0, .val x13), (5, .val t0), (0, .val t0), (0, .val x5), (0, .val x6), (0, .val x7), (0, .val x10), (0, .val x9), (0, .val x7), (0, .val x10), (0, .val x12), (0, .val x13), (0, .val x13), (3, .val x21), (0, .val x21), (0, .val x22), (0, .val x23), (0, .val (.bool false)), (0, .val (.tuple [])), (0, .val (.tuple [])), (0, .val (.tuple [])), (0, .val (.tuple [])), (0, .val (.bool false))] fun fr32 => (p6_1 π C fr32 σ11 (seqK (p6_2 π C) k)))) (fun _ => none))))))))))) (fun x33 σ34 => (updS fr3 [(8, .val x7), (7, .val t0), (0, .val t0), (0, .val x5), (0, .val x6), (0, .val x7), (1, .val x9), (0, .val x7)] fun fr35 => (k (.panic x33) fr35 σ34)))))) (fun x36 σ37 => (updS fr3 [(16, .val t0), (0, .val t0), (0, .val x5), (0, .val x6)] fun fr38 => (k (.panic x36) fr38 σ37))))))))))))))) (execG π PG C (cd PG 6) fr σ k)
theorem p6_0_eq {α : Type} (π : Prims α) (C : CallF α) : execG π PG C (cd PG 6) = p6_0 π C := by
  funext fr σ k
  obtain ⟨slots, defers, esc, rc⟩ := fr
  unfold p6_0
  iterate 2 (refine dV_eq fun _ _ h => ?_; subst h)
  iterate 39 (refine dKs_eq fun _ _ h => ?_; subst h)
  refine dK0_eq ?_
  refine dN_eq fun h => ?_; subst h
  try rw [← p6_2_eq π C]
  try rw [← p6_1_eq π C]
  refine sk_eq (.seq (.run (sA (cd PG 6))) (.seq (.run (sA (sB (cd PG 6)))) (.seq (.run (sA (sB (sB (cd PG 6))))) (.seq (.seq (.run (sA (sA (sB (sB (sB (cd PG 6))))))) (.seq (.run (sA (sB (sA (sB (sB (sB (cd PG 6)))))))) (.cond (cX (sB (sB (sA (sB (sB (sB (cd PG 6)))))))) (.seq (.run (sA (cA (sB (sB (sA (sB (sB (sB (cd PG 6)))))))))) (.seq (.run (sA (sB (cA (sB (sB (sA (sB (sB (sB (cd PG 6))))))))))) (.run (sB (sB (cA (sB (sB (sA (sB (sB (sB (cd PG 6))))))))))))) (.run (cB (sB (sB (sA (sB (sB (sB (cd PG 6)))))))))))) (.seq (.seq (.run (sA (sA (sB (sB (sB (sB (cd PG 6)))))))) (.hole (sB (sA (sB (sB (sB (sB (cd PG 6))))))))) (.hole (sB (sB (sB (sB (sB (cd PG 6)))))))))))) (by kernel_rfl) ?_
  generalize execG π PG C = H
  kernel_rfl
-- 22 ravelin/ravelinlaw21 Lay
noncomputable def p22_6 {α : Type} (π : Prims α) (C : CallF α) (fr : Fr) (σ : St) (k : Ex → Fr → St → Option α) : Option α :=
  (fun no => (dV fr.slots no fun t0 r1 => (dK 3 r1 no fun r4 => (dV r4 no fun t4 r5 => (dK 1 r5 no fun r6 => (dV r6 no fun t6 r7 => (dK 20 r7 no fun r27 => (dV r27 no fun t27 r28 => (dV r28 no fun t28 r29 => (dV r29 no fun t29 r30 => (dV r30 no fun t30 r31 => (dV r31 no fun t31 r32 => (dV r32 no fun t32 r33 => (dV r33 no fun t33 r34 => (dV r34 no fun t34 r35 => (dV r35 no fun t35 r36 => (dV r36 no fun t36 r37 => (dV r37 no fun t37 r38 => (dV r38 no fun t38 r39 => (dV r39 no fun t39 r40 => (dV r40 no fun t40 r41 => (dV r41 no fun t41 r42 => (dV r42 no fun t42 r43 => (dN fr.esc 0 no (π.idxAddr PG 34 t0 t6 fun x0 => (π.add x0 0 fun x1 => (π.ld σ false 1 x1 fun x2 => ((lockCall true C) 57 [x2, (.int .i64 (Int.ofNat 1536))] σ (fun x3 σ4 => (π.bin PG .mul 3 true (.int .i64 (Int.ofNat 8)) x3 fun x5 => (π.conv PG 3 22 x5 fun x6 => (π.bin PG .add 22 true (.int .u64 (Int.ofNat 2147483648)) x6 fun x7 => (π.idxAddr PG 34 t0 t6 fun x8 => (π.add x8 1 fun x9 => (π.ld σ4 false 1 x9 fun x10 => ((lockCall false C) 7 [t4, x7, (.int .i64 (Int.ofNat 8)), x10] σ4 (fun x11 σ12 => (π.bin PG .add 3 true t6 (.int .i64 (Int.ofNat 1)) fun x13 => (updS fr [(6, .val x13), (18, .val t6), (0, .val x13), (0, .val t4), (0, .val t0), (0, .val t6), (0, .val x0), (0, .val x1), (0, .val x2), (0, .val x3), (0, .val x5), (0, .val x6), (0, .val x7), (0, .val t0), (0, .val t6), (0, .val x8), (0, .val x9), (0, .val x10), (0, .val x11)] fun fr14 => (k .normal fr14 σ12)))) (fun x15 σ16 => none))))))))) (fun x17 σ18 => none))))))))))))))))))))))))))))) (execG π PG C (sB (lK (bK (sB (sA (sB (sB (sB (cd PG 22))))))))) fr σ k)
theorem p22_6_eq {α : Type} (π : Prims α) (C : CallF α) : execG π PG C (sB (lK (bK (sB (sA (sB (sB (sB (cd PG 22))))))))) = p22_6 π C := by
  funext fr σ k
  obtain ⟨slots, defers, esc, rc⟩ := fr
  unfold p22_6
  refine dV_eq fun _ _ h => ?_; subst h
  iterate 3 (refine dKs_eq fun _ _ h => ?_; subst h)
  refine dK0_eq ?_
  refine dV_eq fun _ _ h => ?_; subst h
  iterate 1 (refine dKs_eq fun _ _ h => ?_; subst h)
  refine dK0_eq ?_
  refine dV_eq fun _ _ h => ?_; subst h
  iterate 20 (refine dKs_eq fun _ _ h => ?_; subst h)
  refine dK0_eq ?_
  iterate 16 (refine dV_eq fun _ _ h => ?_; subst h)
  refine dN_eq fun h => ?_; subst h
  refine sk_eq (.seq (.block 1 (.run (bK (sA (sB (lK (bK (sB (sA (sB (sB (sB (cd PG 22))))))))))))) (.run (sB (sB (lK (bK (sB (sA (sB (sB (sB (cd PG 22)))))))))))) (by kernel_rfl) ?_
  generalize execG π PG C = H
  kernel_rfl
noncomputable def p22_5 {α : Type} (π : Prims α) (C : CallF α) (fr : Fr) (σ : St) (k : Ex → Fr → St → Option α) : Option α :=
  (fun no => (dK 24 fr.slots no fun r24 => (dV r24 no fun t24 r25 => (dN fr.esc 0 no (π.cond t24 (fun _ => (k .normal fr σ)) (fun _ => (k (.exit 0) fr σ))))))) (execG π PG C (sB (sA (lK (bK (sB (sA (sB (sB (sB (cd PG 22)))))))))) fr σ k)
theorem p22_5_eq {α : Type} (π : Prims α) (C : CallF α) : execG π PG C (sB (sA (lK (bK (sB (sA (sB (sB (sB (cd PG 22)))))))))) = p22_5 π C := by
  funext fr σ k
  obtain ⟨slots, defers, esc, rc⟩ := fr
  unfold p22_5
  iterate 24 (refine dKs_eq fun _ _ h => ?_; subst h)
  refine dK0_eq ?_
  refine dV_eq fun _ _ h => ?_; subst h
  refine dN_eq fun h => ?_; subst h
  refine sk_eq (.cond (cX (sB (sA (lK (bK (sB (sA (sB (sB (sB (cd PG 22))))))))))) (.run (cA (sB (sA (lK (bK (sB (sA (sB (sB (sB (cd PG 22)))))))))))) (.run (cB (sB (sA (lK (bK (sB (sA (sB (sB (sB (cd PG 22))))))))))))) (by kernel_rfl) ?_
  generalize execG π PG C = H
  kernel_rfl
noncomputable def p22_4 {α : Type} (π : Prims α) (C : CallF α) (fr : Fr) (σ : St) (k : Ex → Fr → St → Option α) : Option α :=
  (fun no => (dV fr.slots no fun t0 r1 => (dK 5 r1 no fun r6 => (dV r6 no fun t6 r7 => (dK 18 r7 no fun r25 => (dN fr.esc 0 no (π.len PG 34 t0 fun x0 => (π.bin PG .lss 3 false t6 x0 fun x1 => (gdF x1 (fun _ => (π.bin PG .lss 3 true t6 (.int .i64 (Int.ofNat 200)) fun x2 => (updS fr [(17, .val t6), (0, .val t0), (0, .val x0), (0, .val x1), (0, .val (.bool true)), (0, .val t6), (0, .val x2), (0, .val x2)] fun fr3 => (p22_5 π C fr3 σ (seqK (p22_6 π C) k))))) (fun _ => (updS fr [(17, .val t6), (0, .val t0), (0, .val x0), (0, .val x1), (0, .val (.bool false)), (0, .val (.tuple [])), (0, .val (.tuple [])), (0, .val (.bool false))] fun fr4 => (p22_5 π C fr4 σ (seqK (p22_6 π C) k)))) (fun _ => none)))))))))) (execG π PG C (lK (bK (sB (sA (sB (sB (sB (cd PG 22)))))))) fr σ k)
theorem p22_4_eq {α : Type} (π : Prims α) (C : CallF α) : execG π PG C (lK (bK (sB (sA (sB (sB (sB (cd PG 22)))))))) = p22_4 π C := by
  funext fr σ k
  obtain ⟨slots, defers, esc, rc⟩ := fr
  unfold p22_4
  refine dV_eq fun _ _ h => ?_; subst h
  iterate 5 (refine dKs_eq fun _ _ h => ?_; subst h)
  refine dK0_eq ?_
  refine dV_eq fun _ _ h => ?_; subst h
  iterate 18 (refine dKs_eq fun _ _ h => ?_; subst h)
  refine dK0_eq ?_
  refine dN_eq fun h => ?_; subst h
  try rw [← p22_6_eq π C]
  try rw [← p22_5_eq π C]
  refine sk_eq (.seq (.seq (.run (sA (sA (lK (bK (sB (sA (sB (sB (sB (cd PG 22))))))))))) (.hole (sB (sA (lK (bK (sB (sA (sB (sB (sB (cd PG 22)))))))))))) (.hole (sB (lK (bK (sB (sA (sB (sB (sB (cd PG 22))))))))))) (by kernel_rfl) ?_
  generalize execG π PG C = H
  kernel_rfl
noncomputable def p22_3 {α : Type} (π : Prims α) (C : CallF α) (fr : Fr) (σ : St) (k : Ex → Fr → St → Option α) : Option α :=
  (fun no => (dK 4 fr.slots no fun r4 => (dV r4 no fun t4 r5 => (dK 39 r5 no fun r44 => (dN fr.esc 0 no (updS fr [(2, .val t4), (0, .val (.bool true)), (39, .val t4)] fun fr0 => (k .ret fr0 σ))))))) (execG π PG C (sB (sB (sB (sB (cd PG 22))))) fr σ k)
theorem p22_3_eq {α : Type} (π : Prims α) (C : CallF α) : execG π PG C (sB (sB (sB (sB (cd PG 22))))) = p22_3 π C := by
  funext fr σ k
  obtain ⟨slots, defers, esc, rc⟩ := fr
  unfold p22_3
  iterate 4 (refine dKs_eq fun _ _ h => ?_; subst h)
  refine dK0_eq ?_
  refine dV_eq fun _ _ h => ?_; subst h
  iterate 39 (refine dKs_eq fun _ _ h => ?_; subst h)
  refine dK0_eq ?_
  refine dN_eq fun h => ?_; subst h
  refine sk_eq (.seq (.run (sA (sB (sB (sB (sB (cd PG 22))))))) (.run (sB (sB (sB (sB (sB (cd PG 22)))))))) (by kernel_rfl) ?_
  generalize execG π PG C = H
  kernel_rfl
noncomputable def p22_2 {α : Type} (π : Prims α) (C : CallF α) (fr : Fr) (σ : St) (k : Ex → Fr → St → Option α) : Option α :=
  (fun no => (dK 7 fr.slots no fun r7 => (dN fr.esc 0 no (updS fr [(6, .val (.int .i64 (Int.ofNat 0)))] fun fr0 => (π.loop (p22_4 π C) fr0 σ (blkK 0 (seqK (p22_3 π C) k))))))) (execG π PG C (sB (sB (sB (cd PG 22)))) fr σ k)
theorem p22_2_eq {α : Type} (π : Prims α) (C : CallF α) : execG π PG C (sB (sB (sB (cd PG 22)))) = p22_2 π C := by
  funext fr σ k
  obtain ⟨slots, defers, esc, rc⟩ := fr
  unfold p22_2
  iterate 7 (refine dKs_eq fun _ _ h => ?_; subst h)
  refine dK0_eq ?_
  refine dN_eq fun h => ?_; subst h
  try rw [← p22_4_eq π C]
  try rw [← p22_3_eq π C]
  refine sk_eq (.seq (.seq (.run (sA (sA (sB (sB (sB (cd PG 22))))))) (.block 0 (.loopH (lK (bK (sB (sA (sB (sB (sB (cd PG 22))))))))))) (.hole (sB (sB (sB (sB (cd PG 22))))))) (by kernel_rfl) ?_
  generalize execG π PG C = H
  kernel_rfl
noncomputable def p22_1 {α : Type} (π : Prims α) (C : CallF α) (fr : Fr) (σ : St) (k : Ex → Fr → St → Option α) : Option α :=
  (fun no => (dK 16 fr.slots no fun r16 => (dV r16 no fun t16 r17 => (dN fr.esc 0 no (π.cond t16 (fun _ => (updS fr [(2, .val (.ptr none)), (0, .val (.bool false))] fun fr0 => (k .ret fr0 σ))) (fun _ => (k .normal fr σ))))))) (execG π PG C (sB (sA (sB (sB (cd PG 22))))) fr σ k)
theorem p22_1_eq {α : Type} (π : Prims α) (C : CallF α) : execG π PG C (sB (sA (sB (sB (cd PG 22))))) = p22_1 π C := by
  funext fr σ k
  obtain ⟨slots, defers, esc, rc⟩ := fr
  unfold p22_1
  iterate 16 (refine dKs_eq fun _ _ h => ?_; subst h)
  refine dK0_eq ?_
  refine dV_eq fun _ _ h => ?_; subst h
  refine dN_eq fun h => ?_; subst h
  refine sk_eq (.cond (cX (sB (sA (sB (sB (cd PG 22)))))) (.seq (.run (sA (cA (sB (sA (sB (sB (cd PG 22)))))))) (.run (sB (cA (sB (sA (sB (sB (cd PG 22))))))))) (.run (cB (sB (sA (sB (sB (cd PG 22)))))))) (by kernel_rfl) ?_
  generalize execG π PG C = H
  kernel_rfl
noncomputable def p22_0 {α : Type} (π : Prims α) (C : CallF α) (fr : Fr) (σ : St) (k : Ex → Fr → St → Option α) : Option α :=
  (fun no => (dK 17 fr.slots no fun r17 => (dN fr.esc 0 no (C 56 [(.int .i64 (Int.ofNat 12288))] σ (fun x0 σ1 => (π.extract x0 0 fun x2 => (π.extract x0 1 fun x3 => (π.bin PG .neq 127 true x3 (.int .i64 (Int.ofNat 0)) fun x4 => (gdF x4 (fun _ => (updS fr [(2, .val (.ptr none)), (0, .val (.bool false)), (0, .val x2), (0, .val x3), (1, .val x0), (0, .val x0), (0, .val x2), (0, .val x3), (0, .val x3), (0, .val x4), (0, .val (.bool true)), (0, .val (.tuple [])), (0, .val (.tuple [])), (0, .val (.bool true))] fun fr5 => (p22_1 π C fr5 σ1 (seqK (p22_2 π C) k)))) (fun _ => (π.bin PG .eql 44 true x2 (.ptr none) fun x6 => (updS fr [(2, .val (.ptr none)), (0, .val (.bool false)), (0, .val x2), (0, .val x3), (1, .val x0), (0, .val x0), (0, .val x2), (0, .val x3), (0, .val x3), (0, .val x4), (0, .val (.bool false)), (0, .val x2), (0, .val x6), (0, .val x6)] fun fr7 => (p22_1 π C fr7 σ1 (seqK (p22_2 π C) k))))) (fun _ => none)))))) (fun x8 σ9 => (updS fr [(2, .val (.ptr none)), (0, .val (.bool false))] fun fr10 => (k (.panic x8) fr10 σ9))))))) (execG π PG C (cd PG 22) fr σ k)
theorem p22_0_eq {α : Type} (π : Prims α) (C : CallF α) : execG π PG C (cd PG 22) = p22_0 π C := by
  funext fr σ k
  obtain ⟨slots, defers, esc, rc⟩ := fr
  unfold p22_0
  iterate 17 (refine dKs_eq fun _ _ h => ?_; subst h)
  refine dK0_eq ?_
  refine dN_eq fun h => ?_; subst h
  try rw [← p22_2_eq π C]
  try rw [← p22_1_eq π C]
  refine sk_eq (.seq (.run (sA (cd PG 22))) (.seq (.run (sA (sB (cd PG 22)))) (.seq (.seq (.run (sA (sA (sB (sB (cd PG 22)))))) (.hole (sB (sA (sB (sB (cd PG 22))))))) (.hole (sB (sB (sB (cd PG 22)))))))) (by kernel_rfl) ?_
  generalize execG π PG C = H
  kernel_rfl
-- 63 (*ravelin/plic Plic) best
noncomputable def p63_5 {α : Type} (π : Prims α) (C : CallF α) (fr : Fr) (σ : St) (k : Ex → Fr → St → Option α) : Option α :=
  (fun no => (dV fr.slots no fun t0 r1 => (dK 1 r1 no fun r2 => (dV r2 no fun t2 r3 => (dK 4 r3 no fun r7 => (dV r7 no fun t7 r8 => (dV r8 no fun t8 r9 => (dK 18 r9 no fun r27 => (dV r27 no fun t27 r28 => (dV r28 no fun t28 r29 => (dV r29 no fun t29 r30 => (dV r30 no fun t30 r31 => (dV r31 no fun t31 r32 => (dV r32 no fun t32 r33 => (dV r33 no fun t33 r34 => (dV r34 no fun t34 r35 => (dN fr.esc 0 no (π.cond t27 (fun _ => (π.nc t0 fun _ => (π.add t0 0 fun x0 => (π.idxAddr PG 148 x0 t8 fun x1 => (π.ld σ false 1 x1 fun x2 => (updS fr [(2, .val x2), (4, .val t8), (20, .val t8), (0, .val t0), (0, .val t8), (0, .val t0), (0, .val x0), (0, .val x1), (0, .val x2)] fun fr3 => (k .normal fr3 σ))))))) (fun _ => (k .normal fr σ)))))))))))))))))))) (execG π PG C (sB (bK (sA (sB (lK (bK (sB (sA (sB (sB (cd PG 63))))))))))) fr σ k)
theorem p63_5_eq {α : Type} (π : Prims α) (C : CallF α) : execG π PG C (sB (bK (sA (sB (lK (bK (sB (sA (sB (sB (cd PG 63))))))))))) = p63_5 π C := by
  funext fr σ k
  obtain ⟨slots, defers, esc, rc⟩ := fr
  unfold p63_5
  refine dV_eq fun _ _ h => ?_; subst h
  iterate 1 (refine dKs_eq fun _ _ h => ?_; subst h)
  refine dK0_eq ?_
  refine dV_eq fun _ _ h => ?_; subst h
  iterate 4 (refine dKs_eq fun _ _ h => ?_; subst h)
  refine dK0_eq ?_
  iterate 2 (refine dV_eq fun _ _ h => ?_; subst h)
  iterate 18 (refine dKs_eq fun _ _ h => ?_; subst h)
  refine dK0_eq ?_
  iterate 8 (refine dV_eq fun _ _ h => ?_; subst h)
  refine dN_eq fun h => ?_; subst h
  refine sk_eq (.cond (cX (sB (bK (sA (sB (lK (bK (sB (sA (sB (sB (cd PG 63)))))))))))) (.run (cA (sB (bK (sA (sB (lK (bK (sB (sA (sB (sB (cd PG 63))))))))))))) (.run (cB (sB (bK (sA (sB (lK (bK (sB (sA (sB (sB (cd PG 63)))))))))))))) (by kernel_rfl) ?_
  generalize execG π PG C = H
  kernel_rfl
noncomputable def p63_4 {α : Type} (π : Prims α) (C : CallF α) (fr : Fr) (σ : St) (k : Ex → Fr → St → Option α) : Option α :=
  (fun no => (dK 8 fr.slots no fun r8 => (dV r8 no fun t8 r9 => (dK 4 r9 no fun r13 => (dN fr.esc 0 no (π.bin PG .add 32 true t8 (.int .u32 (Int.ofNat 1)) fun x0 => (updS fr [(8, .val x0), (2, .val t8), (0, .val x0)] fun fr1 => (k .normal fr1 σ)))))))) (execG π PG C (sB (sB (lK (bK (sB (sA (sB (sB (cd PG 63))))))))) fr σ k)
theorem p63_4_eq {α : Type} (π : Prims α) (C : CallF α) : execG π PG C (sB (sB (lK (bK (sB (sA (sB (sB (cd PG 63))))))))) = p63_4 π C := by
  funext fr σ k
  obtain ⟨slots, defers, esc, rc⟩ := fr
  unfold p63_4
  iterate 8 (refine dKs_eq fun _ _ h => ?_; subst h)
  refine dK0_eq ?_
  refine dV_eq fun _ _ h => ?_; subst h
  iterate 4 (refine dKs_eq fun _ _ h => ?_; subst h)
  refine dK0_eq ?_
  refine dN_eq fun h => ?_; subst h
  refine sk_eq (.run (sB (sB (lK (bK (sB (sA (sB (sB (cd PG 63)))))))))) (by kernel_rfl) ?_
  generalize execG π PG C = H
  kernel_rfl
noncomputable def p63_3 {α : Type} (π : Prims α) (C : CallF α) (fr : Fr) (σ : St) (k : Ex → Fr → St → Option α) : Option α :=
  (fun no => (dV fr.slots no fun t0 r1 => (dV r1 no fun t1 r2 => (dV r2 no fun t2 r3 => (dK 5 r3 no fun r8 => (dV r8 no fun t8 r9 => (dK 19 r9 no fun r28 => (dN fr.esc 0 no (π.bin PG .shr 32 false t1 t8 fun x0 => (π.bin PG .and 32 true x0 (.int .u32 (Int.ofNat 1)) fun x1 => (π.bin PG .eql 32 true x1 (.int .u32 (Int.ofNat 1)) fun x2 => (gdF x2 (fun _ => (π.nc t0 fun _ => (π.add t0 0 fun x3 => (π.idxAddr PG 148 x3 t8 fun x4 => (π.ld σ false 1 x4 fun x5 => (π.bin PG .gtr 32 false x5 t2 fun x6 => (updS fr [(13, .val t1), (0, .val t8), (0, .val x0), (0, .val x1), (0, .val x2), (0, .val (.bool true)), (0, .val t0), (0, .val t8), (0, .val t0), (0, .val x3), (0, .val x4), (0, .val x5), (0, .val t2), (0, .val x6), (0, .val x6)] fun fr7 => (p63_5 π C fr7 σ (blkK 1 (seqK (p63_4 π C) k)))))))))) (fun _ => (updS fr [(13, .val t1), (0, .val t8), (0, .val x0), (0, .val x1), (0, .val x2), (0, .val (.bool false)), (0, .val (.tuple [])), (0, .val (.tuple [])), (0, .val (.tuple [])), (0, .val (.tuple [])), (0, .val (.tuple [])), (0, .val (.tuple [])), (0, .val (.tuple [])), (0, .val (.tuple [])), (0, .val (.bool false))] fun fr8 => (p63_5 π C fr8 σ (blkK 1 (seqK (p63_4 π C) k))))) (fun _ => none))))))))))))) (execG π PG C (sB (lK (bK (sB (sA (sB (sB (cd PG 63)))))))) fr σ k)
theorem p63_3_eq {α : Type} (π : Prims α) (C : CallF α) : execG π PG C (sB (lK (bK (sB (sA (sB (sB (cd PG 63)))))))) = p63_3 π C := by
  funext fr σ k
  obtain ⟨slots, defers, esc, rc⟩ := fr
  unfold p63_3
  iterate 3 (refine dV_eq fun _ _ h => ?_; subst h)
  iterate 5 (refine dKs_eq fun _ _ h => ?_; subst h)
  refine dK0_eq ?_
  refine dV_eq fun _ _ h => ?_; subst h
  iterate 19 (refine dKs_eq fun _ _ h => ?_; subst h)
  refine dK0_eq ?_
  refine dN_eq fun h => ?_; subst h
  try rw [← p63_5_eq π C]
  try rw [← p63_4_eq π C]
  refine sk_eq (.seq (.block 1 (.seq (.run (sA (bK (sA (sB (lK (bK (sB (sA (sB (sB (cd PG 63)))))))))))) (.hole (sB (bK (sA (sB (lK (bK (sB (sA (sB (sB (cd PG 63)))))))))))))) (.hole (sB (sB (lK (bK (sB (sA (sB (sB (cd PG 63))))))))))) (by kernel_rfl) ?_
  generalize execG π PG C = H
  kernel_rfl
noncomputable def p63_2 {α : Type} (π : Prims α) (C : CallF α) (fr : Fr) (σ : St) (k : Ex → Fr → St → Option α) : Option α :=
  (fun no => (dK 8 fr.slots no fun r8 => (dV r8 no fun t8 r9 => (dK 2 r9 no fun r11 => (dN fr.esc 0 no (π.bin PG .lss 32 true t8 (.int .u32 (Int.ofNat 32)) fun x0 => (π.cond x0 (fun _ => (updS fr [(9, .val t8), (0, .val x0)] fun fr1 => (p63_3 π C fr1 σ k))) (fun _ => (updS fr [(9, .val t8), (0, .val x0)] fun fr2 => (k (.exit 0) fr2 σ)))))))))) (execG π PG C (lK (bK (sB (sA (sB (sB (cd PG 63))))))) fr σ k)
theorem p63_2_eq {α : Type} (π : Prims α) (C : CallF α) : execG π PG C (lK (bK (sB (sA (sB (sB (cd PG 63))))))) = p63_2 π C := by
  funext fr σ k
  obtain ⟨slots, defers, esc, rc⟩ := fr
  unfold p63_2
  iterate 8 (refine dKs_eq fun _ _ h => ?_; subst h)
  refine dK0_eq ?_
  refine dV_eq fun _ _ h => ?_; subst h
  iterate 2 (refine dKs_eq fun _ _ h => ?_; subst h)
  refine dK0_eq ?_
  refine dN_eq fun h => ?_; subst h
  try rw [← p63_3_eq π C]
  refine sk_eq (.seq (.seq (.run (sA (sA (lK (bK (sB (sA (sB (sB (cd PG 63)))))))))) (.cond (cX (sB (sA (lK (bK (sB (sA (sB (sB (cd PG 63)))))))))) (.run (cA (sB (sA (lK (bK (sB (sA (sB (sB (cd PG 63))))))))))) (.run (cB (sB (sA (lK (bK (sB (sA (sB (sB (cd PG 63))))))))))))) (.hole (sB (lK (bK (sB (sA (sB (sB (cd PG 63)))))))))) (by kernel_rfl) ?_
  generalize execG π PG C = H
  kernel_rfl
noncomputable def p63_1 {α : Type} (π : Prims α) (C : CallF α) (fr : Fr) (σ : St) (k : Ex → Fr → St → Option α) : Option α :=
  (fun no => (dK 7 fr.slots no fun r7 => (dV r7 no fun t7 r8 => (dK 28 r8 no fun r36 => (dN fr.esc 0 no (updS fr [(6, .val t7), (28, .val t7)] fun fr0 => (k .ret fr0 σ))))))) (execG π PG C (sB (sB (sB (cd PG 63)))) fr σ k)
theorem p63_1_eq {α : Type} (π : Prims α) (C : CallF α) : execG π PG C (sB (sB (sB (cd PG 63)))) = p63_1 π C := by
  funext fr σ k
  obtain ⟨slots, defers, esc, rc⟩ := fr
  unfold p63_1
  iterate 7 (refine dKs_eq fun _ _ h => ?_; subst h)
  refine dK0_eq ?_
  refine dV_eq fun _ _ h => ?_; subst h
  iterate 28 (refine dKs_eq fun _ _ h => ?_; subst h)
  refine dK0_eq ?_
  refine dN_eq fun h => ?_; subst h
  refine sk_eq (.seq (.run (sA (sB (sB (sB (cd PG 63)))))) (.run (sB (sB (sB (sB (cd PG 63))))))) (by kernel_rfl) ?_
  generalize execG π PG C = H
  kernel_rfl
noncomputable def p63_0 {α : Type} (π : Prims α) (C : CallF α) (fr : Fr) (σ : St) (k : Ex → Fr → St → Option α) : Option α :=
  (fun no => (dK 9 fr.slots no fun r9 => (dN fr.esc 0 no (updS fr [(6, .val (.int .u32 (Int.ofNat 0))), (0, .val (.int .u32 (Int.ofNat 0))), (0, .val (.int .u32 (Int.ofNat 1)))] fun fr0 => (π.loop (p63_2 π C) fr0 σ (blkK 0 (seqK (p63_1 π C) k))))))) (execG π PG C (cd PG 63) fr σ k)
theorem p63_0_eq {α : Type} (π : Prims α) (C : CallF α) : execG π PG C (cd PG 63) = p63_0 π C := by
  funext fr σ k
  obtain ⟨slots, defers, esc, rc⟩ := fr
  unfold p63_0
  iterate 9 (refine dKs_eq fun _ _ h => ?_; subst h)
  refine dK0_eq ?_
  refine dN_eq fun h => ?_; subst h
  try rw [← p63_2_eq π C]
  try rw [← p63_1_eq π C]
  refine sk_eq (.seq (.run (sA (cd PG 63))) (.seq (.run (sA (sB (cd PG 63)))) (.seq (.seq (.run (sA (sA (sB (sB (cd PG 63)))))) (.block 0 (.loopH (lK (bK (sB (sA (sB (sB (cd PG 63)))))))))) (.hole (sB (sB (sB (cd PG 63)))))))) (by kernel_rfl) ?_
  generalize execG π PG C = H
  kernel_rfl
-- 402 (*ravelin/ram Ram) number
noncomputable def p402_2 {α : Type} (π : Prims α) (C : CallF α) (fr : Fr) (σ : St) (k : Ex → Fr → St → Option α) : Option α :=
  (fun no => (dV fr.slots no fun t0 r1 => (dV r1 no fun t1 r2 => (dV r2 no fun t2 r3 => (dK 6 r3 no fun r9 => (dV r9 no fun t9 r10 => (dK 10 r10 no fun r20 => (dN fr.esc 0 no (π.cond t9 (fun _ => (C 101 [t0, t1, t2] σ (fun x0 σ1 => (π.extract x0 0 fun x2 => (π.extract x0 1 fun x3 => (updS fr [(6, .val x2), (0, .val x3), (6, .val t0), (0, .val t1), (0, .val t2), (0, .val x0), (0, .val x2), (0, .val x3)] fun fr4 => (k .ret fr4 σ1))))) (fun x5 σ6 => (updS fr [(14, .val t0), (0, .val t1), (0, .val t2)] fun fr7 => (k (.panic x5) fr7 σ6))))) (fun _ => (k .normal fr σ))))))))))) (execG π PG C (sB (bK (sB (sA (sB (cd PG 402)))))) fr σ k)
theorem p402_2_eq {α : Type} (π : Prims α) (C : CallF α) : execG π PG C (sB (bK (sB (sA (sB (cd PG 402)))))) = p402_2 π C := by
  funext fr σ k
  obtain ⟨slots, defers, esc, rc⟩ := fr
  unfold p402_2
  iterate 3 (refine dV_eq fun _ _ h => ?_; subst h)
  iterate 6 (refine dKs_eq fun _ _ h => ?_; subst h)
  refine dK0_eq ?_
  refine dV_eq fun _ _ h => ?_; subst h
  iterate 10 (refine dKs_eq fun _ _ h => ?_; subst h)
  refine dK0_eq ?_
  refine dN_eq fun h => ?_; subst h
  refine sk_eq (.cond (cX (sB (bK (sB (sA (sB (cd PG 402))))))) (.seq (.run (sA (cA (sB (bK (sB (sA (sB (cd PG 402))))))))) (.run (sB (cA (sB (bK (sB (sA (sB (cd PG 402)))))))))) (.run (cB (sB (bK (sB (sA (sB (cd PG 402))))))))) (by kernel_rfl) ?_
  generalize execG π PG C = H
  kernel_rfl
noncomputable def p402_1 {α : Type} (π : Prims α) (C : CallF α) (fr : Fr) (σ : St) (k : Ex → Fr → St → Option α) : Option α :=
  (fun no => (dK 8 fr.slots no fun r8 => (dN fr.esc 0 no (updS fr [(6, .val (.slice none 0)), (0, .val (.bool false))] fun fr0 => (k .ret fr0 σ))))) (execG π PG C (sB (sB (cd PG 402))) fr σ k)
theorem p402_1_eq {α : Type} (π : Prims α) (C : CallF α) : execG π PG C (sB (sB (cd PG 402))) = p402_1 π C := by
  funext fr σ k
  obtain ⟨slots, defers, esc, rc⟩ := fr
  unfold p402_1
  iterate 8 (refine dKs_eq fun _ _ h => ?_; subst h)
  refine dK0_eq ?_
  refine dN_eq fun h => ?_; subst h
  refine sk_eq (.seq (.run (sA (sB (sB (cd PG 402))))) (.run (sB (sB (sB (cd PG 402)))))) (by kernel_rfl) ?_
  generalize execG π PG C = H
  kernel_rfl
noncomputable def p402_0 {α : Type} (π : Prims α) (C : CallF α) (fr : Fr) (σ : St) (k : Ex → Fr → St → Option α) : Option α :=
  (fun no => (dK 2 fr.slots no fun r2 => (dV r2 no fun t2 r3 => (dK 11 r3 no fun r14 => (dN fr.esc 0 no (π.bin PG .eql 3 true t2 (.int .i64 (Int.ofNat 1)) fun x0 => (π.cond x0 (fun _ => (updS fr [(6, .val (.slice none 0)), (0, .val (.bool false)), (0, .val t2), (0, .val x0), (0, .val x0)] fun fr1 => (p402_2 π C fr1 σ (blkK 0 (seqK (p402_1 π C) k))))) (fun _ => (π.bin PG .eql 3 true t2 (.int .i64 (Int.ofNat 2)) fun x2 => (π.cond x2 (fun _ => (updS fr [(6, .val (.slice none 0)), (0, .val (.bool false)), (0, .val t2), (0, .val x2), (0, .val x0), (0, .val x2)] fun fr3 => (p402_2 π C fr3 σ (blkK 0 (seqK (p402_1 π C) k))))) (fun _ => (π.bin PG .eql 3 true t2 (.int .i64 (Int.ofNat 4)) fun x4 => (π.cond x4 (fun _ => (updS fr [(6, .val (.slice none 0)), (0, .val (.bool false)), (0, .val t2), (0, .val x4), (0, .val x0), (0, .val x2), (0, .val x4)] fun fr5 => (p402_2 π C fr5 σ (blkK 0 (seqK (p402_1 π C) k))))) (fun _ => (π.bin PG .eql 3 true t2 (.int .i64 (Int.ofNat 8)) fun x6 => (updS fr [(6, .val (.slice none 0)), (0, .val (.bool false)), (0, .val t2), (0, .val x6), (0, .val x0), (0, .val x2), (0, .val x4), (0, .val x6)] fun fr7 => (p402_2 π C fr7 σ (blkK 0 (seqK (p402_1 π C) k))))))))))))))))))) (execG π PG C (cd PG 402) fr σ k)
theorem p402_0_eq {α : Type} (π : Prims α) (C : CallF α) : execG π PG C (cd PG 402) = p402_0 π C := by
  funext fr σ k
  obtain ⟨slots, defers, esc, rc⟩ := fr
  unfold p402_0
  iterate 2 (refine dKs_eq fun _ _ h => ?_; subst h)
  refine dK0_eq ?_
  refine dV_eq fun _ _ h => ?_; subst h
  iterate 11 (refine dKs_eq fun _ _ h => ?_; subst h)
  refine dK0_eq ?_
  refine dN_eq fun h => ?_; subst h
  try rw [← p402_2_eq π C]
  try rw [← p402_1_eq π C]
  refine sk_eq (.seq (.run (sA (cd PG 402))) (.seq (.seq (.run (sA (sA (sB (cd PG 402))))) (.block 0 (.seq (.seq (.run (sA (sA (bK (sB (sA (sB (cd PG 402)))))))) (.cond (cX (sB (sA (bK (sB (sA (sB (cd PG 402)))))))) (.run (cA (sB (sA (bK (sB (sA (sB (cd PG 402))))))))) (.seq (.run (sA (cB (sB (sA (bK (sB (sA (sB (cd PG 402)))))))))) (.cond (cX (sB (cB (sB (sA (bK (sB (sA (sB (cd PG 402)))))))))) (.run (cA (sB (cB (sB (sA (bK (sB (sA (sB (cd PG 402))))))))))) (.seq (.run (sA (cB (sB (cB (sB (sA (bK (sB (sA (sB (cd PG 402)))))))))))) (.cond (cX (sB (cB (sB (cB (sB (sA (bK (sB (sA (sB (cd PG 402)))))))))))) (.run (cA (sB (cB (sB (cB (sB (sA (bK (sB (sA (sB (cd PG 402))))))))))))) (.run (cB (sB (cB (sB (cB (sB (sA (bK (sB (sA (sB (cd PG 402))))))))))))))))))) (.hole (sB (bK (sB (sA (sB (cd PG 402)))))))))) (.hole (sB (sB (cd PG 402)))))) (by kernel_rfl) ?_
  generalize execG π PG C = H
  kernel_rfl
-- 162 ravelin/rvc rows
noncomputable def p162_0 {α : Type} (π : Prims α) (C : CallF α) (fr : Fr) (σ : St) (k : Ex → Fr → St → Option α) : Option α :=
  (fun no => (dK 1 fr.slots no fun r1 => (dV r1 no fun t1 r2 => (dV r2 no fun t2 r3 => (dV r3 no fun t3 r4 => (dV r4 no fun t4 r5 => (dV r5 no fun t5 r6 => (dV r6 no fun t6 r7 => (dV r7 no fun t7 r8 => (dV r8 no fun t8 r9 => (dV r9 no fun t9 r10 => (dV r10 no fun t10 r11 => (dV r11 no fun t11 r12 => (dV r12 no fun t12 r13 => (dV r13 no fun t13 r14 => (dV r14 no fun t14 r15 => (dV r15 no fun t15 r16 => (dV r16 no fun t16 r17 => (dV r17 no fun t17 r18 => (dV r18 no fun t18 r19 => (dV r19 no fun t19 r20 => (dV r20 no fun t20 r21 => (dV r21 no fun t21 r22 => (dV r22 no fun t22 r23 => (dV r23 no fun t23 r24 => (dV r24 no fun t24 r25 => (dV r25 no fun t25 r26 => (dN fr.esc 0 no (nbS fr 0 zl268 fun fr0 => (π.ld σ true 11 (.ptr (some (5, 0))) fun x1 => ((lockCall true C) 245 [(.int .i64 (Int.ofNat 2)), x1, (.bool false)] σ (fun x2 σ3 => (π.ld σ3 true 11 (.ptr (some (6, 0))) fun x4 => ((lockCall true C) 245 [(.int .i64 (Int.ofNat 3)), x4, (.bool false)] σ3 (fun x5 σ6 => (π.ld σ6 true 11 (.ptr (some (5, 0))) fun x7 => ((lockCall true C) 245 [(.int .i64 (Int.ofNat 2)), x7, (.bool true)] σ6 (fun x8 σ9 => (π.ld σ9 true 11 (.ptr (some (6, 0))) fun x10 => ((lockCall true C) 245 [(.int .i64 (Int.ofNat 3)), x10, (.bool true)] σ9 (fun x11 σ12 => (π.put zl267 0 1 (.func (.func 243) [] []) fun c13 => (π.put c13 1 1 (.func (.func 244) [] []) fun c14 => (π.put c14 2 1 x2 fun c15 => (π.put c15 3 1 x5 fun c16 => (π.put c16 4 1 (.func (.func 244) [] []) fun c17 => (π.put c17 5 1 (.func (.func 244) [] []) fun c18 => (π.put c18 6 1 x8 fun c19 => (π.put c19 7 1 x11 fun c20 => ((lockCall true C) 246 [(.int .i64 (Int.ofNat 19)), (.func (.func 247) [] []), (.bool false)] σ12 (fun x21 σ22 => ((lockCall true C) 246 [(.int .i64 (Int.ofNat 27)), (.func (.func 247) [] []), (.bool true)] σ22 (fun x23 σ24 => ((lockCall true C) 246 [(.int .i64 (Int.ofNat 19)), (.func (.func 248) [] []), (.bool false)] σ24 (fun x25 σ26 => ((lockCall true C) 252 [(.int .i64 (Int.ofNat 0))] σ26 (fun x27 σ28 => ((lockCall true C) 252 [(.int .i64 (Int.ofNat 1))] σ28 (fun x29 σ30 => (π.put zl267 0 1 x21 fun c31 => (π.put c31 1 1 x23 fun c32 => (π.put c32 2 1 x25 fun c33 => (π.put c33 3 1 (.func (.func 249) [] []) fun c34 => (π.put c34 4 1 (.func (.func 250) [] []) fun c35 => (π.put c35 5 1 (.func (.func 251) [] []) fun c36 => (π.put c36 6 1 x27 fun c37 => (π.put c37 7 1 x29 fun c38 => (π.ld σ30 true 11 (.ptr (some (7, 0))) fun x39 => ((lockCall true C) 254 [(.int .i64 (Int.ofNat 2)), x39, (.bool false)] σ30 (fun x40 σ41 => (π.ld σ41 true 11 (.ptr (some (8, 0))) fun x42 => ((lockCall true C) 254 [(.int .i64 (Int.ofNat 3)), x42, (.bool false)] σ41 (fun x43 σ44 => (π.ld σ44 true 11 (.ptr (some (9, 0))) fun x45 => ((lockCall true C) 254 [(.int .i64 (Int.ofNat 2)), x45, (.bool true)] σ44 (fun x46 σ47 => (π.ld σ47 true 11 (.ptr (some (10, 0))) fun x48 => ((lockCall false C) 254 [(.int .i64 (Int.ofNat 3)), x48, (.bool true)] σ47 (fun x49 σ50 => (π.put zl267 0 1 (.func (.func 253) [] []) fun c51 => (π.put c51 1 1 (.func (.func 244) [] []) fun c52 => (π.put c52 2 1 x40 fun c53 => (π.put c53 3 1 x43 fun c54 => (π.put c54 4 1 (.func (.func 255) [] []) fun c55 => (π.put c55 5 1 (.func (.func 244) [] []) fun c56 => (π.put c56 6 1 x46 fun c57 => (π.put c57 7 1 x49 fun c58 => (π.put zl268 0 8 (.agg c20) fun c59 => (π.put c59 8 8 (.agg c38) fun c60 => (π.put c60 16 8 (.agg c58) fun c61 => (π.put zl268 0 24 (.agg c61) fun c62 => (updS fr0 [(0, .box c62), (0, .val x1), (0, .val x2), (0, .val x4), (0, .val x5), (0, .val x7), (0, .val x8), (0, .val x10), (0, .val x11), (0, .val (.agg c20)), (0, .val x21), (0, .val x23), (0, .val x25), (0, .val x27), (0, .val x29), (0, .val (.agg c38)), (0, .val x39), (0, .val x40), (0, .val x42), (0, .val x43), (0, .val x45), (0, .val x46), (0, .val x48), (0, .val x49), (0, .val (.agg c58)), (0, .val (.agg c61))] fun fr63 => (k .ret fr63 σ50))))))))))))))) (fun x64 σ65 => none)))) (fun x66 σ67 => none)))) (fun x68 σ69 => none)))) (fun x70 σ71 => none)))))))))))) (fun x72 σ73 => none))) (fun x74 σ75 => none))) (fun x76 σ77 => none))) (fun x78 σ79 => none))) (fun x80 σ81 => none))))))))))) (fun x82 σ83 => none)))) (fun x84 σ85 => none)))) (fun x86 σ87 => none)))) (fun x88 σ89 => none)))))))))))))))))))))))))))))))) (execG π PG C (cd PG 162) fr σ k)
theorem p162_0_eq {α : Type} (π : Prims α) (C : CallF α) : execG π PG C (cd PG 162) = p162_0 π C := by
  funext fr σ k
  obtain ⟨slots, defers, esc, rc⟩ := fr
  unfold p162_0
  iterate 1 (refine dKs_eq fun _ _ h => ?_; subst h)
  refine dK0_eq ?_
  iterate 25 (refine dV_eq fun _ _ h => ?_; subst h)
  refine dN_eq fun h => ?_; subst h
  refine sk_eq (.seq (.run (sA (cd PG 162))) (.seq (.run (sA (sB (cd PG 162)))) (.run (sB (sB (cd PG 162)))))) (by kernel_rfl) ?_
  generalize execG π PG C = H
  kernel_rfl
-- 61 ravelin/ravelinlaw03 May
noncomputable def p61_1 {α : Type} (π : Prims α) (C : CallF α) (fr : Fr) (σ : St) (k : Ex → Fr → St → Option α) : Option α :=
  (fun no => (dK 1 fr.slots no fun r1 => (dB r1 no fun t1 r2 => (dB r2 no fun t2 r3 => (dK 17 r3 no fun r20 => (dN fr.esc 0 no (π.part true t1 0 9 fun x0 => (π.put t2 0 9 x0 fun c1 => (updS fr [(2, .box c1), (16, .val x0)] fun fr2 => (k .ret fr2 σ)))))))))) (execG π PG C (sB (sB (sB (sB (sB (cd PG 61)))))) fr σ k)
theorem p61_1_eq {α : Type} (π : Prims α) (C : CallF α) : execG π PG C (sB (sB (sB (sB (sB (cd PG 61)))))) = p61_1 π C := by
  funext fr σ k
  obtain ⟨slots, defers, esc, rc⟩ := fr
  unfold p61_1
  iterate 1 (refine dKs_eq fun _ _ h => ?_; subst h)
  refine dK0_eq ?_
  iterate 2 (refine dB_eq fun _ _ h => ?_; subst h)
  iterate 17 (refine dKs_eq fun _ _ h => ?_; subst h)
  refine dK0_eq ?_
  refine dN_eq fun h => ?_; subst h
  refine sk_eq (.seq (.run (sA (sB (sB (sB (sB (sB (cd PG 61)))))))) (.run (sB (sB (sB (sB (sB (sB (cd PG 61))))))))) (by kernel_rfl) ?_
  generalize execG π PG C = H
  kernel_rfl
noncomputable def p61_0 {α : Type} (π : Prims α) (C : CallF α) (fr : Fr) (σ : St) (k : Ex → Fr → St → Option α) : Option α :=
  (fun no => (dV fr.slots no fun t0 r1 => (dK 18 r1 no fun r19 => (dN fr.esc 0 no (dataF t0 1 fun _ => (nbS fr 1 (AVal.cells t0) fun fr0 => (nbS fr0 2 zl24 fun fr1 => (π.part false (AVal.cells t0) 5 1 fun x2 => (C 57 [x2, (.int .i64 (Int.ofNat 16384))] σ (fun x3 σ4 => (π.put (AVal.cells t0) 5 1 x3 fun c5 => (π.part false c5 6 1 fun x6 => (C 57 [x6, (.int .i64 (Int.ofNat 4096))] σ4 (fun x7 σ8 => (π.put c5 6 1 x7 fun c9 => (π.part false c9 4 1 fun x10 => (C 57 [x10, (.int .i64 (Int.ofNat 53))] σ8 (fun x11 σ12 => (π.put c9 4 1 x11 fun c13 => (π.part false c13 7 1 fun x14 => (π.un .not x14 fun x15 => (π.cond x15 (fun _ => (π.put c13 4 1 (.int .i64 (Int.ofNat 0)) fun c16 => (updS fr1 [(1, .box c16), (1, .ref 1 5), (0, .val x2), (0, .val x3), (0, .ref 1 5), (0, .ref 1 6), (0, .val x6), (0, .val x7), (0, .ref 1 6), (0, .ref 1 4), (0, .val x10), (0, .val x11), (0, .ref 1 4), (0, .ref 1 7), (0, .val x14), (0, .val x15), (0, .ref 1 4)] fun fr17 => (p61_1 π C fr17 σ12 k)))) (fun _ => (updS fr1 [(1, .box c13), (1, .ref 1 5), (0, .val x2), (0, .val x3), (0, .ref 1 5), (0, .ref 1 6), (0, .val x6), (0, .val x7), (0, .ref 1 6), (0, .ref 1 4), (0, .val x10), (0, .val x11), (0, .ref 1 4), (0, .ref 1 7), (0, .val x14), (0, .val x15)] fun fr18 => (p61_1 π C fr18 σ12 k)))))))) (fun x19 σ20 => (updS fr1 [(1, .box c9), (1, .ref 1 5), (0, .val x2), (0, .val x3), (0, .ref 1 5), (0, .ref 1 6), (0, .val x6), (0, .val x7), (0, .ref 1 6), (0, .ref 1 4), (0, .val x10)] fun fr21 => (k (.panic x19) fr21 σ20))))))) (fun x22 σ23 => (updS fr1 [(1, .box c5), (1, .ref 1 5), (0, .val x2), (0, .val x3), (0, .ref 1 5), (0, .ref 1 6), (0, .val x6)] fun fr24 => (k (.panic x22) fr24 σ23))))))) (fun x25 σ26 => (updS fr1 [(3, .ref 1 5), (0, .val x2)] fun fr27 => (k (.panic x25) fr27 σ26)))))))))))) (execG π PG C (cd PG 61) fr σ k)
theorem p61_0_eq {α : Type} (π : Prims α) (C : CallF α) : execG π PG C (cd PG 61) = p61_0 π C := by
  funext fr σ k
  obtain ⟨slots, defers, esc, rc⟩ := fr
  unfold p61_0
  refine dV_eq fun _ _ h => ?_; subst h
  iterate 18 (refine dKs_eq fun _ _ h => ?_; subst h)
  refine dK0_eq ?_
  refine dN_eq fun h => ?_; subst h
  try rw [← p61_1_eq π C]
  refine sk_eq (.seq (.run (sA (cd PG 61))) (.seq (.run (sA (sB (cd PG 61)))) (.seq (.run (sA (sB (sB (cd PG 61))))) (.seq (.run (sA (sB (sB (sB (cd PG 61)))))) (.seq (.seq (.run (sA (sA (sB (sB (sB (sB (cd PG 61)))))))) (.cond (cX (sB (sA (sB (sB (sB (sB (cd PG 61)))))))) (.run (cA (sB (sA (sB (sB (sB (sB (cd PG 61))))))))) (.run (cB (sB (sA (sB (sB (sB (sB (cd PG 61))))))))))) (.hole (sB (sB (sB (sB (sB (cd PG 61)))))))))))) (by kernel_rfl) ?_
  generalize execG π PG C = H
  kernel_rfl
-- 51 ravelin/base Decode
noncomputable def p51_1 {α : Type} (π : Prims α) (C : CallF α) (fr : Fr) (σ : St) (k : Ex → Fr → St → Option α) : Option α :=
  (fun no => (dK 2 fr.slots no fun r2 => (dB r2 no fun t2 r3 => (dK 20 r3 no fun r23 => (dN fr.esc 0 no (π.put t2 0 11 (.agg zl66) fun c0 => (updS fr [(2, .box c0), (0, .val (.bool false)), (18, .val (.agg zl66))] fun fr1 => (k .ret fr1 σ)))))))) (execG π PG C (sB (sB (cd PG 51))) fr σ k)
theorem p51_1_eq {α : Type} (π : Prims α) (C : CallF α) : execG π PG C (sB (sB (cd PG 51))) = p51_1 π C := by
  funext fr σ k
  obtain ⟨slots, defers, esc, rc⟩ := fr
  unfold p51_1
  iterate 2 (refine dKs_eq fun _ _ h => ?_; subst h)
  refine dK0_eq ?_
  refine dB_eq fun _ _ h => ?_; subst h
  iterate 20 (refine dKs_eq fun _ _ h => ?_; subst h)
  refine dK0_eq ?_
  refine dN_eq fun h => ?_; subst h
  refine sk_eq (.seq (.run (sA (sB (sB (cd PG 51))))) (.run (sB (sB (sB (cd PG 51)))))) (by kernel_rfl) ?_
  generalize execG π PG C = H
  kernel_rfl
noncomputable def p51_0 {α : Type} (π : Prims α) (C : CallF α) (fr : Fr) (σ : St) (k : Ex → Fr → St → Option α) : Option α :=
  (fun no => (dV fr.slots no fun t0 r1 => (dK 21 r1 no fun r22 => (dN fr.esc 0 no (nbS fr 2 zl66 fun fr0 => (C 90 [] σ (fun x1 σ2 => (π.bin PG .and 32 true t0 (.int .u32 (Int.ofNat 127)) fun x3 => (π.conv PG 32 3 x3 fun x4 => (π.lookup PG σ2 195 x1 x4 false fun x5 => (π.bin PG .neq 194 true x5 .nilFunc fun x6 => (π.cond x6 (fun _ => (callV C x5 [t0] σ2 (fun x7 σ8 => (π.extract x7 0 fun x9 => (π.extract x7 1 fun x10 => (updS fr0 [(3, .val (.bool false)), (0, .val x5), (2, .val x1), (0, .val t0), (0, .val x3), (0, .val x4), (0, .val x5), (0, .val x5), (0, .val x6), (0, .val x7), (0, .val x5), (0, .val t0), (0, .val x7), (0, .val x9), (0, .val x10)] fun fr11 => (nbS fr11 5 zl66 fun fr12 => (π.put zl66 0 11 x9 fun c13 => (π.cond x10 (fun _ => (π.part true c13 0 11 fun x14 => (π.put zl66 0 11 x14 fun c15 => (updS fr12 [(2, .box c15), (0, .val (.bool true)), (1, .box c13), (0, .val x10), (13, .val x10), (0, .val x14)] fun fr16 => (k .ret fr16 σ8))))) (fun _ => (updS fr12 [(5, .box c13), (0, .val x10), (13, .val x10)] fun fr17 => (p51_1 π C fr17 σ8 k)))))))))) (fun x18 σ19 => (updS fr0 [(3, .val (.bool false)), (0, .val x5), (2, .val x1), (0, .val t0), (0, .val x3), (0, .val x4), (0, .val x5), (0, .val x5), (0, .val x6), (1, .val x5), (0, .val t0)] fun fr20 => (k (.panic x18) fr20 σ19))))) (fun _ => (updS fr0 [(3, .val (.bool false)), (0, .val x5), (2, .val x1), (0, .val t0), (0, .val x3), (0, .val x4), (0, .val x5), (0, .val x5), (0, .val x6)] fun fr21 => (p51_1 π C fr21 σ2 k))))))))) (fun x22 σ23 => (updS fr0 [(3, .val (.bool false))] fun fr24 => (k (.panic x22) fr24 σ23))))))))) (execG π PG C (cd PG 51) fr σ k)
theorem p51_0_eq {α : Type} (π : Prims α) (C : CallF α) : execG π PG C (cd PG 51) = p51_0 π C := by
  funext fr σ k
  obtain ⟨slots, defers, esc, rc⟩ := fr
  unfold p51_0
  refine dV_eq fun _ _ h => ?_; subst h
  iterate 21 (refine dKs_eq fun _ _ h => ?_; subst h)
  refine dK0_eq ?_
  refine dN_eq fun h => ?_; subst h
  try rw [← p51_1_eq π C]
  refine sk_eq (.seq (.run (sA (cd PG 51))) (.seq (.seq (.run (sA (sA (sB (cd PG 51))))) (.seq (.run (sA (sB (sA (sB (cd PG 51)))))) (.cond (cX (sB (sB (sA (sB (cd PG 51)))))) (.seq (.run (sA (cA (sB (sB (sA (sB (cd PG 51)))))))) (.seq (.run (sA (sB (cA (sB (sB (sA (sB (cd PG 51))))))))) (.cond (cX (sB (sB (cA (sB (sB (sA (sB (cd PG 51))))))))) (.seq (.run (sA (cA (sB (sB (cA (sB (sB (sA (sB (cd PG 51))))))))))) (.run (sB (cA (sB (sB (cA (sB (sB (sA (sB (cd PG 51)))))))))))) (.run (cB (sB (sB (cA (sB (sB (sA (sB (cd PG 51))))))))))))) (.run (cB (sB (sB (sA (sB (cd PG 51)))))))))) (.hole (sB (sB (cd PG 51)))))) (by kernel_rfl) ?_
  generalize execG π PG C = H
  kernel_rfl
-- 9 ravelin/capenc Root
noncomputable def p9_1 {α : Type} (π : Prims α) (C : CallF α) (fr : Fr) (σ : St) (k : Ex → Fr → St → Option α) : Option α :=
  (fun no => (dK 4 fr.slots no fun r4 => (dB r4 no fun t4 r5 => (dB r5 no fun t5 r6 => (dK 8 r6 no fun r14 => (dN fr.esc 0 no (π.part true t5 0 9 fun x0 => (π.put t4 0 9 x0 fun c1 => (updS fr [(4, .box c1), (8, .val x0)] fun fr2 => (k .ret fr2 σ)))))))))) (execG π PG C (sB (sB (sB (sB (cd PG 9))))) fr σ k)
theorem p9_1_eq {α : Type} (π : Prims α) (C : CallF α) : execG π PG C (sB (sB (sB (sB (cd PG 9))))) = p9_1 π C := by
  funext fr σ k
  obtain ⟨slots, defers, esc, rc⟩ := fr
  unfold p9_1
  iterate 4 (refine dKs_eq fun _ _ h => ?_; subst h)
  refine dK0_eq ?_
  iterate 2 (refine dB_eq fun _ _ h => ?_; subst h)
  iterate 8 (refine dKs_eq fun _ _ h => ?_; subst h)
  refine dK0_eq ?_
  refine dN_eq fun h => ?_; subst h
  refine sk_eq (.seq (.run (sA (sB (sB (sB (sB (cd PG 9))))))) (.run (sB (sB (sB (sB (sB (cd PG 9)))))))) (by kernel_rfl) ?_
  generalize execG π PG C = H
  kernel_rfl
noncomputable def p9_0 {α : Type} (π : Prims α) (C : CallF α) (fr : Fr) (σ : St) (k : Ex → Fr → St → Option α) : Option α :=
  (fun no => (dV fr.slots no fun t0 r1 => (dV r1 no fun t1 r2 => (dK 11 r2 no fun r13 => (dN fr.esc 0 no (nbS fr 4 zl24 fun fr0 => (C 10 [t1] σ (fun x1 σ2 => (updS fr0 [(6, .val t1), (0, .val x1)] fun fr3 => (nbS fr3 5 zl24 fun fr4 => (π.put zl24 0 9 x1 fun c5 => (π.put c5 0 1 (.bool true) fun c6 => (π.put c6 1 1 (.int .i64 (Int.ofNat 65535)) fun c7 => (π.bin PG .eql 3 true t0 (.int .i64 (Int.ofNat 1)) fun x8 => (π.cond x8 (fun _ => (π.put c7 3 1 (.int .i64 (Int.ofNat 1)) fun c9 => (updS fr4 [(5, .box c9), (2, .ref 5 0), (0, .ref 5 1), (0, .val t0), (0, .val x8), (0, .ref 5 3)] fun fr10 => (p9_1 π C fr10 σ2 k)))) (fun _ => (updS fr4 [(5, .box c7), (2, .ref 5 0), (0, .ref 5 1), (0, .val t0), (0, .val x8)] fun fr11 => (p9_1 π C fr11 σ2 k))))))))))) (fun x12 σ13 => (updS fr0 [(6, .val t1)] fun fr14 => (k (.panic x12) fr14 σ13)))))))))) (execG π PG C (cd PG 9) fr σ k)
theorem p9_0_eq {α : Type} (π : Prims α) (C : CallF α) : execG π PG C (cd PG 9) = p9_0 π C := by
  funext fr σ k
  obtain ⟨slots, defers, esc, rc⟩ := fr
  unfold p9_0
  iterate 2 (refine dV_eq fun _ _ h => ?_; subst h)
  iterate 11 (refine dKs_eq fun _ _ h => ?_; subst h)
  refine dK0_eq ?_
  refine dN_eq fun h => ?_; subst h
  try rw [← p9_1_eq π C]
  refine sk_eq (.seq (.run (sA (cd PG 9))) (.seq (.run (sA (sB (cd PG 9)))) (.seq (.run (sA (sB (sB (cd PG 9))))) (.seq (.seq (.run (sA (sA (sB (sB (sB (cd PG 9))))))) (.cond (cX (sB (sA (sB (sB (sB (cd PG 9))))))) (.run (cA (sB (sA (sB (sB (sB (cd PG 9)))))))) (.run (cB (sB (sA (sB (sB (sB (cd PG 9)))))))))) (.hole (sB (sB (sB (sB (cd PG 9)))))))))) (by kernel_rfl) ?_
  generalize execG π PG C = H
  kernel_rfl
-- 37 ravelin/trap open
noncomputable def p37_1 {α : Type} (π : Prims α) (C : CallF α) (fr : Fr) (σ : St) (k : Ex → Fr → St → Option α) : Option α :=
  (fun no => (dK 1 fr.slots no fun r1 => (dB r1 no fun t1 r2 => (dB r2 no fun t2 r3 => (dK 5 r3 no fun r8 => (dN fr.esc 0 no (π.part true t1 0 9 fun x0 => (π.put t2 0 9 x0 fun c1 => (updS fr [(2, .box c1), (4, .val x0)] fun fr2 => (k .ret fr2 σ)))))))))) (execG π PG C (sB (sB (cd PG 37))) fr σ k)
theorem p37_1_eq {α : Type} (π : Prims α) (C : CallF α) : execG π PG C (sB (sB (cd PG 37))) = p37_1 π C := by
  funext fr σ k
  obtain ⟨slots, defers, esc, rc⟩ := fr
  unfold p37_1
  iterate 1 (refine dKs_eq fun _ _ h => ?_; subst h)
  refine dK0_eq ?_
  iterate 2 (refine dB_eq fun _ _ h => ?_; subst h)
  iterate 5 (refine dKs_eq fun _ _ h => ?_; subst h)
  refine dK0_eq ?_
  refine dN_eq fun h => ?_; subst h
  refine sk_eq (.seq (.run (sA (sB (sB (cd PG 37))))) (.run (sB (sB (sB (cd PG 37)))))) (by kernel_rfl) ?_
  generalize execG π PG C = H
  kernel_rfl
noncomputable def p37_0 {α : Type} (π : Prims α) (C : CallF α) (fr : Fr) (σ : St) (k : Ex → Fr → St → Option α) : Option α :=
  (fun no => (dV fr.slots no fun t0 r1 => (dK 6 r1 no fun r7 => (dN fr.esc 0 no (dataF t0 1 fun _ => (nbS fr 1 (AVal.cells t0) fun fr0 => (nbS fr0 2 zl24 fun fr1 => (π.part false (AVal.cells t0) 2 1 fun x2 => (π.bin PG .eql 3 true x2 (.int .i64 (Int.ofNat 262142)) fun x3 => (π.cond x3 (fun _ => (π.put (AVal.cells t0) 2 1 (.int .i64 (Int.ofNat 262143)) fun c4 => (updS fr1 [(1, .box c4), (1, .ref 1 2), (0, .val x2), (0, .val x3), (0, .ref 1 2)] fun fr5 => (p37_1 π C fr5 σ k)))) (fun _ => (updS fr1 [(3, .ref 1 2), (0, .val x2), (0, .val x3)] fun fr6 => (p37_1 π C fr6 σ k))))))))))))) (execG π PG C (cd PG 37) fr σ k)
theorem p37_0_eq {α : Type} (π : Prims α) (C : CallF α) : execG π PG C (cd PG 37) = p37_0 π C := by
  funext fr σ k
  obtain ⟨slots, defers, esc, rc⟩ := fr
  unfold p37_0
  refine dV_eq fun _ _ h => ?_; subst h
  iterate 6 (refine dKs_eq fun _ _ h => ?_; subst h)
  refine dK0_eq ?_
  refine dN_eq fun h => ?_; subst h
  try rw [← p37_1_eq π C]
  refine sk_eq (.seq (.run (sA (cd PG 37))) (.seq (.seq (.run (sA (sA (sB (cd PG 37))))) (.cond (cX (sB (sA (sB (cd PG 37))))) (.run (cA (sB (sA (sB (cd PG 37)))))) (.run (cB (sB (sA (sB (cd PG 37)))))))) (.hole (sB (sB (cd PG 37)))))) (by kernel_rfl) ?_
  generalize execG π PG C = H
  kernel_rfl
-- 53 ravelin/decode short
noncomputable def p53_0 {α : Type} (π : Prims α) (C : CallF α) (fr : Fr) (σ : St) (k : Ex → Fr → St → Option α) : Option α :=
  (fun no => (dV fr.slots no fun t0 r1 => (dK 18 r1 no fun r19 => (dN fr.esc 0 no (nbS fr 2 zl66 fun fr0 => (π.conv PG 32 109 t0 fun x1 => (C 93 [x1] σ (fun x2 σ3 => (π.extract x2 0 fun x4 => (π.extract x2 1 fun x5 => (π.un .not x5 fun x6 => (π.cond x6 (fun _ => (π.put zl66 0 11 (.agg zl66) fun c7 => (updS fr0 [(2, .box c7), (0, .val (.bool false)), (0, .val x4), (0, .val x5), (0, .val x2), (0, .val t0), (0, .val x1), (0, .val x2), (0, .val x4), (0, .val x5), (0, .val x5), (0, .val x6), (0, .val (.agg zl66))] fun fr8 => (k .ret fr8 σ3)))) (fun _ => (C 51 [x4] σ3 (fun x9 σ10 => (π.extract x9 0 fun x11 => (π.extract x9 1 fun x12 => (π.put zl66 0 11 x11 fun c13 => (updS fr0 [(2, .box c13), (0, .val x12), (0, .val x4), (0, .val x5), (0, .val x2), (0, .val t0), (0, .val x1), (0, .val x2), (0, .val x4), (0, .val x5), (0, .val x5), (0, .val x6), (1, .val x4), (0, .val x9), (0, .val x11), (0, .val x12)] fun fr14 => (k .ret fr14 σ10)))))) (fun x15 σ16 => (updS fr0 [(3, .val (.bool false)), (0, .val x4), (0, .val x5), (0, .val x2), (0, .val t0), (0, .val x1), (0, .val x2), (0, .val x4), (0, .val x5), (0, .val x5), (0, .val x6), (1, .val x4)] fun fr17 => (k (.panic x15) fr17 σ16)))))))))) (fun x18 σ19 => (updS fr0 [(3, .val (.bool false)), (3, .val t0), (0, .val x1)] fun fr20 => (k (.panic x18) fr20 σ19)))))))))) (execG π PG C (cd PG 53) fr σ k)
theorem p53_0_eq {α : Type} (π : Prims α) (C : CallF α) : execG π PG C (cd PG 53) = p53_0 π C := by
  funext fr σ k
  obtain ⟨slots, defers, esc, rc⟩ := fr
  unfold p53_0
  refine dV_eq fun _ _ h => ?_; subst h
  iterate 18 (refine dKs_eq fun _ _ h => ?_; subst h)
  refine dK0_eq ?_
  refine dN_eq fun h => ?_; subst h
  refine sk_eq (.seq (.run (sA (cd PG 53))) (.seq (.run (sA (sB (cd PG 53)))) (.seq (.seq (.run (sA (sA (sB (sB (cd PG 53)))))) (.cond (cX (sB (sA (sB (sB (cd PG 53)))))) (.seq (.run (sA (cA (sB (sA (sB (sB (cd PG 53)))))))) (.run (sB (cA (sB (sA (sB (sB (cd PG 53))))))))) (.run (cB (sB (sA (sB (sB (cd PG 53))))))))) (.seq (.run (sA (sB (sB (sB (cd PG 53)))))) (.run (sB (sB (sB (sB (cd PG 53)))))))))) (by kernel_rfl) ?_
  generalize execG π PG C = H
  kernel_rfl
-- 235 (ravelin/base word) one
noncomputable def p235_0 {α : Type} (π : Prims α) (C : CallF α) (fr : Fr) (σ : St) (k : Ex → Fr → St → Option α) : Option α :=
  (fun no => (dV fr.slots no fun t0 r1 => (dV r1 no fun t1 r2 => (dV r2 no fun t2 r3 => (dK 17 r3 no fun r20 => (dN fr.esc 0 no (nbS fr 6 zl66 fun fr0 => (C 231 [t0, t1] σ (fun x1 σ2 => (updS fr0 [(8, .val t0), (0, .val t1), (0, .val x1)] fun fr3 => (nbS fr3 7 zl66 fun fr4 => (π.put zl66 0 11 x1 fun c5 => (C 232 [t0] σ2 (fun x6 σ7 => (C 314 [t0] σ7 (fun x8 σ9 => (π.put c5 2 1 x6 fun c10 => (π.put c10 3 1 x8 fun c11 => (π.put c11 5 1 t2 fun c12 => (π.part true c12 0 11 fun x13 => (π.put zl66 0 11 x13 fun c14 => (updS fr4 [(6, .box c14), (0, .box c12), (3, .val t0), (0, .val x6), (0, .val t0), (0, .val x8), (0, .val t2), (0, .ref 7 2), (0, .ref 7 3), (0, .ref 7 5), (0, .val x13)] fun fr15 => (k .ret fr15 σ9)))))))) (fun x16 σ17 => (updS fr4 [(7, .box c5), (3, .val t0), (0, .val x6), (0, .val t0)] fun fr18 => (k (.panic x16) fr18 σ17))))) (fun x19 σ20 => (updS fr4 [(7, .box c5), (3, .val t0)] fun fr21 => (k (.panic x19) fr21 σ20)))))))) (fun x22 σ23 => (updS fr0 [(8, .val t0), (0, .val t1)] fun fr24 => (k (.panic x22) fr24 σ23))))))))))) (execG π PG C (cd PG 235) fr σ k)
theorem p235_0_eq {α : Type} (π : Prims α) (C : CallF α) : execG π PG C (cd PG 235) = p235_0 π C := by
  funext fr σ k
  obtain ⟨slots, defers, esc, rc⟩ := fr
  unfold p235_0
  iterate 3 (refine dV_eq fun _ _ h => ?_; subst h)
  iterate 17 (refine dKs_eq fun _ _ h => ?_; subst h)
  refine dK0_eq ?_
  refine dN_eq fun h => ?_; subst h
  refine sk_eq (.seq (.run (sA (cd PG 235))) (.seq (.run (sA (sB (cd PG 235)))) (.seq (.run (sA (sB (sB (cd PG 235))))) (.seq (.run (sA (sB (sB (sB (cd PG 235)))))) (.run (sB (sB (sB (sB (cd PG 235)))))))))) (by kernel_rfl) ?_
  generalize execG π PG C = H
  kernel_rfl
-- 406 (*ravelin/clint Clint) Store$1
noncomputable def p406_0 {α : Type} (π : Prims α) (C : CallF α) (fr : Fr) (σ : St) (k : Ex → Fr → St → Option α) : Option α :=
  (fun no => (dV fr.slots no fun t0 r1 => (dV r1 no fun t1 r2 => (dV r2 no fun t2 r3 => (dV r3 no fun t3 r4 => (dK 2 r4 no fun r6 => (dV r6 no fun t6 r7 => (dV r7 no fun t7 r8 => (dV r8 no fun t8 r9 => (dV r9 no fun t9 r10 => (dV r10 no fun t10 r11 => (dV r11 no fun t11 r12 => (dV r12 no fun t12 r13 => (dV r13 no fun t13 r14 => (dV r14 no fun t14 r15 => (dN fr.esc 0 no (π.ld σ false 1 t1 fun x0 => (π.bin PG .andNot 22 false t0 x0 fun x1 => (π.ld σ false 1 t2 fun x2 => (π.ld σ false 1 t3 fun x3 => (π.bin PG .shl 22 false x2 x3 fun x4 => (π.ld σ false 1 t1 fun x5 => (π.bin PG .and 22 false x4 x5 fun x6 => (π.bin PG .or 22 false x1 x6 fun x7 => (updS fr [(5, .val x7), (0, .val t0), (0, .val x0), (0, .val x1), (0, .val x2), (0, .val x3), (0, .val x4), (0, .val x5), (0, .val x6), (0, .val x7)] fun fr8 => (k .ret fr8 σ)))))))))))))))))))))))))) (execG π PG C (cd PG 406) fr σ k)
theorem p406_0_eq {α : Type} (π : Prims α) (C : CallF α) : execG π PG C (cd PG 406) = p406_0 π C := by
  funext fr σ k
  obtain ⟨slots, defers, esc, rc⟩ := fr
  unfold p406_0
  iterate 4 (refine dV_eq fun _ _ h => ?_; subst h)
  iterate 2 (refine dKs_eq fun _ _ h => ?_; subst h)
  refine dK0_eq ?_
  iterate 9 (refine dV_eq fun _ _ h => ?_; subst h)
  refine dN_eq fun h => ?_; subst h
  refine sk_eq (.seq (.run (sA (cd PG 406))) (.seq (.run (sA (sB (cd PG 406)))) (.run (sB (sB (cd PG 406)))))) (by kernel_rfl) ?_
  generalize execG π PG C = H
  kernel_rfl
-- 70 ravelin/check outside
noncomputable def p70_0 {α : Type} (π : Prims α) (C : CallF α) (fr : Fr) (σ : St) (k : Ex → Fr → St → Option α) : Option α :=
  (fun no => (dV fr.slots no fun t0 r1 => (dV r1 no fun t1 r2 => (dV r2 no fun t2 r3 => (dK 11 r3 no fun r14 => (dN fr.esc 0 no (dataF t0 3 fun _ => (nbS fr 3 (AVal.cells t0) fun fr0 => (nbS fr0 6 zl164 fun fr1 => (π.part true (AVal.cells t0) 0 9 fun x2 => (C 106 [x2] σ (fun x3 σ4 => (C 108 [x3, t1, t2] σ4 (fun x5 σ6 => (π.un .not x5 fun x7 => (π.put zl164 0 1 x7 fun c8 => (π.put c8 1 1 (.int .i64 (Int.ofNat 1)) fun c9 => (π.put zl164 0 2 (.agg c9) fun c10 => (updS fr1 [(6, .box c10), (0, .val x2), (0, .val x3), (0, .val t1), (0, .val t2), (0, .val x5), (0, .val x7), (0, .val (.agg c9))] fun fr11 => (k .ret fr11 σ6))))))) (fun x12 σ13 => (updS fr1 [(7, .val x2), (0, .val x3), (0, .val t1), (0, .val t2)] fun fr14 => (k (.panic x12) fr14 σ13))))) (fun x15 σ16 => (updS fr1 [(7, .val x2)] fun fr17 => (k (.panic x15) fr17 σ16)))))))))))))) (execG π PG C (cd PG 70) fr σ k)
theorem p70_0_eq {α : Type} (π : Prims α) (C : CallF α) : execG π PG C (cd PG 70) = p70_0 π C := by
  funext fr σ k
  obtain ⟨slots, defers, esc, rc⟩ := fr
  unfold p70_0
  iterate 3 (refine dV_eq fun _ _ h => ?_; subst h)
  iterate 11 (refine dKs_eq fun _ _ h => ?_; subst h)
  refine dK0_eq ?_
  refine dN_eq fun h => ?_; subst h
  refine sk_eq (.seq (.run (sA (cd PG 70))) (.seq (.run (sA (sB (cd PG 70)))) (.run (sB (sB (cd PG 70)))))) (by kernel_rfl) ?_
  generalize execG π PG C = H
  kernel_rfl
-- 69 ravelin/check lacks
noncomputable def p69_0 {α : Type} (π : Prims α) (C : CallF α) (fr : Fr) (σ : St) (k : Ex → Fr → St → Option α) : Option α :=
  (fun no => (dV fr.slots no fun t0 r1 => (dV r1 no fun t1 r2 => (dV r2 no fun t2 r3 => (dK 11 r3 no fun r14 => (dN fr.esc 0 no (dataF t0 3 fun _ => (nbS fr 3 (AVal.cells t0) fun fr0 => (nbS fr0 6 zl164 fun fr1 => (π.part false (AVal.cells t0) 1 1 fun x2 => (π.bin PG .and 3 false x2 t1 fun x3 => (π.bin PG .eql 3 true x3 (.int .i64 (Int.ofNat 0)) fun x4 => (π.put zl164 0 1 x4 fun c5 => (π.put c5 1 1 t2 fun c6 => (π.put zl164 0 2 (.agg c6) fun c7 => (updS fr1 [(6, .box c7), (0, .ref 3 1), (0, .val x2), (0, .val t1), (0, .val x3), (0, .val x4), (0, .val t2), (0, .val (.agg c6))] fun fr8 => (k .ret fr8 σ))))))))))))))))) (execG π PG C (cd PG 69) fr σ k)
theorem p69_0_eq {α : Type} (π : Prims α) (C : CallF α) : execG π PG C (cd PG 69) = p69_0 π C := by
  funext fr σ k
  obtain ⟨slots, defers, esc, rc⟩ := fr
  unfold p69_0
  iterate 3 (refine dV_eq fun _ _ h => ?_; subst h)
  iterate 11 (refine dKs_eq fun _ _ h => ?_; subst h)
  refine dK0_eq ?_
  refine dN_eq fun h => ?_; subst h
  refine sk_eq (.seq (.run (sA (cd PG 69))) (.seq (.run (sA (sB (cd PG 69)))) (.run (sB (sB (cd PG 69)))))) (by kernel_rfl) ?_
  generalize execG π PG C = H
  kernel_rfl
-- 39 ravelin/access unless
noncomputable def p39_0 {α : Type} (π : Prims α) (C : CallF α) (fr : Fr) (σ : St) (k : Ex → Fr → St → Option α) : Option α :=
  (fun no => (dV fr.slots no fun t0 r1 => (dK 6 r1 no fun r7 => (dN fr.esc 0 no (dataF t0 1 fun _ => (nbS fr 1 (AVal.cells t0) fun fr0 => (π.part false (AVal.cells t0) 0 1 fun x1 => (π.cond x1 (fun _ => (π.part true (AVal.cells t0) 0 3 fun x2 => (π.put zl160 0 3 x2 fun c3 => (panicF (.iface 160 (.agg c3)) fun x4 => (updS fr0 [(2, .ref 1 0), (0, .val x1), (0, .val x2), (0, .val (.agg c3)), (0, .val (.iface 160 (.agg c3)))] fun fr5 => (k (.panic x4) fr5 σ)))))) (fun _ => (updS fr0 [(2, .ref 1 0), (0, .val x1)] fun fr6 => (k .normal fr6 σ))))))))))) (execG π PG C (cd PG 39) fr σ k)
theorem p39_0_eq {α : Type} (π : Prims α) (C : CallF α) : execG π PG C (cd PG 39) = p39_0 π C := by
  funext fr σ k
  obtain ⟨slots, defers, esc, rc⟩ := fr
  unfold p39_0
  refine dV_eq fun _ _ h => ?_; subst h
  iterate 6 (refine dKs_eq fun _ _ h => ?_; subst h)
  refine dK0_eq ?_
  refine dN_eq fun h => ?_; subst h
  refine sk_eq (.seq (.run (sA (cd PG 39))) (.seq (.run (sA (sB (cd PG 39)))) (.cond (cX (sB (sB (cd PG 39)))) (.run (cA (sB (sB (cd PG 39))))) (.run (cB (sB (sB (cd PG 39)))))))) (by kernel_rfl) ?_
  generalize execG π PG C = H
  kernel_rfl
-- 167 ravelin/bounds signed
noncomputable def p167_0 {α : Type} (π : Prims α) (C : CallF α) (fr : Fr) (σ : St) (k : Ex → Fr → St → Option α) : Option α :=
  (fun no => (dV fr.slots no fun t0 r1 => (dK 8 r1 no fun r9 => (dN fr.esc 0 no (nbS fr 2 zl287 fun fr0 => (π.conv PG 2 22 t0 fun x1 => (π.bin PG .shr 22 true x1 (.int .u64 (Int.ofNat 63)) fun x2 => (π.conv PG 2 22 t0 fun x3 => (π.put zl287 0 1 x2 fun c4 => (π.put c4 1 1 x3 fun c5 => (π.put zl287 0 2 (.agg c5) fun c6 => (updS fr0 [(2, .box c6), (0, .val t0), (0, .val x1), (0, .val x2), (0, .val t0), (0, .val x3), (0, .val (.agg c5))] fun fr7 => (k .ret fr7 σ))))))))))))) (execG π PG C (cd PG 167) fr σ k)
theorem p167_0_eq {α : Type} (π : Prims α) (C : CallF α) : execG π PG C (cd PG 167) = p167_0 π C := by
  funext fr σ k
  obtain ⟨slots, defers, esc, rc⟩ := fr
  unfold p167_0
  refine dV_eq fun _ _ h => ?_; subst h
  iterate 8 (refine dKs_eq fun _ _ h => ?_; subst h)
  refine dK0_eq ?_
  refine dN_eq fun h => ?_; subst h
  refine sk_eq (.seq (.run (sA (cd PG 167))) (.seq (.run (sA (sB (cd PG 167)))) (.run (sB (sB (cd PG 167)))))) (by kernel_rfl) ?_
  generalize execG π PG C = H
  kernel_rfl
-- 23 ravelin/tlb New
noncomputable def p23_0 {α : Type} (π : Prims α) (C : CallF α) (fr : Fr) (σ : St) (k : Ex → Fr → St → Option α) : Option α :=
  (fun no => (dV fr.slots no fun t0 r1 => (dK 7 r1 no fun r8 => (dN fr.esc 128 no (π.minmax true [t0, (.int .i64 (Int.ofNat 1))] fun x0 => (π.minmax false [x0, (.int .i64 (Int.ofNat 16))] fun x1 => (π.put zl135 0 1 x1 fun c2 => (dataF (.agg c2) 7 fun _ => π.alloc σ (.cells 0 (AVal.cells (.agg c2))) fun x3 σ4 => (updS fr [(2, .val x3), (0, .val t0), (0, .val x0), (0, .val x1), (0, .val (.agg c2)), (0, .val x3)] fun fr5 => (k .ret fr5 σ4)))))))))) (execG π PG C (cd PG 23) fr σ k)
theorem p23_0_eq {α : Type} (π : Prims α) (C : CallF α) : execG π PG C (cd PG 23) = p23_0 π C := by
  funext fr σ k
  obtain ⟨slots, defers, esc, rc⟩ := fr
  unfold p23_0
  refine dV_eq fun _ _ h => ?_; subst h
  iterate 7 (refine dKs_eq fun _ _ h => ?_; subst h)
  refine dK0_eq ?_
  refine dN_eq fun h => ?_; subst h
  refine sk_eq (.seq (.run (sA (cd PG 23))) (.seq (.run (sA (sB (cd PG 23)))) (.run (sB (sB (cd PG 23)))))) (by kernel_rfl) ?_
  generalize execG π PG C = H
  kernel_rfl
-- 314 (ravelin/base word) rs1
noncomputable def p314_0 {α : Type} (π : Prims α) (C : CallF α) (fr : Fr) (σ : St) (k : Ex → Fr → St → Option α) : Option α :=
  (fun no => (dV fr.slots no fun t0 r1 => (dK 4 r1 no fun r5 => (dN fr.esc 0 no (C 234 [t0, (.int .i64 (Int.ofNat 19)), (.int .i64 (Int.ofNat 15))] σ (fun x0 σ1 => (updS fr [(2, .val x0), (0, .val t0), (0, .val x0)] fun fr2 => (k .ret fr2 σ1))) (fun x3 σ4 => (updS fr [(2, .val (.int .i64 (Int.ofNat 0))), (0, .val t0)] fun fr5 => (k (.panic x3) fr5 σ4)))))))) (execG π PG C (cd PG 314) fr σ k)
theorem p314_0_eq {α : Type} (π : Prims α) (C : CallF α) : execG π PG C (cd PG 314) = p314_0 π C := by
  funext fr σ k
  obtain ⟨slots, defers, esc, rc⟩ := fr
  unfold p314_0
  refine dV_eq fun _ _ h => ?_; subst h
  iterate 4 (refine dKs_eq fun _ _ h => ?_; subst h)
  refine dK0_eq ?_
  refine dN_eq fun h => ?_; subst h
  refine sk_eq (.seq (.run (sA (cd PG 314))) (.seq (.run (sA (sB (cd PG 314)))) (.run (sB (sB (cd PG 314)))))) (by kernel_rfl) ?_
  generalize execG π PG C = H
  kernel_rfl
-- 28 (*ravelin/clint Clint) Soft
noncomputable def p28_0 {α : Type} (π : Prims α) (C : CallF α) (fr : Fr) (σ : St) (k : Ex → Fr → St → Option α) : Option α :=
  (fun no => (dV fr.slots no fun t0 r1 => (dK 7 r1 no fun r8 => (dN fr.esc 0 no (π.nc t0 fun _ => (π.add t0 2 fun x0 => (π.ld σ false 1 x0 fun x1 => (π.bin PG .eql 22 true x1 (.int .u64 (Int.ofNat 1)) fun x2 => (updS fr [(2, .val x2), (0, .val t0), (0, .val t0), (0, .val x0), (0, .val x1), (0, .val x2)] fun fr3 => (k .ret fr3 σ)))))))))) (execG π PG C (cd PG 28) fr σ k)
theorem p28_0_eq {α : Type} (π : Prims α) (C : CallF α) : execG π PG C (cd PG 28) = p28_0 π C := by
  funext fr σ k
  obtain ⟨slots, defers, esc, rc⟩ := fr
  unfold p28_0
  refine dV_eq fun _ _ h => ?_; subst h
  iterate 7 (refine dKs_eq fun _ _ h => ?_; subst h)
  refine dK0_eq ?_
  refine dN_eq fun h => ?_; subst h
  refine sk_eq (.seq (.run (sA (cd PG 28))) (.seq (.run (sA (sB (cd PG 28)))) (.run (sB (sB (cd PG 28)))))) (by kernel_rfl) ?_
  generalize execG π PG C = H
  kernel_rfl
end
end Go.Sh
