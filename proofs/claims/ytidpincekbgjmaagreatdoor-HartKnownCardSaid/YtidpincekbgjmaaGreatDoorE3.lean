/-
  Functions of the program in a shallow form (printed by a program of mine), each shown to be what the machine runs. No condition.
-/
import Derived.Test.YtidpincekbgjmaaGreatDoorD
set_option linter.unusedVariables false
set_option linter.unusedSimpArgs false
open Go Go.Abs Go.Proofs
namespace Go.Sh
noncomputable section
set_option maxRecDepth 100000
set_option maxHeartbeats 0
-- 48 ravelin/xmem Do
noncomputable def p48_4 {α : Type} (π : Prims α) (C : CallF α) (fr : Fr) (σ : St) (k : Ex → Fr → St → Option α) : Option α :=
  (fun no => (dK 3 fr.slots no fun r3 => (dV r3 no fun t3 r4 => (dK 5 r4 no fun r9 => (dB r9 no fun t9 r10 => (dK 1 r10 no fun r11 => (dV r11 no fun t11 r12 => (dB r12 no fun t12 r13 => (dK 11 r13 no fun r24 => (dV r24 no fun t24 r25 => (dK 49 r25 no fun r74 => (dV r74 no fun t74 r75 => (dK 9 r75 no fun r84 => (dN fr.esc 32768 no (π.cond t74 (fun _ => (C 83 [t11] σ (fun x0 σ1 => (π.put t12 0 9 x0 fun c2 => (updS fr [(12, .box c2), (64, .val t11), (0, .val x0)] fun fr3 => (k .normal fr3 σ1)))) (fun x4 σ5 => (updS fr [(77, .val t11)] fun fr6 => (k (.panic x4) fr6 σ5))))) (fun _ => (π.bin PG .eql 3 true t24 (.int .i64 (Int.ofNat 21)) fun x7 => (π.cond x7 (fun _ => (C 84 [t11, t3] σ (fun x8 σ9 => (π.put t12 0 9 x8 fun c10 => (updS fr [(12, .box c10), (66, .val x7), (0, .val x7), (0, .val t11), (0, .val t3), (0, .val x8)] fun fr11 => (k .normal fr11 σ9)))) (fun x12 σ13 => (updS fr [(79, .val x7), (0, .val x7), (0, .val t11), (0, .val t3)] fun fr14 => (k (.panic x12) fr14 σ13))))) (fun _ => (π.put t9 0 3 (.agg zl60) fun c15 => (updS fr [(8, .val (.slice none 0)), (0, .box c15), (0, .val (.bool false)), (14, .val (.agg zl60)), (53, .val x7), (0, .val x7)] fun fr16 => (k .ret fr16 σ)))))))))))))))))))))) (execG π PG C (sB (cB (sB (cB (sB (bK (sB (sB (sA (sB (sB (sB (cd PG 48))))))))))))) fr σ k)
theorem p48_4_eq {α : Type} (π : Prims α) (C : CallF α) : execG π PG C (sB (cB (sB (cB (sB (bK (sB (sB (sA (sB (sB (sB (cd PG 48))))))))))))) = p48_4 π C := by
  funext fr σ k
  obtain ⟨slots, defers, esc, rc⟩ := fr
  unfold p48_4
  iterate 3 (refine dKs_eq fun _ _ h => ?_; subst h)
  refine dK0_eq ?_
  refine dV_eq fun _ _ h => ?_; subst h
  iterate 5 (refine dKs_eq fun _ _ h => ?_; subst h)
  refine dK0_eq ?_
  refine dB_eq fun _ _ h => ?_; subst h
  iterate 1 (refine dKs_eq fun _ _ h => ?_; subst h)
  refine dK0_eq ?_
  refine dV_eq fun _ _ h => ?_; subst h
  refine dB_eq fun _ _ h => ?_; subst h
  iterate 11 (refine dKs_eq fun _ _ h => ?_; subst h)
  refine dK0_eq ?_
  refine dV_eq fun _ _ h => ?_; subst h
  iterate 49 (refine dKs_eq fun _ _ h => ?_; subst h)
  refine dK0_eq ?_
  refine dV_eq fun _ _ h => ?_; subst h
  iterate 9 (refine dKs_eq fun _ _ h => ?_; subst h)
  refine dK0_eq ?_
  refine dN_eq fun h => ?_; subst h
  refine sk_eq (.cond (cX (sB (cB (sB (cB (sB (bK (sB (sB (sA (sB (sB (sB (cd PG 48)))))))))))))) (.run (cA (sB (cB (sB (cB (sB (bK (sB (sB (sA (sB (sB (sB (cd PG 48))))))))))))))) (.seq (.run (sA (cB (sB (cB (sB (cB (sB (bK (sB (sB (sA (sB (sB (sB (cd PG 48)))))))))))))))) (.cond (cX (sB (cB (sB (cB (sB (cB (sB (bK (sB (sB (sA (sB (sB (sB (cd PG 48)))))))))))))))) (.run (cA (sB (cB (sB (cB (sB (cB (sB (bK (sB (sB (sA (sB (sB (sB (cd PG 48))))))))))))))))) (.seq (.run (sA (cB (sB (cB (sB (cB (sB (cB (sB (bK (sB (sB (sA (sB (sB (sB (cd PG 48)))))))))))))))))) (.run (sB (cB (sB (cB (sB (cB (sB (cB (sB (bK (sB (sB (sA (sB (sB (sB (cd PG 48)))))))))))))))))))))) (by kernel_rfl) ?_
  generalize execG π PG C = H
  kernel_rfl
noncomputable def p48_3 {α : Type} (π : Prims α) (C : CallF α) (fr : Fr) (σ : St) (k : Ex → Fr → St → Option α) : Option α :=
  (fun no => (dV fr.slots no fun t0 r1 => (dV r1 no fun t1 r2 => (dK 4 r2 no fun r6 => (dB r6 no fun t6 r7 => (dK 4 r7 no fun r11 => (dV r11 no fun t11 r12 => (dK 12 r12 no fun r24 => (dV r24 no fun t24 r25 => (dK 6 r25 no fun r31 => (dV r31 no fun t31 r32 => (dK 2 r32 no fun r34 => (dV r34 no fun t34 r35 => (dV r35 no fun t35 r36 => (dV r36 no fun t36 r37 => (dV r37 no fun t37 r38 => (dV r38 no fun t38 r39 => (dV r39 no fun t39 r40 => (dV r40 no fun t40 r41 => (dV r41 no fun t41 r42 => (dV r42 no fun t42 r43 => (dV r43 no fun t43 r44 => (dV r44 no fun t44 r45 => (dV r45 no fun t45 r46 => (dV r46 no fun t46 r47 => (dV r47 no fun t47 r48 => (dV r48 no fun t48 r49 => (dV r49 no fun t49 r50 => (dV r50 no fun t50 r51 => (dV r51 no fun t51 r52 => (dV r52 no fun t52 r53 => (dV r53 no fun t53 r54 => (dV r54 no fun t54 r55 => (dV r55 no fun t55 r56 => (dV r56 no fun t56 r57 => (dV r57 no fun t57 r58 => (dV r58 no fun t58 r59 => (dV r59 no fun t59 r60 => (dV r60 no fun t60 r61 => (dV r61 no fun t61 r62 => (dV r62 no fun t62 r63 => (dV r63 no fun t63 r64 => (dV r64 no fun t64 r65 => (dV r65 no fun t65 r66 => (dV r66 no fun t66 r67 => (dV r67 no fun t67 r68 => (dV r68 no fun t68 r69 => (dV r69 no fun t69 r70 => (dK 7 r70 no fun r77 => (dN fr.esc 32768 no (π.cond t31 (fun _ => (π.nc t11 fun _ => (π.add t11 0 fun x0 => (π.add x0 2 fun x1 => (π.ld σ true 9 x1 fun x2 => (π.nc t11 fun _ => (π.add t11 0 fun x3 => (π.add x3 11 fun x4 => (π.ld σ false 1 x4 fun x5 => (π.nc t11 fun _ => (π.add t11 0 fun x6 => (π.add x6 12 fun x7 => (π.ld σ false 1 x7 fun x8 => (π.part false t6 6 1 fun x9 => (π.part false t6 4 1 fun x10 => (π.nc t1 fun _ => (π.add t1 0 fun x11 => (π.idxAddr PG 25 x11 x10 fun x12 => (π.ld σ true 9 x12 fun x13 => ((lockCall false C) 82 [t0, t1, x2, x5, x8, x9, x13] σ (fun x14 σ15 => (π.extract x14 0 fun x16 => (π.extract x14 1 fun x17 => (π.nc t11 fun _ => (π.add t11 24 fun x18 => (π.st σ15 1 x18 x16 fun σ19 => (π.nc t11 fun _ => (π.add t11 25 fun x20 => (π.st σ19 3 x20 x17 fun σ21 => (π.nc t11 fun _ => (π.add t11 13 fun x22 => (π.add x22 2 fun x23 => (π.st σ21 1 x23 (.int .i64 (Int.ofNat 0)) fun σ24 => (updS fr [(34, .val x14), (0, .val t11), (0, .val t11), (0, .val t0), (0, .val t1), (0, .val t11), (0, .val t11), (0, .val x0), (0, .val x1), (0, .val x2), (0, .val t11), (0, .val t11), (0, .val x3), (0, .val x4), (0, .val x5), (0, .val t11), (0, .val t11), (0, .val x6), (0, .val x7), (0, .val x8), (0, .ref 6 6), (0, .val x9), (0, .val t1), (0, .ref 6 4), (0, .val x10), (0, .val t1), (0, .val x11), (0, .val x12), (0, .val x13), (0, .val x14), (0, .val x16), (0, .val x17), (0, .val t11), (0, .val x18), (0, .val t11), (0, .val x20), (0, .val t11), (0, .val t11), (0, .val x22), (0, .val x23)] fun fr25 => (k .normal fr25 σ24))))))))))))))) (fun x26 σ27 => none))))))))))))))))))))) (fun _ => (π.bin PG .eql 3 true t24 (.int .i64 (Int.ofNat 20)) fun x28 => (π.cond x28 (fun _ => (updS fr [(74, .val x28), (0, .val x28)] fun fr29 => (p48_4 π C fr29 σ k))) (fun _ => (π.bin PG .eql 3 true t24 (.int .i64 (Int.ofNat 22)) fun x30 => (updS fr [(74, .val x30), (0, .val x28), (0, .val x30)] fun fr31 => (p48_4 π C fr31 σ k)))))))))))))))))))))))))))))))))))))))))))))))))))))))))) (execG π PG C (sB (cB (sB (bK (sB (sB (sA (sB (sB (sB (cd PG 48))))))))))) fr σ k)
theorem p48_3_eq {α : Type} (π : Prims α) (C : CallF α) : execG π PG C (sB (cB (sB (bK (sB (sB (sA (sB (sB (sB (cd PG 48))))))))))) = p48_3 π C := by
  funext fr σ k
  obtain ⟨slots, defers, esc, rc⟩ := fr
  unfold p48_3
  iterate 2 (refine dV_eq fun _ _ h => ?_; subst h)
  iterate 4 (refine dKs_eq fun _ _ h => ?_; subst h)
  refine dK0_eq ?_
  refine dB_eq fun _ _ h => ?_; subst h
  iterate 4 (refine dKs_eq fun _ _ h => ?_; subst h)
  refine dK0_eq ?_
  refine dV_eq fun _ _ h => ?_; subst h
  iterate 12 (refine dKs_eq fun _ _ h => ?_; subst h)
  refine dK0_eq ?_
  refine dV_eq fun _ _ h => ?_; subst h
  iterate 6 (refine dKs_eq fun _ _ h => ?_; subst h)
  refine dK0_eq ?_
  refine dV_eq fun _ _ h => ?_; subst h
  iterate 2 (refine dKs_eq fun _ _ h => ?_; subst h)
  refine dK0_eq ?_
  iterate 36 (refine dV_eq fun _ _ h => ?_; subst h)
  iterate 7 (refine dKs_eq fun _ _ h => ?_; subst h)
  refine dK0_eq ?_
  refine dN_eq fun h => ?_; subst h
  try rw [← p48_4_eq π C]
  refine sk_eq (.cond (cX (sB (cB (sB (bK (sB (sB (sA (sB (sB (sB (cd PG 48)))))))))))) (.seq (.run (sA (cA (sB (cB (sB (bK (sB (sB (sA (sB (sB (sB (cd PG 48)))))))))))))) (.run (sB (cA (sB (cB (sB (bK (sB (sB (sA (sB (sB (sB (cd PG 48))))))))))))))) (.seq (.seq (.run (sA (sA (cB (sB (cB (sB (bK (sB (sB (sA (sB (sB (sB (cd PG 48))))))))))))))) (.cond (cX (sB (sA (cB (sB (cB (sB (bK (sB (sB (sA (sB (sB (sB (cd PG 48))))))))))))))) (.run (cA (sB (sA (cB (sB (cB (sB (bK (sB (sB (sA (sB (sB (sB (cd PG 48)))))))))))))))) (.run (cB (sB (sA (cB (sB (cB (sB (bK (sB (sB (sA (sB (sB (sB (cd PG 48)))))))))))))))))) (.hole (sB (cB (sB (cB (sB (bK (sB (sB (sA (sB (sB (sB (cd PG 48)))))))))))))))) (by kernel_rfl) ?_
  generalize execG π PG C = H
  kernel_rfl
noncomputable def p48_2 {α : Type} (π : Prims α) (C : CallF α) (fr : Fr) (σ : St) (k : Ex → Fr → St → Option α) : Option α :=
  (fun no => (dK 11 fr.slots no fun r11 => (dV r11 no fun t11 r12 => (dB r12 no fun t12 r13 => (dK 11 r13 no fun r24 => (dV r24 no fun t24 r25 => (dK 1 r25 no fun r26 => (dV r26 no fun t26 r27 => (dK 7 r27 no fun r34 => (dN fr.esc 32768 no (π.cond t26 (fun _ => (C 81 [t11] σ (fun x0 σ1 => (π.put t12 0 9 x0 fun c2 => (updS fr [(12, .box c2), (16, .val t11), (0, .val x0)] fun fr3 => (k .normal fr3 σ1)))) (fun x4 σ5 => (updS fr [(29, .val t11)] fun fr6 => (k (.panic x4) fr6 σ5))))) (fun _ => (π.bin PG .eql 3 true t24 (.int .i64 (Int.ofNat 7)) fun x7 => (π.cond x7 (fun _ => (updS fr [(31, .val x7), (0, .val x7)] fun fr8 => (p48_3 π C fr8 σ k))) (fun _ => (π.bin PG .eql 3 true t24 (.int .i64 (Int.ofNat 29)) fun x9 => (updS fr [(31, .val x9), (0, .val x7), (0, .val x9)] fun fr10 => (p48_3 π C fr10 σ k)))))))))))))))))) (execG π PG C (sB (bK (sB (sB (sA (sB (sB (sB (cd PG 48))))))))) fr σ k)
theorem p48_2_eq {α : Type} (π : Prims α) (C : CallF α) : execG π PG C (sB (bK (sB (sB (sA (sB (sB (sB (cd PG 48))))))))) = p48_2 π C := by
  funext fr σ k
  obtain ⟨slots, defers, esc, rc⟩ := fr
  unfold p48_2
  iterate 11 (refine dKs_eq fun _ _ h => ?_; subst h)
  refine dK0_eq ?_
  refine dV_eq fun _ _ h => ?_; subst h
  refine dB_eq fun _ _ h => ?_; subst h
  iterate 11 (refine dKs_eq fun _ _ h => ?_; subst h)
  refine dK0_eq ?_
  refine dV_eq fun _ _ h => ?_; subst h
  iterate 1 (refine dKs_eq fun _ _ h => ?_; subst h)
  refine dK0_eq ?_
  refine dV_eq fun _ _ h => ?_; subst h
  iterate 7 (refine dKs_eq fun _ _ h => ?_; subst h)
  refine dK0_eq ?_
  refine dN_eq fun h => ?_; subst h
  try rw [← p48_3_eq π C]
  refine sk_eq (.cond (cX (sB (bK (sB (sB (sA (sB (sB (sB (cd PG 48)))))))))) (.run (cA (sB (bK (sB (sB (sA (sB (sB (sB (cd PG 48))))))))))) (.seq (.seq (.run (sA (sA (cB (sB (bK (sB (sB (sA (sB (sB (sB (cd PG 48))))))))))))) (.cond (cX (sB (sA (cB (sB (bK (sB (sB (sA (sB (sB (sB (cd PG 48))))))))))))) (.run (cA (sB (sA (cB (sB (bK (sB (sB (sA (sB (sB (sB (cd PG 48)))))))))))))) (.run (cB (sB (sA (cB (sB (bK (sB (sB (sA (sB (sB (sB (cd PG 48)))))))))))))))) (.hole (sB (cB (sB (bK (sB (sB (sA (sB (sB (sB (cd PG 48)))))))))))))) (by kernel_rfl) ?_
  generalize execG π PG C = H
  kernel_rfl
noncomputable def p48_5 {α : Type} (π : Prims α) (C : CallF α) (fr : Fr) (σ : St) (k : Ex → Fr → St → Option α) : Option α :=
  (fun no => (dK 8 fr.slots no fun r8 => (dV r8 no fun t8 r9 => (dB r9 no fun t9 r10 => (dV r10 no fun t10 r11 => (dV r11 no fun t11 r12 => (dK 90 r12 no fun r102 => (dV r102 no fun t102 r103 => (dV r103 no fun t103 r104 => (dV r104 no fun t104 r105 => (dV r105 no fun t105 r106 => (dV r106 no fun t106 r107 => (dV r107 no fun t107 r108 => (dV r108 no fun t108 r109 => (dV r109 no fun t109 r110 => (dN fr.esc 32768 no (π.nc t11 fun _ => (π.add t11 24 fun x0 => (π.ld σ false 1 x0 fun x1 => (π.nc t11 fun _ => (π.add t11 25 fun x2 => (π.ld σ true 3 x2 fun x3 => (π.put t9 0 3 x3 fun c4 => (updS fr [(8, .val x1), (0, .box c4), (0, .val (.bool true)), (91, .val t11), (0, .val t11), (0, .val x0), (0, .val x1), (0, .val t11), (0, .val t11), (0, .val x2), (0, .val x3)] fun fr5 => (k .ret fr5 σ))))))))))))))))))))))))) (execG π PG C (sB (sB (sB (sB (sB (cd PG 48)))))) fr σ k)
theorem p48_5_eq {α : Type} (π : Prims α) (C : CallF α) : execG π PG C (sB (sB (sB (sB (sB (cd PG 48)))))) = p48_5 π C := by
  funext fr σ k
  obtain ⟨slots, defers, esc, rc⟩ := fr
  unfold p48_5
  iterate 8 (refine dKs_eq fun _ _ h => ?_; subst h)
  refine dK0_eq ?_
  refine dV_eq fun _ _ h => ?_; subst h
  refine dB_eq fun _ _ h => ?_; subst h
  iterate 2 (refine dV_eq fun _ _ h => ?_; subst h)
  iterate 90 (refine dKs_eq fun _ _ h => ?_; subst h)
  refine dK0_eq ?_
  iterate 8 (refine dV_eq fun _ _ h => ?_; subst h)
  refine dN_eq fun h => ?_; subst h
  refine sk_eq (.seq (.run (sA (sB (sB (sB (sB (sB (cd PG 48)))))))) (.run (sB (sB (sB (sB (sB (sB (cd PG 48))))))))) (by kernel_rfl) ?_
  generalize execG π PG C = H
  kernel_rfl
noncomputable def p48_1 {α : Type} (π : Prims α) (C : CallF α) (fr : Fr) (σ : St) (k : Ex → Fr → St → Option α) : Option α :=
  (fun no => (dK 1 fr.slots no fun r1 => (dV r1 no fun t1 r2 => (dK 4 r2 no fun r6 => (dB r6 no fun t6 r7 => (dK 4 r7 no fun r11 => (dV r11 no fun t11 r12 => (dB r12 no fun t12 r13 => (dK 77 r13 no fun r90 => (dV r90 no fun t90 r91 => (dV r91 no fun t91 r92 => (dV r92 no fun t92 r93 => (dV r93 no fun t93 r94 => (dV r94 no fun t94 r95 => (dV r95 no fun t95 r96 => (dV r96 no fun t96 r97 => (dV r97 no fun t97 r98 => (dK 4 r98 no fun r102 => (dN fr.esc 32768 no (π.nc t11 fun _ => (π.add t11 25 fun x0 => (π.add x0 0 fun x1 => (π.ld σ false 1 x1 fun x2 => (π.un .not x2 fun x3 => (π.cond x3 (fun _ => (π.nc t11 fun _ => (π.add t11 13 fun x4 => (π.add x4 2 fun x5 => (π.ld σ false 1 x5 fun x6 => (π.part true t12 0 9 fun x7 => ((lockCall false C) 78 [t1, x6, x7] σ (fun x8 σ9 => (π.part false t6 9 1 fun x10 => (C 79 [t1, x10] σ9 (fun x11 σ12 => (updS fr [(84, .val t11), (0, .val t11), (0, .val x0), (0, .val x1), (0, .val x2), (0, .val x3), (0, .val t1), (0, .val t11), (0, .val t11), (0, .val x4), (0, .val x5), (0, .val x6), (0, .val x7), (0, .val x8), (0, .val t1), (0, .ref 6 9), (0, .val x10), (0, .val x11)] fun fr13 => (p48_5 π C fr13 σ12 k))) (fun x14 σ15 => (updS fr [(84, .val t11), (0, .val t11), (0, .val x0), (0, .val x1), (0, .val x2), (0, .val x3), (0, .val t1), (0, .val t11), (0, .val t11), (0, .val x4), (0, .val x5), (0, .val x6), (0, .val x7), (0, .val x8), (0, .val t1), (0, .ref 6 9), (0, .val x10)] fun fr16 => (k (.panic x14) fr16 σ15)))))) (fun x17 σ18 => none)))))))) (fun _ => (updS fr [(84, .val t11), (0, .val t11), (0, .val x0), (0, .val x1), (0, .val x2), (0, .val x3)] fun fr19 => (p48_5 π C fr19 σ k)))))))))))))))))))))))))))) (execG π PG C (sB (sB (sB (sB (cd PG 48))))) fr σ k)
theorem p48_1_eq {α : Type} (π : Prims α) (C : CallF α) : execG π PG C (sB (sB (sB (sB (cd PG 48))))) = p48_1 π C := by
  funext fr σ k
  obtain ⟨slots, defers, esc, rc⟩ := fr
  unfold p48_1
  iterate 1 (refine dKs_eq fun _ _ h => ?_; subst h)
  refine dK0_eq ?_
  refine dV_eq fun _ _ h => ?_; subst h
  iterate 4 (refine dKs_eq fun _ _ h => ?_; subst h)
  refine dK0_eq ?_
  refine dB_eq fun _ _ h => ?_; subst h
  iterate 4 (refine dKs_eq fun _ _ h => ?_; subst h)
  refine dK0_eq ?_
  refine dV_eq fun _ _ h => ?_; subst h
  refine dB_eq fun _ _ h => ?_; subst h
  iterate 77 (refine dKs_eq fun _ _ h => ?_; subst h)
  refine dK0_eq ?_
  iterate 8 (refine dV_eq fun _ _ h => ?_; subst h)
  iterate 4 (refine dKs_eq fun _ _ h => ?_; subst h)
  refine dK0_eq ?_
  refine dN_eq fun h => ?_; subst h
  try rw [← p48_5_eq π C]
  refine sk_eq (.seq (.seq (.run (sA (sA (sB (sB (sB (sB (cd PG 48)))))))) (.cond (cX (sB (sA (sB (sB (sB (sB (cd PG 48)))))))) (.seq (.run (sA (cA (sB (sA (sB (sB (sB (sB (cd PG 48)))))))))) (.run (sB (cA (sB (sA (sB (sB (sB (sB (cd PG 48))))))))))) (.run (cB (sB (sA (sB (sB (sB (sB (cd PG 48))))))))))) (.hole (sB (sB (sB (sB (sB (cd PG 48)))))))) (by kernel_rfl) ?_
  generalize execG π PG C = H
  kernel_rfl
noncomputable def p48_0 {α : Type} (π : Prims α) (C : CallF α) (fr : Fr) (σ : St) (k : Ex → Fr → St → Option α) : Option α :=
  (fun no => (dV fr.slots no fun t0 r1 => (dV r1 no fun t1 r2 => (dV r2 no fun t2 r3 => (dK 26 r3 no fun r29 => (dN fr.esc 32768 no (dataF t2 6 fun _ => (nbS fr 6 (AVal.cells t2) fun fr0 => (updS fr0 [(8, .val (.slice none 0))] fun fr1 => (nbS fr1 9 zl60 fun fr2 => (π.part true (AVal.cells t2) 0 11 fun x3 => (π.put zl186 13 11 x3 fun c4 => (dataF (.agg c4) 15 fun _ => π.alloc σ (.cells 0 (AVal.cells (.agg c4))) fun x5 σ6 => (updS fr2 [(10, .val (.bool false)), (0, .val x5), (1, .val x3), (0, .val (.agg c4)), (0, .val x5)] fun fr7 => (nbS fr7 12 zl24 fun fr8 => (π.part true (AVal.cells t2) 0 11 fun x9 => (C 80 [t0, t1, x9] σ6 (fun x10 σ11 => (π.nc x5 fun _ => (π.add x5 0 fun x12 => (π.st σ11 13 x12 x10 fun σ13 => (π.part false (AVal.cells t2) 0 1 fun x14 => (π.bin PG .eql 3 true x14 (.int .i64 (Int.ofNat 6)) fun x15 => (π.cond x15 (fun _ => (updS fr8 [(16, .val x5), (0, .val t0), (0, .val t1), (0, .val x9), (0, .val x10), (0, .val x5), (0, .val x12), (0, .ref 6 0), (0, .val x14), (1, .val x15), (0, .val x15)] fun fr16 => (p48_2 π C fr16 σ13 (blkK 0 (seqK (p48_1 π C) k))))) (fun _ => (π.bin PG .eql 3 true x14 (.int .i64 (Int.ofNat 28)) fun x17 => (updS fr8 [(16, .val x5), (0, .val t0), (0, .val t1), (0, .val x9), (0, .val x10), (0, .val x5), (0, .val x12), (0, .ref 6 0), (0, .val x14), (1, .val x17), (0, .val x15), (0, .val x17)] fun fr18 => (p48_2 π C fr18 σ13 (blkK 0 (seqK (p48_1 π C) k))))))))))))) (fun x19 σ20 => (updS fr8 [(16, .val x5), (0, .val t0), (0, .val t1), (0, .val x9)] fun fr21 => (k (.panic x19) fr21 σ20)))))))))))))))))))) (execG π PG C (cd PG 48) fr σ k)
theorem p48_0_eq {α : Type} (π : Prims α) (C : CallF α) : execG π PG C (cd PG 48) = p48_0 π C := by
  funext fr σ k
  obtain ⟨slots, defers, esc, rc⟩ := fr
  unfold p48_0
  iterate 3 (refine dV_eq fun _ _ h => ?_; subst h)
  iterate 26 (refine dKs_eq fun _ _ h => ?_; subst h)
  refine dK0_eq ?_
  refine dN_eq fun h => ?_; subst h
  try rw [← p48_2_eq π C]
  try rw [← p48_1_eq π C]
  refine sk_eq (.seq (.run (sA (cd PG 48))) (.seq (.run (sA (sB (cd PG 48)))) (.seq (.run (sA (sB (sB (cd PG 48))))) (.seq (.seq (.run (sA (sA (sB (sB (sB (cd PG 48))))))) (.seq (.run (sA (sB (sA (sB (sB (sB (cd PG 48)))))))) (.block 0 (.seq (.seq (.run (sA (sA (bK (sB (sB (sA (sB (sB (sB (cd PG 48))))))))))) (.cond (cX (sB (sA (bK (sB (sB (sA (sB (sB (sB (cd PG 48))))))))))) (.run (cA (sB (sA (bK (sB (sB (sA (sB (sB (sB (cd PG 48)))))))))))) (.run (cB (sB (sA (bK (sB (sB (sA (sB (sB (sB (cd PG 48)))))))))))))) (.hole (sB (bK (sB (sB (sA (sB (sB (sB (cd PG 48)))))))))))))) (.hole (sB (sB (sB (sB (cd PG 48)))))))))) (by kernel_rfl) ?_
  generalize execG π PG C = H
  kernel_rfl
-- 77 ravelin/xcap made
noncomputable def p77_4 {α : Type} (π : Prims α) (C : CallF α) (fr : Fr) (σ : St) (k : Ex → Fr → St → Option α) : Option α :=
  (fun no => (dK 4 fr.slots no fun r4 => (dB r4 no fun t4 r5 => (dK 1 r5 no fun r6 => (dB r6 no fun t6 r7 => (dK 1 r7 no fun r8 => (dV r8 no fun t8 r9 => (dK 59 r9 no fun r68 => (dV r68 no fun t68 r69 => (dK 11 r69 no fun r80 => (dN fr.esc 0 no (π.cond t68 (fun _ => (π.part true t6 0 9 fun x0 => (C 124 [x0, t8, (.bool false)] σ (fun x1 σ2 => (π.put t4 0 9 x1 fun c3 => (updS fr [(4, .box c3), (0, .val (.bool true)), (71, .val x0), (0, .val t8), (0, .val x1)] fun fr4 => (k .ret fr4 σ2)))) (fun x5 σ6 => (updS fr [(77, .val x0), (0, .val t8)] fun fr7 => (k (.panic x5) fr7 σ6)))))) (fun _ => (k .normal fr σ)))))))))))))) (execG π PG C (sB (cB (sB (cB (sB (cB (sB (bK (sA (sB (sB (sB (cd PG 77))))))))))))) fr σ k)
theorem p77_4_eq {α : Type} (π : Prims α) (C : CallF α) : execG π PG C (sB (cB (sB (cB (sB (cB (sB (bK (sA (sB (sB (sB (cd PG 77))))))))))))) = p77_4 π C := by
  funext fr σ k
  obtain ⟨slots, defers, esc, rc⟩ := fr
  unfold p77_4
  iterate 4 (refine dKs_eq fun _ _ h => ?_; subst h)
  refine dK0_eq ?_
  refine dB_eq fun _ _ h => ?_; subst h
  iterate 1 (refine dKs_eq fun _ _ h => ?_; subst h)
  refine dK0_eq ?_
  refine dB_eq fun _ _ h => ?_; subst h
  iterate 1 (refine dKs_eq fun _ _ h => ?_; subst h)
  refine dK0_eq ?_
  refine dV_eq fun _ _ h => ?_; subst h
  iterate 59 (refine dKs_eq fun _ _ h => ?_; subst h)
  refine dK0_eq ?_
  refine dV_eq fun _ _ h => ?_; subst h
  iterate 11 (refine dKs_eq fun _ _ h => ?_; subst h)
  refine dK0_eq ?_
  refine dN_eq fun h => ?_; subst h
  refine sk_eq (.cond (cX (sB (cB (sB (cB (sB (cB (sB (bK (sA (sB (sB (sB (cd PG 77)))))))))))))) (.seq (.run (sA (cA (sB (cB (sB (cB (sB (cB (sB (bK (sA (sB (sB (sB (cd PG 77)))))))))))))))) (.run (sB (cA (sB (cB (sB (cB (sB (cB (sB (bK (sA (sB (sB (sB (cd PG 77))))))))))))))))) (.run (cB (sB (cB (sB (cB (sB (cB (sB (bK (sA (sB (sB (sB (cd PG 77)))))))))))))))) (by kernel_rfl) ?_
  generalize execG π PG C = H
  kernel_rfl
noncomputable def p77_3 {α : Type} (π : Prims α) (C : CallF α) (fr : Fr) (σ : St) (k : Ex → Fr → St → Option α) : Option α :=
  (fun no => (dK 3 fr.slots no fun r3 => (dB r3 no fun t3 r4 => (dB r4 no fun t4 r5 => (dK 1 r5 no fun r6 => (dB r6 no fun t6 r7 => (dK 1 r7 no fun r8 => (dV r8 no fun t8 r9 => (dK 44 r9 no fun r53 => (dV r53 no fun t53 r54 => (dK 23 r54 no fun r77 => (dN fr.esc 0 no (π.cond t53 (fun _ => (π.part true t6 0 9 fun x0 => (π.part false t6 8 1 fun x1 => (π.bin PG .add 22 false x1 t8 fun x2 => (C 36 [x0, x2] σ (fun x3 σ4 => (π.put t4 0 9 x3 fun c5 => (updS fr [(4, .box c5), (0, .val (.bool true)), (56, .val x0), (0, .ref 6 8), (0, .val x1), (0, .val t8), (0, .val x2), (0, .val x3)] fun fr6 => (k .ret fr6 σ4)))) (fun x7 σ8 => (updS fr [(62, .val x0), (0, .ref 6 8), (0, .val x1), (0, .val t8), (0, .val x2)] fun fr9 => (k (.panic x7) fr9 σ8)))))))) (fun _ => (π.part false t3 0 1 fun x10 => (π.bin PG .eql 3 true x10 (.int .i64 (Int.ofNat 25)) fun x11 => (gdF x11 (fun _ => (π.part false t3 1 1 fun x12 => (π.bin PG .eql 3 true x12 (.int .i64 (Int.ofNat 2)) fun x13 => (updS fr [(68, .val x13), (0, .ref 3 0), (0, .val x10), (0, .val x11), (0, .val (.bool true)), (0, .ref 3 1), (0, .val x12), (0, .val x13), (0, .val x13)] fun fr14 => (p77_4 π C fr14 σ k))))) (fun _ => (updS fr [(68, .val (.bool false)), (0, .ref 3 0), (0, .val x10), (0, .val x11), (0, .val (.bool false)), (0, .val (.tuple [])), (0, .val (.tuple [])), (0, .val (.tuple [])), (0, .val (.bool false))] fun fr15 => (p77_4 π C fr15 σ k))) (fun _ => none)))))))))))))))))) (execG π PG C (sB (cB (sB (cB (sB (bK (sA (sB (sB (sB (cd PG 77))))))))))) fr σ k)
theorem p77_3_eq {α : Type} (π : Prims α) (C : CallF α) : execG π PG C (sB (cB (sB (cB (sB (bK (sA (sB (sB (sB (cd PG 77))))))))))) = p77_3 π C := by
  funext fr σ k
  obtain ⟨slots, defers, esc, rc⟩ := fr
  unfold p77_3
  iterate 3 (refine dKs_eq fun _ _ h => ?_; subst h)
  refine dK0_eq ?_
  iterate 2 (refine dB_eq fun _ _ h => ?_; subst h)
  iterate 1 (refine dKs_eq fun _ _ h => ?_; subst h)
  refine dK0_eq ?_
  refine dB_eq fun _ _ h => ?_; subst h
  iterate 1 (refine dKs_eq fun _ _ h => ?_; subst h)
  refine dK0_eq ?_
  refine dV_eq fun _ _ h => ?_; subst h
  iterate 44 (refine dKs_eq fun _ _ h => ?_; subst h)
  refine dK0_eq ?_
  refine dV_eq fun _ _ h => ?_; subst h
  iterate 23 (refine dKs_eq fun _ _ h => ?_; subst h)
  refine dK0_eq ?_
  refine dN_eq fun h => ?_; subst h
  try rw [← p77_4_eq π C]
  refine sk_eq (.cond (cX (sB (cB (sB (cB (sB (bK (sA (sB (sB (sB (cd PG 77)))))))))))) (.seq (.run (sA (cA (sB (cB (sB (cB (sB (bK (sA (sB (sB (sB (cd PG 77)))))))))))))) (.run (sB (cA (sB (cB (sB (cB (sB (bK (sA (sB (sB (sB (cd PG 77))))))))))))))) (.seq (.run (sA (cB (sB (cB (sB (cB (sB (bK (sA (sB (sB (sB (cd PG 77)))))))))))))) (.hole (sB (cB (sB (cB (sB (cB (sB (bK (sA (sB (sB (sB (cd PG 77)))))))))))))))) (by kernel_rfl) ?_
  generalize execG π PG C = H
  kernel_rfl
noncomputable def p77_2 {α : Type} (π : Prims α) (C : CallF α) (fr : Fr) (σ : St) (k : Ex → Fr → St → Option α) : Option α :=
  (fun no => (dK 4 fr.slots no fun r4 => (dB r4 no fun t4 r5 => (dK 1 r5 no fun r6 => (dB r6 no fun t6 r7 => (dB r7 no fun t7 r8 => (dK 1 r8 no fun r9 => (dV r9 no fun t9 r10 => (dV r10 no fun t10 r11 => (dK 42 r11 no fun r53 => (dN fr.esc 0 no (π.cond t10 (fun _ => (π.part true t6 0 9 fun x0 => (π.part true t7 0 9 fun x1 => (callV C t9 [x0, x1] σ (fun x2 σ3 => (π.put t4 0 9 x2 fun c4 => (updS fr [(4, .box c4), (0, .val (.bool true)), (42, .val t10), (0, .val t9), (0, .val x0), (0, .val x1), (0, .val x2)] fun fr5 => (k .ret fr5 σ3)))) (fun x6 σ7 => (updS fr [(48, .val t10), (0, .val t9), (0, .val x0), (0, .val x1)] fun fr8 => (k (.panic x6) fr8 σ7))))))) (fun _ => (updS fr [(48, .val t10)] fun fr9 => (k .normal fr9 σ))))))))))))))) (execG π PG C (sB (cA (sB (cB (sB (bK (sA (sB (sB (sB (cd PG 77))))))))))) fr σ k)
theorem p77_2_eq {α : Type} (π : Prims α) (C : CallF α) : execG π PG C (sB (cA (sB (cB (sB (bK (sA (sB (sB (sB (cd PG 77))))))))))) = p77_2 π C := by
  funext fr σ k
  obtain ⟨slots, defers, esc, rc⟩ := fr
  unfold p77_2
  iterate 4 (refine dKs_eq fun _ _ h => ?_; subst h)
  refine dK0_eq ?_
  refine dB_eq fun _ _ h => ?_; subst h
  iterate 1 (refine dKs_eq fun _ _ h => ?_; subst h)
  refine dK0_eq ?_
  iterate 2 (refine dB_eq fun _ _ h => ?_; subst h)
  iterate 1 (refine dKs_eq fun _ _ h => ?_; subst h)
  refine dK0_eq ?_
  iterate 2 (refine dV_eq fun _ _ h => ?_; subst h)
  iterate 42 (refine dKs_eq fun _ _ h => ?_; subst h)
  refine dK0_eq ?_
  refine dN_eq fun h => ?_; subst h
  refine sk_eq (.seq (.run (sA (sB (cA (sB (cB (sB (bK (sA (sB (sB (sB (cd PG 77))))))))))))) (.cond (cX (sB (sB (cA (sB (cB (sB (bK (sA (sB (sB (sB (cd PG 77))))))))))))) (.seq (.run (sA (cA (sB (sB (cA (sB (cB (sB (bK (sA (sB (sB (sB (cd PG 77))))))))))))))) (.run (sB (cA (sB (sB (cA (sB (cB (sB (bK (sA (sB (sB (sB (cd PG 77)))))))))))))))) (.run (cB (sB (sB (cA (sB (cB (sB (bK (sA (sB (sB (sB (cd PG 77)))))))))))))))) (by kernel_rfl) ?_
  generalize execG π PG C = H
  kernel_rfl
noncomputable def p77_1 {α : Type} (π : Prims α) (C : CallF α) (fr : Fr) (σ : St) (k : Ex → Fr → St → Option α) : Option α :=
  (fun no => (dK 4 fr.slots no fun r4 => (dB r4 no fun t4 r5 => (dK 76 r5 no fun r81 => (dN fr.esc 0 no (π.put t4 0 9 (.agg zl24) fun c0 => (updS fr [(4, .box c0), (0, .val (.bool false)), (74, .val (.agg zl24))] fun fr1 => (k .ret fr1 σ)))))))) (execG π PG C (sB (sB (sB (sB (cd PG 77))))) fr σ k)
theorem p77_1_eq {α : Type} (π : Prims α) (C : CallF α) : execG π PG C (sB (sB (sB (sB (cd PG 77))))) = p77_1 π C := by
  funext fr σ k
  obtain ⟨slots, defers, esc, rc⟩ := fr
  unfold p77_1
  iterate 4 (refine dKs_eq fun _ _ h => ?_; subst h)
  refine dK0_eq ?_
  refine dB_eq fun _ _ h => ?_; subst h
  iterate 76 (refine dKs_eq fun _ _ h => ?_; subst h)
  refine dK0_eq ?_
  refine dN_eq fun h => ?_; subst h
  refine sk_eq (.seq (.run (sA (sB (sB (sB (sB (cd PG 77))))))) (.run (sB (sB (sB (sB (sB (cd PG 77)))))))) (by kernel_rfl) ?_
  generalize execG π PG C = H
  kernel_rfl
noncomputable def p77_0 {α : Type} (π : Prims α) (C : CallF α) (fr : Fr) (σ : St) (k : Ex → Fr → St → Option α) : Option α :=
  (fun no => (dV fr.slots no fun t0 r1 => (dV r1 no fun t1 r2 => (dK 4 r2 no fun r6 => (dV r6 no fun t6 r7 => (dV r7 no fun t7 r8 => (dK 3 r8 no fun r11 => (dV r11 no fun t11 r12 => (dV r12 no fun t12 r13 => (dV r13 no fun t13 r14 => (dV r14 no fun t14 r15 => (dV r15 no fun t15 r16 => (dV r16 no fun t16 r17 => (dV r17 no fun t17 r18 => (dV r18 no fun t18 r19 => (dV r19 no fun t19 r20 => (dV r20 no fun t20 r21 => (dV r21 no fun t21 r22 => (dV r22 no fun t22 r23 => (dV r23 no fun t23 r24 => (dV r24 no fun t24 r25 => (dK 37 r25 no fun r62 => (dN fr.esc 0 no (dataF t1 3 fun _ => (nbS fr 3 (AVal.cells t1) fun fr0 => (nbS fr0 4 zl24 fun fr1 => (π.part false (AVal.cells t1) 3 1 fun x2 => (π.nc t0 fun _ => (π.add t0 0 fun x3 => (π.idxAddr PG 25 x3 x2 fun x4 => (π.ld σ true 9 x4 fun x5 => (π.part false (AVal.cells t1) 4 1 fun x6 => (π.nc t0 fun _ => (π.add t0 0 fun x7 => (π.idxAddr PG 25 x7 x6 fun x8 => (π.ld σ true 9 x8 fun x9 => (updS fr1 [(5, .val (.bool false)), (5, .val t0), (0, .ref 3 3), (0, .val x2), (0, .val t0), (0, .val x3), (0, .val x4), (0, .val x5), (0, .val t0), (0, .ref 3 4), (0, .val x6), (0, .val t0), (0, .val x7), (0, .val x8), (0, .val x9)] fun fr10 => (frF fr10 6 fun _ => (nbS fr10 6 zl24 fun fr11 => (frF fr11 7 fun _ => (nbS fr11 7 zl24 fun fr12 => (π.put zl24 0 9 x5 fun c13 => (π.put zl24 0 9 x9 fun c14 => (π.part false (AVal.cells t1) 5 1 fun x15 => (π.conv PG 3 22 x15 fun x16 => (π.part false (AVal.cells t1) 0 1 fun x17 => (π.bin PG .eql 3 true x17 (.int .i64 (Int.ofNat 23)) fun x18 => (π.cond x18 (fun _ => (π.part false (AVal.cells t1) 1 1 fun x19 => (π.part true c13 0 9 fun x20 => (C 122 [x19, x20] σ (fun x21 σ22 => (π.extract x21 0 fun x23 => (π.extract x21 1 fun x24 => (π.put zl24 0 9 x23 fun c25 => (updS fr12 [(4, .box c25), (0, .val x24), (0, .box c13), (0, .box c14), (0, .val x16), (16, .ref 3 5), (0, .val x15), (0, .val x16), (0, .val x18), (0, .ref 3 0), (0, .val x17), (0, .val x18), (0, .ref 3 1), (0, .val x19), (0, .val x20), (0, .val x21), (0, .val x23), (0, .val x24)] fun fr26 => (k .ret fr26 σ22)))))) (fun x27 σ28 => (updS fr12 [(6, .box c13), (0, .box c14), (0, .val x16), (16, .ref 3 5), (0, .val x15), (0, .val x16), (0, .val x18), (0, .ref 3 0), (0, .val x17), (0, .val x18), (0, .ref 3 1), (0, .val x19), (0, .val x20)] fun fr29 => (k (.panic x27) fr29 σ28))))))) (fun _ => (π.part false (AVal.cells t1) 0 1 fun x30 => (π.bin PG .eql 3 true x30 (.int .i64 (Int.ofNat 24)) fun x31 => (π.cond x31 (fun _ => (π.part false (AVal.cells t1) 1 1 fun x32 => (C 123 [x32] σ (fun x33 σ34 => (π.extract x33 0 fun x35 => (π.extract x33 1 fun x36 => (updS fr12 [(6, .box c13), (0, .box c14), (0, .val x16), (0, .val x35), (0, .val x36), (14, .ref 3 5), (0, .val x15), (0, .val x16), (0, .val x18), (0, .ref 3 0), (0, .val x17), (0, .val x18), (6, .val x31), (0, .ref 3 0), (0, .val x30), (0, .val x31), (0, .val x33), (0, .ref 3 1), (0, .val x32), (0, .val x33), (0, .val x35), (0, .val x36)] fun fr37 => (p77_2 π C fr37 σ34 (blkK 0 (seqK (p77_1 π C) k))))))) (fun x38 σ39 => (updS fr12 [(6, .box c13), (0, .box c14), (0, .val x16), (16, .ref 3 5), (0, .val x15), (0, .val x16), (0, .val x18), (0, .ref 3 0), (0, .val x17), (0, .val x18), (6, .val x31), (0, .ref 3 0), (0, .val x30), (0, .val x31), (1, .ref 3 1), (0, .val x32)] fun fr40 => (k (.panic x38) fr40 σ39)))))) (fun _ => (π.part false (AVal.cells t1) 0 1 fun x41 => (π.bin PG .eql 3 true x41 (.int .i64 (Int.ofNat 25)) fun x42 => (gdF x42 (fun _ => (π.part false (AVal.cells t1) 1 1 fun x43 => (π.bin PG .eql 3 true x43 (.int .i64 (Int.ofNat 1)) fun x44 => (updS fr12 [(6, .box c13), (0, .box c14), (0, .val x16), (16, .ref 3 5), (0, .val x15), (0, .val x16), (0, .val x18), (0, .ref 3 0), (0, .val x17), (0, .val x18), (6, .val x31), (0, .ref 3 0), (0, .val x30), (0, .val x31), (11, .val x44), (0, .ref 3 0), (0, .val x41), (0, .val x42), (0, .val (.bool true)), (0, .ref 3 1), (0, .val x43), (0, .val x44), (0, .val x44)] fun fr45 => (p77_3 π C fr45 σ (blkK 0 (seqK (p77_1 π C) k))))))) (fun _ => (updS fr12 [(6, .box c13), (0, .box c14), (0, .val x16), (16, .ref 3 5), (0, .val x15), (0, .val x16), (0, .val x18), (0, .ref 3 0), (0, .val x17), (0, .val x18), (6, .val x31), (0, .ref 3 0), (0, .val x30), (0, .val x31), (11, .val (.bool false)), (0, .ref 3 0), (0, .val x41), (0, .val x42), (0, .val (.bool false)), (0, .val (.tuple [])), (0, .val (.tuple [])), (0, .val (.tuple [])), (0, .val (.bool false))] fun fr46 => (p77_3 π C fr46 σ (blkK 0 (seqK (p77_1 π C) k))))) (fun _ => none))))))))))))))))))))))))))))))))))))))))))))))))))))))))) (execG π PG C (cd PG 77) fr σ k)
theorem p77_0_eq {α : Type} (π : Prims α) (C : CallF α) : execG π PG C (cd PG 77) = p77_0 π C := by
  funext fr σ k
  obtain ⟨slots, defers, esc, rc⟩ := fr
  unfold p77_0
  iterate 2 (refine dV_eq fun _ _ h => ?_; subst h)
  iterate 4 (refine dKs_eq fun _ _ h => ?_; subst h)
  refine dK0_eq ?_
  iterate 2 (refine dV_eq fun _ _ h => ?_; subst h)
  iterate 3 (refine dKs_eq fun _ _ h => ?_; subst h)
  refine dK0_eq ?_
  iterate 14 (refine dV_eq fun _ _ h => ?_; subst h)
  iterate 37 (refine dKs_eq fun _ _ h => ?_; subst h)
  refine dK0_eq ?_
  refine dN_eq fun h => ?_; subst h
  try rw [← p77_3_eq π C]
  try rw [← p77_2_eq π C]
  try rw [← p77_1_eq π C]
  refine sk_eq (.seq (.run (sA (cd PG 77))) (.seq (.run (sA (sB (cd PG 77)))) (.seq (.run (sA (sB (sB (cd PG 77))))) (.seq (.block 0 (.seq (.run (sA (bK (sA (sB (sB (sB (cd PG 77)))))))) (.cond (cX (sB (bK (sA (sB (sB (sB (cd PG 77)))))))) (.seq (.run (sA (cA (sB (bK (sA (sB (sB (sB (cd PG 77)))))))))) (.run (sB (cA (sB (bK (sA (sB (sB (sB (cd PG 77))))))))))) (.seq (.run (sA (cB (sB (bK (sA (sB (sB (sB (cd PG 77)))))))))) (.cond (cX (sB (cB (sB (bK (sA (sB (sB (sB (cd PG 77)))))))))) (.seq (.run (sA (cA (sB (cB (sB (bK (sA (sB (sB (sB (cd PG 77)))))))))))) (.hole (sB (cA (sB (cB (sB (bK (sA (sB (sB (sB (cd PG 77))))))))))))) (.seq (.run (sA (cB (sB (cB (sB (bK (sA (sB (sB (sB (cd PG 77)))))))))))) (.hole (sB (cB (sB (cB (sB (bK (sA (sB (sB (sB (cd PG 77)))))))))))))))))) (.hole (sB (sB (sB (sB (cd PG 77)))))))))) (by kernel_rfl) ?_
  generalize execG π PG C = H
  kernel_rfl
-- 11 ravelin/ravelinlaw24 Begin
noncomputable def p11_5 {α : Type} (π : Prims α) (C : CallF α) (fr : Fr) (σ : St) (k : Ex → Fr → St → Option α) : Option α :=
  (fun no => (dK 1 fr.slots no fun r1 => (dB r1 no fun t1 r2 => (dK 1 r2 no fun r3 => (dV r3 no fun t3 r4 => (dK 2 r4 no fun r6 => (dV r6 no fun t6 r7 => (dK 23 r7 no fun r30 => (dV r30 no fun t30 r31 => (dV r31 no fun t31 r32 => (dV r32 no fun t32 r33 => (dV r33 no fun t33 r34 => (dV r34 no fun t34 r35 => (dV r35 no fun t35 r36 => (dV r36 no fun t36 r37 => (dV r37 no fun t37 r38 => (dV r38 no fun t38 r39 => (dV r39 no fun t39 r40 => (dV r40 no fun t40 r41 => (dV r41 no fun t41 r42 => (dV r42 no fun t42 r43 => (dV r43 no fun t43 r44 => (dN fr.esc 562949953421312 no (π.part false t1 1 1 fun x0 => (π.idxAddr PG 35 x0 t6 fun x1 => (π.ld σ true 11 x1 fun x2 => ((lockCall true C) 25 [x2] σ (fun x3 σ4 => (π.part false t1 1 1 fun x5 => (π.idxAddr PG 35 x5 t6 fun x6 => (π.add x6 2 fun x7 => (π.ld σ4 true 9 x7 fun x8 => ((lockCall false C) 24 [t3, x3, x8] σ4 (fun x9 σ10 => (π.bin PG .add 3 true t6 (.int .i64 (Int.ofNat 1)) fun x11 => (updS fr [(6, .val x11), (21, .val t6), (0, .val x11), (0, .val t3), (0, .ref 1 1), (0, .val x0), (0, .val t6), (0, .val x1), (0, .val x2), (0, .val x3), (0, .ref 1 1), (0, .val x5), (0, .val t6), (0, .val x6), (0, .val x7), (0, .val x8), (0, .val x9)] fun fr12 => (k .normal fr12 σ10)))) (fun x13 σ14 => none))))))) (fun x15 σ16 => none)))))))))))))))))))))))))))) (execG π PG C (sB (lK (bK (sB (sA (sB (sB (sB (sB (cd PG 11)))))))))) fr σ k)
theorem p11_5_eq {α : Type} (π : Prims α) (C : CallF α) : execG π PG C (sB (lK (bK (sB (sA (sB (sB (sB (sB (cd PG 11)))))))))) = p11_5 π C := by
  funext fr σ k
  obtain ⟨slots, defers, esc, rc⟩ := fr
  unfold p11_5
  iterate 1 (refine dKs_eq fun _ _ h => ?_; subst h)
  refine dK0_eq ?_
  refine dB_eq fun _ _ h => ?_; subst h
  iterate 1 (refine dKs_eq fun _ _ h => ?_; subst h)
  refine dK0_eq ?_
  refine dV_eq fun _ _ h => ?_; subst h
  iterate 2 (refine dKs_eq fun _ _ h => ?_; subst h)
  refine dK0_eq ?_
  refine dV_eq fun _ _ h => ?_; subst h
  iterate 23 (refine dKs_eq fun _ _ h => ?_; subst h)
  refine dK0_eq ?_
  iterate 14 (refine dV_eq fun _ _ h => ?_; subst h)
  refine dN_eq fun h => ?_; subst h
  refine sk_eq (.seq (.block 1 (.run (bK (sA (sB (lK (bK (sB (sA (sB (sB (sB (sB (cd PG 11)))))))))))))) (.run (sB (sB (lK (bK (sB (sA (sB (sB (sB (sB (cd PG 11))))))))))))) (by kernel_rfl) ?_
  generalize execG π PG C = H
  kernel_rfl
noncomputable def p11_4 {α : Type} (π : Prims α) (C : CallF α) (fr : Fr) (σ : St) (k : Ex → Fr → St → Option α) : Option α :=
  (fun no => (dK 1 fr.slots no fun r1 => (dB r1 no fun t1 r2 => (dK 4 r2 no fun r6 => (dV r6 no fun t6 r7 => (dK 21 r7 no fun r28 => (dN fr.esc 562949953421312 no (π.part false t1 1 1 fun x0 => (π.len PG 35 x0 fun x1 => (π.bin PG .lss 3 false t6 x1 fun x2 => (π.cond x2 (fun _ => (updS fr [(23, .val t6), (0, .ref 1 1), (0, .val x0), (0, .val x1), (0, .val x2)] fun fr3 => (p11_5 π C fr3 σ k))) (fun _ => (updS fr [(23, .val t6), (0, .ref 1 1), (0, .val x0), (0, .val x1), (0, .val x2)] fun fr4 => (k (.exit 0) fr4 σ)))))))))))))) (execG π PG C (lK (bK (sB (sA (sB (sB (sB (sB (cd PG 11))))))))) fr σ k)
theorem p11_4_eq {α : Type} (π : Prims α) (C : CallF α) : execG π PG C (lK (bK (sB (sA (sB (sB (sB (sB (cd PG 11))))))))) = p11_4 π C := by
  funext fr σ k
  obtain ⟨slots, defers, esc, rc⟩ := fr
  unfold p11_4
  iterate 1 (refine dKs_eq fun _ _ h => ?_; subst h)
  refine dK0_eq ?_
  refine dB_eq fun _ _ h => ?_; subst h
  iterate 4 (refine dKs_eq fun _ _ h => ?_; subst h)
  refine dK0_eq ?_
  refine dV_eq fun _ _ h => ?_; subst h
  iterate 21 (refine dKs_eq fun _ _ h => ?_; subst h)
  refine dK0_eq ?_
  refine dN_eq fun h => ?_; subst h
  try rw [← p11_5_eq π C]
  refine sk_eq (.seq (.seq (.run (sA (sA (lK (bK (sB (sA (sB (sB (sB (sB (cd PG 11)))))))))))) (.cond (cX (sB (sA (lK (bK (sB (sA (sB (sB (sB (sB (cd PG 11)))))))))))) (.run (cA (sB (sA (lK (bK (sB (sA (sB (sB (sB (sB (cd PG 11))))))))))))) (.run (cB (sB (sA (lK (bK (sB (sA (sB (sB (sB (sB (cd PG 11))))))))))))))) (.hole (sB (lK (bK (sB (sA (sB (sB (sB (sB (cd PG 11)))))))))))) (by kernel_rfl) ?_
  generalize execG π PG C = H
  kernel_rfl
noncomputable def p11_6 {α : Type} (π : Prims α) (C : CallF α) (fr : Fr) (σ : St) (k : Ex → Fr → St → Option α) : Option α :=
  (fun no => (dK 7 fr.slots no fun r7 => (dV r7 no fun t7 r8 => (dK 53 r8 no fun r61 => (dN fr.esc 562949953421312 no (updS fr [(2, .val t7), (57, .val t7)] fun fr0 => (k .ret fr0 σ))))))) (execG π PG C (sB (sB (sB (sB (sB (sB (sB (cd PG 11)))))))) fr σ k)
theorem p11_6_eq {α : Type} (π : Prims α) (C : CallF α) : execG π PG C (sB (sB (sB (sB (sB (sB (sB (cd PG 11)))))))) = p11_6 π C := by
  funext fr σ k
  obtain ⟨slots, defers, esc, rc⟩ := fr
  unfold p11_6
  iterate 7 (refine dKs_eq fun _ _ h => ?_; subst h)
  refine dK0_eq ?_
  refine dV_eq fun _ _ h => ?_; subst h
  iterate 53 (refine dKs_eq fun _ _ h => ?_; subst h)
  refine dK0_eq ?_
  refine dN_eq fun h => ?_; subst h
  refine sk_eq (.seq (.run (sA (sB (sB (sB (sB (sB (sB (sB (cd PG 11)))))))))) (.run (sB (sB (sB (sB (sB (sB (sB (sB (cd PG 11))))))))))) (by kernel_rfl) ?_
  generalize execG π PG C = H
  kernel_rfl
noncomputable def p11_3 {α : Type} (π : Prims α) (C : CallF α) (fr : Fr) (σ : St) (k : Ex → Fr → St → Option α) : Option α :=
  (fun no => (dK 1 fr.slots no fun r1 => (dB r1 no fun t1 r2 => (dK 1 r2 no fun r3 => (dV r3 no fun t3 r4 => (dK 1 r4 no fun r5 => (dV r5 no fun t5 r6 => (dK 54 r6 no fun r60 => (dN fr.esc 562949953421312 no (π.part false t1 3 1 fun x0 => (π.put zl47 0 1 t3 fun c1 => (π.put c1 1 1 t5 fun c2 => (π.put c2 2 1 x0 fun c3 => (dataF (.agg c3) 49 fun _ => π.alloc σ (.cells 0 (AVal.cells (.agg c3))) fun x4 σ5 => (π.part false t1 3 1 fun x6 => (π.cond x6 (fun _ => (π.part false t1 4 1 fun x7 => (π.bin PG .rem 22 true x7 (.int .u64 (Int.ofNat 768)) fun x8 => (π.bin PG .mul 22 true (.int .u64 (Int.ofNat 16)) x8 fun x9 => (π.bin PG .add 22 true (.int .u64 (Int.ofNat 2147483648)) x9 fun x10 => (π.nc x4 fun _ => (π.add x4 3 fun x11 => (π.st σ5 1 x11 x10 fun σ12 => (updS fr [(7, .val x4), (36, .val t3), (0, .val t5), (0, .ref 1 3), (0, .val x0), (0, .val (.agg c3)), (0, .val x4), (0, .ref 1 3), (0, .val x6), (0, .val x4), (0, .ref 1 4), (0, .val x7), (0, .val x8), (0, .val x9), (0, .val x10), (0, .val x4), (0, .val x11)] fun fr13 => (p11_6 π C fr13 σ12 k)))))))))) (fun _ => (updS fr [(7, .val x4), (36, .val t3), (0, .val t5), (0, .ref 1 3), (0, .val x0), (0, .val (.agg c3)), (0, .val x4), (0, .ref 1 3), (0, .val x6)] fun fr14 => (p11_6 π C fr14 σ5 k))))))))))))))))))) (execG π PG C (sB (sB (sB (sB (sB (cd PG 11)))))) fr σ k)
theorem p11_3_eq {α : Type} (π : Prims α) (C : CallF α) : execG π PG C (sB (sB (sB (sB (sB (cd PG 11)))))) = p11_3 π C := by
  funext fr σ k
  obtain ⟨slots, defers, esc, rc⟩ := fr
  unfold p11_3
  iterate 1 (refine dKs_eq fun _ _ h => ?_; subst h)
  refine dK0_eq ?_
  refine dB_eq fun _ _ h => ?_; subst h
  iterate 1 (refine dKs_eq fun _ _ h => ?_; subst h)
  refine dK0_eq ?_
  refine dV_eq fun _ _ h => ?_; subst h
  iterate 1 (refine dKs_eq fun _ _ h => ?_; subst h)
  refine dK0_eq ?_
  refine dV_eq fun _ _ h => ?_; subst h
  iterate 54 (refine dKs_eq fun _ _ h => ?_; subst h)
  refine dK0_eq ?_
  refine dN_eq fun h => ?_; subst h
  try rw [← p11_6_eq π C]
  refine sk_eq (.seq (.run (sA (sB (sB (sB (sB (sB (cd PG 11)))))))) (.seq (.seq (.run (sA (sA (sB (sB (sB (sB (sB (sB (cd PG 11)))))))))) (.cond (cX (sB (sA (sB (sB (sB (sB (sB (sB (cd PG 11)))))))))) (.run (cA (sB (sA (sB (sB (sB (sB (sB (sB (cd PG 11))))))))))) (.run (cB (sB (sA (sB (sB (sB (sB (sB (sB (cd PG 11))))))))))))) (.hole (sB (sB (sB (sB (sB (sB (sB (cd PG 11))))))))))) (by kernel_rfl) ?_
  generalize execG π PG C = H
  kernel_rfl
noncomputable def p11_2 {α : Type} (π : Prims α) (C : CallF α) (fr : Fr) (σ : St) (k : Ex → Fr → St → Option α) : Option α :=
  (fun no => (dK 7 fr.slots no fun r7 => (dN fr.esc 562949953421312 no (updS fr [(6, .val (.int .i64 (Int.ofNat 0)))] fun fr0 => (π.loop (p11_4 π C) fr0 σ (blkK 0 (seqK (p11_3 π C) k))))))) (execG π PG C (sB (sB (sB (sB (cd PG 11))))) fr σ k)
theorem p11_2_eq {α : Type} (π : Prims α) (C : CallF α) : execG π PG C (sB (sB (sB (sB (cd PG 11))))) = p11_2 π C := by
  funext fr σ k
  obtain ⟨slots, defers, esc, rc⟩ := fr
  unfold p11_2
  iterate 7 (refine dKs_eq fun _ _ h => ?_; subst h)
  refine dK0_eq ?_
  refine dN_eq fun h => ?_; subst h
  try rw [← p11_4_eq π C]
  try rw [← p11_3_eq π C]
  refine sk_eq (.seq (.seq (.run (sA (sA (sB (sB (sB (sB (cd PG 11)))))))) (.block 0 (.loopH (lK (bK (sB (sA (sB (sB (sB (sB (cd PG 11)))))))))))) (.hole (sB (sB (sB (sB (sB (cd PG 11)))))))) (by kernel_rfl) ?_
  generalize execG π PG C = H
  kernel_rfl
noncomputable def p11_1 {α : Type} (π : Prims α) (C : CallF α) (fr : Fr) (σ : St) (k : Ex → Fr → St → Option α) : Option α :=
  (fun no => (dK 22 fr.slots no fun r22 => (dV r22 no fun t22 r23 => (dN fr.esc 562949953421312 no (π.cond t22 (fun _ => (updS fr [(2, .val (.ptr none))] fun fr0 => (k .ret fr0 σ))) (fun _ => (k .normal fr σ))))))) (execG π PG C (sB (sA (sB (sB (sB (cd PG 11)))))) fr σ k)
theorem p11_1_eq {α : Type} (π : Prims α) (C : CallF α) : execG π PG C (sB (sA (sB (sB (sB (cd PG 11)))))) = p11_1 π C := by
  funext fr σ k
  obtain ⟨slots, defers, esc, rc⟩ := fr
  unfold p11_1
  iterate 22 (refine dKs_eq fun _ _ h => ?_; subst h)
  refine dK0_eq ?_
  refine dV_eq fun _ _ h => ?_; subst h
  refine dN_eq fun h => ?_; subst h
  refine sk_eq (.cond (cX (sB (sA (sB (sB (sB (cd PG 11))))))) (.seq (.run (sA (cA (sB (sA (sB (sB (sB (cd PG 11))))))))) (.run (sB (cA (sB (sA (sB (sB (sB (cd PG 11)))))))))) (.run (cB (sB (sA (sB (sB (sB (cd PG 11))))))))) (by kernel_rfl) ?_
  generalize execG π PG C = H
  kernel_rfl
noncomputable def p11_0 {α : Type} (π : Prims α) (C : CallF α) (fr : Fr) (σ : St) (k : Ex → Fr → St → Option α) : Option α :=
  (fun no => (dV fr.slots no fun t0 r1 => (dK 22 r1 no fun r23 => (dN fr.esc 562949953421312 no (dataF t0 1 fun _ => (nbS fr 1 (AVal.cells t0) fun fr0 => (π.part false (AVal.cells t0) 0 1 fun x1 => (C 22 [x1] σ (fun x2 σ3 => (π.extract x2 0 fun x4 => (π.extract x2 1 fun x5 => (π.part false (AVal.cells t0) 2 1 fun x6 => (C 23 [x6] σ3 (fun x7 σ8 => (π.un .not x5 fun x9 => (gdF x9 (fun _ => (updS fr0 [(2, .val (.ptr none)), (0, .val x4), (0, .val x5), (0, .val x7), (2, .val x2), (0, .ref 1 0), (0, .val x1), (0, .val x2), (0, .val x4), (0, .val x5), (0, .ref 1 2), (0, .val x6), (0, .val x7), (0, .val x5), (0, .val x9), (0, .val (.bool true)), (0, .val (.tuple [])), (0, .val (.tuple [])), (0, .val (.bool true))] fun fr10 => (p11_1 π C fr10 σ8 (seqK (p11_2 π C) k)))) (fun _ => (π.bin PG .eql 45 true x7 (.ptr none) fun x11 => (updS fr0 [(2, .val (.ptr none)), (0, .val x4), (0, .val x5), (0, .val x7), (2, .val x2), (0, .ref 1 0), (0, .val x1), (0, .val x2), (0, .val x4), (0, .val x5), (0, .ref 1 2), (0, .val x6), (0, .val x7), (0, .val x5), (0, .val x9), (0, .val (.bool false)), (0, .val x7), (0, .val x11), (0, .val x11)] fun fr12 => (p11_1 π C fr12 σ8 (seqK (p11_2 π C) k))))) (fun _ => none)))) (fun x13 σ14 => (updS fr0 [(2, .val (.ptr none)), (0, .val x4), (0, .val x5), (3, .val x2), (0, .ref 1 0), (0, .val x1), (0, .val x2), (0, .val x4), (0, .val x5), (0, .ref 1 2), (0, .val x6)] fun fr15 => (k (.panic x13) fr15 σ14)))))))) (fun x16 σ17 => (updS fr0 [(2, .val (.ptr none)), (6, .ref 1 0), (0, .val x1)] fun fr18 => (k (.panic x16) fr18 σ17))))))))))) (execG π PG C (cd PG 11) fr σ k)
theorem p11_0_eq {α : Type} (π : Prims α) (C : CallF α) : execG π PG C (cd PG 11) = p11_0 π C := by
  funext fr σ k
  obtain ⟨slots, defers, esc, rc⟩ := fr
  unfold p11_0
  refine dV_eq fun _ _ h => ?_; subst h
  iterate 22 (refine dKs_eq fun _ _ h => ?_; subst h)
  refine dK0_eq ?_
  refine dN_eq fun h => ?_; subst h
  try rw [← p11_2_eq π C]
  try rw [← p11_1_eq π C]
  refine sk_eq (.seq (.run (sA (cd PG 11))) (.seq (.run (sA (sB (cd PG 11)))) (.seq (.run (sA (sB (sB (cd PG 11))))) (.seq (.seq (.run (sA (sA (sB (sB (sB (cd PG 11))))))) (.hole (sB (sA (sB (sB (sB (cd PG 11)))))))) (.hole (sB (sB (sB (sB (cd PG 11)))))))))) (by kernel_rfl) ?_
  generalize execG π PG C = H
  kernel_rfl
-- 14 (*ravelin/bus Bus) Lines
noncomputable def p14_4 {α : Type} (π : Prims α) (C : CallF α) (fr : Fr) (σ : St) (k : Ex → Fr → St → Option α) : Option α :=
  (fun no => (dK 32 fr.slots no fun r32 => (dV r32 no fun t32 r33 => (dK 11 r33 no fun r44 => (dN fr.esc 0 no (π.bin PG .add 3 true t32 (.int .i64 (Int.ofNat 1)) fun x0 => (updS fr [(32, .val x0), (10, .val x0)] fun fr1 => (k .normal fr1 σ)))))))) (execG π PG C (sB (sB (sB (lK (bK (sB (sA (sB (sB (cd PG 14)))))))))) fr σ k)
theorem p14_4_eq {α : Type} (π : Prims α) (C : CallF α) : execG π PG C (sB (sB (sB (lK (bK (sB (sA (sB (sB (cd PG 14)))))))))) = p14_4 π C := by
  funext fr σ k
  obtain ⟨slots, defers, esc, rc⟩ := fr
  unfold p14_4
  iterate 32 (refine dKs_eq fun _ _ h => ?_; subst h)
  refine dK0_eq ?_
  refine dV_eq fun _ _ h => ?_; subst h
  iterate 11 (refine dKs_eq fun _ _ h => ?_; subst h)
  refine dK0_eq ?_
  refine dN_eq fun h => ?_; subst h
  refine sk_eq (.run (sB (sB (sB (lK (bK (sB (sA (sB (sB (cd PG 14))))))))))) (by kernel_rfl) ?_
  generalize execG π PG C = H
  kernel_rfl
noncomputable def p14_3 {α : Type} (π : Prims α) (C : CallF α) (fr : Fr) (σ : St) (k : Ex → Fr → St → Option α) : Option α :=
  (fun no => (dK 3 fr.slots no fun r3 => (dV r3 no fun t3 r4 => (dK 26 r4 no fun r30 => (dV r30 no fun t30 r31 => (dK 1 r31 no fun r32 => (dV r32 no fun t32 r33 => (dK 10 r33 no fun r43 => (dN fr.esc 0 no (π.idxAddr PG 91 t30 t32 fun x0 => (π.ld σ true 2 x0 fun x1 => (updS fr [(34, .val x0), (0, .val x1)] fun fr2 => (nbS fr2 5 zl89 fun fr3 => (π.put zl89 0 2 x1 fun c4 => (π.part false c4 0 1 fun x5 => (π.cond x5 (fun _ => (π.part false c4 1 1 fun x6 => (π.bin PG .shl 22 true (.int .u64 (Int.ofNat 1)) x6 fun x7 => (π.bin PG .or 22 false t3 x7 fun x8 => (updS fr3 [(3, .val x8), (1, .box c4), (30, .ref 5 0), (0, .val x5), (0, .val t3), (0, .ref 5 1), (0, .val x6), (0, .val x7), (0, .val x8)] fun fr9 => (p14_4 π C fr9 σ k)))))) (fun _ => (updS fr3 [(5, .box c4), (30, .ref 5 0), (0, .val x5)] fun fr10 => (p14_4 π C fr10 σ k))))))))))))))))))) (execG π PG C (sB (sB (lK (bK (sB (sA (sB (sB (cd PG 14))))))))) fr σ k)
theorem p14_3_eq {α : Type} (π : Prims α) (C : CallF α) : execG π PG C (sB (sB (lK (bK (sB (sA (sB (sB (cd PG 14))))))))) = p14_3 π C := by
  funext fr σ k
  obtain ⟨slots, defers, esc, rc⟩ := fr
  unfold p14_3
  iterate 3 (refine dKs_eq fun _ _ h => ?_; subst h)
  refine dK0_eq ?_
  refine dV_eq fun _ _ h => ?_; subst h
  iterate 26 (refine dKs_eq fun _ _ h => ?_; subst h)
  refine dK0_eq ?_
  refine dV_eq fun _ _ h => ?_; subst h
  iterate 1 (refine dKs_eq fun _ _ h => ?_; subst h)
  refine dK0_eq ?_
  refine dV_eq fun _ _ h => ?_; subst h
  iterate 10 (refine dKs_eq fun _ _ h => ?_; subst h)
  refine dK0_eq ?_
  refine dN_eq fun h => ?_; subst h
  try rw [← p14_4_eq π C]
  refine sk_eq (.seq (.block 1 (.seq (.run (sA (bK (sA (sB (sB (lK (bK (sB (sA (sB (sB (cd PG 14))))))))))))) (.seq (.run (sA (sB (bK (sA (sB (sB (lK (bK (sB (sA (sB (sB (cd PG 14)))))))))))))) (.cond (cX (sB (sB (bK (sA (sB (sB (lK (bK (sB (sA (sB (sB (cd PG 14)))))))))))))) (.run (cA (sB (sB (bK (sA (sB (sB (lK (bK (sB (sA (sB (sB (cd PG 14))))))))))))))) (.run (cB (sB (sB (bK (sA (sB (sB (lK (bK (sB (sA (sB (sB (cd PG 14))))))))))))))))))) (.hole (sB (sB (sB (lK (bK (sB (sA (sB (sB (cd PG 14)))))))))))) (by kernel_rfl) ?_
  generalize execG π PG C = H
  kernel_rfl
noncomputable def p14_2 {α : Type} (π : Prims α) (C : CallF α) (fr : Fr) (σ : St) (k : Ex → Fr → St → Option α) : Option α :=
  (fun no => (dK 31 fr.slots no fun r31 => (dV r31 no fun t31 r32 => (dV r32 no fun t32 r33 => (dK 1 r33 no fun r34 => (dN fr.esc 0 no (π.bin PG .lss 3 false t32 t31 fun x0 => (π.cond x0 (fun _ => (updS fr [(33, .val x0)] fun fr1 => (p14_3 π C fr1 σ k))) (fun _ => (updS fr [(33, .val x0)] fun fr2 => (k (.exit 0) fr2 σ))))))))))) (execG π PG C (lK (bK (sB (sA (sB (sB (cd PG 14))))))) fr σ k)
theorem p14_2_eq {α : Type} (π : Prims α) (C : CallF α) : execG π PG C (lK (bK (sB (sA (sB (sB (cd PG 14))))))) = p14_2 π C := by
  funext fr σ k
  obtain ⟨slots, defers, esc, rc⟩ := fr
  unfold p14_2
  iterate 31 (refine dKs_eq fun _ _ h => ?_; subst h)
  refine dK0_eq ?_
  iterate 2 (refine dV_eq fun _ _ h => ?_; subst h)
  iterate 1 (refine dKs_eq fun _ _ h => ?_; subst h)
  refine dK0_eq ?_
  refine dN_eq fun h => ?_; subst h
  try rw [← p14_3_eq π C]
  refine sk_eq (.seq (.run (sA (lK (bK (sB (sA (sB (sB (cd PG 14))))))))) (.seq (.cond (cX (sA (sB (lK (bK (sB (sA (sB (sB (cd PG 14)))))))))) (.run (cA (sA (sB (lK (bK (sB (sA (sB (sB (cd PG 14))))))))))) (.run (cB (sA (sB (lK (bK (sB (sA (sB (sB (cd PG 14)))))))))))) (.hole (sB (sB (lK (bK (sB (sA (sB (sB (cd PG 14)))))))))))) (by kernel_rfl) ?_
  generalize execG π PG C = H
  kernel_rfl
noncomputable def p14_1 {α : Type} (π : Prims α) (C : CallF α) (fr : Fr) (σ : St) (k : Ex → Fr → St → Option α) : Option α :=
  (fun no => (dK 3 fr.slots no fun r3 => (dV r3 no fun t3 r4 => (dK 41 r4 no fun r45 => (dN fr.esc 0 no (updS fr [(2, .val t3), (41, .val t3)] fun fr0 => (k .ret fr0 σ))))))) (execG π PG C (sB (sB (sB (cd PG 14)))) fr σ k)
theorem p14_1_eq {α : Type} (π : Prims α) (C : CallF α) : execG π PG C (sB (sB (sB (cd PG 14)))) = p14_1 π C := by
  funext fr σ k
  obtain ⟨slots, defers, esc, rc⟩ := fr
  unfold p14_1
  iterate 3 (refine dKs_eq fun _ _ h => ?_; subst h)
  refine dK0_eq ?_
  refine dV_eq fun _ _ h => ?_; subst h
  iterate 41 (refine dKs_eq fun _ _ h => ?_; subst h)
  refine dK0_eq ?_
  refine dN_eq fun h => ?_; subst h
  refine sk_eq (.seq (.run (sA (sB (sB (sB (cd PG 14)))))) (.run (sB (sB (sB (sB (cd PG 14))))))) (by kernel_rfl) ?_
  generalize execG π PG C = H
  kernel_rfl
noncomputable def p14_0 {α : Type} (π : Prims α) (C : CallF α) (fr : Fr) (σ : St) (k : Ex → Fr → St → Option α) : Option α :=
  (fun no => (dV fr.slots no fun t0 r1 => (dK 5 r1 no fun r6 => (dV r6 no fun t6 r7 => (dV r7 no fun t7 r8 => (dV r8 no fun t8 r9 => (dV r9 no fun t9 r10 => (dV r10 no fun t10 r11 => (dV r11 no fun t11 r12 => (dV r12 no fun t12 r13 => (dV r13 no fun t13 r14 => (dV r14 no fun t14 r15 => (dV r15 no fun t15 r16 => (dV r16 no fun t16 r17 => (dV r17 no fun t17 r18 => (dV r18 no fun t18 r19 => (dV r19 no fun t19 r20 => (dV r20 no fun t20 r21 => (dV r21 no fun t21 r22 => (dV r22 no fun t22 r23 => (dV r23 no fun t23 r24 => (dV r24 no fun t24 r25 => (dV r25 no fun t25 r26 => (dV r26 no fun t26 r27 => (dV r27 no fun t27 r28 => (dV r28 no fun t28 r29 => (dV r29 no fun t29 r30 => (dV r30 no fun t30 r31 => (dV r31 no fun t31 r32 => (dV r32 no fun t32 r33 => (dN fr.esc 0 no (π.nc t0 fun _ => (π.add t0 1 fun x0 => (π.ld σ false 1 x0 fun x1 => ((lockCall true C) 28 [x1] σ (fun x2 σ3 => (π.put zl89 0 1 x2 fun c4 => (π.put c4 1 1 (.int .i64 (Int.ofNat 3)) fun c5 => (π.nc t0 fun _ => (π.add t0 1 fun x6 => (π.ld σ3 false 1 x6 fun x7 => ((lockCall true C) 29 [x7] σ3 (fun x8 σ9 => (π.put zl89 0 1 x8 fun c10 => (π.put c10 1 1 (.int .i64 (Int.ofNat 7)) fun c11 => (π.nc t0 fun _ => (π.add t0 2 fun x12 => (π.ld σ9 false 1 x12 fun x13 => ((lockCall true C) 30 [x13, (.int .i64 (Int.ofNat 1))] σ9 (fun x14 σ15 => (π.put zl89 0 1 x14 fun c16 => (π.put c16 1 1 (.int .i64 (Int.ofNat 9)) fun c17 => (π.nc t0 fun _ => (π.add t0 2 fun x18 => (π.ld σ15 false 1 x18 fun x19 => ((lockCall false C) 30 [x19, (.int .i64 (Int.ofNat 0))] σ15 (fun x20 σ21 => (π.put zl89 0 1 x20 fun c22 => (π.put c22 1 1 (.int .i64 (Int.ofNat 11)) fun c23 => (π.put [(.bool false), (.int .i64 (Int.ofNat 0)), (.bool false), (.int .i64 (Int.ofNat 0)), (.bool false), (.int .i64 (Int.ofNat 0)), (.bool false), (.int .i64 (Int.ofNat 0))] 0 2 (.agg c5) fun c24 => (π.put c24 2 2 (.agg c11) fun c25 => (π.put c25 4 2 (.agg c17) fun c26 => (π.put c26 6 2 (.agg c23) fun c27 => (π.newSl σ21 2 c27 4 fun x29 σ28 => (π.len PG 91 x29 fun x30 => (updS fr [(2, .val (.int .u64 (Int.ofNat 0))), (0, .val (.int .u64 (Int.ofNat 0))), (2, .val t0), (0, .val t0), (0, .val x0), (0, .val x1), (0, .val x2), (0, .val (.agg c5)), (0, .val t0), (0, .val t0), (0, .val x6), (0, .val x7), (0, .val x8), (0, .val (.agg c11)), (0, .val t0), (0, .val t0), (0, .val x12), (0, .val x13), (0, .val x14), (0, .val (.agg c17)), (0, .val t0), (0, .val t0), (0, .val x18), (0, .val x19), (0, .val x20), (0, .val (.agg c23)), (0, .val x29), (0, .val x30), (0, .val (.int .i64 (Int.ofNat 0)))] fun fr31 => (π.loop (p14_2 π C) fr31 σ28 (blkK 0 (seqK (p14_1 π C) k))))))))))))) (fun x32 σ33 => none)))))))) (fun x34 σ35 => none)))))))) (fun x36 σ37 => none)))))))) (fun x38 σ39 => none)))))))))))))))))))))))))))))))))))) (execG π PG C (cd PG 14) fr σ k)
theorem p14_0_eq {α : Type} (π : Prims α) (C : CallF α) : execG π PG C (cd PG 14) = p14_0 π C := by
  funext fr σ k
  obtain ⟨slots, defers, esc, rc⟩ := fr
  unfold p14_0
  refine dV_eq fun _ _ h => ?_; subst h
  iterate 5 (refine dKs_eq fun _ _ h => ?_; subst h)
  refine dK0_eq ?_
  iterate 27 (refine dV_eq fun _ _ h => ?_; subst h)
  refine dN_eq fun h => ?_; subst h
  try rw [← p14_2_eq π C]
  try rw [← p14_1_eq π C]
  refine sk_eq (.seq (.run (sA (cd PG 14))) (.seq (.run (sA (sB (cd PG 14)))) (.seq (.seq (.run (sA (sA (sB (sB (cd PG 14)))))) (.block 0 (.loopH (lK (bK (sB (sA (sB (sB (cd PG 14)))))))))) (.hole (sB (sB (sB (cd PG 14)))))))) (by kernel_rfl) ?_
  generalize execG π PG C = H
  kernel_rfl
-- 20 ravelin/decode Decode
noncomputable def p20_4 {α : Type} (π : Prims α) (C : CallF α) (fr : Fr) (σ : St) (k : Ex → Fr → St → Option α) : Option α :=
  (fun no => (dV fr.slots no fun t0 r1 => (dK 1 r1 no fun r2 => (dB r2 no fun t2 r3 => (dK 1 r3 no fun r4 => (dV r4 no fun t4 r5 => (dK 12 r5 no fun r17 => (dV r17 no fun t17 r18 => (dV r18 no fun t18 r19 => (dK 15 r19 no fun r34 => (dN fr.esc 0 no (π.idx PG 120 t17 t18 fun x0 => (callV C x0 [t0] σ (fun x1 σ2 => (π.extract x1 0 fun x3 => (π.extract x1 1 fun x4 => (updS fr [(6, .val x0), (13, .val x0), (0, .val x1), (0, .val x0), (0, .val t0), (0, .val x1), (0, .val x3), (0, .val x4)] fun fr5 => (nbS fr5 7 zl66 fun fr6 => (π.put zl66 0 11 x3 fun c7 => (π.cond x4 (fun _ => (π.put c7 9 1 t4 fun c8 => (π.put c8 10 1 t0 fun c9 => (π.part true c9 0 11 fun x10 => (π.put t2 0 11 x10 fun c11 => (updS fr6 [(2, .box c11), (4, .box c9), (0, .val x4), (18, .val x4), (0, .val t4), (0, .val t0), (0, .ref 7 9), (0, .ref 7 10), (0, .val x10)] fun fr12 => (k .ret fr12 σ2))))))) (fun _ => (π.bin PG .add 3 true t18 (.int .i64 (Int.ofNat 1)) fun x13 => (updS fr6 [(7, .box c7), (0, .val x4), (9, .val x13), (8, .val x4), (5, .val x13)] fun fr14 => (k .normal fr14 σ2))))))))))) (fun x15 σ16 => (updS fr [(6, .val x0), (13, .val x0), (1, .val x0), (0, .val t0)] fun fr17 => (k (.panic x15) fr17 σ16)))))))))))))))) (execG π PG C (sB (sB (lK (bK (sB (sA (sB (sB (sB (cd PG 20)))))))))) fr σ k)
theorem p20_4_eq {α : Type} (π : Prims α) (C : CallF α) : execG π PG C (sB (sB (lK (bK (sB (sA (sB (sB (sB (cd PG 20)))))))))) = p20_4 π C := by
  funext fr σ k
  obtain ⟨slots, defers, esc, rc⟩ := fr
  unfold p20_4
  refine dV_eq fun _ _ h => ?_; subst h
  iterate 1 (refine dKs_eq fun _ _ h => ?_; subst h)
  refine dK0_eq ?_
  refine dB_eq fun _ _ h => ?_; subst h
  iterate 1 (refine dKs_eq fun _ _ h => ?_; subst h)
  refine dK0_eq ?_
  refine dV_eq fun _ _ h => ?_; subst h
  iterate 12 (refine dKs_eq fun _ _ h => ?_; subst h)
  refine dK0_eq ?_
  iterate 2 (refine dV_eq fun _ _ h => ?_; subst h)
  iterate 15 (refine dKs_eq fun _ _ h => ?_; subst h)
  refine dK0_eq ?_
  refine dN_eq fun h => ?_; subst h
  refine sk_eq (.seq (.block 1 (.seq (.run (sA (bK (sA (sB (sB (lK (bK (sB (sA (sB (sB (sB (cd PG 20)))))))))))))) (.seq (.run (sA (sB (bK (sA (sB (sB (lK (bK (sB (sA (sB (sB (sB (cd PG 20))))))))))))))) (.seq (.run (sA (sB (sB (bK (sA (sB (sB (lK (bK (sB (sA (sB (sB (sB (cd PG 20)))))))))))))))) (.cond (cX (sB (sB (sB (bK (sA (sB (sB (lK (bK (sB (sA (sB (sB (sB (cd PG 20)))))))))))))))) (.seq (.run (sA (cA (sB (sB (sB (bK (sA (sB (sB (lK (bK (sB (sA (sB (sB (sB (cd PG 20)))))))))))))))))) (.seq (.run (sA (sB (cA (sB (sB (sB (bK (sA (sB (sB (lK (bK (sB (sA (sB (sB (sB (cd PG 20))))))))))))))))))) (.run (sB (sB (cA (sB (sB (sB (bK (sA (sB (sB (lK (bK (sB (sA (sB (sB (sB (cd PG 20))))))))))))))))))))) (.run (cB (sB (sB (sB (bK (sA (sB (sB (lK (bK (sB (sA (sB (sB (sB (cd PG 20)))))))))))))))))))))) (.run (sB (sB (sB (lK (bK (sB (sA (sB (sB (sB (cd PG 20))))))))))))) (by kernel_rfl) ?_
  generalize execG π PG C = H
  kernel_rfl
noncomputable def p20_3 {α : Type} (π : Prims α) (C : CallF α) (fr : Fr) (σ : St) (k : Ex → Fr → St → Option α) : Option α :=
  (fun no => (dK 18 fr.slots no fun r18 => (dV r18 no fun t18 r19 => (dK 1 r19 no fun r20 => (dN fr.esc 0 no (π.bin PG .lss 3 true t18 (.int .i64 (Int.ofNat 2)) fun x0 => (π.cond x0 (fun _ => (updS fr [(19, .val x0)] fun fr1 => (p20_4 π C fr1 σ k))) (fun _ => (updS fr [(19, .val x0)] fun fr2 => (k (.exit 0) fr2 σ)))))))))) (execG π PG C (lK (bK (sB (sA (sB (sB (sB (cd PG 20)))))))) fr σ k)
theorem p20_3_eq {α : Type} (π : Prims α) (C : CallF α) : execG π PG C (lK (bK (sB (sA (sB (sB (sB (cd PG 20)))))))) = p20_3 π C := by
  funext fr σ k
  obtain ⟨slots, defers, esc, rc⟩ := fr
  unfold p20_3
  iterate 18 (refine dKs_eq fun _ _ h => ?_; subst h)
  refine dK0_eq ?_
  refine dV_eq fun _ _ h => ?_; subst h
  iterate 1 (refine dKs_eq fun _ _ h => ?_; subst h)
  refine dK0_eq ?_
  refine dN_eq fun h => ?_; subst h
  try rw [← p20_4_eq π C]
  refine sk_eq (.seq (.run (sA (lK (bK (sB (sA (sB (sB (sB (cd PG 20)))))))))) (.seq (.cond (cX (sA (sB (lK (bK (sB (sA (sB (sB (sB (cd PG 20))))))))))) (.run (cA (sA (sB (lK (bK (sB (sA (sB (sB (sB (cd PG 20)))))))))))) (.run (cB (sA (sB (lK (bK (sB (sA (sB (sB (sB (cd PG 20))))))))))))) (.hole (sB (sB (lK (bK (sB (sA (sB (sB (sB (cd PG 20))))))))))))) (by kernel_rfl) ?_
  generalize execG π PG C = H
  kernel_rfl
noncomputable def p20_2 {α : Type} (π : Prims α) (C : CallF α) (fr : Fr) (σ : St) (k : Ex → Fr → St → Option α) : Option α :=
  (fun no => (dV fr.slots no fun t0 r1 => (dK 1 r1 no fun r2 => (dB r2 no fun t2 r3 => (dK 1 r3 no fun r4 => (dV r4 no fun t4 r5 => (dK 32 r5 no fun r37 => (dN fr.esc 0 no (π.put zl66 0 1 (.int .i64 (Int.ofNat 0)) fun c0 => (π.put c0 9 1 t4 fun c1 => (π.put c1 10 1 t0 fun c2 => (π.put t2 0 11 (.agg c2) fun c3 => (updS fr [(2, .box c3), (31, .val t4), (0, .val t0), (0, .val (.agg c2))] fun fr4 => (k .ret fr4 σ)))))))))))))) (execG π PG C (sB (sB (sB (sB (cd PG 20))))) fr σ k)
theorem p20_2_eq {α : Type} (π : Prims α) (C : CallF α) : execG π PG C (sB (sB (sB (sB (cd PG 20))))) = p20_2 π C := by
  funext fr σ k
  obtain ⟨slots, defers, esc, rc⟩ := fr
  unfold p20_2
  refine dV_eq fun _ _ h => ?_; subst h
  iterate 1 (refine dKs_eq fun _ _ h => ?_; subst h)
  refine dK0_eq ?_
  refine dB_eq fun _ _ h => ?_; subst h
  iterate 1 (refine dKs_eq fun _ _ h => ?_; subst h)
  refine dK0_eq ?_
  refine dV_eq fun _ _ h => ?_; subst h
  iterate 32 (refine dKs_eq fun _ _ h => ?_; subst h)
  refine dK0_eq ?_
  refine dN_eq fun h => ?_; subst h
  refine sk_eq (.seq (.run (sA (sB (sB (sB (sB (cd PG 20))))))) (.run (sB (sB (sB (sB (sB (cd PG 20)))))))) (by kernel_rfl) ?_
  generalize execG π PG C = H
  kernel_rfl
noncomputable def p20_1 {α : Type} (π : Prims α) (C : CallF α) (fr : Fr) (σ : St) (k : Ex → Fr → St → Option α) : Option α :=
  (fun no => (dK 3 fr.slots no fun r3 => (dB r3 no fun t3 r4 => (dK 15 r4 no fun r19 => (dN fr.esc 0 no (π.part true t3 0 2 fun x0 => (updS fr [(17, .val x0), (0, .val (.int .i64 (Int.ofNat 0)))] fun fr1 => (π.loop (p20_3 π C) fr1 σ (blkK 0 (seqK (p20_2 π C) k)))))))))) (execG π PG C (sB (sB (sB (cd PG 20)))) fr σ k)
theorem p20_1_eq {α : Type} (π : Prims α) (C : CallF α) : execG π PG C (sB (sB (sB (cd PG 20)))) = p20_1 π C := by
  funext fr σ k
  obtain ⟨slots, defers, esc, rc⟩ := fr
  unfold p20_1
  iterate 3 (refine dKs_eq fun _ _ h => ?_; subst h)
  refine dK0_eq ?_
  refine dB_eq fun _ _ h => ?_; subst h
  iterate 15 (refine dKs_eq fun _ _ h => ?_; subst h)
  refine dK0_eq ?_
  refine dN_eq fun h => ?_; subst h
  try rw [← p20_3_eq π C]
  try rw [← p20_2_eq π C]
  refine sk_eq (.seq (.seq (.run (sA (sA (sB (sB (sB (cd PG 20))))))) (.block 0 (.loopH (lK (bK (sB (sA (sB (sB (sB (cd PG 20))))))))))) (.hole (sB (sB (sB (sB (cd PG 20))))))) (by kernel_rfl) ?_
  generalize execG π PG C = H
  kernel_rfl
noncomputable def p20_0 {α : Type} (π : Prims α) (C : CallF α) (fr : Fr) (σ : St) (k : Ex → Fr → St → Option α) : Option α :=
  (fun no => (dV fr.slots no fun t0 r1 => (dK 16 r1 no fun r17 => (dN fr.esc 0 no (nbS fr 2 zl66 fun fr0 => (π.put zl120 0 1 (.func (.func 51) [] []) fun c1 => (π.put c1 1 1 (.func (.func 52) [] []) fun c2 => (updS fr0 [(9, .val (.agg c2))] fun fr3 => (nbS fr3 3 zl120 fun fr4 => (π.put zl120 0 2 (.agg c2) fun c5 => (π.conv PG 32 109 t0 fun x6 => (C 42 [x6] σ (fun x7 σ8 => (π.un .not x7 fun x9 => (π.cond x9 (fun _ => (π.put zl120 0 1 (.func (.func 53) [] []) fun c10 => (π.put c10 1 1 (.func (.func 53) [] []) fun c11 => (π.put c5 0 2 (.agg c11) fun c12 => (π.bin PG .and 32 true t0 (.int .u32 (Int.ofNat 65535)) fun x13 => (updS fr4 [(0, .val x13), (2, .box c12), (0, .val (.int .i64 (Int.ofNat 2))), (5, .val t0), (0, .val x6), (0, .val x7), (0, .val x9), (0, .val (.agg c11)), (0, .val t0), (0, .val x13)] fun fr14 => (p20_1 π C fr14 σ8 k))))))) (fun _ => (updS fr4 [(3, .box c5), (0, .val (.int .i64 (Int.ofNat 4))), (5, .val t0), (0, .val x6), (0, .val x7), (0, .val x9)] fun fr15 => (p20_1 π C fr15 σ8 k)))))) (fun x16 σ17 => (updS fr4 [(3, .box c5), (0, .val (.int .i64 (Int.ofNat 4))), (5, .val t0), (0, .val x6)] fun fr18 => (k (.panic x16) fr18 σ17))))))))))))))) (execG π PG C (cd PG 20) fr σ k)
theorem p20_0_eq {α : Type} (π : Prims α) (C : CallF α) : execG π PG C (cd PG 20) = p20_0 π C := by
  funext fr σ k
  obtain ⟨slots, defers, esc, rc⟩ := fr
  unfold p20_0
  refine dV_eq fun _ _ h => ?_; subst h
  iterate 16 (refine dKs_eq fun _ _ h => ?_; subst h)
  refine dK0_eq ?_
  refine dN_eq fun h => ?_; subst h
  try rw [← p20_1_eq π C]
  refine sk_eq (.seq (.run (sA (cd PG 20))) (.seq (.run (sA (sB (cd PG 20)))) (.seq (.seq (.run (sA (sA (sB (sB (cd PG 20)))))) (.cond (cX (sB (sA (sB (sB (cd PG 20)))))) (.seq (.run (sA (cA (sB (sA (sB (sB (cd PG 20)))))))) (.run (sB (cA (sB (sA (sB (sB (cd PG 20))))))))) (.run (cB (sB (sA (sB (sB (cd PG 20))))))))) (.hole (sB (sB (sB (cd PG 20)))))))) (by kernel_rfl) ?_
  generalize execG π PG C = H
  kernel_rfl
-- 368 ravelin/ram get
noncomputable def p368_3 {α : Type} (π : Prims α) (C : CallF α) (fr : Fr) (σ : St) (k : Ex → Fr → St → Option α) : Option α :=
  (fun no => (dK 2 fr.slots no fun r2 => (dV r2 no fun t2 r3 => (dK 2 r3 no fun r5 => (dV r5 no fun t5 r6 => (dK 1 r6 no fun r7 => (dV r7 no fun t7 r8 => (dK 12 r8 no fun r20 => (dN fr.esc 0 no (π.idxAddr PG 209 t5 t7 fun x0 => (π.ld σ false 1 x0 fun x1 => (π.conv PG 5 22 x1 fun x2 => (π.bin PG .mul 3 true (.int .i64 (Int.ofNat 8)) t7 fun x3 => (π.bin PG .shl 22 false x2 x3 fun x4 => (π.bin PG .or 22 false t2 x4 fun x5 => (π.bin PG .add 3 true t7 (.int .i64 (Int.ofNat 1)) fun x6 => (updS fr [(2, .val x5), (0, .val t7), (0, .val x1), (2, .val x6), (1, .val t7), (0, .val x0), (0, .val x1), (0, .val t2), (0, .val x1), (0, .val x2), (0, .val t7), (0, .val x3), (0, .val x4), (0, .val x5), (0, .val x6)] fun fr7 => (k .normal fr7 σ)))))))))))))))))) (execG π PG C (sB (sB (lK (bK (sB (sA (sB (cd PG 368)))))))) fr σ k)
theorem p368_3_eq {α : Type} (π : Prims α) (C : CallF α) : execG π PG C (sB (sB (lK (bK (sB (sA (sB (cd PG 368)))))))) = p368_3 π C := by
  funext fr σ k
  obtain ⟨slots, defers, esc, rc⟩ := fr
  unfold p368_3
  iterate 2 (refine dKs_eq fun _ _ h => ?_; subst h)
  refine dK0_eq ?_
  refine dV_eq fun _ _ h => ?_; subst h
  iterate 2 (refine dKs_eq fun _ _ h => ?_; subst h)
  refine dK0_eq ?_
  refine dV_eq fun _ _ h => ?_; subst h
  iterate 1 (refine dKs_eq fun _ _ h => ?_; subst h)
  refine dK0_eq ?_
  refine dV_eq fun _ _ h => ?_; subst h
  iterate 12 (refine dKs_eq fun _ _ h => ?_; subst h)
  refine dK0_eq ?_
  refine dN_eq fun h => ?_; subst h
  refine sk_eq (.seq (.block 1 (.seq (.run (sA (bK (sA (sB (sB (lK (bK (sB (sA (sB (cd PG 368)))))))))))) (.run (sB (bK (sA (sB (sB (lK (bK (sB (sA (sB (cd PG 368)))))))))))))) (.run (sB (sB (sB (lK (bK (sB (sA (sB (cd PG 368))))))))))) (by kernel_rfl) ?_
  generalize execG π PG C = H
  kernel_rfl
noncomputable def p368_2 {α : Type} (π : Prims α) (C : CallF α) (fr : Fr) (σ : St) (k : Ex → Fr → St → Option α) : Option α :=
  (fun no => (dK 6 fr.slots no fun r6 => (dV r6 no fun t6 r7 => (dV r7 no fun t7 r8 => (dK 1 r8 no fun r9 => (dN fr.esc 0 no (π.bin PG .lss 3 false t7 t6 fun x0 => (π.cond x0 (fun _ => (updS fr [(8, .val x0)] fun fr1 => (p368_3 π C fr1 σ k))) (fun _ => (updS fr [(8, .val x0)] fun fr2 => (k (.exit 0) fr2 σ))))))))))) (execG π PG C (lK (bK (sB (sA (sB (cd PG 368)))))) fr σ k)
theorem p368_2_eq {α : Type} (π : Prims α) (C : CallF α) : execG π PG C (lK (bK (sB (sA (sB (cd PG 368)))))) = p368_2 π C := by
  funext fr σ k
  obtain ⟨slots, defers, esc, rc⟩ := fr
  unfold p368_2
  iterate 6 (refine dKs_eq fun _ _ h => ?_; subst h)
  refine dK0_eq ?_
  iterate 2 (refine dV_eq fun _ _ h => ?_; subst h)
  iterate 1 (refine dKs_eq fun _ _ h => ?_; subst h)
  refine dK0_eq ?_
  refine dN_eq fun h => ?_; subst h
  try rw [← p368_3_eq π C]
  refine sk_eq (.seq (.run (sA (lK (bK (sB (sA (sB (cd PG 368)))))))) (.seq (.cond (cX (sA (sB (lK (bK (sB (sA (sB (cd PG 368))))))))) (.run (cA (sA (sB (lK (bK (sB (sA (sB (cd PG 368)))))))))) (.run (cB (sA (sB (lK (bK (sB (sA (sB (cd PG 368))))))))))) (.hole (sB (sB (lK (bK (sB (sA (sB (cd PG 368))))))))))) (by kernel_rfl) ?_
  generalize execG π PG C = H
  kernel_rfl
noncomputable def p368_1 {α : Type} (π : Prims α) (C : CallF α) (fr : Fr) (σ : St) (k : Ex → Fr → St → Option α) : Option α :=
  (fun no => (dK 2 fr.slots no fun r2 => (dV r2 no fun t2 r3 => (dK 18 r3 no fun r21 => (dN fr.esc 0 no (updS fr [(2, .val t2), (17, .val t2)] fun fr0 => (k .ret fr0 σ))))))) (execG π PG C (sB (sB (cd PG 368))) fr σ k)
theorem p368_1_eq {α : Type} (π : Prims α) (C : CallF α) : execG π PG C (sB (sB (cd PG 368))) = p368_1 π C := by
  funext fr σ k
  obtain ⟨slots, defers, esc, rc⟩ := fr
  unfold p368_1
  iterate 2 (refine dKs_eq fun _ _ h => ?_; subst h)
  refine dK0_eq ?_
  refine dV_eq fun _ _ h => ?_; subst h
  iterate 18 (refine dKs_eq fun _ _ h => ?_; subst h)
  refine dK0_eq ?_
  refine dN_eq fun h => ?_; subst h
  refine sk_eq (.seq (.run (sA (sB (sB (cd PG 368))))) (.run (sB (sB (sB (cd PG 368)))))) (by kernel_rfl) ?_
  generalize execG π PG C = H
  kernel_rfl
noncomputable def p368_0 {α : Type} (π : Prims α) (C : CallF α) (fr : Fr) (σ : St) (k : Ex → Fr → St → Option α) : Option α :=
  (fun no => (dV fr.slots no fun t0 r1 => (dK 7 r1 no fun r8 => (dN fr.esc 0 no (π.len PG 209 t0 fun x0 => (updS fr [(2, .val (.int .u64 (Int.ofNat 0))), (2, .val t0), (0, .val x0), (0, .val (.int .i64 (Int.ofNat 0)))] fun fr1 => (π.loop (p368_2 π C) fr1 σ (blkK 0 (seqK (p368_1 π C) k))))))))) (execG π PG C (cd PG 368) fr σ k)
theorem p368_0_eq {α : Type} (π : Prims α) (C : CallF α) : execG π PG C (cd PG 368) = p368_0 π C := by
  funext fr σ k
  obtain ⟨slots, defers, esc, rc⟩ := fr
  unfold p368_0
  refine dV_eq fun _ _ h => ?_; subst h
  iterate 7 (refine dKs_eq fun _ _ h => ?_; subst h)
  refine dK0_eq ?_
  refine dN_eq fun h => ?_; subst h
  try rw [← p368_2_eq π C]
  try rw [← p368_1_eq π C]
  refine sk_eq (.seq (.run (sA (cd PG 368))) (.seq (.seq (.run (sA (sA (sB (cd PG 368))))) (.block 0 (.loopH (lK (bK (sB (sA (sB (cd PG 368))))))))) (.hole (sB (sB (cd PG 368)))))) (by kernel_rfl) ?_
  generalize execG π PG C = H
  kernel_rfl
-- 55 (ravelin/bus region) off
noncomputable def p55_0 {α : Type} (π : Prims α) (C : CallF α) (fr : Fr) (σ : St) (k : Ex → Fr → St → Option α) : Option α :=
  (fun no => (dV fr.slots no fun t0 r1 => (dV r1 no fun t1 r2 => (dV r2 no fun t2 r3 => (dK 10 r3 no fun r13 => (dV r13 no fun t13 r14 => (dV r14 no fun t14 r15 => (dV r15 no fun t15 r16 => (dV r16 no fun t16 r17 => (dV r17 no fun t17 r18 => (dV r18 no fun t18 r19 => (dV r19 no fun t19 r20 => (dV r20 no fun t20 r21 => (dV r21 no fun t21 r22 => (dV r22 no fun t22 r23 => (dV r23 no fun t23 r24 => (dV r24 no fun t24 r25 => (dV r25 no fun t25 r26 => (dV r26 no fun t26 r27 => (dV r27 no fun t27 r28 => (dV r28 no fun t28 r29 => (dV r29 no fun t29 r30 => (dV r30 no fun t30 r31 => (dV r31 no fun t31 r32 => (dV r32 no fun t32 r33 => (dV r33 no fun t33 r34 => (dV r34 no fun t34 r35 => (dV r35 no fun t35 r36 => (dV r36 no fun t36 r37 => (dV r37 no fun t37 r38 => (dN fr.esc 0 no (dataF t0 3 fun _ => (nbS fr 3 (AVal.cells t0) fun fr0 => (π.part false (AVal.cells t0) 1 1 fun x1 => (π.bin PG .sub 22 false t1 x1 fun x2 => (π.conv PG 22 3 x2 fun x3 => (π.part false (AVal.cells t0) 1 1 fun x4 => (π.bin PG .geq 22 false t1 x4 fun x5 => (gdF x5 (fun _ => (π.bin PG .geq 3 true t2 (.int .i64 (Int.ofNat 0)) fun x6 => (gdF x6 (fun _ => (π.part false (AVal.cells t0) 2 1 fun x7 => (π.bin PG .leq 22 false x2 x7 fun x8 => (gdF x8 (fun _ => (π.conv PG 3 22 t2 fun x9 => (π.part false (AVal.cells t0) 2 1 fun x10 => (π.bin PG .sub 22 false x10 x2 fun x11 => (π.bin PG .leq 22 false x9 x11 fun x12 => (updS fr0 [(6, .val x3), (0, .val x12), (0, .val x2), (0, .val t1), (0, .ref 3 1), (0, .val x1), (0, .val x2), (0, .val x2), (0, .val x3), (0, .val t1), (0, .ref 3 1), (0, .val x4), (0, .val x5), (0, .val (.bool true)), (0, .val t2), (0, .val x6), (0, .val x6), (0, .val (.bool true)), (0, .val x2), (0, .ref 3 2), (0, .val x7), (0, .val x8), (0, .val x8), (0, .val (.bool true)), (0, .val t2), (0, .val x9), (0, .ref 3 2), (0, .val x10), (0, .val x2), (0, .val x11), (0, .val x12), (0, .val x12)] fun fr13 => (k .ret fr13 σ))))))) (fun _ => (updS fr0 [(6, .val x3), (0, .val (.bool false)), (0, .val x2), (0, .val t1), (0, .ref 3 1), (0, .val x1), (0, .val x2), (0, .val x2), (0, .val x3), (0, .val t1), (0, .ref 3 1), (0, .val x4), (0, .val x5), (0, .val (.bool true)), (0, .val t2), (0, .val x6), (0, .val x6), (0, .val (.bool true)), (0, .val x2), (0, .ref 3 2), (0, .val x7), (0, .val x8), (0, .val x8), (0, .val (.bool false)), (0, .val (.tuple [])), (0, .val (.tuple [])), (0, .val (.tuple [])), (0, .val (.tuple [])), (0, .val (.tuple [])), (0, .val (.tuple [])), (0, .val (.tuple [])), (0, .val (.bool false))] fun fr14 => (k .ret fr14 σ))) (fun _ => none))))) (fun _ => (updS fr0 [(6, .val x3), (0, .val (.bool false)), (0, .val x2), (0, .val t1), (0, .ref 3 1), (0, .val x1), (0, .val x2), (0, .val x2), (0, .val x3), (0, .val t1), (0, .ref 3 1), (0, .val x4), (0, .val x5), (0, .val (.bool true)), (0, .val t2), (0, .val x6), (0, .val x6), (0, .val (.bool false)), (0, .val (.tuple [])), (0, .val (.tuple [])), (0, .val (.tuple [])), (0, .val (.tuple [])), (0, .val (.bool false)), (0, .val (.bool false)), (0, .val (.tuple [])), (0, .val (.tuple [])), (0, .val (.tuple [])), (0, .val (.tuple [])), (0, .val (.tuple [])), (0, .val (.tuple [])), (0, .val (.tuple [])), (0, .val (.bool false))] fun fr15 => (k .ret fr15 σ))) (fun _ => none)))) (fun _ => (updS fr0 [(6, .val x3), (0, .val (.bool false)), (0, .val x2), (0, .val t1), (0, .ref 3 1), (0, .val x1), (0, .val x2), (0, .val x2), (0, .val x3), (0, .val t1), (0, .ref 3 1), (0, .val x4), (0, .val x5), (0, .val (.bool false)), (0, .val (.tuple [])), (0, .val (.tuple [])), (0, .val (.bool false)), (0, .val (.bool false)), (0, .val (.tuple [])), (0, .val (.tuple [])), (0, .val (.tuple [])), (0, .val (.tuple [])), (0, .val (.bool false)), (0, .val (.bool false)), (0, .val (.tuple [])), (0, .val (.tuple [])), (0, .val (.tuple [])), (0, .val (.tuple [])), (0, .val (.tuple [])), (0, .val (.tuple [])), (0, .val (.tuple [])), (0, .val (.bool false))] fun fr16 => (k .ret fr16 σ))) (fun _ => none)))))))))))))))))))))))))))))))))))))))) (execG π PG C (cd PG 55) fr σ k)
theorem p55_0_eq {α : Type} (π : Prims α) (C : CallF α) : execG π PG C (cd PG 55) = p55_0 π C := by
  funext fr σ k
  obtain ⟨slots, defers, esc, rc⟩ := fr
  unfold p55_0
  iterate 3 (refine dV_eq fun _ _ h => ?_; subst h)
  iterate 10 (refine dKs_eq fun _ _ h => ?_; subst h)
  refine dK0_eq ?_
  iterate 25 (refine dV_eq fun _ _ h => ?_; subst h)
  refine dN_eq fun h => ?_; subst h
  refine sk_eq (.seq (.run (sA (cd PG 55))) (.seq (.run (sA (sB (cd PG 55)))) (.seq (.run (sA (sB (sB (cd PG 55))))) (.run (sB (sB (sB (cd PG 55)))))))) (by kernel_rfl) ?_
  generalize execG π PG C = H
  kernel_rfl
-- 168 (ravelin/bounds number) up
noncomputable def p168_0 {α : Type} (π : Prims α) (C : CallF α) (fr : Fr) (σ : St) (k : Ex → Fr → St → Option α) : Option α :=
  (fun no => (dV fr.slots no fun t0 r1 => (dV r1 no fun t1 r2 => (dK 18 r2 no fun r20 => (dV r20 no fun t20 r21 => (dV r21 no fun t21 r22 => (dV r22 no fun t22 r23 => (dV r23 no fun t23 r24 => (dV r24 no fun t24 r25 => (dV r25 no fun t25 r26 => (dV r26 no fun t26 r27 => (dV r27 no fun t27 r28 => (dV r28 no fun t28 r29 => (dV r29 no fun t29 r30 => (dV r30 no fun t30 r31 => (dN fr.esc 0 no (dataF t0 2 fun _ => (nbS fr 2 (AVal.cells t0) fun fr0 => (nbS fr0 4 zl287 fun fr1 => (π.bin PG .eql 3 true t1 (.int .i64 (Int.ofNat 0)) fun x2 => (π.cond x2 (fun _ => (π.part true (AVal.cells t0) 0 2 fun x3 => (π.put zl287 0 2 x3 fun c4 => (updS fr1 [(4, .box c4), (0, .val x2), (0, .val t1), (0, .val x2), (0, .val x3)] fun fr5 => (k .ret fr5 σ))))) (fun _ => (π.bin PG .geq 3 true t1 (.int .i64 (Int.ofNat 65)) fun x6 => (π.cond x6 (fun _ => (π.put zl287 0 2 (.agg zl287) fun c7 => (updS fr1 [(4, .box c7), (0, .val x2), (0, .val t1), (0, .val x2), (1, .val x6), (0, .val t1), (0, .val x6), (0, .val (.agg zl287))] fun fr8 => (k .ret fr8 σ)))) (fun _ => (π.bin PG .eql 3 true t1 (.int .i64 (Int.ofNat 64)) fun x9 => (π.cond x9 (fun _ => (π.part false (AVal.cells t0) 1 1 fun x10 => (π.bin PG .and 22 true x10 (.int .u64 (Int.ofNat 1)) fun x11 => (π.put zl287 0 1 x11 fun c12 => (π.put c12 1 1 (.int .u64 (Int.ofNat 0)) fun c13 => (π.put zl287 0 2 (.agg c13) fun c14 => (updS fr1 [(4, .box c14), (0, .val x2), (0, .val t1), (0, .val x2), (1, .val x6), (0, .val t1), (0, .val x6), (1, .val x9), (0, .val t1), (0, .val x9), (0, .ref 2 1), (0, .val x10), (0, .val x11), (0, .val (.agg c13))] fun fr15 => (k .ret fr15 σ)))))))) (fun _ => (π.part false (AVal.cells t0) 1 1 fun x16 => (π.bin PG .sub 3 true (.int .i64 (Int.ofNat 64)) t1 fun x17 => (π.bin PG .shr 22 false x16 x17 fun x18 => (π.bin PG .and 22 true x18 (.int .u64 (Int.ofNat 1)) fun x19 => (π.part false (AVal.cells t0) 1 1 fun x20 => (π.bin PG .shl 22 false x20 t1 fun x21 => (π.put zl287 0 1 x19 fun c22 => (π.put c22 1 1 x21 fun c23 => (π.put zl287 0 2 (.agg c23) fun c24 => (updS fr1 [(4, .box c24), (0, .val x2), (0, .val t1), (0, .val x2), (1, .val x6), (0, .val t1), (0, .val x6), (1, .val x9), (0, .val t1), (0, .val x9), (4, .ref 2 1), (0, .val x16), (0, .val t1), (0, .val x17), (0, .val x18), (0, .val x19), (0, .ref 2 1), (0, .val x20), (0, .val t1), (0, .val x21), (0, .val (.agg c23))] fun fr25 => (k .ret fr25 σ))))))))))))))))))))))))))))))))))))))) (execG π PG C (cd PG 168) fr σ k)
theorem p168_0_eq {α : Type} (π : Prims α) (C : CallF α) : execG π PG C (cd PG 168) = p168_0 π C := by
  funext fr σ k
  obtain ⟨slots, defers, esc, rc⟩ := fr
  unfold p168_0
  iterate 2 (refine dV_eq fun _ _ h => ?_; subst h)
  iterate 18 (refine dKs_eq fun _ _ h => ?_; subst h)
  refine dK0_eq ?_
  iterate 11 (refine dV_eq fun _ _ h => ?_; subst h)
  refine dN_eq fun h => ?_; subst h
  refine sk_eq (.seq (.run (sA (cd PG 168))) (.seq (.block 0 (.seq (.run (sA (bK (sA (sB (cd PG 168)))))) (.cond (cX (sB (bK (sA (sB (cd PG 168)))))) (.seq (.run (sA (cA (sB (bK (sA (sB (cd PG 168)))))))) (.run (sB (cA (sB (bK (sA (sB (cd PG 168))))))))) (.seq (.run (sA (cB (sB (bK (sA (sB (cd PG 168)))))))) (.cond (cX (sB (cB (sB (bK (sA (sB (cd PG 168)))))))) (.seq (.run (sA (cA (sB (cB (sB (bK (sA (sB (cd PG 168)))))))))) (.run (sB (cA (sB (cB (sB (bK (sA (sB (cd PG 168))))))))))) (.seq (.run (sA (cB (sB (cB (sB (bK (sA (sB (cd PG 168)))))))))) (.cond (cX (sB (cB (sB (cB (sB (bK (sA (sB (cd PG 168)))))))))) (.seq (.run (sA (cA (sB (cB (sB (cB (sB (bK (sA (sB (cd PG 168)))))))))))) (.run (sB (cA (sB (cB (sB (cB (sB (bK (sA (sB (cd PG 168))))))))))))) (.run (cB (sB (cB (sB (cB (sB (bK (sA (sB (cd PG 168)))))))))))))))))) (.seq (.run (sA (sB (sB (cd PG 168))))) (.run (sB (sB (sB (cd PG 168)))))))) (by kernel_rfl) ?_
  generalize execG π PG C = H
  kernel_rfl
-- 36 ravelin/capops Move
noncomputable def p36_1 {α : Type} (π : Prims α) (C : CallF α) (fr : Fr) (σ : St) (k : Ex → Fr → St → Option α) : Option α :=
  (fun no => (dK 1 fr.slots no fun r1 => (dV r1 no fun t1 r2 => (dB r2 no fun t2 r3 => (dK 1 r3 no fun r4 => (dB r4 no fun t4 r5 => (dV r5 no fun t5 r6 => (dK 13 r6 no fun r19 => (dN fr.esc 0 no (π.put t2 8 1 t1 fun c0 => (π.part true c0 0 9 fun x1 => (C 67 [x1, t5] σ (fun x2 σ3 => (π.put t4 0 9 x2 fun c4 => (updS fr [(2, .box c0), (1, .box c4), (9, .val t1), (0, .ref 2 8), (0, .val x1), (0, .val t5), (0, .val x2)] fun fr5 => (k .ret fr5 σ3)))) (fun x6 σ7 => (updS fr [(2, .box c0), (11, .val t1), (0, .ref 2 8), (0, .val x1), (0, .val t5)] fun fr8 => (k (.panic x6) fr8 σ7))))))))))))))) (execG π PG C (sB (sB (cd PG 36))) fr σ k)
theorem p36_1_eq {α : Type} (π : Prims α) (C : CallF α) : execG π PG C (sB (sB (cd PG 36))) = p36_1 π C := by
  funext fr σ k
  obtain ⟨slots, defers, esc, rc⟩ := fr
  unfold p36_1
  iterate 1 (refine dKs_eq fun _ _ h => ?_; subst h)
  refine dK0_eq ?_
  refine dV_eq fun _ _ h => ?_; subst h
  refine dB_eq fun _ _ h => ?_; subst h
  iterate 1 (refine dKs_eq fun _ _ h => ?_; subst h)
  refine dK0_eq ?_
  refine dB_eq fun _ _ h => ?_; subst h
  refine dV_eq fun _ _ h => ?_; subst h
  iterate 13 (refine dKs_eq fun _ _ h => ?_; subst h)
  refine dK0_eq ?_
  refine dN_eq fun h => ?_; subst h
  refine sk_eq (.seq (.run (sA (sB (sB (cd PG 36))))) (.seq (.run (sA (sB (sB (sB (cd PG 36)))))) (.run (sB (sB (sB (sB (cd PG 36)))))))) (by kernel_rfl) ?_
  generalize execG π PG C = H
  kernel_rfl
noncomputable def p36_0 {α : Type} (π : Prims α) (C : CallF α) (fr : Fr) (σ : St) (k : Ex → Fr → St → Option α) : Option α :=
  (fun no => (dV fr.slots no fun t0 r1 => (dV r1 no fun t1 r2 => (dK 12 r2 no fun r14 => (dN fr.esc 0 no (dataF t0 2 fun _ => (nbS fr 2 (AVal.cells t0) fun fr0 => (nbS fr0 4 zl24 fun fr1 => (π.part true (AVal.cells t0) 0 9 fun x2 => (C 65 [x2] σ (fun x3 σ4 => (π.un .not x3 fun x5 => (gdF x5 (fun _ => (π.part true (AVal.cells t0) 0 9 fun x6 => (C 66 [x6, t1] σ4 (fun x7 σ8 => (updS fr1 [(5, .val x7), (0, .val x2), (0, .val x3), (0, .val x5), (0, .val (.bool true)), (0, .val x6), (0, .val t1), (0, .val x7), (0, .val x7)] fun fr9 => (p36_1 π C fr9 σ8 k))) (fun x10 σ11 => (updS fr1 [(6, .val x2), (0, .val x3), (0, .val x5), (0, .val (.bool true)), (0, .val x6), (0, .val t1)] fun fr12 => (k (.panic x10) fr12 σ11)))))) (fun _ => (updS fr1 [(5, .val (.bool false)), (0, .val x2), (0, .val x3), (0, .val x5), (0, .val (.bool false)), (0, .val (.tuple [])), (0, .val (.tuple [])), (0, .val (.tuple [])), (0, .val (.bool false))] fun fr13 => (p36_1 π C fr13 σ4 k))) (fun _ => none)))) (fun x14 σ15 => (updS fr1 [(6, .val x2)] fun fr16 => (k (.panic x14) fr16 σ15))))))))))))) (execG π PG C (cd PG 36) fr σ k)
theorem p36_0_eq {α : Type} (π : Prims α) (C : CallF α) : execG π PG C (cd PG 36) = p36_0 π C := by
  funext fr σ k
  obtain ⟨slots, defers, esc, rc⟩ := fr
  unfold p36_0
  iterate 2 (refine dV_eq fun _ _ h => ?_; subst h)
  iterate 12 (refine dKs_eq fun _ _ h => ?_; subst h)
  refine dK0_eq ?_
  refine dN_eq fun h => ?_; subst h
  try rw [← p36_1_eq π C]
  refine sk_eq (.seq (.run (sA (cd PG 36))) (.seq (.run (sA (sB (cd PG 36)))) (.hole (sB (sB (cd PG 36)))))) (by kernel_rfl) ?_
  generalize execG π PG C = H
  kernel_rfl
-- 166 ravelin/bounds Of$1
noncomputable def p166_0 {α : Type} (π : Prims α) (C : CallF α) (fr : Fr) (σ : St) (k : Ex → Fr → St → Option α) : Option α :=
  (fun no => (dV fr.slots no fun t0 r1 => (dV r1 no fun t1 r2 => (dV r2 no fun t2 r3 => (dV r3 no fun t3 r4 => (dV r4 no fun t4 r5 => (dK 2 r5 no fun r7 => (dV r7 no fun t7 r8 => (dV r8 no fun t8 r9 => (dV r9 no fun t9 r10 => (dV r10 no fun t10 r11 => (dV r11 no fun t11 r12 => (dV r12 no fun t12 r13 => (dV r13 no fun t13 r14 => (dV r14 no fun t14 r15 => (dV r15 no fun t15 r16 => (dV r16 no fun t16 r17 => (dV r17 no fun t17 r18 => (dV r18 no fun t18 r19 => (dV r19 no fun t19 r20 => (dV r20 no fun t20 r21 => (dV r21 no fun t21 r22 => (dV r22 no fun t22 r23 => (dV r23 no fun t23 r24 => (dV r24 no fun t24 r25 => (dV r25 no fun t25 r26 => (dV r26 no fun t26 r27 => (dV r27 no fun t27 r28 => (dV r28 no fun t28 r29 => (dV r29 no fun t29 r30 => (dV r30 no fun t30 r31 => (dV r31 no fun t31 r32 => (dN fr.esc 0 no (nbS fr 6 zl287 fun fr0 => (π.ld σ false 1 t1 fun x1 => (π.bin PG .lss 3 false t0 x1 fun x2 => ((lockCall true C) 165 [x2] σ (fun x3 σ4 => (π.ld σ4 false 1 t2 fun x5 => (π.ld σ4 false 1 t1 fun x6 => (π.bin PG .lss 3 false x5 x6 fun x7 => ((lockCall false C) 165 [x7] σ4 (fun x8 σ9 => (π.bin PG .sub 3 false x3 x8 fun x10 => (π.ld σ9 false 1 t3 fun x11 => (π.bin PG .add 2 false x11 x10 fun x12 => ((lockCall true C) 167 [x12] σ9 (fun x13 σ14 => (π.add t4 4 fun x15 => (π.ld σ14 false 1 x15 fun x16 => (π.bin PG .add 3 true x16 (.int .i64 (Int.ofNat 14)) fun x17 => ((lockCall true C) 168 [x13, x17] σ14 (fun x18 σ19 => (π.conv PG 3 22 t0 fun x20 => (π.put zl287 1 1 x20 fun c21 => (π.add t4 4 fun x22 => (π.ld σ19 false 1 x22 fun x23 => ((lockCall false C) 168 [(.agg c21), x23] σ19 (fun x24 σ25 => ((lockCall false C) 169 [x18, x24] σ25 (fun x26 σ27 => (π.put zl287 0 2 x26 fun c28 => (updS fr0 [(6, .box c28), (0, .val x10), (0, .val t0), (0, .val x1), (0, .val x2), (0, .val x3), (0, .val x5), (0, .val x6), (0, .val x7), (0, .val x8), (0, .val x10), (0, .val x11), (0, .val x10), (0, .val x12), (0, .val x13), (0, .val x15), (0, .val x16), (0, .val x17), (0, .val x18), (0, .val t0), (0, .val x20), (0, .val (.agg c21)), (0, .val x22), (0, .val x23), (0, .val x24), (0, .val x26)] fun fr29 => (k .ret fr29 σ27)))) (fun x30 σ31 => none))) (fun x32 σ33 => none))))))) (fun x34 σ35 => none)))))) (fun x36 σ37 => none)))))) (fun x38 σ39 => none)))))) (fun x40 σ41 => none)))))))))))))))))))))))))))))))))))))) (execG π PG C (cd PG 166) fr σ k)
theorem p166_0_eq {α : Type} (π : Prims α) (C : CallF α) : execG π PG C (cd PG 166) = p166_0 π C := by
  funext fr σ k
  obtain ⟨slots, defers, esc, rc⟩ := fr
  unfold p166_0
  iterate 5 (refine dV_eq fun _ _ h => ?_; subst h)
  iterate 2 (refine dKs_eq fun _ _ h => ?_; subst h)
  refine dK0_eq ?_
  iterate 25 (refine dV_eq fun _ _ h => ?_; subst h)
  refine dN_eq fun h => ?_; subst h
  refine sk_eq (.seq (.run (sA (cd PG 166))) (.seq (.run (sA (sB (cd PG 166)))) (.seq (.run (sA (sB (sB (cd PG 166))))) (.run (sB (sB (sB (cd PG 166)))))))) (by kernel_rfl) ?_
  generalize execG π PG C = H
  kernel_rfl
-- 73 (*ravelin/bus Bus) Load
noncomputable def p73_0 {α : Type} (π : Prims α) (C : CallF α) (fr : Fr) (σ : St) (k : Ex → Fr → St → Option α) : Option α :=
  (fun no => (dV fr.slots no fun t0 r1 => (dV r1 no fun t1 r2 => (dV r2 no fun t2 r3 => (dK 22 r3 no fun r25 => (dN fr.esc 0 no (C 21 [t0, t1, t2] σ (fun x0 σ1 => (π.extract x0 0 fun x2 => (π.extract x0 1 fun x3 => (π.bin PG .neq 69 true x2 .nilIface fun x4 => (π.cond x4 (fun _ => (invkF PG C x2 "Load" [x3, t2] σ1 (fun x5 σ6 => (π.extract x5 0 fun x7 => (π.extract x5 1 fun x8 => (updS fr [(6, .val x7), (0, .val x8), (0, .val x2), (0, .val x3), (0, .val x0), (0, .val t0), (0, .val t1), (0, .val t2), (0, .val x0), (0, .val x2), (0, .val x3), (0, .val x2), (0, .val x4), (0, .val x2), (0, .val x3), (0, .val t2), (0, .val x5), (0, .val x7), (0, .val x8)] fun fr9 => (k .ret fr9 σ6))))) (fun x10 σ11 => (updS fr [(6, .val (.int .u64 (Int.ofNat 0))), (0, .val (.bool false)), (0, .val x2), (0, .val x3), (0, .val x0), (0, .val t0), (0, .val t1), (0, .val t2), (0, .val x0), (0, .val x2), (0, .val x3), (0, .val x2), (0, .val x4), (0, .val x2), (0, .val x3), (0, .val t2)] fun fr12 => (k (.panic x10) fr12 σ11))))) (fun _ => (updS fr [(6, .val (.int .u64 (Int.ofNat 0))), (0, .val (.bool false)), (0, .val x2), (0, .val x3), (0, .val x0), (0, .val t0), (0, .val t1), (0, .val t2), (0, .val x0), (0, .val x2), (0, .val x3), (0, .val x2), (0, .val x4)] fun fr13 => (k .ret fr13 σ1)))))))) (fun x14 σ15 => (updS fr [(6, .val (.int .u64 (Int.ofNat 0))), (0, .val (.bool false)), (3, .val t0), (0, .val t1), (0, .val t2)] fun fr16 => (k (.panic x14) fr16 σ15)))))))))) (execG π PG C (cd PG 73) fr σ k)
theorem p73_0_eq {α : Type} (π : Prims α) (C : CallF α) : execG π PG C (cd PG 73) = p73_0 π C := by
  funext fr σ k
  obtain ⟨slots, defers, esc, rc⟩ := fr
  unfold p73_0
  iterate 3 (refine dV_eq fun _ _ h => ?_; subst h)
  iterate 22 (refine dKs_eq fun _ _ h => ?_; subst h)
  refine dK0_eq ?_
  refine dN_eq fun h => ?_; subst h
  refine sk_eq (.seq (.run (sA (cd PG 73))) (.seq (.seq (.run (sA (sA (sB (cd PG 73))))) (.seq (.run (sA (sB (sA (sB (cd PG 73)))))) (.cond (cX (sB (sB (sA (sB (cd PG 73)))))) (.seq (.run (sA (cA (sB (sB (sA (sB (cd PG 73)))))))) (.run (sB (cA (sB (sB (sA (sB (cd PG 73))))))))) (.run (cB (sB (sB (sA (sB (cd PG 73)))))))))) (.seq (.run (sA (sB (sB (cd PG 73))))) (.run (sB (sB (sB (cd PG 73)))))))) (by kernel_rfl) ?_
  generalize execG π PG C = H
  kernel_rfl
-- 243 ravelin/rvc addi4
noncomputable def p243_0 {α : Type} (π : Prims α) (C : CallF α) (fr : Fr) (σ : St) (k : Ex → Fr → St → Option α) : Option α :=
  (fun no => (dV fr.slots no fun t0 r1 => (dK 16 r1 no fun r17 => (dN fr.esc 0 no (π.ld σ true 11 (.ptr (some (11, 0))) fun x0 => (C 316 [t0, x0] σ (fun x1 σ2 => (π.bin PG .eql 3 true x1 (.int .i64 (Int.ofNat 0)) fun x3 => (C 319 [t0] σ2 (fun x4 σ5 => (C 318 [(.int .i64 (Int.ofNat 19)), (.int .i64 (Int.ofNat 0)), x4, (.int .i64 (Int.ofNat 2)), x1] σ5 (fun x6 σ7 => (C 317 [x3, x6] σ7 (fun x8 σ9 => (π.extract x8 0 fun x10 => (π.extract x8 1 fun x11 => (updS fr [(2, .val x10), (0, .val x11), (0, .val x1), (0, .val t0), (0, .val x0), (0, .val x1), (0, .val x1), (0, .val x3), (0, .val t0), (0, .val x4), (0, .val x1), (0, .val x6), (0, .val x8), (0, .val x10), (0, .val x11)] fun fr12 => (k .ret fr12 σ9))))) (fun x13 σ14 => (updS fr [(2, .val (.int .u32 (Int.ofNat 0))), (0, .val (.bool false)), (0, .val x1), (0, .val t0), (0, .val x0), (0, .val x1), (0, .val x1), (0, .val x3), (0, .val t0), (0, .val x4), (0, .val x1), (0, .val x6)] fun fr15 => (k (.panic x13) fr15 σ14))))) (fun x16 σ17 => (updS fr [(2, .val (.int .u32 (Int.ofNat 0))), (0, .val (.bool false)), (0, .val x1), (0, .val t0), (0, .val x0), (0, .val x1), (0, .val x1), (0, .val x3), (0, .val t0), (0, .val x4), (0, .val x1)] fun fr18 => (k (.panic x16) fr18 σ17))))) (fun x19 σ20 => (updS fr [(2, .val (.int .u32 (Int.ofNat 0))), (0, .val (.bool false)), (0, .val x1), (0, .val t0), (0, .val x0), (0, .val x1), (0, .val x1), (0, .val x3), (0, .val t0)] fun fr21 => (k (.panic x19) fr21 σ20)))))) (fun x22 σ23 => (updS fr [(2, .val (.int .u32 (Int.ofNat 0))), (0, .val (.bool false)), (1, .val t0), (0, .val x0)] fun fr24 => (k (.panic x22) fr24 σ23))))))))) (execG π PG C (cd PG 243) fr σ k)
theorem p243_0_eq {α : Type} (π : Prims α) (C : CallF α) : execG π PG C (cd PG 243) = p243_0 π C := by
  funext fr σ k
  obtain ⟨slots, defers, esc, rc⟩ := fr
  unfold p243_0
  refine dV_eq fun _ _ h => ?_; subst h
  iterate 16 (refine dKs_eq fun _ _ h => ?_; subst h)
  refine dK0_eq ?_
  refine dN_eq fun h => ?_; subst h
  refine sk_eq (.seq (.run (sA (cd PG 243))) (.seq (.run (sA (sB (cd PG 243)))) (.seq (.run (sA (sB (sB (cd PG 243))))) (.run (sB (sB (sB (cd PG 243)))))))) (by kernel_rfl) ?_
  generalize execG π PG C = H
  kernel_rfl
-- 325 (ravelin/rvc half) bits
noncomputable def p325_0 {α : Type} (π : Prims α) (C : CallF α) (fr : Fr) (σ : St) (k : Ex → Fr → St → Option α) : Option α :=
  (fun no => (dV fr.slots no fun t0 r1 => (dV r1 no fun t1 r2 => (dV r2 no fun t2 r3 => (dK 4 r3 no fun r7 => (dV r7 no fun t7 r8 => (dV r8 no fun t8 r9 => (dV r9 no fun t9 r10 => (dV r10 no fun t10 r11 => (dV r11 no fun t11 r12 => (dV r12 no fun t12 r13 => (dV r13 no fun t13 r14 => (dV r14 no fun t14 r15 => (dV r15 no fun t15 r16 => (dV r16 no fun t16 r17 => (dV r17 no fun t17 r18 => (dN fr.esc 0 no (π.conv PG 270 3 t0 fun x0 => (π.bin PG .shr 3 false x0 t2 fun x1 => (π.bin PG .sub 3 false t1 t2 fun x2 => (π.bin PG .add 3 true x2 (.int .i64 (Int.ofNat 1)) fun x3 => (π.bin PG .shl 3 true (.int .i64 (Int.ofNat 1)) x3 fun x4 => (π.bin PG .sub 3 true x4 (.int .i64 (Int.ofNat 1)) fun x5 => (π.bin PG .and 3 false x1 x5 fun x6 => (updS fr [(6, .val x6), (0, .val t0), (0, .val x0), (0, .val t2), (0, .val x1), (0, .val t1), (0, .val t2), (0, .val x2), (0, .val x3), (0, .val x4), (0, .val x5), (0, .val x6)] fun fr7 => (k .ret fr7 σ)))))))))))))))))))))))))) (execG π PG C (cd PG 325) fr σ k)
theorem p325_0_eq {α : Type} (π : Prims α) (C : CallF α) : execG π PG C (cd PG 325) = p325_0 π C := by
  funext fr σ k
  obtain ⟨slots, defers, esc, rc⟩ := fr
  unfold p325_0
  iterate 3 (refine dV_eq fun _ _ h => ?_; subst h)
  iterate 4 (refine dKs_eq fun _ _ h => ?_; subst h)
  refine dK0_eq ?_
  iterate 11 (refine dV_eq fun _ _ h => ?_; subst h)
  refine dN_eq fun h => ?_; subst h
  refine sk_eq (.seq (.run (sA (cd PG 325))) (.seq (.run (sA (sB (cd PG 325)))) (.run (sB (sB (cd PG 325)))))) (by kernel_rfl) ?_
  generalize execG π PG C = H
  kernel_rfl
-- 103 (*ravelin/ram Ram) tag
noncomputable def p103_0 {α : Type} (π : Prims α) (C : CallF α) (fr : Fr) (σ : St) (k : Ex → Fr → St → Option α) : Option α :=
  (fun no => (dV fr.slots no fun t0 r1 => (dV r1 no fun t1 r2 => (dK 7 r2 no fun r9 => (dV r9 no fun t9 r10 => (dV r10 no fun t10 r11 => (dV r11 no fun t11 r12 => (dV r12 no fun t12 r13 => (dV r13 no fun t13 r14 => (dV r14 no fun t14 r15 => (dV r15 no fun t15 r16 => (dV r16 no fun t16 r17 => (dV r17 no fun t17 r18 => (dN fr.esc 0 no (π.bin PG .quo 3 true t1 (.int .i64 (Int.ofNat 16)) fun x0 => (π.bin PG .quo 3 true x0 (.int .i64 (Int.ofNat 64)) fun x1 => (π.nc t0 fun _ => (π.add t0 1 fun x2 => (π.idxAddr PG 271 x2 x1 fun x3 => (π.bin PG .rem 3 true x0 (.int .i64 (Int.ofNat 64)) fun x4 => (π.bin PG .shl 22 true (.int .u64 (Int.ofNat 1)) x4 fun x5 => (updS fr [(4, .val x3), (0, .val x5), (0, .val x0), (0, .val t1), (0, .val x0), (0, .val t0), (0, .val x0), (0, .val x1), (0, .val t0), (0, .val x2), (0, .val x3), (0, .val x0), (0, .val x4), (0, .val x5)] fun fr6 => (k .ret fr6 σ))))))))))))))))))))))) (execG π PG C (cd PG 103) fr σ k)
theorem p103_0_eq {α : Type} (π : Prims α) (C : CallF α) : execG π PG C (cd PG 103) = p103_0 π C := by
  funext fr σ k
  obtain ⟨slots, defers, esc, rc⟩ := fr
  unfold p103_0
  iterate 2 (refine dV_eq fun _ _ h => ?_; subst h)
  iterate 7 (refine dKs_eq fun _ _ h => ?_; subst h)
  refine dK0_eq ?_
  iterate 9 (refine dV_eq fun _ _ h => ?_; subst h)
  refine dN_eq fun h => ?_; subst h
  refine sk_eq (.seq (.run (sA (cd PG 103))) (.seq (.run (sA (sB (cd PG 103)))) (.seq (.run (sA (sB (sB (cd PG 103))))) (.run (sB (sB (sB (cd PG 103)))))))) (by kernel_rfl) ?_
  generalize execG π PG C = H
  kernel_rfl
-- 47 ravelin/hart do$3
noncomputable def p47_0 {α : Type} (π : Prims α) (C : CallF α) (fr : Fr) (σ : St) (k : Ex → Fr → St → Option α) : Option α :=
  (fun no => (dV fr.slots no fun t0 r1 => (dV r1 no fun t1 r2 => (dV r2 no fun t2 r3 => (dV r3 no fun t3 r4 => (dV r4 no fun t4 r5 => (dK 11 r5 no fun r16 => (dN fr.esc 0 no (nbS fr 5 zl60 fun fr0 => (π.ld σ false 1 t0 fun x1 => (π.ld σ false 1 t1 fun x2 => (π.ld σ true 11 t2 fun x3 => (π.ld σ false 1 t3 fun x4 => (C 48 [x1, x2, x3, x4] σ (fun x5 σ6 => (π.extract x5 0 fun x7 => (π.extract x5 1 fun x8 => (π.extract x5 2 fun x9 => (π.st σ6 1 t4 x7 fun σ10 => (π.put zl60 0 3 x8 fun c11 => (updS fr0 [(5, .box c11), (0, .val x9), (0, .val x5), (0, .val x1), (0, .val x2), (0, .val x3), (0, .val x4), (0, .val x5), (0, .val x7), (0, .val x8), (0, .val x9)] fun fr12 => (k .ret fr12 σ10)))))))) (fun x13 σ14 => (updS fr0 [(6, .val (.bool false)), (1, .val x1), (0, .val x2), (0, .val x3), (0, .val x4)] fun fr15 => (k (.panic x13) fr15 σ14))))))))))))))))) (execG π PG C (cd PG 47) fr σ k)
theorem p47_0_eq {α : Type} (π : Prims α) (C : CallF α) : execG π PG C (cd PG 47) = p47_0 π C := by
  funext fr σ k
  obtain ⟨slots, defers, esc, rc⟩ := fr
  unfold p47_0
  iterate 5 (refine dV_eq fun _ _ h => ?_; subst h)
  iterate 11 (refine dKs_eq fun _ _ h => ?_; subst h)
  refine dK0_eq ?_
  refine dN_eq fun h => ?_; subst h
  refine sk_eq (.seq (.run (sA (cd PG 47))) (.seq (.run (sA (sB (cd PG 47)))) (.run (sB (sB (cd PG 47)))))) (by kernel_rfl) ?_
  generalize execG π PG C = H
  kernel_rfl
-- 29 (*ravelin/clint Clint) Timer
noncomputable def p29_0 {α : Type} (π : Prims α) (C : CallF α) (fr : Fr) (σ : St) (k : Ex → Fr → St → Option α) : Option α :=
  (fun no => (dV fr.slots no fun t0 r1 => (dK 2 r1 no fun r3 => (dV r3 no fun t3 r4 => (dV r4 no fun t4 r5 => (dV r5 no fun t5 r6 => (dV r6 no fun t6 r7 => (dV r7 no fun t7 r8 => (dV r8 no fun t8 r9 => (dV r9 no fun t9 r10 => (dN fr.esc 0 no ((lockCall true C) 62 [t0] σ (fun x0 σ1 => (π.nc t0 fun _ => (π.add t0 1 fun x2 => (π.ld σ1 false 1 x2 fun x3 => (π.bin PG .geq 22 false x0 x3 fun x4 => (updS fr [(2, .val x4), (0, .val t0), (0, .val x0), (0, .val t0), (0, .val t0), (0, .val x2), (0, .val x3), (0, .val x4)] fun fr5 => (k .ret fr5 σ1))))))) (fun x6 σ7 => none))))))))))))) (execG π PG C (cd PG 29) fr σ k)
theorem p29_0_eq {α : Type} (π : Prims α) (C : CallF α) : execG π PG C (cd PG 29) = p29_0 π C := by
  funext fr σ k
  obtain ⟨slots, defers, esc, rc⟩ := fr
  unfold p29_0
  refine dV_eq fun _ _ h => ?_; subst h
  iterate 2 (refine dKs_eq fun _ _ h => ?_; subst h)
  refine dK0_eq ?_
  iterate 7 (refine dV_eq fun _ _ h => ?_; subst h)
  refine dN_eq fun h => ?_; subst h
  refine sk_eq (.seq (.run (sA (cd PG 29))) (.seq (.run (sA (sB (cd PG 29)))) (.run (sB (sB (cd PG 29)))))) (by kernel_rfl) ?_
  generalize execG π PG C = H
  kernel_rfl
-- 17 ravelin/intr Wakes
noncomputable def p17_0 {α : Type} (π : Prims α) (C : CallF α) (fr : Fr) (σ : St) (k : Ex → Fr → St → Option α) : Option α :=
  (fun no => (dV fr.slots no fun t0 r1 => (dV r1 no fun t1 r2 => (dK 8 r2 no fun r10 => (dN fr.esc 0 no (C 31 [t0, t1] σ (fun x0 σ1 => (C 32 [x0] σ1 (fun x2 σ3 => (π.bin PG .geq 3 true x2 (.int .i64 (Int.ofNat 0)) fun x4 => (updS fr [(4, .val x4), (0, .val t0), (0, .val t1), (0, .val x0), (0, .val x2), (0, .val x4)] fun fr5 => (k .ret fr5 σ3)))) (fun x6 σ7 => (updS fr [(4, .val (.bool false)), (0, .val t0), (0, .val t1), (0, .val x0)] fun fr8 => (k (.panic x6) fr8 σ7))))) (fun x9 σ10 => (updS fr [(4, .val (.bool false)), (0, .val t0), (0, .val t1)] fun fr11 => (k (.panic x9) fr11 σ10))))))))) (execG π PG C (cd PG 17) fr σ k)
theorem p17_0_eq {α : Type} (π : Prims α) (C : CallF α) : execG π PG C (cd PG 17) = p17_0 π C := by
  funext fr σ k
  obtain ⟨slots, defers, esc, rc⟩ := fr
  unfold p17_0
  iterate 2 (refine dV_eq fun _ _ h => ?_; subst h)
  iterate 8 (refine dKs_eq fun _ _ h => ?_; subst h)
  refine dK0_eq ?_
  refine dN_eq fun h => ?_; subst h
  refine sk_eq (.seq (.run (sA (cd PG 17))) (.seq (.run (sA (sB (cd PG 17)))) (.run (sB (sB (cd PG 17)))))) (by kernel_rfl) ?_
  generalize execG π PG C = H
  kernel_rfl
-- 183 (ravelin/xint doing) num
noncomputable def p183_0 {α : Type} (π : Prims α) (C : CallF α) (fr : Fr) (σ : St) (k : Ex → Fr → St → Option α) : Option α :=
  (fun no => (dV fr.slots no fun t0 r1 => (dV r1 no fun t1 r2 => (dK 11 r2 no fun r13 => (dN fr.esc 0 no (dataF t0 2 fun _ => (nbS fr 2 (AVal.cells t0) fun fr0 => (π.part false (AVal.cells t0) 0 1 fun x1 => (π.nc x1 fun _ => (π.add x1 0 fun x2 => (π.idxAddr PG 25 x2 t1 fun x3 => (π.add x3 8 fun x4 => (π.ld σ false 1 x4 fun x5 => (updS fr0 [(4, .val x5), (0, .ref 2 0), (0, .val x1), (0, .val t1), (0, .val x1), (0, .val x2), (0, .val x3), (0, .val x4), (0, .val x5)] fun fr6 => (k .ret fr6 σ))))))))))))))) (execG π PG C (cd PG 183) fr σ k)
theorem p183_0_eq {α : Type} (π : Prims α) (C : CallF α) : execG π PG C (cd PG 183) = p183_0 π C := by
  funext fr σ k
  obtain ⟨slots, defers, esc, rc⟩ := fr
  unfold p183_0
  iterate 2 (refine dV_eq fun _ _ h => ?_; subst h)
  iterate 11 (refine dKs_eq fun _ _ h => ?_; subst h)
  refine dK0_eq ?_
  refine dN_eq fun h => ?_; subst h
  refine sk_eq (.seq (.run (sA (cd PG 183))) (.seq (.run (sA (sB (cd PG 183)))) (.run (sB (sB (cd PG 183)))))) (by kernel_rfl) ?_
  generalize execG π PG C = H
  kernel_rfl
-- 62 (*ravelin/clint Clint) Time
noncomputable def p62_0 {α : Type} (π : Prims α) (C : CallF α) (fr : Fr) (σ : St) (k : Ex → Fr → St → Option α) : Option α :=
  (fun no => (dV fr.slots no fun t0 r1 => (dK 6 r1 no fun r7 => (dN fr.esc 0 no (π.nc t0 fun _ => (π.add t0 0 fun x0 => (C 104 [x0] σ (fun x1 σ2 => (updS fr [(2, .val x1), (0, .val t0), (0, .val t0), (0, .val x0), (0, .val x1)] fun fr3 => (k .ret fr3 σ2))) (fun x4 σ5 => (updS fr [(2, .val (.int .u64 (Int.ofNat 0))), (0, .val t0), (0, .val t0), (0, .val x0)] fun fr6 => (k (.panic x4) fr6 σ5)))))))))) (execG π PG C (cd PG 62) fr σ k)
theorem p62_0_eq {α : Type} (π : Prims α) (C : CallF α) : execG π PG C (cd PG 62) = p62_0 π C := by
  funext fr σ k
  obtain ⟨slots, defers, esc, rc⟩ := fr
  unfold p62_0
  refine dV_eq fun _ _ h => ?_; subst h
  iterate 6 (refine dKs_eq fun _ _ h => ?_; subst h)
  refine dK0_eq ?_
  refine dN_eq fun h => ?_; subst h
  refine sk_eq (.seq (.run (sA (cd PG 62))) (.seq (.run (sA (sB (cd PG 62)))) (.run (sB (sB (cd PG 62)))))) (by kernel_rfl) ?_
  generalize execG π PG C = H
  kernel_rfl
-- 237 (ravelin/base word) f3
noncomputable def p237_0 {α : Type} (π : Prims α) (C : CallF α) (fr : Fr) (σ : St) (k : Ex → Fr → St → Option α) : Option α :=
  (fun no => (dV fr.slots no fun t0 r1 => (dK 4 r1 no fun r5 => (dN fr.esc 0 no (C 234 [t0, (.int .i64 (Int.ofNat 14)), (.int .i64 (Int.ofNat 12))] σ (fun x0 σ1 => (updS fr [(2, .val x0), (0, .val t0), (0, .val x0)] fun fr2 => (k .ret fr2 σ1))) (fun x3 σ4 => (updS fr [(2, .val (.int .i64 (Int.ofNat 0))), (0, .val t0)] fun fr5 => (k (.panic x3) fr5 σ4)))))))) (execG π PG C (cd PG 237) fr σ k)
theorem p237_0_eq {α : Type} (π : Prims α) (C : CallF α) : execG π PG C (cd PG 237) = p237_0 π C := by
  funext fr σ k
  obtain ⟨slots, defers, esc, rc⟩ := fr
  unfold p237_0
  refine dV_eq fun _ _ h => ?_; subst h
  iterate 4 (refine dKs_eq fun _ _ h => ?_; subst h)
  refine dK0_eq ?_
  refine dN_eq fun h => ?_; subst h
  refine sk_eq (.seq (.run (sA (cd PG 237))) (.seq (.run (sA (sB (cd PG 237)))) (.run (sB (sB (cd PG 237)))))) (by kernel_rfl) ?_
  generalize execG π PG C = H
  kernel_rfl
-- 42 ravelin/decode Long
noncomputable def p42_0 {α : Type} (π : Prims α) (C : CallF α) (fr : Fr) (σ : St) (k : Ex → Fr → St → Option α) : Option α :=
  (fun no => (dV fr.slots no fun t0 r1 => (dK 5 r1 no fun r6 => (dN fr.esc 0 no (π.bin PG .and 109 true t0 (.int .u16 (Int.ofNat 3)) fun x0 => (π.bin PG .eql 109 true x0 (.int .u16 (Int.ofNat 3)) fun x1 => (updS fr [(2, .val x1), (0, .val t0), (0, .val x0), (0, .val x1)] fun fr2 => (k .ret fr2 σ)))))))) (execG π PG C (cd PG 42) fr σ k)
theorem p42_0_eq {α : Type} (π : Prims α) (C : CallF α) : execG π PG C (cd PG 42) = p42_0 π C := by
  funext fr σ k
  obtain ⟨slots, defers, esc, rc⟩ := fr
  unfold p42_0
  refine dV_eq fun _ _ h => ?_; subst h
  iterate 5 (refine dKs_eq fun _ _ h => ?_; subst h)
  refine dK0_eq ?_
  refine dN_eq fun h => ?_; subst h
  refine sk_eq (.seq (.run (sA (cd PG 42))) (.seq (.run (sA (sB (cd PG 42)))) (.run (sB (sB (cd PG 42)))))) (by kernel_rfl) ?_
  generalize execG π PG C = H
  kernel_rfl
-- 98 ravelin/serial New
noncomputable def p98_0 {α : Type} (π : Prims α) (C : CallF α) (fr : Fr) (σ : St) (k : Ex → Fr → St → Option α) : Option α :=
  (fun no => (dK 3 fr.slots no fun r3 => (dN fr.esc 4 no (dataF (.agg zl278) 2 fun _ => π.alloc σ (.cells 0 (AVal.cells (.agg zl278))) fun x0 σ1 => (updS fr [(0, .val x0), (0, .val (.agg zl278)), (0, .val x0)] fun fr2 => (k .ret fr2 σ1)))))) (execG π PG C (cd PG 98) fr σ k)
theorem p98_0_eq {α : Type} (π : Prims α) (C : CallF α) : execG π PG C (cd PG 98) = p98_0 π C := by
  funext fr σ k
  obtain ⟨slots, defers, esc, rc⟩ := fr
  unfold p98_0
  iterate 3 (refine dKs_eq fun _ _ h => ?_; subst h)
  refine dK0_eq ?_
  refine dN_eq fun h => ?_; subst h
  refine sk_eq (.seq (.run (sA (cd PG 98))) (.seq (.run (sA (sB (cd PG 98)))) (.run (sB (sB (cd PG 98)))))) (by kernel_rfl) ?_
  generalize execG π PG C = H
  kernel_rfl
end
end Go.Sh
