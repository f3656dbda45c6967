/-
  Functions of the program in a shallow form (printed by a program of mine), each shown to be what the machine runs. No condition.
-/
import Derived.Test.YtidpincekbgjmaaGreatDoorD
set_option linter.unusedVariables false
set_option linter.unusedSimpArgs false
open Go Go.Abs Go.Proofs
namespace Go.Sh
noncomputable section
set_option maxRecDepth 100000
set_option maxHeartbeats 0
-- 184 ravelin/word Alu
noncomputable def p184_2 {α : Type} (π : Prims α) (C : CallF α) (fr : Fr) (σ : St) (k : Ex → Fr → St → Option α) : Option α :=
  (fun no => (dV fr.slots no fun t0 r1 => (dK 1 r1 no fun r2 => (dV r2 no fun t2 r3 => (dV r3 no fun t3 r4 => (dK 90 r4 no fun r94 => (dN fr.esc 0 no (π.bin PG .eql 3 true t0 (.int .i64 (Int.ofNat 0)) fun x0 => (π.cond x0 (fun _ => (π.bin PG .add 22 false t2 t3 fun x1 => (updS fr [(8, .val x1), (0, .val (.bool true)), (35, .val t0), (0, .val x0), (0, .val x0), (0, .val t2), (0, .val t3), (0, .val x1)] fun fr2 => (k .ret fr2 σ)))) (fun _ => (π.bin PG .eql 3 true t0 (.int .i64 (Int.ofNat 8)) fun x3 => (π.cond x3 (fun _ => (π.bin PG .sub 22 false t2 t3 fun x4 => (updS fr [(8, .val x4), (0, .val (.bool true)), (35, .val t0), (0, .val x0), (0, .val x0), (3, .val x3), (0, .val x3), (0, .val t2), (0, .val t3), (0, .val x4)] fun fr5 => (k .ret fr5 σ)))) (fun _ => (π.bin PG .eql 3 true t0 (.int .i64 (Int.ofNat 2)) fun x6 => (π.cond x6 (fun _ => (π.conv PG 22 2 t2 fun x7 => (π.conv PG 22 2 t3 fun x8 => (π.bin PG .lss 2 false x7 x8 fun x9 => (C 266 [x9] σ (fun x10 σ11 => (updS fr [(8, .val x10), (0, .val (.bool true)), (35, .val t0), (0, .val x0), (0, .val x0), (3, .val x3), (0, .val x3), (3, .val x6), (0, .val x6), (0, .val t2), (0, .val x7), (0, .val t3), (0, .val x8), (0, .val x9), (0, .val x10)] fun fr12 => (k .ret fr12 σ11))) (fun x13 σ14 => (updS fr [(45, .val t0), (0, .val x0), (0, .val x0), (3, .val x3), (0, .val x3), (3, .val x6), (0, .val x6), (0, .val t2), (0, .val x7), (0, .val t3), (0, .val x8), (0, .val x9)] fun fr15 => (k (.panic x13) fr15 σ14)))))))) (fun _ => (π.bin PG .eql 3 true t0 (.int .i64 (Int.ofNat 3)) fun x16 => (π.cond x16 (fun _ => (π.bin PG .lss 22 false t2 t3 fun x17 => (C 266 [x17] σ (fun x18 σ19 => (updS fr [(8, .val x18), (0, .val (.bool true)), (35, .val t0), (0, .val x0), (0, .val x0), (3, .val x3), (0, .val x3), (3, .val x6), (0, .val x6), (6, .val x16), (0, .val x16), (0, .val t2), (0, .val t3), (0, .val x17), (0, .val x18)] fun fr20 => (k .ret fr20 σ19))) (fun x21 σ22 => (updS fr [(45, .val t0), (0, .val x0), (0, .val x0), (3, .val x3), (0, .val x3), (3, .val x6), (0, .val x6), (6, .val x16), (0, .val x16), (0, .val t2), (0, .val t3), (0, .val x17)] fun fr23 => (k (.panic x21) fr23 σ22)))))) (fun _ => (π.bin PG .eql 3 true t0 (.int .i64 (Int.ofNat 4)) fun x24 => (π.cond x24 (fun _ => (π.bin PG .xor 22 false t2 t3 fun x25 => (updS fr [(8, .val x25), (0, .val (.bool true)), (35, .val t0), (0, .val x0), (0, .val x0), (3, .val x3), (0, .val x3), (3, .val x6), (0, .val x6), (6, .val x16), (0, .val x16), (4, .val x24), (0, .val x24), (0, .val t2), (0, .val t3), (0, .val x25)] fun fr26 => (k .ret fr26 σ)))) (fun _ => (π.bin PG .eql 3 true t0 (.int .i64 (Int.ofNat 6)) fun x27 => (π.cond x27 (fun _ => (π.bin PG .or 22 false t2 t3 fun x28 => (updS fr [(8, .val x28), (0, .val (.bool true)), (35, .val t0), (0, .val x0), (0, .val x0), (3, .val x3), (0, .val x3), (3, .val x6), (0, .val x6), (6, .val x16), (0, .val x16), (4, .val x24), (0, .val x24), (3, .val x27), (0, .val x27), (0, .val t2), (0, .val t3), (0, .val x28)] fun fr29 => (k .ret fr29 σ)))) (fun _ => (π.bin PG .eql 3 true t0 (.int .i64 (Int.ofNat 7)) fun x30 => (π.cond x30 (fun _ => (π.bin PG .and 22 false t2 t3 fun x31 => (updS fr [(8, .val x31), (0, .val (.bool true)), (35, .val t0), (0, .val x0), (0, .val x0), (3, .val x3), (0, .val x3), (3, .val x6), (0, .val x6), (6, .val x16), (0, .val x16), (4, .val x24), (0, .val x24), (3, .val x27), (0, .val x27), (3, .val x30), (0, .val x30), (0, .val t2), (0, .val t3), (0, .val x31)] fun fr32 => (k .ret fr32 σ)))) (fun _ => (π.conv PG 22 2 t2 fun x33 => (π.bin PG .rem 22 true t3 (.int .u64 (Int.ofNat 64)) fun x34 => (C 267 [t0, t2, x33, x34] σ (fun x35 σ36 => (π.extract x35 0 fun x37 => (π.extract x35 1 fun x38 => (updS fr [(8, .val x37), (0, .val x38), (35, .val t0), (0, .val x0), (0, .val x0), (3, .val x3), (0, .val x3), (3, .val x6), (0, .val x6), (6, .val x16), (0, .val x16), (4, .val x24), (0, .val x24), (3, .val x27), (0, .val x27), (3, .val x30), (0, .val x30), (3, .val t0), (0, .val t2), (0, .val t2), (0, .val x33), (0, .val t3), (0, .val x34), (0, .val x35), (0, .val x37), (0, .val x38)] fun fr39 => (k .ret fr39 σ36))))) (fun x40 σ41 => (updS fr [(45, .val t0), (0, .val x0), (0, .val x0), (3, .val x3), (0, .val x3), (3, .val x6), (0, .val x6), (6, .val x16), (0, .val x16), (4, .val x24), (0, .val x24), (3, .val x27), (0, .val x27), (3, .val x30), (0, .val x30), (3, .val t0), (0, .val t2), (0, .val t2), (0, .val x33), (0, .val t3), (0, .val x34)] fun fr42 => (k (.panic x40) fr42 σ41)))))))))))))))))))))))))))))))))) (execG π PG C (sB (sB (cd PG 184))) fr σ k)
theorem p184_2_eq {α : Type} (π : Prims α) (C : CallF α) : execG π PG C (sB (sB (cd PG 184))) = p184_2 π C := by
  funext fr σ k
  obtain ⟨slots, defers, esc, rc⟩ := fr
  unfold p184_2
  refine dV_eq fun _ _ h => ?_; subst h
  iterate 1 (refine dKs_eq fun _ _ h => ?_; subst h)
  refine dK0_eq ?_
  iterate 2 (refine dV_eq fun _ _ h => ?_; subst h)
  iterate 90 (refine dKs_eq fun _ _ h => ?_; subst h)
  refine dK0_eq ?_
  refine dN_eq fun h => ?_; subst h
  refine sk_eq (.seq (.seq (.run (sA (sA (sB (sB (cd PG 184)))))) (.block 1 (.seq (.run (sA (bK (sB (sA (sB (sB (cd PG 184)))))))) (.cond (cX (sB (bK (sB (sA (sB (sB (cd PG 184)))))))) (.seq (.run (sA (cA (sB (bK (sB (sA (sB (sB (cd PG 184)))))))))) (.run (sB (cA (sB (bK (sB (sA (sB (sB (cd PG 184))))))))))) (.seq (.run (sA (cB (sB (bK (sB (sA (sB (sB (cd PG 184)))))))))) (.cond (cX (sB (cB (sB (bK (sB (sA (sB (sB (cd PG 184)))))))))) (.seq (.run (sA (cA (sB (cB (sB (bK (sB (sA (sB (sB (cd PG 184)))))))))))) (.run (sB (cA (sB (cB (sB (bK (sB (sA (sB (sB (cd PG 184))))))))))))) (.seq (.run (sA (cB (sB (cB (sB (bK (sB (sA (sB (sB (cd PG 184)))))))))))) (.cond (cX (sB (cB (sB (cB (sB (bK (sB (sA (sB (sB (cd PG 184)))))))))))) (.seq (.run (sA (cA (sB (cB (sB (cB (sB (bK (sB (sA (sB (sB (cd PG 184)))))))))))))) (.run (sB (cA (sB (cB (sB (cB (sB (bK (sB (sA (sB (sB (cd PG 184))))))))))))))) (.seq (.run (sA (cB (sB (cB (sB (cB (sB (bK (sB (sA (sB (sB (cd PG 184)))))))))))))) (.cond (cX (sB (cB (sB (cB (sB (cB (sB (bK (sB (sA (sB (sB (cd PG 184)))))))))))))) (.seq (.run (sA (cA (sB (cB (sB (cB (sB (cB (sB (bK (sB (sA (sB (sB (cd PG 184)))))))))))))))) (.run (sB (cA (sB (cB (sB (cB (sB (cB (sB (bK (sB (sA (sB (sB (cd PG 184))))))))))))))))) (.seq (.run (sA (cB (sB (cB (sB (cB (sB (cB (sB (bK (sB (sA (sB (sB (cd PG 184)))))))))))))))) (.cond (cX (sB (cB (sB (cB (sB (cB (sB (cB (sB (bK (sB (sA (sB (sB (cd PG 184)))))))))))))))) (.seq (.run (sA (cA (sB (cB (sB (cB (sB (cB (sB (cB (sB (bK (sB (sA (sB (sB (cd PG 184)))))))))))))))))) (.run (sB (cA (sB (cB (sB (cB (sB (cB (sB (cB (sB (bK (sB (sA (sB (sB (cd PG 184))))))))))))))))))) (.seq (.run (sA (cB (sB (cB (sB (cB (sB (cB (sB (cB (sB (bK (sB (sA (sB (sB (cd PG 184)))))))))))))))))) (.cond (cX (sB (cB (sB (cB (sB (cB (sB (cB (sB (cB (sB (bK (sB (sA (sB (sB (cd PG 184)))))))))))))))))) (.seq (.run (sA (cA (sB (cB (sB (cB (sB (cB (sB (cB (sB (cB (sB (bK (sB (sA (sB (sB (cd PG 184)))))))))))))))))))) (.run (sB (cA (sB (cB (sB (cB (sB (cB (sB (cB (sB (cB (sB (bK (sB (sA (sB (sB (cd PG 184))))))))))))))))))))) (.seq (.run (sA (cB (sB (cB (sB (cB (sB (cB (sB (cB (sB (cB (sB (bK (sB (sA (sB (sB (cd PG 184)))))))))))))))))))) (.cond (cX (sB (cB (sB (cB (sB (cB (sB (cB (sB (cB (sB (cB (sB (bK (sB (sA (sB (sB (cd PG 184)))))))))))))))))))) (.seq (.run (sA (cA (sB (cB (sB (cB (sB (cB (sB (cB (sB (cB (sB (cB (sB (bK (sB (sA (sB (sB (cd PG 184)))))))))))))))))))))) (.run (sB (cA (sB (cB (sB (cB (sB (cB (sB (cB (sB (cB (sB (cB (sB (bK (sB (sA (sB (sB (cd PG 184))))))))))))))))))))))) (.run (cB (sB (cB (sB (cB (sB (cB (sB (cB (sB (cB (sB (cB (sB (bK (sB (sA (sB (sB (cd PG 184))))))))))))))))))))))))))))))))))))) (.seq (.run (sA (sB (sB (sB (cd PG 184)))))) (.run (sB (sB (sB (sB (cd PG 184)))))))) (by kernel_rfl) ?_
  generalize execG π PG C = H
  kernel_rfl
noncomputable def p184_1 {α : Type} (π : Prims α) (C : CallF α) (fr : Fr) (σ : St) (k : Ex → Fr → St → Option α) : Option α :=
  (fun no => (dK 12 fr.slots no fun r12 => (dV r12 no fun t12 r13 => (dV r13 no fun t13 r14 => (dK 31 r14 no fun r45 => (dN fr.esc 0 no (π.conv PG 32 21 t12 fun x0 => (π.conv PG 21 2 x0 fun x1 => (π.conv PG 2 22 x1 fun x2 => (updS fr [(8, .val x2), (0, .val t13), (30, .val t12), (0, .val x0), (0, .val x1), (0, .val x2), (0, .val t13)] fun fr3 => (k .ret fr3 σ))))))))))) (execG π PG C (sB (sB (sB (cA (sB (sA (sB (cd PG 184)))))))) fr σ k)
theorem p184_1_eq {α : Type} (π : Prims α) (C : CallF α) : execG π PG C (sB (sB (sB (cA (sB (sA (sB (cd PG 184)))))))) = p184_1 π C := by
  funext fr σ k
  obtain ⟨slots, defers, esc, rc⟩ := fr
  unfold p184_1
  iterate 12 (refine dKs_eq fun _ _ h => ?_; subst h)
  refine dK0_eq ?_
  iterate 2 (refine dV_eq fun _ _ h => ?_; subst h)
  iterate 31 (refine dKs_eq fun _ _ h => ?_; subst h)
  refine dK0_eq ?_
  refine dN_eq fun h => ?_; subst h
  refine sk_eq (.seq (.run (sA (sB (sB (sB (cA (sB (sA (sB (cd PG 184)))))))))) (.run (sB (sB (sB (sB (cA (sB (sA (sB (cd PG 184))))))))))) (by kernel_rfl) ?_
  generalize execG π PG C = H
  kernel_rfl
noncomputable def p184_0 {α : Type} (π : Prims α) (C : CallF α) (fr : Fr) (σ : St) (k : Ex → Fr → St → Option α) : Option α :=
  (fun no => (dV fr.slots no fun t0 r1 => (dV r1 no fun t1 r2 => (dV r2 no fun t2 r3 => (dV r3 no fun t3 r4 => (dK 90 r4 no fun r94 => (dN fr.esc 0 no (π.cond t1 (fun _ => (π.conv PG 22 32 t2 fun x0 => (π.conv PG 22 32 t3 fun x1 => (π.conv PG 32 21 x0 fun x2 => (π.bin PG .rem 32 true x1 (.int .u32 (Int.ofNat 32)) fun x3 => (C 265 [t0, x0, x2, x3] σ (fun x4 σ5 => (π.extract x4 0 fun x6 => (π.extract x4 1 fun x7 => (π.bin PG .eql 3 true t0 (.int .i64 (Int.ofNat 0)) fun x8 => (π.cond x8 (fun _ => (π.bin PG .add 32 false x0 x1 fun x9 => (updS fr [(8, .val (.int .u64 (Int.ofNat 0))), (0, .val (.bool false)), (0, .val x0), (0, .val x1), (0, .val x9), (0, .val (.bool true)), (0, .val t1), (0, .val t2), (0, .val x0), (0, .val t3), (0, .val x1), (0, .val x4), (0, .val t0), (0, .val x0), (0, .val x0), (0, .val x2), (0, .val x1), (0, .val x3), (0, .val x4), (0, .val x6), (0, .val x7), (0, .val t0), (0, .val x8), (0, .val x8), (0, .val x0), (0, .val x1), (0, .val x9)] fun fr10 => (p184_1 π C fr10 σ5 (seqK (p184_2 π C) k))))) (fun _ => (π.bin PG .eql 3 true t0 (.int .i64 (Int.ofNat 8)) fun x11 => (π.cond x11 (fun _ => (π.bin PG .sub 32 false x0 x1 fun x12 => (updS fr [(8, .val (.int .u64 (Int.ofNat 0))), (0, .val (.bool false)), (0, .val x0), (0, .val x1), (0, .val x12), (0, .val (.bool true)), (0, .val t1), (0, .val t2), (0, .val x0), (0, .val t3), (0, .val x1), (0, .val x4), (0, .val t0), (0, .val x0), (0, .val x0), (0, .val x2), (0, .val x1), (0, .val x3), (0, .val x4), (0, .val x6), (0, .val x7), (0, .val t0), (0, .val x8), (0, .val x8), (3, .val x11), (0, .val x11), (0, .val x0), (0, .val x1), (0, .val x12)] fun fr13 => (p184_1 π C fr13 σ5 (seqK (p184_2 π C) k))))) (fun _ => (updS fr [(8, .val (.int .u64 (Int.ofNat 0))), (0, .val (.bool false)), (0, .val x0), (0, .val x1), (0, .val x6), (0, .val x7), (0, .val t1), (0, .val t2), (0, .val x0), (0, .val t3), (0, .val x1), (0, .val x4), (0, .val t0), (0, .val x0), (0, .val x0), (0, .val x2), (0, .val x1), (0, .val x3), (0, .val x4), (0, .val x6), (0, .val x7), (0, .val t0), (0, .val x8), (0, .val x8), (3, .val x11), (0, .val x11)] fun fr14 => (p184_1 π C fr14 σ5 (seqK (p184_2 π C) k)))))))))))) (fun x15 σ16 => (updS fr [(8, .val (.int .u64 (Int.ofNat 0))), (0, .val (.bool false)), (0, .val x0), (0, .val x1), (2, .val t1), (0, .val t2), (0, .val x0), (0, .val t3), (0, .val x1), (1, .val t0), (0, .val x0), (0, .val x0), (0, .val x2), (0, .val x1), (0, .val x3)] fun fr17 => (k (.panic x15) fr17 σ16))))))))) (fun _ => (π.bin PG .eql 3 true t0 (.int .i64 (Int.ofNat 0)) fun x18 => (π.cond x18 (fun _ => (π.bin PG .add 22 false t2 t3 fun x19 => (updS fr [(8, .val x19), (0, .val (.bool true)), (4, .val t1), (30, .val t0), (0, .val x18), (0, .val x18), (0, .val t2), (0, .val t3), (0, .val x19)] fun fr20 => (k .ret fr20 σ)))) (fun _ => (π.bin PG .eql 3 true t0 (.int .i64 (Int.ofNat 8)) fun x21 => (π.cond x21 (fun _ => (π.bin PG .sub 22 false t2 t3 fun x22 => (updS fr [(8, .val x22), (0, .val (.bool true)), (4, .val t1), (30, .val t0), (0, .val x18), (0, .val x18), (3, .val x21), (0, .val x21), (0, .val t2), (0, .val t3), (0, .val x22)] fun fr23 => (k .ret fr23 σ)))) (fun _ => (π.bin PG .eql 3 true t0 (.int .i64 (Int.ofNat 2)) fun x24 => (π.cond x24 (fun _ => (π.conv PG 22 2 t2 fun x25 => (π.conv PG 22 2 t3 fun x26 => (π.bin PG .lss 2 false x25 x26 fun x27 => (C 266 [x27] σ (fun x28 σ29 => (updS fr [(8, .val x28), (0, .val (.bool true)), (4, .val t1), (30, .val t0), (0, .val x18), (0, .val x18), (3, .val x21), (0, .val x21), (3, .val x24), (0, .val x24), (0, .val t2), (0, .val x25), (0, .val t3), (0, .val x26), (0, .val x27), (0, .val x28)] fun fr30 => (k .ret fr30 σ29))) (fun x31 σ32 => (updS fr [(8, .val (.int .u64 (Int.ofNat 0))), (0, .val (.bool false)), (4, .val t1), (30, .val t0), (0, .val x18), (0, .val x18), (3, .val x21), (0, .val x21), (3, .val x24), (0, .val x24), (0, .val t2), (0, .val x25), (0, .val t3), (0, .val x26), (0, .val x27)] fun fr33 => (k (.panic x31) fr33 σ32)))))))) (fun _ => (π.bin PG .eql 3 true t0 (.int .i64 (Int.ofNat 3)) fun x34 => (π.cond x34 (fun _ => (π.bin PG .lss 22 false t2 t3 fun x35 => (C 266 [x35] σ (fun x36 σ37 => (updS fr [(8, .val x36), (0, .val (.bool true)), (4, .val t1), (30, .val t0), (0, .val x18), (0, .val x18), (3, .val x21), (0, .val x21), (3, .val x24), (0, .val x24), (6, .val x34), (0, .val x34), (0, .val t2), (0, .val t3), (0, .val x35), (0, .val x36)] fun fr38 => (k .ret fr38 σ37))) (fun x39 σ40 => (updS fr [(8, .val (.int .u64 (Int.ofNat 0))), (0, .val (.bool false)), (4, .val t1), (30, .val t0), (0, .val x18), (0, .val x18), (3, .val x21), (0, .val x21), (3, .val x24), (0, .val x24), (6, .val x34), (0, .val x34), (0, .val t2), (0, .val t3), (0, .val x35)] fun fr41 => (k (.panic x39) fr41 σ40)))))) (fun _ => (π.bin PG .eql 3 true t0 (.int .i64 (Int.ofNat 4)) fun x42 => (π.cond x42 (fun _ => (π.bin PG .xor 22 false t2 t3 fun x43 => (updS fr [(8, .val x43), (0, .val (.bool true)), (4, .val t1), (30, .val t0), (0, .val x18), (0, .val x18), (3, .val x21), (0, .val x21), (3, .val x24), (0, .val x24), (6, .val x34), (0, .val x34), (4, .val x42), (0, .val x42), (0, .val t2), (0, .val t3), (0, .val x43)] fun fr44 => (k .ret fr44 σ)))) (fun _ => (π.bin PG .eql 3 true t0 (.int .i64 (Int.ofNat 6)) fun x45 => (π.cond x45 (fun _ => (π.bin PG .or 22 false t2 t3 fun x46 => (updS fr [(8, .val x46), (0, .val (.bool true)), (4, .val t1), (30, .val t0), (0, .val x18), (0, .val x18), (3, .val x21), (0, .val x21), (3, .val x24), (0, .val x24), (6, .val x34), (0, .val x34), (4, .val x42), (0, .val x42), (3, .val x45), (0, .val x45), (0, .val t2), (0, .val t3), (0, .val x46)] fun fr47 => (k .ret fr47 σ)))) (fun _ => (π.bin PG .eql 3 true t0 (.int .i64 (Int.ofNat 7)) fun x48 => (π.cond x48 (fun _ => (π.bin PG .and 22 false t2 t3 fun x49 => (updS fr [(8, .val x49), (0, .val (.bool true)), (4, .val t1), (30, .val t0), (0, .val x18), (0, .val x18), (3, .val x21), (0, .val x21), (3, .val x24), (0, .val x24), (6, .val x34), (0, .val x34), (4, .val x42), (0, .val x42), (3, .val x45), (0, .val x45), (3, .val x48), (0, .val x48), (0, .val t2), (0, .val t3), (0, .val x49)] fun fr50 => (k .ret fr50 σ)))) (fun _ => (π.conv PG 22 2 t2 fun x51 => (π.bin PG .rem 22 true t3 (.int .u64 (Int.ofNat 64)) fun x52 => (C 267 [t0, t2, x51, x52] σ (fun x53 σ54 => (π.extract x53 0 fun x55 => (π.extract x53 1 fun x56 => (updS fr [(8, .val x55), (0, .val x56), (4, .val t1), (30, .val t0), (0, .val x18), (0, .val x18), (3, .val x21), (0, .val x21), (3, .val x24), (0, .val x24), (6, .val x34), (0, .val x34), (4, .val x42), (0, .val x42), (3, .val x45), (0, .val x45), (3, .val x48), (0, .val x48), (3, .val t0), (0, .val t2), (0, .val t2), (0, .val x51), (0, .val t3), (0, .val x52), (0, .val x53), (0, .val x55), (0, .val x56)] fun fr57 => (k .ret fr57 σ54))))) (fun x58 σ59 => (updS fr [(8, .val (.int .u64 (Int.ofNat 0))), (0, .val (.bool false)), (4, .val t1), (30, .val t0), (0, .val x18), (0, .val x18), (3, .val x21), (0, .val x21), (3, .val x24), (0, .val x24), (6, .val x34), (0, .val x34), (4, .val x42), (0, .val x42), (3, .val x45), (0, .val x45), (3, .val x48), (0, .val x48), (3, .val t0), (0, .val t2), (0, .val t2), (0, .val x51), (0, .val t3), (0, .val x52)] fun fr60 => (k (.panic x58) fr60 σ59)))))))))))))))))))))))))))))))))))) (execG π PG C (cd PG 184) fr σ k)
theorem p184_0_eq {α : Type} (π : Prims α) (C : CallF α) : execG π PG C (cd PG 184) = p184_0 π C := by
  funext fr σ k
  obtain ⟨slots, defers, esc, rc⟩ := fr
  unfold p184_0
  iterate 4 (refine dV_eq fun _ _ h => ?_; subst h)
  iterate 90 (refine dKs_eq fun _ _ h => ?_; subst h)
  refine dK0_eq ?_
  refine dN_eq fun h => ?_; subst h
  try rw [← p184_2_eq π C]
  try rw [← p184_1_eq π C]
  refine sk_eq (.seq (.run (sA (cd PG 184))) (.seq (.seq (.run (sA (sA (sB (cd PG 184))))) (.cond (cX (sB (sA (sB (cd PG 184))))) (.seq (.run (sA (cA (sB (sA (sB (cd PG 184))))))) (.seq (.run (sA (sB (cA (sB (sA (sB (cd PG 184)))))))) (.seq (.seq (.run (sA (sA (sB (sB (cA (sB (sA (sB (cd PG 184)))))))))) (.block 0 (.seq (.run (sA (bK (sB (sA (sB (sB (cA (sB (sA (sB (cd PG 184)))))))))))) (.cond (cX (sB (bK (sB (sA (sB (sB (cA (sB (sA (sB (cd PG 184)))))))))))) (.run (cA (sB (bK (sB (sA (sB (sB (cA (sB (sA (sB (cd PG 184))))))))))))) (.seq (.run (sA (cB (sB (bK (sB (sA (sB (sB (cA (sB (sA (sB (cd PG 184)))))))))))))) (.cond (cX (sB (cB (sB (bK (sB (sA (sB (sB (cA (sB (sA (sB (cd PG 184)))))))))))))) (.run (cA (sB (cB (sB (bK (sB (sA (sB (sB (cA (sB (sA (sB (cd PG 184))))))))))))))) (.run (cB (sB (cB (sB (bK (sB (sA (sB (sB (cA (sB (sA (sB (cd PG 184))))))))))))))))))))) (.hole (sB (sB (sB (cA (sB (sA (sB (cd PG 184)))))))))))) (.run (cB (sB (sA (sB (cd PG 184)))))))) (.hole (sB (sB (cd PG 184)))))) (by kernel_rfl) ?_
  generalize execG π PG C = H
  kernel_rfl
-- 8 ravelin/ravelinlaw29 known
noncomputable def p8_0 {α : Type} (π : Prims α) (C : CallF α) (fr : Fr) (σ : St) (k : Ex → Fr → St → Option α) : Option α :=
  (fun no => (dK 26 fr.slots no fun r26 => (dV r26 no fun t26 r27 => (dV r27 no fun t27 r28 => (dV r28 no fun t28 r29 => (dV r29 no fun t29 r30 => (dV r30 no fun t30 r31 => (dV r31 no fun t31 r32 => (dV r32 no fun t32 r33 => (dV r33 no fun t33 r34 => (dV r34 no fun t34 r35 => (dV r35 no fun t35 r36 => (dV r36 no fun t36 r37 => (dV r37 no fun t37 r38 => (dV r38 no fun t38 r39 => (dV r39 no fun t39 r40 => (dV r40 no fun t40 r41 => (dV r41 no fun t41 r42 => (dV r42 no fun t42 r43 => (dV r43 no fun t43 r44 => (dV r44 no fun t44 r45 => (dV r45 no fun t45 r46 => (dV r46 no fun t46 r47 => (dV r47 no fun t47 r48 => (dV r48 no fun t48 r49 => (dV r49 no fun t49 r50 => (dV r50 no fun t50 r51 => (dV r51 no fun t51 r52 => (dV r52 no fun t52 r53 => (dV r53 no fun t53 r54 => (dV r54 no fun t54 r55 => (dV r55 no fun t55 r56 => (dV r56 no fun t56 r57 => (dV r57 no fun t57 r58 => (dV r58 no fun t58 r59 => (dV r59 no fun t59 r60 => (dV r60 no fun t60 r61 => (dV r61 no fun t61 r62 => (dV r62 no fun t62 r63 => (dV r63 no fun t63 r64 => (dN fr.esc 4 no (C 4 [] σ (fun x0 σ1 => (π.put [(.int .u32 (Int.ofNat 0)), (.int .u32 (Int.ofNat 0))] 0 1 (.int .u32 (Int.ofNat 10487059)) fun c2 => (π.put c2 1 1 (.int .u32 (Int.ofNat 0)) fun c3 => (π.newSl σ1 1 c3 2 fun x5 σ4 => (π.put zl39 5 396 x0 fun c6 => (π.put c6 401 1 x5 fun c7 => (π.put c7 402 1 (.bool true) fun c8 => (C 5 [(.agg c8)] σ4 (fun x9 σ10 => (π.extract x9 0 fun x11 => (π.extract x9 1 fun x12 => (π.alloc σ10 (.cells 0 zl27) fun x13 σ14 => (π.st σ14 396 x13 x12 fun σ15 => (π.bin PG .eql 29 true x11 (.ptr none) fun x16 => (π.cond x16 (fun _ => (updS fr [(0, .val (.bool false)), (0, .val x11), (0, .val x13), (4, .val x9), (0, .val x0), (0, .val x5), (0, .val (.agg c8)), (0, .val x9), (0, .val x11), (0, .val x12), (0, .val x11), (0, .val x16)] fun fr17 => (k .ret fr17 σ15))) (fun _ => (C 6 [x11, x13, (.bool false)] σ15 (fun x18 σ19 => (π.extract x18 0 fun x20 => (π.extract x18 1 fun x21 => (C 6 [x11, x13, (.bool false)] σ19 (fun x22 σ23 => (π.extract x22 0 fun x24 => (π.extract x22 1 fun x25 => (π.un .not x20 fun x26 => (gdF x26 (fun _ => (π.len PG 40 x21 fun x27 => (π.bin PG .eql 3 true x27 (.int .i64 (Int.ofNat 2)) fun x28 => (gdF x28 (fun _ => (π.add x13 0 fun x29 => (π.idxAddr PG 25 x29 (.int .i64 (Int.ofNat 10)) fun x30 => (π.ld σ23 true 9 x30 fun x31 => ((lockCall true C) 10 [(.int .u64 (Int.ofNat 10))] σ23 (fun x32 σ33 => (π.bin PG .eql 24 false x31 x32 fun x34 => (gdF x34 (fun _ => (gdF x24 (fun _ => (π.add x13 386 fun x35 => (π.ld σ33 false 1 x35 fun x36 => (π.bin PG .eql 22 true x36 (.int .u64 (Int.ofNat 2)) fun x37 => (gdF x37 (fun _ => (π.add x13 288 fun x38 => (π.add x38 8 fun x39 => (π.ld σ33 false 1 x39 fun x40 => (π.bin PG .eql 22 true x40 (.int .u64 (Int.ofNat 2147483904)) fun x41 => (gdF x41 (fun _ => (π.add x13 393 fun x42 => (π.ld σ33 false 1 x42 fun x43 => (π.bin PG .eql 22 true x43 (.int .u64 (Int.ofNat 2)) fun x44 => (gdF x44 (fun _ => (π.add x13 394 fun x45 => (π.ld σ33 false 1 x45 fun x46 => (π.bin PG .eql 22 true x46 (.int .u64 (Int.ofNat 1)) fun x47 => (updS fr [(0, .val x47), (0, .val x11), (0, .val x13), (0, .val x20), (0, .val x21), (0, .val x24), (0, .val x25), (0, .val x9), (0, .val x0), (0, .val x5), (0, .val (.agg c8)), (0, .val x9), (0, .val x11), (0, .val x12), (0, .val x11), (0, .val x16), (0, .val x18), (0, .val x11), (0, .val x18), (0, .val x20), (0, .val x21), (0, .val x22), (0, .val x11), (0, .val x22), (0, .val x24), (0, .val x25), (0, .val x20), (0, .val x26), (0, .val (.bool true)), (0, .val x21), (0, .val x27), (0, .val x28), (0, .val x28), (0, .val (.bool true)), (0, .val x29), (0, .val x30), (0, .val x31), (0, .val x32), (0, .val x34), (0, .val x34), (0, .val (.bool true)), (0, .val x24), (0, .val x24), (0, .val (.bool true)), (0, .val x35), (0, .val x36), (0, .val x37), (0, .val x37), (0, .val (.bool true)), (0, .val x38), (0, .val x39), (0, .val x40), (0, .val x41), (0, .val x41), (0, .val (.bool true)), (0, .val x42), (0, .val x43), (0, .val x44), (0, .val x44), (0, .val (.bool true)), (0, .val x45), (0, .val x46), (0, .val x47), (0, .val x47)] fun fr48 => (k .ret fr48 σ33)))))) (fun _ => (updS fr [(0, .val (.bool false)), (0, .val x11), (0, .val x13), (0, .val x20), (0, .val x21), (0, .val x24), (0, .val x25), (0, .val x9), (0, .val x0), (0, .val x5), (0, .val (.agg c8)), (0, .val x9), (0, .val x11), (0, .val x12), (0, .val x11), (0, .val x16), (0, .val x18), (0, .val x11), (0, .val x18), (0, .val x20), (0, .val x21), (0, .val x22), (0, .val x11), (0, .val x22), (0, .val x24), (0, .val x25), (0, .val x20), (0, .val x26), (0, .val (.bool true)), (0, .val x21), (0, .val x27), (0, .val x28), (0, .val x28), (0, .val (.bool true)), (0, .val x29), (0, .val x30), (0, .val x31), (0, .val x32), (0, .val x34), (0, .val x34), (0, .val (.bool true)), (0, .val x24), (0, .val x24), (0, .val (.bool true)), (0, .val x35), (0, .val x36), (0, .val x37), (0, .val x37), (0, .val (.bool true)), (0, .val x38), (0, .val x39), (0, .val x40), (0, .val x41), (0, .val x41), (0, .val (.bool true)), (0, .val x42), (0, .val x43), (0, .val x44), (0, .val x44), (0, .val (.bool false)), (0, .val (.tuple [])), (0, .val (.tuple [])), (0, .val (.tuple [])), (0, .val (.bool false))] fun fr49 => (k .ret fr49 σ33))) (fun _ => none)))))) (fun _ => (updS fr [(0, .val (.bool false)), (0, .val x11), (0, .val x13), (0, .val x20), (0, .val x21), (0, .val x24), (0, .val x25), (0, .val x9), (0, .val x0), (0, .val x5), (0, .val (.agg c8)), (0, .val x9), (0, .val x11), (0, .val x12), (0, .val x11), (0, .val x16), (0, .val x18), (0, .val x11), (0, .val x18), (0, .val x20), (0, .val x21), (0, .val x22), (0, .val x11), (0, .val x22), (0, .val x24), (0, .val x25), (0, .val x20), (0, .val x26), (0, .val (.bool true)), (0, .val x21), (0, .val x27), (0, .val x28), (0, .val x28), (0, .val (.bool true)), (0, .val x29), (0, .val x30), (0, .val x31), (0, .val x32), (0, .val x34), (0, .val x34), (0, .val (.bool true)), (0, .val x24), (0, .val x24), (0, .val (.bool true)), (0, .val x35), (0, .val x36), (0, .val x37), (0, .val x37), (0, .val (.bool true)), (0, .val x38), (0, .val x39), (0, .val x40), (0, .val x41), (0, .val x41), (0, .val (.bool false)), (0, .val (.tuple [])), (0, .val (.tuple [])), (0, .val (.tuple [])), (0, .val (.bool false)), (0, .val (.bool false)), (0, .val (.tuple [])), (0, .val (.tuple [])), (0, .val (.tuple [])), (0, .val (.bool false))] fun fr50 => (k .ret fr50 σ33))) (fun _ => none))))))) (fun _ => (updS fr [(0, .val (.bool false)), (0, .val x11), (0, .val x13), (0, .val x20), (0, .val x21), (0, .val x24), (0, .val x25), (0, .val x9), (0, .val x0), (0, .val x5), (0, .val (.agg c8)), (0, .val x9), (0, .val x11), (0, .val x12), (0, .val x11), (0, .val x16), (0, .val x18), (0, .val x11), (0, .val x18), (0, .val x20), (0, .val x21), (0, .val x22), (0, .val x11), (0, .val x22), (0, .val x24), (0, .val x25), (0, .val x20), (0, .val x26), (0, .val (.bool true)), (0, .val x21), (0, .val x27), (0, .val x28), (0, .val x28), (0, .val (.bool true)), (0, .val x29), (0, .val x30), (0, .val x31), (0, .val x32), (0, .val x34), (0, .val x34), (0, .val (.bool true)), (0, .val x24), (0, .val x24), (0, .val (.bool true)), (0, .val x35), (0, .val x36), (0, .val x37), (0, .val x37), (0, .val (.bool false)), (0, .val (.tuple [])), (0, .val (.tuple [])), (0, .val (.tuple [])), (0, .val (.tuple [])), (0, .val (.bool false)), (0, .val (.bool false)), (0, .val (.tuple [])), (0, .val (.tuple [])), (0, .val (.tuple [])), (0, .val (.bool false)), (0, .val (.bool false)), (0, .val (.tuple [])), (0, .val (.tuple [])), (0, .val (.tuple [])), (0, .val (.bool false))] fun fr51 => (k .ret fr51 σ33))) (fun _ => none)))))) (fun _ => (updS fr [(0, .val (.bool false)), (0, .val x11), (0, .val x13), (0, .val x20), (0, .val x21), (0, .val x24), (0, .val x25), (0, .val x9), (0, .val x0), (0, .val x5), (0, .val (.agg c8)), (0, .val x9), (0, .val x11), (0, .val x12), (0, .val x11), (0, .val x16), (0, .val x18), (0, .val x11), (0, .val x18), (0, .val x20), (0, .val x21), (0, .val x22), (0, .val x11), (0, .val x22), (0, .val x24), (0, .val x25), (0, .val x20), (0, .val x26), (0, .val (.bool true)), (0, .val x21), (0, .val x27), (0, .val x28), (0, .val x28), (0, .val (.bool true)), (0, .val x29), (0, .val x30), (0, .val x31), (0, .val x32), (0, .val x34), (0, .val x34), (0, .val (.bool true)), (0, .val x24), (0, .val x24), (0, .val (.bool false)), (0, .val (.tuple [])), (0, .val (.tuple [])), (0, .val (.tuple [])), (0, .val (.bool false)), (0, .val (.bool false)), (0, .val (.tuple [])), (0, .val (.tuple [])), (0, .val (.tuple [])), (0, .val (.tuple [])), (0, .val (.bool false)), (0, .val (.bool false)), (0, .val (.tuple [])), (0, .val (.tuple [])), (0, .val (.tuple [])), (0, .val (.bool false)), (0, .val (.bool false)), (0, .val (.tuple [])), (0, .val (.tuple [])), (0, .val (.tuple [])), (0, .val (.bool false))] fun fr52 => (k .ret fr52 σ33))) (fun _ => none))) (fun _ => (updS fr [(0, .val (.bool false)), (0, .val x11), (0, .val x13), (0, .val x20), (0, .val x21), (0, .val x24), (0, .val x25), (0, .val x9), (0, .val x0), (0, .val x5), (0, .val (.agg c8)), (0, .val x9), (0, .val x11), (0, .val x12), (0, .val x11), (0, .val x16), (0, .val x18), (0, .val x11), (0, .val x18), (0, .val x20), (0, .val x21), (0, .val x22), (0, .val x11), (0, .val x22), (0, .val x24), (0, .val x25), (0, .val x20), (0, .val x26), (0, .val (.bool true)), (0, .val x21), (0, .val x27), (0, .val x28), (0, .val x28), (0, .val (.bool true)), (0, .val x29), (0, .val x30), (0, .val x31), (0, .val x32), (0, .val x34), (0, .val x34), (0, .val (.bool false)), (0, .val (.tuple [])), (0, .val (.bool false)), (0, .val (.bool false)), (0, .val (.tuple [])), (0, .val (.tuple [])), (0, .val (.tuple [])), (0, .val (.bool false)), (0, .val (.bool false)), (0, .val (.tuple [])), (0, .val (.tuple [])), (0, .val (.tuple [])), (0, .val (.tuple [])), (0, .val (.bool false)), (0, .val (.bool false)), (0, .val (.tuple [])), (0, .val (.tuple [])), (0, .val (.tuple [])), (0, .val (.bool false)), (0, .val (.bool false)), (0, .val (.tuple [])), (0, .val (.tuple [])), (0, .val (.tuple [])), (0, .val (.bool false))] fun fr53 => (k .ret fr53 σ33))) (fun _ => none)))) (fun x54 σ55 => none)))))) (fun _ => (updS fr [(0, .val (.bool false)), (0, .val x11), (0, .val x13), (0, .val x20), (0, .val x21), (0, .val x24), (0, .val x25), (0, .val x9), (0, .val x0), (0, .val x5), (0, .val (.agg c8)), (0, .val x9), (0, .val x11), (0, .val x12), (0, .val x11), (0, .val x16), (0, .val x18), (0, .val x11), (0, .val x18), (0, .val x20), (0, .val x21), (0, .val x22), (0, .val x11), (0, .val x22), (0, .val x24), (0, .val x25), (0, .val x20), (0, .val x26), (0, .val (.bool true)), (0, .val x21), (0, .val x27), (0, .val x28), (0, .val x28), (0, .val (.bool false)), (0, .val (.tuple [])), (0, .val (.tuple [])), (0, .val (.tuple [])), (0, .val (.tuple [])), (0, .val (.tuple [])), (0, .val (.bool false)), (0, .val (.bool false)), (0, .val (.tuple [])), (0, .val (.bool false)), (0, .val (.bool false)), (0, .val (.tuple [])), (0, .val (.tuple [])), (0, .val (.tuple [])), (0, .val (.bool false)), (0, .val (.bool false)), (0, .val (.tuple [])), (0, .val (.tuple [])), (0, .val (.tuple [])), (0, .val (.tuple [])), (0, .val (.bool false)), (0, .val (.bool false)), (0, .val (.tuple [])), (0, .val (.tuple [])), (0, .val (.tuple [])), (0, .val (.bool false)), (0, .val (.bool false)), (0, .val (.tuple [])), (0, .val (.tuple [])), (0, .val (.tuple [])), (0, .val (.bool false))] fun fr56 => (k .ret fr56 σ23))) (fun _ => none))))) (fun _ => (updS fr [(0, .val (.bool false)), (0, .val x11), (0, .val x13), (0, .val x20), (0, .val x21), (0, .val x24), (0, .val x25), (0, .val x9), (0, .val x0), (0, .val x5), (0, .val (.agg c8)), (0, .val x9), (0, .val x11), (0, .val x12), (0, .val x11), (0, .val x16), (0, .val x18), (0, .val x11), (0, .val x18), (0, .val x20), (0, .val x21), (0, .val x22), (0, .val x11), (0, .val x22), (0, .val x24), (0, .val x25), (0, .val x20), (0, .val x26), (0, .val (.bool false)), (0, .val (.tuple [])), (0, .val (.tuple [])), (0, .val (.tuple [])), (0, .val (.bool false)), (0, .val (.bool false)), (0, .val (.tuple [])), (0, .val (.tuple [])), (0, .val (.tuple [])), (0, .val (.tuple [])), (0, .val (.tuple [])), (0, .val (.bool false)), (0, .val (.bool false)), (0, .val (.tuple [])), (0, .val (.bool false)), (0, .val (.bool false)), (0, .val (.tuple [])), (0, .val (.tuple [])), (0, .val (.tuple [])), (0, .val (.bool false)), (0, .val (.bool false)), (0, .val (.tuple [])), (0, .val (.tuple [])), (0, .val (.tuple [])), (0, .val (.tuple [])), (0, .val (.bool false)), (0, .val (.bool false)), (0, .val (.tuple [])), (0, .val (.tuple [])), (0, .val (.tuple [])), (0, .val (.bool false)), (0, .val (.bool false)), (0, .val (.tuple [])), (0, .val (.tuple [])), (0, .val (.tuple [])), (0, .val (.bool false))] fun fr57 => (k .ret fr57 σ23))) (fun _ => none)))))) (fun x58 σ59 => (updS fr [(0, .val (.bool false)), (0, .val x11), (0, .val x13), (0, .val x20), (0, .val x21), (2, .val x9), (0, .val x0), (0, .val x5), (0, .val (.agg c8)), (0, .val x9), (0, .val x11), (0, .val x12), (0, .val x11), (0, .val x16), (0, .val x18), (0, .val x11), (0, .val x18), (0, .val x20), (0, .val x21), (1, .val x11)] fun fr60 => (k (.panic x58) fr60 σ59))))))) (fun x61 σ62 => (updS fr [(0, .val (.bool false)), (0, .val x11), (0, .val x13), (4, .val x9), (0, .val x0), (0, .val x5), (0, .val (.agg c8)), (0, .val x9), (0, .val x11), (0, .val x12), (0, .val x11), (0, .val x16), (1, .val x11)] fun fr63 => (k (.panic x61) fr63 σ62)))))))))))) (fun x64 σ65 => (updS fr [(0, .val (.bool false)), (7, .val x0), (0, .val x5), (0, .val (.agg c8))] fun fr66 => (k (.panic x64) fr66 σ65))))))))))) (fun x67 σ68 => (updS fr [(0, .val (.bool false))] fun fr69 => (k (.panic x67) fr69 σ68))))))))))))))))))))))))))))))))))))))))))))) (execG π PG C (cd PG 8) fr σ k)
theorem p8_0_eq {α : Type} (π : Prims α) (C : CallF α) : execG π PG C (cd PG 8) = p8_0 π C := by
  funext fr σ k
  obtain ⟨slots, defers, esc, rc⟩ := fr
  unfold p8_0
  iterate 26 (refine dKs_eq fun _ _ h => ?_; subst h)
  refine dK0_eq ?_
  iterate 38 (refine dV_eq fun _ _ h => ?_; subst h)
  refine dN_eq fun h => ?_; subst h
  refine sk_eq (.seq (.run (sA (cd PG 8))) (.seq (.run (sA (sB (cd PG 8)))) (.seq (.seq (.run (sA (sA (sB (sB (cd PG 8)))))) (.cond (cX (sB (sA (sB (sB (cd PG 8)))))) (.seq (.run (sA (cA (sB (sA (sB (sB (cd PG 8)))))))) (.run (sB (cA (sB (sA (sB (sB (cd PG 8))))))))) (.run (cB (sB (sA (sB (sB (cd PG 8))))))))) (.seq (.run (sA (sB (sB (sB (cd PG 8)))))) (.seq (.run (sA (sB (sB (sB (sB (cd PG 8))))))) (.seq (.run (sA (sB (sB (sB (sB (sB (cd PG 8)))))))) (.run (sB (sB (sB (sB (sB (sB (cd PG 8)))))))))))))) (by kernel_rfl) ?_
  generalize execG π PG C = H
  kernel_rfl
-- 154 (ravelin/base word) imm
noncomputable def p154_4 {α : Type} (π : Prims α) (C : CallF α) (fr : Fr) (σ : St) (k : Ex → Fr → St → Option α) : Option α :=
  (fun no => (dK 6 fr.slots no fun r6 => (dB r6 no fun t6 r7 => (dK 1 r7 no fun r8 => (dB r8 no fun t8 r9 => (dV r9 no fun t9 r10 => (dK 51 r10 no fun r61 => (dN fr.esc 0 no (π.part true t8 0 11 fun x0 => (π.bin PG .eql 3 true t9 (.int .i64 (Int.ofNat 0)) fun x1 => (π.put t6 0 11 x0 fun c2 => (updS fr [(6, .box c2), (0, .val x1), (50, .val x0), (0, .val t9), (0, .val x1)] fun fr3 => (k .ret fr3 σ))))))))))))) (execG π PG C (sB (sB (sB (sB (sB (sB (sB (cd PG 154)))))))) fr σ k)
theorem p154_4_eq {α : Type} (π : Prims α) (C : CallF α) : execG π PG C (sB (sB (sB (sB (sB (sB (sB (cd PG 154)))))))) = p154_4 π C := by
  funext fr σ k
  obtain ⟨slots, defers, esc, rc⟩ := fr
  unfold p154_4
  iterate 6 (refine dKs_eq fun _ _ h => ?_; subst h)
  refine dK0_eq ?_
  refine dB_eq fun _ _ h => ?_; subst h
  iterate 1 (refine dKs_eq fun _ _ h => ?_; subst h)
  refine dK0_eq ?_
  refine dB_eq fun _ _ h => ?_; subst h
  refine dV_eq fun _ _ h => ?_; subst h
  iterate 51 (refine dKs_eq fun _ _ h => ?_; subst h)
  refine dK0_eq ?_
  refine dN_eq fun h => ?_; subst h
  refine sk_eq (.seq (.run (sA (sB (sB (sB (sB (sB (sB (sB (cd PG 154)))))))))) (.run (sB (sB (sB (sB (sB (sB (sB (sB (cd PG 154))))))))))) (by kernel_rfl) ?_
  generalize execG π PG C = H
  kernel_rfl
noncomputable def p154_3 {α : Type} (π : Prims α) (C : CallF α) (fr : Fr) (σ : St) (k : Ex → Fr → St → Option α) : Option α :=
  (fun no => (dK 6 fr.slots no fun r6 => (dB r6 no fun t6 r7 => (dK 1 r7 no fun r8 => (dB r8 no fun t8 r9 => (dK 46 r9 no fun r55 => (dV r55 no fun t55 r56 => (dK 2 r56 no fun r58 => (dN fr.esc 0 no (π.cond t55 (fun _ => (π.put t8 1 1 (.int .i64 (Int.ofNat 9)) fun c0 => (π.part true c0 0 11 fun x1 => (π.put t6 0 11 x1 fun c2 => (updS fr [(6, .box c2), (0, .val (.bool true)), (0, .box c0), (47, .ref 8 1), (0, .val x1)] fun fr3 => (k .ret fr3 σ)))))) (fun _ => (k .normal fr σ)))))))))))) (execG π PG C (sB (sA (sB (sB (sB (sB (sB (sB (cd PG 154))))))))) fr σ k)
theorem p154_3_eq {α : Type} (π : Prims α) (C : CallF α) : execG π PG C (sB (sA (sB (sB (sB (sB (sB (sB (cd PG 154))))))))) = p154_3 π C := by
  funext fr σ k
  obtain ⟨slots, defers, esc, rc⟩ := fr
  unfold p154_3
  iterate 6 (refine dKs_eq fun _ _ h => ?_; subst h)
  refine dK0_eq ?_
  refine dB_eq fun _ _ h => ?_; subst h
  iterate 1 (refine dKs_eq fun _ _ h => ?_; subst h)
  refine dK0_eq ?_
  refine dB_eq fun _ _ h => ?_; subst h
  iterate 46 (refine dKs_eq fun _ _ h => ?_; subst h)
  refine dK0_eq ?_
  refine dV_eq fun _ _ h => ?_; subst h
  iterate 2 (refine dKs_eq fun _ _ h => ?_; subst h)
  refine dK0_eq ?_
  refine dN_eq fun h => ?_; subst h
  refine sk_eq (.cond (cX (sB (sA (sB (sB (sB (sB (sB (sB (cd PG 154)))))))))) (.seq (.run (sA (cA (sB (sA (sB (sB (sB (sB (sB (sB (cd PG 154)))))))))))) (.seq (.run (sA (sB (cA (sB (sA (sB (sB (sB (sB (sB (sB (cd PG 154))))))))))))) (.run (sB (sB (cA (sB (sA (sB (sB (sB (sB (sB (sB (cd PG 154))))))))))))))) (.run (cB (sB (sA (sB (sB (sB (sB (sB (sB (cd PG 154)))))))))))) (by kernel_rfl) ?_
  generalize execG π PG C = H
  kernel_rfl
noncomputable def p154_2 {α : Type} (π : Prims α) (C : CallF α) (fr : Fr) (σ : St) (k : Ex → Fr → St → Option α) : Option α :=
  (fun no => (dV fr.slots no fun t0 r1 => (dK 1 r1 no fun r2 => (dV r2 no fun t2 r3 => (dK 5 r3 no fun r8 => (dB r8 no fun t8 r9 => (dK 30 r9 no fun r39 => (dV r39 no fun t39 r40 => (dV r40 no fun t40 r41 => (dV r41 no fun t41 r42 => (dV r42 no fun t42 r43 => (dV r43 no fun t43 r44 => (dV r44 no fun t44 r45 => (dV r45 no fun t45 r46 => (dK 10 r46 no fun r56 => (dN fr.esc 0 no (C 234 [t0, (.int .i64 (Int.ofNat 31)), (.int .i64 (Int.ofNat 20))] σ (fun x0 σ1 => (π.bin PG .shr 3 false x0 t2 fun x2 => ((lockCall false C) 234 [t0, (.int .i64 (Int.ofNat 31)), (.int .i64 (Int.ofNat 20))] σ1 (fun x3 σ4 => (π.bin PG .shl 3 true (.int .i64 (Int.ofNat 1)) t2 fun x5 => (π.bin PG .sub 3 true x5 (.int .i64 (Int.ofNat 1)) fun x6 => (π.bin PG .and 3 false x3 x6 fun x7 => (π.put t8 5 1 x7 fun c8 => (π.part false c8 1 1 fun x9 => (π.bin PG .eql 3 true x9 (.int .i64 (Int.ofNat 5)) fun x10 => (gdF x10 (fun _ => (π.bin PG .sub 3 true (.int .i64 (Int.ofNat 10)) t2 fun x11 => (π.bin PG .shl 3 true (.int .i64 (Int.ofNat 1)) x11 fun x12 => (π.bin PG .eql 3 false x2 x12 fun x13 => (updS fr [(8, .box c8), (0, .val x2), (25, .val t0), (0, .val x0), (0, .val t2), (0, .val x2), (0, .val t0), (0, .val x3), (0, .val t2), (0, .val x5), (0, .val x6), (0, .val x7), (0, .ref 8 5), (0, .ref 8 1), (0, .val x9), (0, .val x10), (0, .val (.bool true)), (0, .val x2), (0, .val t2), (0, .val x11), (0, .val x12), (0, .val x13), (0, .val x13)] fun fr14 => (p154_3 π C fr14 σ4 (seqK (p154_4 π C) k))))))) (fun _ => (updS fr [(8, .box c8), (0, .val x2), (25, .val t0), (0, .val x0), (0, .val t2), (0, .val x2), (0, .val t0), (0, .val x3), (0, .val t2), (0, .val x5), (0, .val x6), (0, .val x7), (0, .ref 8 5), (0, .ref 8 1), (0, .val x9), (0, .val x10), (0, .val (.bool false)), (0, .val (.tuple [])), (0, .val (.tuple [])), (0, .val (.tuple [])), (0, .val (.tuple [])), (0, .val (.tuple [])), (0, .val (.bool false))] fun fr15 => (p154_3 π C fr15 σ4 (seqK (p154_4 π C) k)))) (fun _ => none))))))))) (fun x16 σ17 => none)))) (fun x18 σ19 => (updS fr [(35, .val t0)] fun fr20 => (k (.panic x18) fr20 σ19)))))))))))))))))))) (execG π PG C (sB (sB (sB (sB (cd PG 154))))) fr σ k)
theorem p154_2_eq {α : Type} (π : Prims α) (C : CallF α) : execG π PG C (sB (sB (sB (sB (cd PG 154))))) = p154_2 π C := by
  funext fr σ k
  obtain ⟨slots, defers, esc, rc⟩ := fr
  unfold p154_2
  refine dV_eq fun _ _ h => ?_; subst h
  iterate 1 (refine dKs_eq fun _ _ h => ?_; subst h)
  refine dK0_eq ?_
  refine dV_eq fun _ _ h => ?_; subst h
  iterate 5 (refine dKs_eq fun _ _ h => ?_; subst h)
  refine dK0_eq ?_
  refine dB_eq fun _ _ h => ?_; subst h
  iterate 30 (refine dKs_eq fun _ _ h => ?_; subst h)
  refine dK0_eq ?_
  iterate 7 (refine dV_eq fun _ _ h => ?_; subst h)
  iterate 10 (refine dKs_eq fun _ _ h => ?_; subst h)
  refine dK0_eq ?_
  refine dN_eq fun h => ?_; subst h
  try rw [← p154_4_eq π C]
  try rw [← p154_3_eq π C]
  refine sk_eq (.seq (.run (sA (sB (sB (sB (sB (cd PG 154))))))) (.seq (.run (sA (sB (sB (sB (sB (sB (cd PG 154)))))))) (.seq (.seq (.run (sA (sA (sB (sB (sB (sB (sB (sB (cd PG 154)))))))))) (.hole (sB (sA (sB (sB (sB (sB (sB (sB (cd PG 154))))))))))) (.hole (sB (sB (sB (sB (sB (sB (sB (cd PG 154)))))))))))) (by kernel_rfl) ?_
  generalize execG π PG C = H
  kernel_rfl
noncomputable def p154_1 {α : Type} (π : Prims α) (C : CallF α) (fr : Fr) (σ : St) (k : Ex → Fr → St → Option α) : Option α :=
  (fun no => (dK 1 fr.slots no fun r1 => (dV r1 no fun t1 r2 => (dK 4 r2 no fun r6 => (dB r6 no fun t6 r7 => (dV r7 no fun t7 r8 => (dB r8 no fun t8 r9 => (dK 17 r9 no fun r26 => (dV r26 no fun t26 r27 => (dV r27 no fun t27 r28 => (dV r28 no fun t28 r29 => (dV r29 no fun t29 r30 => (dV r30 no fun t30 r31 => (dV r31 no fun t31 r32 => (dV r32 no fun t32 r33 => (dV r33 no fun t33 r34 => (dV r34 no fun t34 r35 => (dN fr.esc 0 no (π.cond t26 (fun _ => (π.part true t8 0 11 fun x0 => (π.un .not t1 fun x1 => (gdF x1 (fun _ => (π.put t6 0 11 x0 fun c2 => (updS fr [(6, .box c2), (0, .val (.bool true)), (19, .val x0), (0, .val t1), (0, .val x1), (0, .val (.bool true)), (0, .val (.tuple [])), (0, .val (.tuple [])), (0, .val (.tuple [])), (0, .val (.bool true))] fun fr3 => (k .ret fr3 σ)))) (fun _ => (π.part false t8 1 1 fun x4 => (π.bin PG .eql 3 true x4 (.int .i64 (Int.ofNat 0)) fun x5 => (π.put t6 0 11 x0 fun c6 => (updS fr [(6, .box c6), (0, .val x5), (19, .val x0), (0, .val t1), (0, .val x1), (0, .val (.bool false)), (0, .ref 8 1), (0, .val x4), (0, .val x5), (0, .val x5)] fun fr7 => (k .ret fr7 σ)))))) (fun _ => none))))) (fun _ => (k .normal fr σ))))))))))))))))))))) (execG π PG C (sB (sA (sB (sB (sB (cd PG 154)))))) fr σ k)
theorem p154_1_eq {α : Type} (π : Prims α) (C : CallF α) : execG π PG C (sB (sA (sB (sB (sB (cd PG 154)))))) = p154_1 π C := by
  funext fr σ k
  obtain ⟨slots, defers, esc, rc⟩ := fr
  unfold p154_1
  iterate 1 (refine dKs_eq fun _ _ h => ?_; subst h)
  refine dK0_eq ?_
  refine dV_eq fun _ _ h => ?_; subst h
  iterate 4 (refine dKs_eq fun _ _ h => ?_; subst h)
  refine dK0_eq ?_
  refine dB_eq fun _ _ h => ?_; subst h
  refine dV_eq fun _ _ h => ?_; subst h
  refine dB_eq fun _ _ h => ?_; subst h
  iterate 17 (refine dKs_eq fun _ _ h => ?_; subst h)
  refine dK0_eq ?_
  iterate 9 (refine dV_eq fun _ _ h => ?_; subst h)
  refine dN_eq fun h => ?_; subst h
  refine sk_eq (.cond (cX (sB (sA (sB (sB (sB (cd PG 154))))))) (.seq (.run (sA (cA (sB (sA (sB (sB (sB (cd PG 154))))))))) (.run (sB (cA (sB (sA (sB (sB (sB (cd PG 154)))))))))) (.run (cB (sB (sA (sB (sB (sB (cd PG 154))))))))) (by kernel_rfl) ?_
  generalize execG π PG C = H
  kernel_rfl
noncomputable def p154_0 {α : Type} (π : Prims α) (C : CallF α) (fr : Fr) (σ : St) (k : Ex → Fr → St → Option α) : Option α :=
  (fun no => (dV fr.slots no fun t0 r1 => (dV r1 no fun t1 r2 => (dK 25 r2 no fun r27 => (dN fr.esc 0 no (nbS fr 6 zl66 fun fr0 => (C 236 [t0] σ (fun x1 σ2 => (C 235 [t0, (.int .i64 (Int.ofNat 8)), x1] σ2 (fun x3 σ4 => (updS fr0 [(7, .val (.bool false)), (2, .val t0), (0, .val t0), (0, .val x1), (0, .val x3)] fun fr5 => (nbS fr5 8 zl66 fun fr6 => (π.put zl66 0 11 x3 fun c7 => (C 237 [t0] σ4 (fun x8 σ9 => (π.put c7 1 1 x8 fun c10 => (π.put c10 7 1 t1 fun c11 => (π.part false c11 1 1 fun x12 => (π.bin PG .neq 3 true x12 (.int .i64 (Int.ofNat 1)) fun x13 => (gdF x13 (fun _ => (π.part false c11 1 1 fun x14 => (π.bin PG .neq 3 true x14 (.int .i64 (Int.ofNat 5)) fun x15 => (updS fr6 [(8, .box c11), (5, .val t0), (0, .val x8), (0, .val t1), (0, .ref 8 1), (0, .ref 8 7), (0, .ref 8 1), (0, .val x12), (0, .val x13), (0, .val (.bool true)), (0, .ref 8 1), (0, .val x14), (0, .val x15), (0, .val x15)] fun fr16 => (p154_1 π C fr16 σ9 (seqK (p154_2 π C) k)))))) (fun _ => (updS fr6 [(8, .box c11), (5, .val t0), (0, .val x8), (0, .val t1), (0, .ref 8 1), (0, .ref 8 7), (0, .ref 8 1), (0, .val x12), (0, .val x13), (0, .val (.bool false)), (0, .val (.tuple [])), (0, .val (.tuple [])), (0, .val (.tuple [])), (0, .val (.bool false))] fun fr17 => (p154_1 π C fr17 σ9 (seqK (p154_2 π C) k)))) (fun _ => none))))))) (fun x18 σ19 => (updS fr6 [(8, .box c7), (5, .val t0)] fun fr20 => (k (.panic x18) fr20 σ19)))))))) (fun x21 σ22 => (updS fr0 [(7, .val (.bool false)), (2, .val t0), (0, .val t0), (0, .val x1)] fun fr23 => (k (.panic x21) fr23 σ22))))) (fun x24 σ25 => (updS fr0 [(7, .val (.bool false)), (2, .val t0), (0, .val t0)] fun fr26 => (k (.panic x24) fr26 σ25)))))))))) (execG π PG C (cd PG 154) fr σ k)
theorem p154_0_eq {α : Type} (π : Prims α) (C : CallF α) : execG π PG C (cd PG 154) = p154_0 π C := by
  funext fr σ k
  obtain ⟨slots, defers, esc, rc⟩ := fr
  unfold p154_0
  iterate 2 (refine dV_eq fun _ _ h => ?_; subst h)
  iterate 25 (refine dKs_eq fun _ _ h => ?_; subst h)
  refine dK0_eq ?_
  refine dN_eq fun h => ?_; subst h
  try rw [← p154_2_eq π C]
  try rw [← p154_1_eq π C]
  refine sk_eq (.seq (.run (sA (cd PG 154))) (.seq (.run (sA (sB (cd PG 154)))) (.seq (.run (sA (sB (sB (cd PG 154))))) (.seq (.seq (.run (sA (sA (sB (sB (sB (cd PG 154))))))) (.hole (sB (sA (sB (sB (sB (cd PG 154)))))))) (.hole (sB (sB (sB (sB (cd PG 154)))))))))) (by kernel_rfl) ?_
  generalize execG π PG C = H
  kernel_rfl
-- 80 ravelin/xmem at
noncomputable def p80_3 {α : Type} (π : Prims α) (C : CallF α) (fr : Fr) (σ : St) (k : Ex → Fr → St → Option α) : Option α :=
  (fun no => (dK 5 fr.slots no fun r5 => (dB r5 no fun t5 r6 => (dK 1 r6 no fun r7 => (dB r7 no fun t7 r8 => (dK 29 r8 no fun r37 => (dV r37 no fun t37 r38 => (dK 9 r38 no fun r47 => (dN fr.esc 0 no (π.cond t37 (fun _ => (π.part false t7 12 1 fun x0 => (π.part false t5 5 1 fun x1 => (π.conv PG 3 22 x1 fun x2 => (π.bin PG .add 22 false x0 x2 fun x3 => (π.put t7 12 1 x3 fun c4 => (updS fr [(7, .box c4), (32, .ref 7 12), (0, .val x0), (0, .ref 5 5), (0, .val x1), (0, .val x2), (0, .val x3), (0, .ref 7 12)] fun fr5 => (k .normal fr5 σ)))))))) (fun _ => (k .normal fr σ)))))))))))) (execG π PG C (sB (cB (sB (bK (sB (sA (sB (sB (sB (cd PG 80)))))))))) fr σ k)
theorem p80_3_eq {α : Type} (π : Prims α) (C : CallF α) : execG π PG C (sB (cB (sB (bK (sB (sA (sB (sB (sB (cd PG 80)))))))))) = p80_3 π C := by
  funext fr σ k
  obtain ⟨slots, defers, esc, rc⟩ := fr
  unfold p80_3
  iterate 5 (refine dKs_eq fun _ _ h => ?_; subst h)
  refine dK0_eq ?_
  refine dB_eq fun _ _ h => ?_; subst h
  iterate 1 (refine dKs_eq fun _ _ h => ?_; subst h)
  refine dK0_eq ?_
  refine dB_eq fun _ _ h => ?_; subst h
  iterate 29 (refine dKs_eq fun _ _ h => ?_; subst h)
  refine dK0_eq ?_
  refine dV_eq fun _ _ h => ?_; subst h
  iterate 9 (refine dKs_eq fun _ _ h => ?_; subst h)
  refine dK0_eq ?_
  refine dN_eq fun h => ?_; subst h
  refine sk_eq (.cond (cX (sB (cB (sB (bK (sB (sA (sB (sB (sB (cd PG 80))))))))))) (.run (cA (sB (cB (sB (bK (sB (sA (sB (sB (sB (cd PG 80)))))))))))) (.run (cB (sB (cB (sB (bK (sB (sA (sB (sB (sB (cd PG 80))))))))))))) (by kernel_rfl) ?_
  generalize execG π PG C = H
  kernel_rfl
noncomputable def p80_2 {α : Type} (π : Prims α) (C : CallF α) (fr : Fr) (σ : St) (k : Ex → Fr → St → Option α) : Option α :=
  (fun no => (dK 5 fr.slots no fun r5 => (dB r5 no fun t5 r6 => (dK 25 r6 no fun r31 => (dV r31 no fun t31 r32 => (dV r32 no fun t32 r33 => (dK 7 r33 no fun r40 => (dN fr.esc 0 no (π.cond t32 (fun _ => (π.part false t5 8 1 fun x0 => (updS fr [(8, .val x0), (26, .ref 5 8), (0, .val x0)] fun fr1 => (k .normal fr1 σ)))) (fun _ => (π.bin PG .eql 3 true t31 (.int .i64 (Int.ofNat 6)) fun x2 => (π.cond x2 (fun _ => (updS fr [(37, .val x2), (0, .val x2)] fun fr3 => (p80_3 π C fr3 σ k))) (fun _ => (π.bin PG .eql 3 true t31 (.int .i64 (Int.ofNat 7)) fun x4 => (updS fr [(37, .val x4), (0, .val x2), (0, .val x4)] fun fr5 => (p80_3 π C fr5 σ k)))))))))))))))) (execG π PG C (sB (bK (sB (sA (sB (sB (sB (cd PG 80)))))))) fr σ k)
theorem p80_2_eq {α : Type} (π : Prims α) (C : CallF α) : execG π PG C (sB (bK (sB (sA (sB (sB (sB (cd PG 80)))))))) = p80_2 π C := by
  funext fr σ k
  obtain ⟨slots, defers, esc, rc⟩ := fr
  unfold p80_2
  iterate 5 (refine dKs_eq fun _ _ h => ?_; subst h)
  refine dK0_eq ?_
  refine dB_eq fun _ _ h => ?_; subst h
  iterate 25 (refine dKs_eq fun _ _ h => ?_; subst h)
  refine dK0_eq ?_
  iterate 2 (refine dV_eq fun _ _ h => ?_; subst h)
  iterate 7 (refine dKs_eq fun _ _ h => ?_; subst h)
  refine dK0_eq ?_
  refine dN_eq fun h => ?_; subst h
  try rw [← p80_3_eq π C]
  refine sk_eq (.cond (cX (sB (bK (sB (sA (sB (sB (sB (cd PG 80))))))))) (.run (cA (sB (bK (sB (sA (sB (sB (sB (cd PG 80)))))))))) (.seq (.seq (.run (sA (sA (cB (sB (bK (sB (sA (sB (sB (sB (cd PG 80)))))))))))) (.cond (cX (sB (sA (cB (sB (bK (sB (sA (sB (sB (sB (cd PG 80)))))))))))) (.run (cA (sB (sA (cB (sB (bK (sB (sA (sB (sB (sB (cd PG 80))))))))))))) (.run (cB (sB (sA (cB (sB (bK (sB (sA (sB (sB (sB (cd PG 80))))))))))))))) (.hole (sB (cB (sB (bK (sB (sA (sB (sB (sB (cd PG 80))))))))))))) (by kernel_rfl) ?_
  generalize execG π PG C = H
  kernel_rfl
noncomputable def p80_4 {α : Type} (π : Prims α) (C : CallF α) (fr : Fr) (σ : St) (k : Ex → Fr → St → Option α) : Option α :=
  (fun no => (dK 6 fr.slots no fun r6 => (dB r6 no fun t6 r7 => (dB r7 no fun t7 r8 => (dK 52 r8 no fun r60 => (dN fr.esc 0 no (π.part true t7 0 13 fun x0 => (π.put t6 0 13 x0 fun c1 => (updS fr [(6, .box c1), (52, .val x0)] fun fr2 => (k .ret fr2 σ)))))))))) (execG π PG C (sB (sB (sB (sB (sB (cd PG 80)))))) fr σ k)
theorem p80_4_eq {α : Type} (π : Prims α) (C : CallF α) : execG π PG C (sB (sB (sB (sB (sB (cd PG 80)))))) = p80_4 π C := by
  funext fr σ k
  obtain ⟨slots, defers, esc, rc⟩ := fr
  unfold p80_4
  iterate 6 (refine dKs_eq fun _ _ h => ?_; subst h)
  refine dK0_eq ?_
  iterate 2 (refine dB_eq fun _ _ h => ?_; subst h)
  iterate 52 (refine dKs_eq fun _ _ h => ?_; subst h)
  refine dK0_eq ?_
  refine dN_eq fun h => ?_; subst h
  refine sk_eq (.seq (.run (sA (sB (sB (sB (sB (sB (cd PG 80)))))))) (.run (sB (sB (sB (sB (sB (sB (cd PG 80))))))))) (by kernel_rfl) ?_
  generalize execG π PG C = H
  kernel_rfl
noncomputable def p80_1 {α : Type} (π : Prims α) (C : CallF α) (fr : Fr) (σ : St) (k : Ex → Fr → St → Option α) : Option α :=
  (fun no => (dK 1 fr.slots no fun r1 => (dV r1 no fun t1 r2 => (dK 3 r2 no fun r5 => (dB r5 no fun t5 r6 => (dK 1 r6 no fun r7 => (dB r7 no fun t7 r8 => (dV r8 no fun t8 r9 => (dK 39 r9 no fun r48 => (dV r48 no fun t48 r49 => (dV r49 no fun t49 r50 => (dV r50 no fun t50 r51 => (dV r51 no fun t51 r52 => (dV r52 no fun t52 r53 => (dV r53 no fun t53 r54 => (dV r54 no fun t54 r55 => (dV r55 no fun t55 r56 => (dV r56 no fun t56 r57 => (dV r57 no fun t57 r58 => (dV r58 no fun t58 r59 => (dN fr.esc 0 no (π.cond t8 (fun _ => (π.part false t5 3 1 fun x0 => (π.nc t1 fun _ => (π.add t1 0 fun x1 => (π.idxAddr PG 25 x1 x0 fun x2 => (π.ld σ true 9 x2 fun x3 => (π.part false t5 3 1 fun x4 => (π.put t7 2 9 x3 fun c5 => (π.put c5 11 1 x4 fun c6 => (updS fr [(7, .box c6), (39, .val t8), (0, .val t1), (0, .ref 5 3), (0, .val x0), (0, .val t1), (0, .val x1), (0, .val x2), (0, .val x3), (0, .ref 5 3), (0, .val x4), (0, .ref 7 2), (0, .ref 7 11)] fun fr7 => (p80_4 π C fr7 σ k))))))))))) (fun _ => (updS fr [(47, .val t8)] fun fr8 => (p80_4 π C fr8 σ k))))))))))))))))))))))))) (execG π PG C (sB (sB (sB (sB (cd PG 80))))) fr σ k)
theorem p80_1_eq {α : Type} (π : Prims α) (C : CallF α) : execG π PG C (sB (sB (sB (sB (cd PG 80))))) = p80_1 π C := by
  funext fr σ k
  obtain ⟨slots, defers, esc, rc⟩ := fr
  unfold p80_1
  iterate 1 (refine dKs_eq fun _ _ h => ?_; subst h)
  refine dK0_eq ?_
  refine dV_eq fun _ _ h => ?_; subst h
  iterate 3 (refine dKs_eq fun _ _ h => ?_; subst h)
  refine dK0_eq ?_
  refine dB_eq fun _ _ h => ?_; subst h
  iterate 1 (refine dKs_eq fun _ _ h => ?_; subst h)
  refine dK0_eq ?_
  refine dB_eq fun _ _ h => ?_; subst h
  refine dV_eq fun _ _ h => ?_; subst h
  iterate 39 (refine dKs_eq fun _ _ h => ?_; subst h)
  refine dK0_eq ?_
  iterate 11 (refine dV_eq fun _ _ h => ?_; subst h)
  refine dN_eq fun h => ?_; subst h
  try rw [← p80_4_eq π C]
  refine sk_eq (.seq (.seq (.run (sA (sA (sB (sB (sB (sB (cd PG 80)))))))) (.cond (cX (sB (sA (sB (sB (sB (sB (cd PG 80)))))))) (.run (cA (sB (sA (sB (sB (sB (sB (cd PG 80))))))))) (.run (cB (sB (sA (sB (sB (sB (sB (cd PG 80))))))))))) (.hole (sB (sB (sB (sB (sB (cd PG 80)))))))) (by kernel_rfl) ?_
  generalize execG π PG C = H
  kernel_rfl
noncomputable def p80_0 {α : Type} (π : Prims α) (C : CallF α) (fr : Fr) (σ : St) (k : Ex → Fr → St → Option α) : Option α :=
  (fun no => (dV fr.slots no fun t0 r1 => (dV r1 no fun t1 r2 => (dV r2 no fun t2 r3 => (dK 4 r3 no fun r7 => (dV r7 no fun t7 r8 => (dK 1 r8 no fun r9 => (dV r9 no fun t9 r10 => (dV r10 no fun t10 r11 => (dV r11 no fun t11 r12 => (dV r12 no fun t12 r13 => (dV r13 no fun t13 r14 => (dV r14 no fun t14 r15 => (dV r15 no fun t15 r16 => (dV r16 no fun t16 r17 => (dV r17 no fun t17 r18 => (dV r18 no fun t18 r19 => (dV r19 no fun t19 r20 => (dV r20 no fun t20 r21 => (dV r21 no fun t21 r22 => (dV r22 no fun t22 r23 => (dV r23 no fun t23 r24 => (dK 11 r24 no fun r35 => (dN fr.esc 0 no (dataF t2 5 fun _ => (nbS fr 5 (AVal.cells t2) fun fr0 => (nbS fr0 6 zl184 fun fr1 => (π.nc t1 fun _ => (π.add t1 297 fun x2 => (π.ld σ true 9 x2 fun x3 => (π.part false (AVal.cells t2) 3 1 fun x4 => (π.nc t1 fun _ => (π.add t1 0 fun x5 => (π.idxAddr PG 25 x5 x4 fun x6 => (π.add x6 8 fun x7 => (π.ld σ false 1 x7 fun x8 => (π.put zl184 0 1 t0 fun c9 => (π.put c9 1 1 t1 fun c10 => (π.put c10 2 9 x3 fun c11 => (π.put c11 11 1 (.int .i64 (Int.ofNat 33)) fun c12 => (π.put c12 12 1 x8 fun c13 => (updS fr1 [(9, .val t0), (0, .val t1), (0, .val t1), (0, .val t1), (0, .val x2), (0, .val x3), (0, .val t1), (0, .ref 5 3), (0, .val x4), (0, .val t1), (0, .val x5), (0, .val x6), (0, .val x7), (0, .val x8), (0, .val (.agg c13))] fun fr14 => (frF fr14 7 fun _ => (nbS fr14 7 zl184 fun fr15 => (π.put zl184 0 13 (.agg c13) fun c16 => (π.nc t1 fun _ => (π.add t1 288 fun x17 => (π.add x17 3 fun x18 => (π.ld σ false 1 x18 fun x19 => (π.bin PG .eql 3 true x19 (.int .i64 (Int.ofNat 1)) fun x20 => (π.part false (AVal.cells t2) 0 1 fun x21 => (π.bin PG .eql 3 true x21 (.int .i64 (Int.ofNat 28)) fun x22 => (π.cond x22 (fun _ => (updS fr15 [(7, .box c16), (0, .val x20), (15, .val t1), (0, .val t1), (0, .val x17), (0, .val x18), (0, .val x19), (0, .val x20), (0, .ref 5 0), (0, .val x21), (0, .val x22), (0, .val x22)] fun fr23 => (p80_2 π C fr23 σ (blkK 0 (seqK (p80_1 π C) k))))) (fun _ => (π.bin PG .eql 3 true x21 (.int .i64 (Int.ofNat 29)) fun x24 => (updS fr15 [(7, .box c16), (0, .val x20), (15, .val t1), (0, .val t1), (0, .val x17), (0, .val x18), (0, .val x19), (0, .val x20), (0, .ref 5 0), (0, .val x21), (0, .val x24), (0, .val x22), (0, .val x24)] fun fr25 => (p80_2 π C fr25 σ (blkK 0 (seqK (p80_1 π C) k))))))))))))))))))))))))))))))))))))))))))))))))))))))))))) (execG π PG C (cd PG 80) fr σ k)
theorem p80_0_eq {α : Type} (π : Prims α) (C : CallF α) : execG π PG C (cd PG 80) = p80_0 π C := by
  funext fr σ k
  obtain ⟨slots, defers, esc, rc⟩ := fr
  unfold p80_0
  iterate 3 (refine dV_eq fun _ _ h => ?_; subst h)
  iterate 4 (refine dKs_eq fun _ _ h => ?_; subst h)
  refine dK0_eq ?_
  refine dV_eq fun _ _ h => ?_; subst h
  iterate 1 (refine dKs_eq fun _ _ h => ?_; subst h)
  refine dK0_eq ?_
  iterate 15 (refine dV_eq fun _ _ h => ?_; subst h)
  iterate 11 (refine dKs_eq fun _ _ h => ?_; subst h)
  refine dK0_eq ?_
  refine dN_eq fun h => ?_; subst h
  try rw [← p80_2_eq π C]
  try rw [← p80_1_eq π C]
  refine sk_eq (.seq (.run (sA (cd PG 80))) (.seq (.run (sA (sB (cd PG 80)))) (.seq (.run (sA (sB (sB (cd PG 80))))) (.seq (.seq (.run (sA (sA (sB (sB (sB (cd PG 80))))))) (.block 0 (.seq (.seq (.run (sA (sA (bK (sB (sA (sB (sB (sB (cd PG 80)))))))))) (.cond (cX (sB (sA (bK (sB (sA (sB (sB (sB (cd PG 80)))))))))) (.run (cA (sB (sA (bK (sB (sA (sB (sB (sB (cd PG 80))))))))))) (.run (cB (sB (sA (bK (sB (sA (sB (sB (sB (cd PG 80))))))))))))) (.hole (sB (bK (sB (sA (sB (sB (sB (cd PG 80)))))))))))) (.hole (sB (sB (sB (sB (cd PG 80)))))))))) (by kernel_rfl) ?_
  generalize execG π PG C = H
  kernel_rfl
-- 316 (ravelin/rvc half) number
noncomputable def p316_4 {α : Type} (π : Prims α) (C : CallF α) (fr : Fr) (σ : St) (k : Ex → Fr → St → Option α) : Option α :=
  (fun no => (dK 9 fr.slots no fun r9 => (dV r9 no fun t9 r10 => (dK 16 r10 no fun r26 => (dN fr.esc 0 no (π.bin PG .add 3 true t9 (.int .i64 (Int.ofNat 1)) fun x0 => (updS fr [(9, .val x0), (15, .val x0)] fun fr1 => (k .normal fr1 σ)))))))) (execG π PG C (sB (sB (sB (lK (bK (sB (sA (sB (sB (cd PG 316)))))))))) fr σ k)
theorem p316_4_eq {α : Type} (π : Prims α) (C : CallF α) : execG π PG C (sB (sB (sB (lK (bK (sB (sA (sB (sB (cd PG 316)))))))))) = p316_4 π C := by
  funext fr σ k
  obtain ⟨slots, defers, esc, rc⟩ := fr
  unfold p316_4
  iterate 9 (refine dKs_eq fun _ _ h => ?_; subst h)
  refine dK0_eq ?_
  refine dV_eq fun _ _ h => ?_; subst h
  iterate 16 (refine dKs_eq fun _ _ h => ?_; subst h)
  refine dK0_eq ?_
  refine dN_eq fun h => ?_; subst h
  refine sk_eq (.run (sB (sB (sB (lK (bK (sB (sA (sB (sB (cd PG 316))))))))))) (by kernel_rfl) ?_
  generalize execG π PG C = H
  kernel_rfl
noncomputable def p316_3 {α : Type} (π : Prims α) (C : CallF α) (fr : Fr) (σ : St) (k : Ex → Fr → St → Option α) : Option α :=
  (fun no => (dV fr.slots no fun t0 r1 => (dK 4 r1 no fun r5 => (dV r5 no fun t5 r6 => (dK 2 r6 no fun r8 => (dV r8 no fun t8 r9 => (dV r9 no fun t9 r10 => (dK 15 r10 no fun r25 => (dN fr.esc 0 no (π.idx PG 346 t8 t9 fun x0 => (π.bin PG .geq 3 true x0 (.int .i64 (Int.ofNat 0)) fun x1 => (π.cond x1 (fun _ => (π.bin PG .sub 3 true (.int .i64 (Int.ofNat 12)) t9 fun x2 => (π.bin PG .sub 3 true (.int .i64 (Int.ofNat 12)) t9 fun x3 => (C 325 [t0, x2, x3] σ (fun x4 σ5 => (π.bin PG .shl 3 false x4 x0 fun x6 => (π.bin PG .or 3 false t5 x6 fun x7 => (updS fr [(5, .val x7), (0, .val t9), (0, .val x0), (3, .val t9), (0, .val x0), (0, .val x0), (0, .val x1), (0, .val t5), (0, .val t0), (0, .val t9), (0, .val x2), (0, .val t9), (0, .val x3), (0, .val x4), (0, .val x0), (0, .val x6), (0, .val x7)] fun fr8 => (p316_4 π C fr8 σ5 k))))) (fun x9 σ10 => (updS fr [(6, .val t9), (0, .val x0), (3, .val t9), (0, .val x0), (0, .val x0), (0, .val x1), (0, .val t5), (0, .val t0), (0, .val t9), (0, .val x2), (0, .val t9), (0, .val x3)] fun fr11 => (k (.panic x9) fr11 σ10))))))) (fun _ => (updS fr [(6, .val t9), (0, .val x0), (3, .val t9), (0, .val x0), (0, .val x0), (0, .val x1)] fun fr12 => (p316_4 π C fr12 σ k))))))))))))))) (execG π PG C (sB (sB (lK (bK (sB (sA (sB (sB (cd PG 316))))))))) fr σ k)
theorem p316_3_eq {α : Type} (π : Prims α) (C : CallF α) : execG π PG C (sB (sB (lK (bK (sB (sA (sB (sB (cd PG 316))))))))) = p316_3 π C := by
  funext fr σ k
  obtain ⟨slots, defers, esc, rc⟩ := fr
  unfold p316_3
  refine dV_eq fun _ _ h => ?_; subst h
  iterate 4 (refine dKs_eq fun _ _ h => ?_; subst h)
  refine dK0_eq ?_
  refine dV_eq fun _ _ h => ?_; subst h
  iterate 2 (refine dKs_eq fun _ _ h => ?_; subst h)
  refine dK0_eq ?_
  iterate 2 (refine dV_eq fun _ _ h => ?_; subst h)
  iterate 15 (refine dKs_eq fun _ _ h => ?_; subst h)
  refine dK0_eq ?_
  refine dN_eq fun h => ?_; subst h
  try rw [← p316_4_eq π C]
  refine sk_eq (.seq (.block 1 (.seq (.run (sA (bK (sA (sB (sB (lK (bK (sB (sA (sB (sB (cd PG 316))))))))))))) (.seq (.run (sA (sB (bK (sA (sB (sB (lK (bK (sB (sA (sB (sB (cd PG 316)))))))))))))) (.cond (cX (sB (sB (bK (sA (sB (sB (lK (bK (sB (sA (sB (sB (cd PG 316)))))))))))))) (.run (cA (sB (sB (bK (sA (sB (sB (lK (bK (sB (sA (sB (sB (cd PG 316))))))))))))))) (.run (cB (sB (sB (bK (sA (sB (sB (lK (bK (sB (sA (sB (sB (cd PG 316))))))))))))))))))) (.hole (sB (sB (sB (lK (bK (sB (sA (sB (sB (cd PG 316)))))))))))) (by kernel_rfl) ?_
  generalize execG π PG C = H
  kernel_rfl
noncomputable def p316_2 {α : Type} (π : Prims α) (C : CallF α) (fr : Fr) (σ : St) (k : Ex → Fr → St → Option α) : Option α :=
  (fun no => (dK 9 fr.slots no fun r9 => (dV r9 no fun t9 r10 => (dK 1 r10 no fun r11 => (dN fr.esc 0 no (π.bin PG .lss 3 true t9 (.int .i64 (Int.ofNat 11)) fun x0 => (π.cond x0 (fun _ => (updS fr [(10, .val x0)] fun fr1 => (p316_3 π C fr1 σ k))) (fun _ => (updS fr [(10, .val x0)] fun fr2 => (k (.exit 0) fr2 σ)))))))))) (execG π PG C (lK (bK (sB (sA (sB (sB (cd PG 316))))))) fr σ k)
theorem p316_2_eq {α : Type} (π : Prims α) (C : CallF α) : execG π PG C (lK (bK (sB (sA (sB (sB (cd PG 316))))))) = p316_2 π C := by
  funext fr σ k
  obtain ⟨slots, defers, esc, rc⟩ := fr
  unfold p316_2
  iterate 9 (refine dKs_eq fun _ _ h => ?_; subst h)
  refine dK0_eq ?_
  refine dV_eq fun _ _ h => ?_; subst h
  iterate 1 (refine dKs_eq fun _ _ h => ?_; subst h)
  refine dK0_eq ?_
  refine dN_eq fun h => ?_; subst h
  try rw [← p316_3_eq π C]
  refine sk_eq (.seq (.run (sA (lK (bK (sB (sA (sB (sB (cd PG 316))))))))) (.seq (.cond (cX (sA (sB (lK (bK (sB (sA (sB (sB (cd PG 316)))))))))) (.run (cA (sA (sB (lK (bK (sB (sA (sB (sB (cd PG 316))))))))))) (.run (cB (sA (sB (lK (bK (sB (sA (sB (sB (cd PG 316)))))))))))) (.hole (sB (sB (lK (bK (sB (sA (sB (sB (cd PG 316)))))))))))) (by kernel_rfl) ?_
  generalize execG π PG C = H
  kernel_rfl
noncomputable def p316_1 {α : Type} (π : Prims α) (C : CallF α) (fr : Fr) (σ : St) (k : Ex → Fr → St → Option α) : Option α :=
  (fun no => (dK 5 fr.slots no fun r5 => (dV r5 no fun t5 r6 => (dK 21 r6 no fun r27 => (dN fr.esc 0 no (updS fr [(4, .val t5), (21, .val t5)] fun fr0 => (k .ret fr0 σ))))))) (execG π PG C (sB (sB (sB (cd PG 316)))) fr σ k)
theorem p316_1_eq {α : Type} (π : Prims α) (C : CallF α) : execG π PG C (sB (sB (sB (cd PG 316)))) = p316_1 π C := by
  funext fr σ k
  obtain ⟨slots, defers, esc, rc⟩ := fr
  unfold p316_1
  iterate 5 (refine dKs_eq fun _ _ h => ?_; subst h)
  refine dK0_eq ?_
  refine dV_eq fun _ _ h => ?_; subst h
  iterate 21 (refine dKs_eq fun _ _ h => ?_; subst h)
  refine dK0_eq ?_
  refine dN_eq fun h => ?_; subst h
  refine sk_eq (.seq (.run (sA (sB (sB (sB (cd PG 316)))))) (.run (sB (sB (sB (sB (cd PG 316))))))) (by kernel_rfl) ?_
  generalize execG π PG C = H
  kernel_rfl
noncomputable def p316_0 {α : Type} (π : Prims α) (C : CallF α) (fr : Fr) (σ : St) (k : Ex → Fr → St → Option α) : Option α :=
  (fun no => (dK 1 fr.slots no fun r1 => (dV r1 no fun t1 r2 => (dK 8 r2 no fun r10 => (dN fr.esc 0 no (dataF t1 3 fun _ => (nbS fr 3 (AVal.cells t1) fun fr0 => (π.part true (AVal.cells t1) 0 11 fun x1 => (updS fr0 [(4, .val (.int .i64 (Int.ofNat 0))), (0, .val (.int .i64 (Int.ofNat 0))), (2, .val x1), (0, .val (.int .i64 (Int.ofNat 0)))] fun fr2 => (π.loop (p316_2 π C) fr2 σ (blkK 0 (seqK (p316_1 π C) k)))))))))))) (execG π PG C (cd PG 316) fr σ k)
theorem p316_0_eq {α : Type} (π : Prims α) (C : CallF α) : execG π PG C (cd PG 316) = p316_0 π C := by
  funext fr σ k
  obtain ⟨slots, defers, esc, rc⟩ := fr
  unfold p316_0
  iterate 1 (refine dKs_eq fun _ _ h => ?_; subst h)
  refine dK0_eq ?_
  refine dV_eq fun _ _ h => ?_; subst h
  iterate 8 (refine dKs_eq fun _ _ h => ?_; subst h)
  refine dK0_eq ?_
  refine dN_eq fun h => ?_; subst h
  try rw [← p316_2_eq π C]
  try rw [← p316_1_eq π C]
  refine sk_eq (.seq (.run (sA (cd PG 316))) (.seq (.run (sA (sB (cd PG 316)))) (.seq (.seq (.run (sA (sA (sB (sB (cd PG 316)))))) (.block 0 (.loopH (lK (bK (sB (sA (sB (sB (cd PG 316)))))))))) (.hole (sB (sB (sB (cd PG 316)))))))) (by kernel_rfl) ?_
  generalize execG π PG C = H
  kernel_rfl
-- 68 ravelin/check ask
noncomputable def p68_3 {α : Type} (π : Prims α) (C : CallF α) (fr : Fr) (σ : St) (k : Ex → Fr → St → Option α) : Option α :=
  (fun no => (dV fr.slots no fun t0 r1 => (dK 3 r1 no fun r4 => (dB r4 no fun t4 r5 => (dK 2 r5 no fun r7 => (dV r7 no fun t7 r8 => (dK 1 r8 no fun r9 => (dV r9 no fun t9 r10 => (dK 10 r10 no fun r20 => (dN fr.esc 0 no (π.idxAddr PG 221 t7 t9 fun x0 => (π.ld σ true 2 x0 fun x1 => (updS fr [(11, .val x0), (0, .val x1)] fun fr2 => (nbS fr2 6 zl164 fun fr3 => (π.put zl164 0 2 x1 fun c4 => (π.part false c4 0 1 fun x5 => (π.cond x5 (fun _ => (π.part false c4 1 1 fun x6 => (C 107 [t0, x6] σ (fun x7 σ8 => (π.put t4 0 3 x7 fun c9 => (updS fr3 [(4, .box c9), (1, .box c4), (6, .ref 6 0), (0, .val x5), (0, .val t0), (0, .ref 6 1), (0, .val x6), (0, .val x7)] fun fr10 => (k .ret fr10 σ8)))) (fun x11 σ12 => (updS fr3 [(6, .box c4), (6, .ref 6 0), (0, .val x5), (0, .val t0), (0, .ref 6 1), (0, .val x6)] fun fr13 => (k (.panic x11) fr13 σ12)))))) (fun _ => (π.bin PG .add 3 true t9 (.int .i64 (Int.ofNat 1)) fun x14 => (updS fr3 [(6, .box c4), (2, .val x14), (3, .ref 6 0), (0, .val x5), (4, .val x14)] fun fr15 => (k .normal fr15 σ))))))))))))))))))))) (execG π PG C (sB (sB (lK (bK (sB (sA (sB (cd PG 68)))))))) fr σ k)
theorem p68_3_eq {α : Type} (π : Prims α) (C : CallF α) : execG π PG C (sB (sB (lK (bK (sB (sA (sB (cd PG 68)))))))) = p68_3 π C := by
  funext fr σ k
  obtain ⟨slots, defers, esc, rc⟩ := fr
  unfold p68_3
  refine dV_eq fun _ _ h => ?_; subst h
  iterate 3 (refine dKs_eq fun _ _ h => ?_; subst h)
  refine dK0_eq ?_
  refine dB_eq fun _ _ h => ?_; subst h
  iterate 2 (refine dKs_eq fun _ _ h => ?_; subst h)
  refine dK0_eq ?_
  refine dV_eq fun _ _ h => ?_; subst h
  iterate 1 (refine dKs_eq fun _ _ h => ?_; subst h)
  refine dK0_eq ?_
  refine dV_eq fun _ _ h => ?_; subst h
  iterate 10 (refine dKs_eq fun _ _ h => ?_; subst h)
  refine dK0_eq ?_
  refine dN_eq fun h => ?_; subst h
  refine sk_eq (.seq (.block 1 (.seq (.run (sA (bK (sA (sB (sB (lK (bK (sB (sA (sB (cd PG 68)))))))))))) (.seq (.run (sA (sB (bK (sA (sB (sB (lK (bK (sB (sA (sB (cd PG 68))))))))))))) (.cond (cX (sB (sB (bK (sA (sB (sB (lK (bK (sB (sA (sB (cd PG 68))))))))))))) (.seq (.run (sA (cA (sB (sB (bK (sA (sB (sB (lK (bK (sB (sA (sB (cd PG 68))))))))))))))) (.run (sB (cA (sB (sB (bK (sA (sB (sB (lK (bK (sB (sA (sB (cd PG 68)))))))))))))))) (.run (cB (sB (sB (bK (sA (sB (sB (lK (bK (sB (sA (sB (cd PG 68)))))))))))))))))) (.run (sB (sB (sB (lK (bK (sB (sA (sB (cd PG 68))))))))))) (by kernel_rfl) ?_
  generalize execG π PG C = H
  kernel_rfl
noncomputable def p68_2 {α : Type} (π : Prims α) (C : CallF α) (fr : Fr) (σ : St) (k : Ex → Fr → St → Option α) : Option α :=
  (fun no => (dK 8 fr.slots no fun r8 => (dV r8 no fun t8 r9 => (dV r9 no fun t9 r10 => (dK 1 r10 no fun r11 => (dN fr.esc 0 no (π.bin PG .lss 3 false t9 t8 fun x0 => (π.cond x0 (fun _ => (updS fr [(10, .val x0)] fun fr1 => (p68_3 π C fr1 σ k))) (fun _ => (updS fr [(10, .val x0)] fun fr2 => (k (.exit 0) fr2 σ))))))))))) (execG π PG C (lK (bK (sB (sA (sB (cd PG 68)))))) fr σ k)
theorem p68_2_eq {α : Type} (π : Prims α) (C : CallF α) : execG π PG C (lK (bK (sB (sA (sB (cd PG 68)))))) = p68_2 π C := by
  funext fr σ k
  obtain ⟨slots, defers, esc, rc⟩ := fr
  unfold p68_2
  iterate 8 (refine dKs_eq fun _ _ h => ?_; subst h)
  refine dK0_eq ?_
  iterate 2 (refine dV_eq fun _ _ h => ?_; subst h)
  iterate 1 (refine dKs_eq fun _ _ h => ?_; subst h)
  refine dK0_eq ?_
  refine dN_eq fun h => ?_; subst h
  try rw [← p68_3_eq π C]
  refine sk_eq (.seq (.run (sA (lK (bK (sB (sA (sB (cd PG 68)))))))) (.seq (.cond (cX (sA (sB (lK (bK (sB (sA (sB (cd PG 68))))))))) (.run (cA (sA (sB (lK (bK (sB (sA (sB (cd PG 68)))))))))) (.run (cB (sA (sB (lK (bK (sB (sA (sB (cd PG 68))))))))))) (.hole (sB (sB (lK (bK (sB (sA (sB (cd PG 68))))))))))) (by kernel_rfl) ?_
  generalize execG π PG C = H
  kernel_rfl
noncomputable def p68_1 {α : Type} (π : Prims α) (C : CallF α) (fr : Fr) (σ : St) (k : Ex → Fr → St → Option α) : Option α :=
  (fun no => (dK 4 fr.slots no fun r4 => (dB r4 no fun t4 r5 => (dK 16 r5 no fun r21 => (dN fr.esc 0 no (π.put t4 0 3 (.agg zl60) fun c0 => (updS fr [(4, .box c0), (15, .val (.agg zl60))] fun fr1 => (k .ret fr1 σ)))))))) (execG π PG C (sB (sB (cd PG 68))) fr σ k)
theorem p68_1_eq {α : Type} (π : Prims α) (C : CallF α) : execG π PG C (sB (sB (cd PG 68))) = p68_1 π C := by
  funext fr σ k
  obtain ⟨slots, defers, esc, rc⟩ := fr
  unfold p68_1
  iterate 4 (refine dKs_eq fun _ _ h => ?_; subst h)
  refine dK0_eq ?_
  refine dB_eq fun _ _ h => ?_; subst h
  iterate 16 (refine dKs_eq fun _ _ h => ?_; subst h)
  refine dK0_eq ?_
  refine dN_eq fun h => ?_; subst h
  refine sk_eq (.seq (.run (sA (sB (sB (cd PG 68))))) (.run (sB (sB (sB (cd PG 68)))))) (by kernel_rfl) ?_
  generalize execG π PG C = H
  kernel_rfl
noncomputable def p68_0 {α : Type} (π : Prims α) (C : CallF α) (fr : Fr) (σ : St) (k : Ex → Fr → St → Option α) : Option α :=
  (fun no => (dK 1 fr.slots no fun r1 => (dV r1 no fun t1 r2 => (dK 8 r2 no fun r10 => (dN fr.esc 0 no (nbS fr 4 zl60 fun fr0 => (π.len PG 221 t1 fun x1 => (updS fr0 [(7, .val t1), (0, .val x1), (0, .val (.int .i64 (Int.ofNat 0)))] fun fr2 => (π.loop (p68_2 π C) fr2 σ (blkK 0 (seqK (p68_1 π C) k))))))))))) (execG π PG C (cd PG 68) fr σ k)
theorem p68_0_eq {α : Type} (π : Prims α) (C : CallF α) : execG π PG C (cd PG 68) = p68_0 π C := by
  funext fr σ k
  obtain ⟨slots, defers, esc, rc⟩ := fr
  unfold p68_0
  iterate 1 (refine dKs_eq fun _ _ h => ?_; subst h)
  refine dK0_eq ?_
  refine dV_eq fun _ _ h => ?_; subst h
  iterate 8 (refine dKs_eq fun _ _ h => ?_; subst h)
  refine dK0_eq ?_
  refine dN_eq fun h => ?_; subst h
  try rw [← p68_2_eq π C]
  try rw [← p68_1_eq π C]
  refine sk_eq (.seq (.run (sA (cd PG 68))) (.seq (.seq (.run (sA (sA (sB (cd PG 68))))) (.block 0 (.loopH (lK (bK (sB (sA (sB (cd PG 68))))))))) (.hole (sB (sB (cd PG 68)))))) (by kernel_rfl) ?_
  generalize execG π PG C = H
  kernel_rfl
-- 54 (*ravelin/bus Bus) regions
noncomputable def p54_0 {α : Type} (π : Prims α) (C : CallF α) (fr : Fr) (σ : St) (k : Ex → Fr → St → Option α) : Option α :=
  (fun no => (dV fr.slots no fun t0 r1 => (dK 2 r1 no fun r3 => (dV r3 no fun t3 r4 => (dV r4 no fun t4 r5 => (dV r5 no fun t5 r6 => (dV r6 no fun t6 r7 => (dV r7 no fun t7 r8 => (dV r8 no fun t8 r9 => (dV r9 no fun t9 r10 => (dV r10 no fun t10 r11 => (dV r11 no fun t11 r12 => (dV r12 no fun t12 r13 => (dV r13 no fun t13 r14 => (dV r14 no fun t14 r15 => (dV r15 no fun t15 r16 => (dV r16 no fun t16 r17 => (dV r17 no fun t17 r18 => (dV r18 no fun t18 r19 => (dV r19 no fun t19 r20 => (dV r20 no fun t20 r21 => (dV r21 no fun t21 r22 => (dV r22 no fun t22 r23 => (dV r23 no fun t23 r24 => (dV r24 no fun t24 r25 => (dV r25 no fun t25 r26 => (dV r26 no fun t26 r27 => (dV r27 no fun t27 r28 => (dV r28 no fun t28 r29 => (dV r29 no fun t29 r30 => (dV r30 no fun t30 r31 => (dV r31 no fun t31 r32 => (dV r32 no fun t32 r33 => (dV r33 no fun t33 r34 => (dV r34 no fun t34 r35 => (dV r35 no fun t35 r36 => (dV r36 no fun t36 r37 => (dV r37 no fun t37 r38 => (dV r38 no fun t38 r39 => (dV r39 no fun t39 r40 => (dN fr.esc 0 no (π.nc t0 fun _ => (π.add t0 0 fun x0 => (π.ld σ false 1 x0 fun x1 => (π.nc t0 fun _ => (π.add t0 0 fun x2 => (π.ld σ false 1 x2 fun x3 => ((lockCall true C) 94 [x3] σ (fun x4 σ5 => (π.conv PG 3 22 x4 fun x6 => (π.put zl125 0 1 (.iface 82 x1) fun c7 => (π.put c7 1 1 (.int .u64 (Int.ofNat 2147483648)) fun c8 => (π.put c8 2 1 x6 fun c9 => (π.nc t0 fun _ => (π.add t0 1 fun x10 => (π.ld σ5 false 1 x10 fun x11 => (π.put zl125 0 1 (.iface 83 x11) fun c12 => (π.put c12 1 1 (.int .u64 (Int.ofNat 33554432)) fun c13 => (π.put c13 2 1 (.int .u64 (Int.ofNat 65536)) fun c14 => (π.nc t0 fun _ => (π.add t0 2 fun x15 => (π.ld σ5 false 1 x15 fun x16 => (π.put zl125 0 1 (.iface 84 x16) fun c17 => (π.put c17 1 1 (.int .u64 (Int.ofNat 201326592)) fun c18 => (π.put c18 2 1 (.int .u64 (Int.ofNat 4194304)) fun c19 => (π.nc t0 fun _ => (π.add t0 3 fun x20 => (π.ld σ5 false 1 x20 fun x21 => (π.put zl125 0 1 (.iface 85 x21) fun c22 => (π.put c22 1 1 (.int .u64 (Int.ofNat 268435456)) fun c23 => (π.put c23 2 1 (.int .u64 (Int.ofNat 256)) fun c24 => (π.nc t0 fun _ => (π.add t0 4 fun x25 => (π.ld σ5 false 1 x25 fun x26 => (π.put zl125 0 1 (.iface 86 x26) fun c27 => (π.put c27 1 1 (.int .u64 (Int.ofNat 1048576)) fun c28 => (π.put c28 2 1 (.int .u64 (Int.ofNat 4096)) fun c29 => (π.put [.nilIface, (.int .u64 (Int.ofNat 0)), (.int .u64 (Int.ofNat 0)), .nilIface, (.int .u64 (Int.ofNat 0)), (.int .u64 (Int.ofNat 0)), .nilIface, (.int .u64 (Int.ofNat 0)), (.int .u64 (Int.ofNat 0)), .nilIface, (.int .u64 (Int.ofNat 0)), (.int .u64 (Int.ofNat 0)), .nilIface, (.int .u64 (Int.ofNat 0)), (.int .u64 (Int.ofNat 0))] 0 3 (.agg c9) fun c30 => (π.put c30 3 3 (.agg c14) fun c31 => (π.put c31 6 3 (.agg c19) fun c32 => (π.put c32 9 3 (.agg c24) fun c33 => (π.put c33 12 3 (.agg c29) fun c34 => (π.newSl σ5 3 c34 5 fun x36 σ35 => (updS fr [(2, .val x36), (0, .val t0), (0, .val t0), (0, .val x0), (0, .val x1), (0, .val (.iface 82 x1)), (0, .val t0), (0, .val t0), (0, .val x2), (0, .val x3), (0, .val x4), (0, .val x6), (0, .val (.agg c9)), (0, .val t0), (0, .val t0), (0, .val x10), (0, .val x11), (0, .val (.iface 83 x11)), (0, .val (.agg c14)), (0, .val t0), (0, .val t0), (0, .val x15), (0, .val x16), (0, .val (.iface 84 x16)), (0, .val (.agg c19)), (0, .val t0), (0, .val t0), (0, .val x20), (0, .val x21), (0, .val (.iface 85 x21)), (0, .val (.agg c24)), (0, .val t0), (0, .val t0), (0, .val x25), (0, .val x26), (0, .val (.iface 86 x26)), (0, .val (.agg c29)), (0, .val x36)] fun fr37 => (k .ret fr37 σ35))))))))))))))))))))))))))))))))))))) (fun x38 σ39 => none))))))))))))))))))))))))))))))))))))))))))))))))) (execG π PG C (cd PG 54) fr σ k)
theorem p54_0_eq {α : Type} (π : Prims α) (C : CallF α) : execG π PG C (cd PG 54) = p54_0 π C := by
  funext fr σ k
  obtain ⟨slots, defers, esc, rc⟩ := fr
  unfold p54_0
  refine dV_eq fun _ _ h => ?_; subst h
  iterate 2 (refine dKs_eq fun _ _ h => ?_; subst h)
  refine dK0_eq ?_
  iterate 37 (refine dV_eq fun _ _ h => ?_; subst h)
  refine dN_eq fun h => ?_; subst h
  refine sk_eq (.seq (.run (sA (cd PG 54))) (.seq (.run (sA (sB (cd PG 54)))) (.run (sB (sB (cd PG 54)))))) (by kernel_rfl) ?_
  generalize execG π PG C = H
  kernel_rfl
-- 101 (*ravelin/ram Ram) part
noncomputable def p101_2 {α : Type} (π : Prims α) (C : CallF α) (fr : Fr) (σ : St) (k : Ex → Fr → St → Option α) : Option α :=
  (fun no => (dV fr.slots no fun t0 r1 => (dV r1 no fun t1 r2 => (dV r2 no fun t2 r3 => (dK 26 r3 no fun r29 => (dN fr.esc 0 no (π.nc t0 fun _ => (π.add t0 0 fun x0 => (π.ld σ false 1 x0 fun x1 => (π.slice PG σ 209 x1 (some t1) none fun x2 => (π.slice PG σ 209 x2 none (some t2) fun x3 => (updS fr [(6, .val x3), (0, .val (.bool true)), (13, .val t0), (0, .val t0), (0, .val x0), (0, .val x1), (0, .val t1), (0, .val x2), (0, .val t2), (0, .val x3)] fun fr4 => (k .ret fr4 σ))))))))))))) (execG π PG C (sB (sB (cd PG 101))) fr σ k)
theorem p101_2_eq {α : Type} (π : Prims α) (C : CallF α) : execG π PG C (sB (sB (cd PG 101))) = p101_2 π C := by
  funext fr σ k
  obtain ⟨slots, defers, esc, rc⟩ := fr
  unfold p101_2
  iterate 3 (refine dV_eq fun _ _ h => ?_; subst h)
  iterate 26 (refine dKs_eq fun _ _ h => ?_; subst h)
  refine dK0_eq ?_
  refine dN_eq fun h => ?_; subst h
  refine sk_eq (.seq (.run (sA (sB (sB (cd PG 101))))) (.run (sB (sB (sB (cd PG 101)))))) (by kernel_rfl) ?_
  generalize execG π PG C = H
  kernel_rfl
noncomputable def p101_1 {α : Type} (π : Prims α) (C : CallF α) (fr : Fr) (σ : St) (k : Ex → Fr → St → Option α) : Option α :=
  (fun no => (dK 20 fr.slots no fun r20 => (dV r20 no fun t20 r21 => (dN fr.esc 0 no (π.cond t20 (fun _ => (updS fr [(6, .val (.slice none 0)), (0, .val (.bool false))] fun fr0 => (k .ret fr0 σ))) (fun _ => (k .normal fr σ))))))) (execG π PG C (sB (sA (sB (cd PG 101)))) fr σ k)
theorem p101_1_eq {α : Type} (π : Prims α) (C : CallF α) : execG π PG C (sB (sA (sB (cd PG 101)))) = p101_1 π C := by
  funext fr σ k
  obtain ⟨slots, defers, esc, rc⟩ := fr
  unfold p101_1
  iterate 20 (refine dKs_eq fun _ _ h => ?_; subst h)
  refine dK0_eq ?_
  refine dV_eq fun _ _ h => ?_; subst h
  refine dN_eq fun h => ?_; subst h
  refine sk_eq (.cond (cX (sB (sA (sB (cd PG 101))))) (.seq (.run (sA (cA (sB (sA (sB (cd PG 101))))))) (.run (sB (cA (sB (sA (sB (cd PG 101)))))))) (.run (cB (sB (sA (sB (cd PG 101))))))) (by kernel_rfl) ?_
  generalize execG π PG C = H
  kernel_rfl
noncomputable def p101_0 {α : Type} (π : Prims α) (C : CallF α) (fr : Fr) (σ : St) (k : Ex → Fr → St → Option α) : Option α :=
  (fun no => (dV fr.slots no fun t0 r1 => (dV r1 no fun t1 r2 => (dV r2 no fun t2 r3 => (dK 18 r3 no fun r21 => (dN fr.esc 0 no (π.bin PG .lss 3 true t1 (.int .i64 (Int.ofNat 0)) fun x0 => (gdF x0 (fun _ => (updS fr [(6, .val (.slice none 0)), (0, .val (.bool false)), (0, .val t1), (0, .val x0), (0, .val (.bool true)), (0, .val (.tuple [])), (0, .val (.tuple [])), (0, .val (.tuple [])), (0, .val (.tuple [])), (0, .val (.tuple [])), (0, .val (.tuple [])), (0, .val (.tuple [])), (0, .val (.tuple [])), (0, .val (.tuple [])), (0, .val (.bool true))] fun fr1 => (p101_1 π C fr1 σ (seqK (p101_2 π C) k)))) (fun _ => (π.nc t0 fun _ => (π.add t0 0 fun x2 => (π.ld σ false 1 x2 fun x3 => (π.len PG 209 x3 fun x4 => (π.bin PG .sub 3 false x4 t2 fun x5 => (π.bin PG .gtr 3 false t1 x5 fun x6 => (updS fr [(6, .val (.slice none 0)), (0, .val (.bool false)), (0, .val t1), (0, .val x0), (0, .val (.bool false)), (0, .val t1), (0, .val t0), (0, .val t0), (0, .val x2), (0, .val x3), (0, .val x4), (0, .val t2), (0, .val x5), (0, .val x6), (0, .val x6)] fun fr7 => (p101_1 π C fr7 σ (seqK (p101_2 π C) k)))))))))) (fun _ => none))))))))) (execG π PG C (cd PG 101) fr σ k)
theorem p101_0_eq {α : Type} (π : Prims α) (C : CallF α) : execG π PG C (cd PG 101) = p101_0 π C := by
  funext fr σ k
  obtain ⟨slots, defers, esc, rc⟩ := fr
  unfold p101_0
  iterate 3 (refine dV_eq fun _ _ h => ?_; subst h)
  iterate 18 (refine dKs_eq fun _ _ h => ?_; subst h)
  refine dK0_eq ?_
  refine dN_eq fun h => ?_; subst h
  try rw [← p101_2_eq π C]
  try rw [← p101_1_eq π C]
  refine sk_eq (.seq (.run (sA (cd PG 101))) (.seq (.seq (.run (sA (sA (sB (cd PG 101))))) (.hole (sB (sA (sB (cd PG 101)))))) (.hole (sB (sB (cd PG 101)))))) (by kernel_rfl) ?_
  generalize execG π PG C = H
  kernel_rfl
-- 102 ravelin/ram put
noncomputable def p102_2 {α : Type} (π : Prims α) (C : CallF α) (fr : Fr) (σ : St) (k : Ex → Fr → St → Option α) : Option α :=
  (fun no => (dV fr.slots no fun t0 r1 => (dV r1 no fun t1 r2 => (dK 5 r2 no fun r7 => (dV r7 no fun t7 r8 => (dK 11 r8 no fun r19 => (dN fr.esc 0 no (π.bin PG .mul 3 true (.int .i64 (Int.ofNat 8)) t7 fun x0 => (π.bin PG .shr 22 false t1 x0 fun x1 => (π.conv PG 22 5 x1 fun x2 => (π.idxAddr PG 209 t0 t7 fun x3 => (π.st σ 1 x3 x2 fun σ4 => (π.bin PG .add 3 true t7 (.int .i64 (Int.ofNat 1)) fun x5 => (updS fr [(4, .val t7), (2, .val x5), (1, .val t7), (0, .val t0), (0, .val t7), (0, .val t1), (0, .val t7), (0, .val x0), (0, .val x1), (0, .val x2), (0, .val x3), (0, .val x5)] fun fr6 => (k .normal fr6 σ4))))))))))))))) (execG π PG C (sB (sB (lK (bK (sB (cd PG 102)))))) fr σ k)
theorem p102_2_eq {α : Type} (π : Prims α) (C : CallF α) : execG π PG C (sB (sB (lK (bK (sB (cd PG 102)))))) = p102_2 π C := by
  funext fr σ k
  obtain ⟨slots, defers, esc, rc⟩ := fr
  unfold p102_2
  iterate 2 (refine dV_eq fun _ _ h => ?_; subst h)
  iterate 5 (refine dKs_eq fun _ _ h => ?_; subst h)
  refine dK0_eq ?_
  refine dV_eq fun _ _ h => ?_; subst h
  iterate 11 (refine dKs_eq fun _ _ h => ?_; subst h)
  refine dK0_eq ?_
  refine dN_eq fun h => ?_; subst h
  refine sk_eq (.seq (.block 1 (.seq (.run (sA (bK (sA (sB (sB (lK (bK (sB (cd PG 102)))))))))) (.run (sB (bK (sA (sB (sB (lK (bK (sB (cd PG 102)))))))))))) (.run (sB (sB (sB (lK (bK (sB (cd PG 102))))))))) (by kernel_rfl) ?_
  generalize execG π PG C = H
  kernel_rfl
noncomputable def p102_1 {α : Type} (π : Prims α) (C : CallF α) (fr : Fr) (σ : St) (k : Ex → Fr → St → Option α) : Option α :=
  (fun no => (dK 6 fr.slots no fun r6 => (dV r6 no fun t6 r7 => (dV r7 no fun t7 r8 => (dK 1 r8 no fun r9 => (dN fr.esc 0 no (π.bin PG .lss 3 false t7 t6 fun x0 => (π.cond x0 (fun _ => (updS fr [(8, .val x0)] fun fr1 => (p102_2 π C fr1 σ k))) (fun _ => (updS fr [(8, .val x0)] fun fr2 => (k (.exit 0) fr2 σ))))))))))) (execG π PG C (lK (bK (sB (cd PG 102)))) fr σ k)
theorem p102_1_eq {α : Type} (π : Prims α) (C : CallF α) : execG π PG C (lK (bK (sB (cd PG 102)))) = p102_1 π C := by
  funext fr σ k
  obtain ⟨slots, defers, esc, rc⟩ := fr
  unfold p102_1
  iterate 6 (refine dKs_eq fun _ _ h => ?_; subst h)
  refine dK0_eq ?_
  iterate 2 (refine dV_eq fun _ _ h => ?_; subst h)
  iterate 1 (refine dKs_eq fun _ _ h => ?_; subst h)
  refine dK0_eq ?_
  refine dN_eq fun h => ?_; subst h
  try rw [← p102_2_eq π C]
  refine sk_eq (.seq (.run (sA (lK (bK (sB (cd PG 102)))))) (.seq (.cond (cX (sA (sB (lK (bK (sB (cd PG 102))))))) (.run (cA (sA (sB (lK (bK (sB (cd PG 102)))))))) (.run (cB (sA (sB (lK (bK (sB (cd PG 102))))))))) (.hole (sB (sB (lK (bK (sB (cd PG 102))))))))) (by kernel_rfl) ?_
  generalize execG π PG C = H
  kernel_rfl
noncomputable def p102_0 {α : Type} (π : Prims α) (C : CallF α) (fr : Fr) (σ : St) (k : Ex → Fr → St → Option α) : Option α :=
  (fun no => (dV fr.slots no fun t0 r1 => (dK 7 r1 no fun r8 => (dN fr.esc 0 no (π.len PG 209 t0 fun x0 => (updS fr [(5, .val t0), (0, .val x0), (0, .val (.int .i64 (Int.ofNat 0)))] fun fr1 => (π.loop (p102_1 π C) fr1 σ (blkK 0 k)))))))) (execG π PG C (cd PG 102) fr σ k)
theorem p102_0_eq {α : Type} (π : Prims α) (C : CallF α) : execG π PG C (cd PG 102) = p102_0 π C := by
  funext fr σ k
  obtain ⟨slots, defers, esc, rc⟩ := fr
  unfold p102_0
  refine dV_eq fun _ _ h => ?_; subst h
  iterate 7 (refine dKs_eq fun _ _ h => ?_; subst h)
  refine dK0_eq ?_
  refine dN_eq fun h => ?_; subst h
  try rw [← p102_1_eq π C]
  refine sk_eq (.seq (.run (sA (cd PG 102))) (.block 0 (.loopH (lK (bK (sB (cd PG 102))))))) (by kernel_rfl) ?_
  generalize execG π PG C = H
  kernel_rfl
-- 44 ravelin/xint Do
noncomputable def p44_0 {α : Type} (π : Prims α) (C : CallF α) (fr : Fr) (σ : St) (k : Ex → Fr → St → Option α) : Option α :=
  (fun no => (dV fr.slots no fun t0 r1 => (dV r1 no fun t1 r2 => (dK 4 r2 no fun r6 => (dV r6 no fun t6 r7 => (dV r7 no fun t7 r8 => (dV r8 no fun t8 r9 => (dV r9 no fun t9 r10 => (dV r10 no fun t10 r11 => (dV r11 no fun t11 r12 => (dV r12 no fun t12 r13 => (dV r13 no fun t13 r14 => (dK 7 r14 no fun r21 => (dN fr.esc 0 no (dataF t1 3 fun _ => (nbS fr 3 (AVal.cells t1) fun fr0 => (nbS fr0 4 zl60 fun fr1 => (π.part true (AVal.cells t1) 0 11 fun x2 => (π.put zl175 0 1 t0 fun c3 => (π.put c3 1 11 x2 fun c4 => ((lockCall true C) 75 [(.agg c4)] σ (fun x5 σ6 => (π.part false (AVal.cells t1) 0 1 fun x7 => (π.lookup PG σ6 173 x5 x7 false fun x8 => (π.bin PG .neq 114 true x8 .nilFunc fun x9 => (π.cond x9 (fun _ => (callV C x8 [] σ6 (fun x10 σ11 => (π.extract x10 0 fun x12 => (π.extract x10 1 fun x13 => (π.put zl60 0 3 x12 fun c14 => (updS fr1 [(4, .box c14), (0, .val x13), (0, .val x8), (0, .val t0), (0, .val x2), (0, .val (.agg c4)), (0, .val x5), (0, .ref 3 0), (0, .val x7), (0, .val x8), (0, .val x8), (0, .val x9), (0, .val x8), (0, .val x10), (0, .val x12), (0, .val x13)] fun fr15 => (k .ret fr15 σ11)))))) (fun x16 σ17 => (updS fr1 [(5, .val (.bool false)), (0, .val x8), (0, .val t0), (0, .val x2), (0, .val (.agg c4)), (0, .val x5), (0, .ref 3 0), (0, .val x7), (0, .val x8), (0, .val x8), (0, .val x9), (0, .val x8)] fun fr18 => (k (.panic x16) fr18 σ17))))) (fun _ => (π.put zl60 0 3 (.agg zl60) fun c19 => (updS fr1 [(4, .box c19), (0, .val (.bool false)), (0, .val x8), (0, .val t0), (0, .val x2), (0, .val (.agg c4)), (0, .val x5), (0, .ref 3 0), (0, .val x7), (0, .val x8), (0, .val x8), (0, .val x9), (4, .val (.agg zl60))] fun fr20 => (k .ret fr20 σ6))))))))) (fun x21 σ22 => none)))))))))))))))))))))) (execG π PG C (cd PG 44) fr σ k)
theorem p44_0_eq {α : Type} (π : Prims α) (C : CallF α) : execG π PG C (cd PG 44) = p44_0 π C := by
  funext fr σ k
  obtain ⟨slots, defers, esc, rc⟩ := fr
  unfold p44_0
  iterate 2 (refine dV_eq fun _ _ h => ?_; subst h)
  iterate 4 (refine dKs_eq fun _ _ h => ?_; subst h)
  refine dK0_eq ?_
  iterate 8 (refine dV_eq fun _ _ h => ?_; subst h)
  iterate 7 (refine dKs_eq fun _ _ h => ?_; subst h)
  refine dK0_eq ?_
  refine dN_eq fun h => ?_; subst h
  refine sk_eq (.seq (.run (sA (cd PG 44))) (.seq (.seq (.run (sA (sA (sB (cd PG 44))))) (.seq (.run (sA (sB (sA (sB (cd PG 44)))))) (.cond (cX (sB (sB (sA (sB (cd PG 44)))))) (.seq (.run (sA (cA (sB (sB (sA (sB (cd PG 44)))))))) (.run (sB (cA (sB (sB (sA (sB (cd PG 44))))))))) (.run (cB (sB (sB (sA (sB (cd PG 44)))))))))) (.seq (.run (sA (sB (sB (cd PG 44))))) (.run (sB (sB (sB (cd PG 44)))))))) (by kernel_rfl) ?_
  generalize execG π PG C = H
  kernel_rfl
-- 74 (*ravelin/access job) tell
noncomputable def p74_0 {α : Type} (π : Prims α) (C : CallF α) (fr : Fr) (σ : St) (k : Ex → Fr → St → Option α) : Option α :=
  (fun no => (dV fr.slots no fun t0 r1 => (dV r1 no fun t1 r2 => (dV r2 no fun t2 r3 => (dV r3 no fun t3 r4 => (dK 4 r4 no fun r8 => (dV r8 no fun t8 r9 => (dV r9 no fun t9 r10 => (dV r10 no fun t10 r11 => (dV r11 no fun t11 r12 => (dV r12 no fun t12 r13 => (dV r13 no fun t13 r14 => (dV r14 no fun t14 r15 => (dV r15 no fun t15 r16 => (dV r16 no fun t16 r17 => (dV r17 no fun t17 r18 => (dV r18 no fun t18 r19 => (dV r19 no fun t19 r20 => (dV r20 no fun t20 r21 => (dV r21 no fun t21 r22 => (dV r22 no fun t22 r23 => (dV r23 no fun t23 r24 => (dV r24 no fun t24 r25 => (dV r25 no fun t25 r26 => (dV r26 no fun t26 r27 => (dV r27 no fun t27 r28 => (dV r28 no fun t28 r29 => (dN fr.esc 0 no (π.nc t0 fun _ => (π.add t0 4 fun x0 => (π.ld σ false 1 x0 fun x1 => (π.nc t0 fun _ => (π.add t0 2 fun x2 => (π.ld σ false 1 x2 fun x3 => (π.nc t0 fun _ => (π.add t0 3 fun x4 => (π.ld σ false 1 x4 fun x5 => (π.put zl229 0 1 t1 fun c6 => (π.put c6 1 1 x3 fun c7 => (π.put c7 2 1 t2 fun c8 => (π.put c8 3 1 x5 fun c9 => (π.put c9 4 1 t3 fun c10 => (π.put [(.int .i64 (Int.ofNat 0)), (.int .i64 (Int.ofNat 0)), (.int .i64 (Int.ofNat 0)), (.int .u64 (Int.ofNat 0)), (.int .u64 (Int.ofNat 0))] 0 5 (.agg c10) fun c11 => (π.newSl σ 5 c11 1 fun x13 σ12 => (π.append PG σ12 40 x1 x13 fun x14 σ15 => (π.nc t0 fun _ => (π.add t0 4 fun x16 => (π.st σ15 1 x16 x14 fun σ17 => (updS fr [(8, .val t0), (0, .val t0), (0, .val t0), (0, .val x0), (0, .val x1), (0, .val t1), (0, .val t0), (0, .val t0), (0, .val x2), (0, .val x3), (0, .val t2), (0, .val t0), (0, .val t0), (0, .val x4), (0, .val x5), (0, .val t3), (0, .val (.agg c10)), (0, .val x13), (0, .val x14), (0, .val t0), (0, .val x16)] fun fr18 => (k .normal fr18 σ17)))))))))))))))))))))))))))))))))))))))))))))))))) (execG π PG C (cd PG 74) fr σ k)
theorem p74_0_eq {α : Type} (π : Prims α) (C : CallF α) : execG π PG C (cd PG 74) = p74_0 π C := by
  funext fr σ k
  obtain ⟨slots, defers, esc, rc⟩ := fr
  unfold p74_0
  iterate 4 (refine dV_eq fun _ _ h => ?_; subst h)
  iterate 4 (refine dKs_eq fun _ _ h => ?_; subst h)
  refine dK0_eq ?_
  iterate 21 (refine dV_eq fun _ _ h => ?_; subst h)
  refine dN_eq fun h => ?_; subst h
  refine sk_eq (.run (cd PG 74)) (by kernel_rfl) ?_
  generalize execG π PG C = H
  kernel_rfl
-- 7 (*ravelin/bus Bus) Store
noncomputable def p7_0 {α : Type} (π : Prims α) (C : CallF α) (fr : Fr) (σ : St) (k : Ex → Fr → St → Option α) : Option α :=
  (fun no => (dV fr.slots no fun t0 r1 => (dV r1 no fun t1 r2 => (dV r2 no fun t2 r3 => (dV r3 no fun t3 r4 => (dK 23 r4 no fun r27 => (dN fr.esc 0 no (C 21 [t0, t1, t2] σ (fun x0 σ1 => (π.extract x0 0 fun x2 => (π.extract x0 1 fun x3 => (π.bin PG .neq 69 true x2 .nilIface fun x4 => (gdF x4 (fun _ => (invkF PG C x2 "Store" [x3, t2, t3] σ1 (fun x5 σ6 => (updS fr [(8, .val x5), (0, .val x2), (0, .val x3), (0, .val x0), (0, .val t0), (0, .val t1), (0, .val t2), (0, .val x0), (0, .val x2), (0, .val x3), (0, .val x2), (0, .val x4), (0, .val (.bool true)), (0, .val x2), (0, .val x3), (0, .val t2), (0, .val t3), (0, .val x5), (0, .val x5)] fun fr7 => (k .ret fr7 σ6))) (fun x8 σ9 => (updS fr [(8, .val (.bool false)), (0, .val x2), (0, .val x3), (0, .val x0), (0, .val t0), (0, .val t1), (0, .val t2), (0, .val x0), (0, .val x2), (0, .val x3), (0, .val x2), (0, .val x4), (0, .val (.bool true)), (0, .val x2), (0, .val x3), (0, .val t2), (0, .val t3)] fun fr10 => (k (.panic x8) fr10 σ9))))) (fun _ => (updS fr [(8, .val (.bool false)), (0, .val x2), (0, .val x3), (0, .val x0), (0, .val t0), (0, .val t1), (0, .val t2), (0, .val x0), (0, .val x2), (0, .val x3), (0, .val x2), (0, .val x4), (0, .val (.bool false)), (0, .val (.tuple [])), (0, .val (.tuple [])), (0, .val (.tuple [])), (0, .val (.tuple [])), (0, .val (.tuple [])), (0, .val (.bool false))] fun fr11 => (k .ret fr11 σ1))) (fun _ => none)))))) (fun x12 σ13 => (updS fr [(8, .val (.bool false)), (3, .val t0), (0, .val t1), (0, .val t2)] fun fr14 => (k (.panic x12) fr14 σ13))))))))))) (execG π PG C (cd PG 7) fr σ k)
theorem p7_0_eq {α : Type} (π : Prims α) (C : CallF α) : execG π PG C (cd PG 7) = p7_0 π C := by
  funext fr σ k
  obtain ⟨slots, defers, esc, rc⟩ := fr
  unfold p7_0
  iterate 4 (refine dV_eq fun _ _ h => ?_; subst h)
  iterate 23 (refine dKs_eq fun _ _ h => ?_; subst h)
  refine dK0_eq ?_
  refine dN_eq fun h => ?_; subst h
  refine sk_eq (.seq (.run (sA (cd PG 7))) (.seq (.run (sA (sB (cd PG 7)))) (.seq (.run (sA (sB (sB (cd PG 7))))) (.run (sB (sB (sB (cd PG 7)))))))) (by kernel_rfl) ?_
  generalize execG π PG C = H
  kernel_rfl
-- 33 ravelin/trap machine
noncomputable def p33_0 {α : Type} (π : Prims α) (C : CallF α) (fr : Fr) (σ : St) (k : Ex → Fr → St → Option α) : Option α :=
  (fun no => (dV fr.slots no fun t0 r1 => (dK 2 r1 no fun r3 => (dV r3 no fun t3 r4 => (dV r4 no fun t4 r5 => (dV r5 no fun t5 r6 => (dV r6 no fun t6 r7 => (dV r7 no fun t7 r8 => (dV r8 no fun t8 r9 => (dV r9 no fun t9 r10 => (dV r10 no fun t10 r11 => (dV r11 no fun t11 r12 => (dV r12 no fun t12 r13 => (dV r13 no fun t13 r14 => (dV r14 no fun t14 r15 => (dV r15 no fun t15 r16 => (dN fr.esc 0 no (nbS fr 2 zl97 fun fr0 => (π.nc t0 fun _ => (π.add t0 369 fun x1 => (π.nc t0 fun _ => (π.add t0 342 fun x2 => (π.nc t0 fun _ => (π.add t0 386 fun x3 => (π.nc t0 fun _ => (π.add t0 388 fun x4 => (π.put zl97 0 1 (.int .i64 (Int.ofNat 3)) fun c5 => (π.put c5 1 1 x1 fun c6 => (π.put c6 2 1 x2 fun c7 => (π.put c7 3 1 x3 fun c8 => (π.put c8 4 1 x4 fun c9 => (π.put c9 5 1 (.int .u64 (Int.ofNat 3)) fun c10 => (π.put c10 6 1 (.int .u64 (Int.ofNat 11)) fun c11 => (π.put c11 7 1 (.int .u64 (Int.ofNat 2)) fun c12 => (π.put zl97 0 8 (.agg c12) fun c13 => (updS fr0 [(2, .box c13), (0, .val t0), (0, .val t0), (0, .val x1), (0, .val t0), (0, .val t0), (0, .val x2), (0, .val t0), (0, .val t0), (0, .val x3), (0, .val t0), (0, .val t0), (0, .val x4), (0, .val (.agg c12))] fun fr14 => (k .ret fr14 σ))))))))))))))))))))))))))))))))))))) (execG π PG C (cd PG 33) fr σ k)
theorem p33_0_eq {α : Type} (π : Prims α) (C : CallF α) : execG π PG C (cd PG 33) = p33_0 π C := by
  funext fr σ k
  obtain ⟨slots, defers, esc, rc⟩ := fr
  unfold p33_0
  refine dV_eq fun _ _ h => ?_; subst h
  iterate 2 (refine dKs_eq fun _ _ h => ?_; subst h)
  refine dK0_eq ?_
  iterate 13 (refine dV_eq fun _ _ h => ?_; subst h)
  refine dN_eq fun h => ?_; subst h
  refine sk_eq (.seq (.run (sA (cd PG 33))) (.seq (.run (sA (sB (cd PG 33)))) (.run (sB (sB (cd PG 33)))))) (by kernel_rfl) ?_
  generalize execG π PG C = H
  kernel_rfl
-- 58 (*ravelin/bus Bus) InRam
noncomputable def p58_0 {α : Type} (π : Prims α) (C : CallF α) (fr : Fr) (σ : St) (k : Ex → Fr → St → Option α) : Option α :=
  (fun no => (dV fr.slots no fun t0 r1 => (dV r1 no fun t1 r2 => (dV r2 no fun t2 r3 => (dK 17 r3 no fun r20 => (dN fr.esc 0 no (C 54 [t0] σ (fun x0 σ1 => (π.idxAddr PG 122 x0 (.int .i64 (Int.ofNat 0)) fun x2 => (π.ld σ1 true 3 x2 fun x3 => (C 55 [x3, t1, t2] σ1 (fun x4 σ5 => (π.extract x4 0 fun x6 => (π.extract x4 1 fun x7 => (updS fr [(6, .val x7), (0, .val x6), (0, .val x7), (0, .val x4), (0, .val t0), (0, .val x0), (0, .val x2), (0, .val x3), (0, .val t1), (0, .val t2), (0, .val x4), (0, .val x6), (0, .val x7), (0, .val x7)] fun fr8 => (k .ret fr8 σ5))))) (fun x9 σ10 => (updS fr [(6, .val (.bool false)), (3, .val t0), (0, .val x0), (0, .val x2), (0, .val x3), (0, .val t1), (0, .val t2)] fun fr11 => (k (.panic x9) fr11 σ10))))))) (fun x12 σ13 => (updS fr [(6, .val (.bool false)), (3, .val t0)] fun fr14 => (k (.panic x12) fr14 σ13)))))))))) (execG π PG C (cd PG 58) fr σ k)
theorem p58_0_eq {α : Type} (π : Prims α) (C : CallF α) : execG π PG C (cd PG 58) = p58_0 π C := by
  funext fr σ k
  obtain ⟨slots, defers, esc, rc⟩ := fr
  unfold p58_0
  iterate 3 (refine dV_eq fun _ _ h => ?_; subst h)
  iterate 17 (refine dKs_eq fun _ _ h => ?_; subst h)
  refine dK0_eq ?_
  refine dN_eq fun h => ?_; subst h
  refine sk_eq (.seq (.run (sA (cd PG 58))) (.seq (.run (sA (sB (cd PG 58)))) (.seq (.run (sA (sB (sB (cd PG 58))))) (.run (sB (sB (sB (cd PG 58)))))))) (by kernel_rfl) ?_
  generalize execG π PG C = H
  kernel_rfl
-- 179 (ravelin/xint doing) give
noncomputable def p179_0 {α : Type} (π : Prims α) (C : CallF α) (fr : Fr) (σ : St) (k : Ex → Fr → St → Option α) : Option α :=
  (fun no => (dV fr.slots no fun t0 r1 => (dV r1 no fun t1 r2 => (dK 2 r2 no fun r4 => (dV r4 no fun t4 r5 => (dV r5 no fun t5 r6 => (dV r6 no fun t6 r7 => (dV r7 no fun t7 r8 => (dV r8 no fun t8 r9 => (dV r9 no fun t9 r10 => (dV r10 no fun t10 r11 => (dV r11 no fun t11 r12 => (dN fr.esc 0 no (dataF t0 2 fun _ => (nbS fr 2 (AVal.cells t0) fun fr0 => (π.part false (AVal.cells t0) 0 1 fun x1 => (π.part false (AVal.cells t0) 3 1 fun x2 => ((lockCall true C) 10 [t1] σ (fun x3 σ4 => ((lockCall false C) 78 [x1, x2, x3] σ4 (fun x5 σ6 => (updS fr0 [(4, .ref 2 0), (0, .val x1), (0, .ref 2 1), (0, .ref 2 3), (0, .val x2), (0, .val t1), (0, .val x3), (0, .val x5)] fun fr7 => (k .normal fr7 σ6))) (fun x8 σ9 => none))) (fun x10 σ11 => none))))))))))))))))))) (execG π PG C (cd PG 179) fr σ k)
theorem p179_0_eq {α : Type} (π : Prims α) (C : CallF α) : execG π PG C (cd PG 179) = p179_0 π C := by
  funext fr σ k
  obtain ⟨slots, defers, esc, rc⟩ := fr
  unfold p179_0
  iterate 2 (refine dV_eq fun _ _ h => ?_; subst h)
  iterate 2 (refine dKs_eq fun _ _ h => ?_; subst h)
  refine dK0_eq ?_
  iterate 8 (refine dV_eq fun _ _ h => ?_; subst h)
  refine dN_eq fun h => ?_; subst h
  refine sk_eq (.seq (.run (sA (cd PG 179))) (.run (sB (cd PG 179)))) (by kernel_rfl) ?_
  generalize execG π PG C = H
  kernel_rfl
-- 234 (ravelin/base word) field
noncomputable def p234_0 {α : Type} (π : Prims α) (C : CallF α) (fr : Fr) (σ : St) (k : Ex → Fr → St → Option α) : Option α :=
  (fun no => (dV fr.slots no fun t0 r1 => (dV r1 no fun t1 r2 => (dV r2 no fun t2 r3 => (dK 14 r3 no fun r17 => (dN fr.esc 0 no (π.bin PG .sub 3 true (.int .i64 (Int.ofNat 31)) t1 fun x0 => (π.bin PG .shl 197 false t0 x0 fun x1 => (π.bin PG .sub 3 true (.int .i64 (Int.ofNat 31)) t1 fun x2 => (π.bin PG .add 3 false x2 t2 fun x3 => (π.bin PG .shr 197 false x1 x3 fun x4 => (π.conv PG 197 3 x4 fun x5 => (updS fr [(6, .val x5), (0, .val t0), (0, .val t1), (0, .val x0), (0, .val x1), (0, .val t1), (0, .val x2), (0, .val t2), (0, .val x3), (0, .val x4), (0, .val x5)] fun fr6 => (k .ret fr6 σ)))))))))))))) (execG π PG C (cd PG 234) fr σ k)
theorem p234_0_eq {α : Type} (π : Prims α) (C : CallF α) : execG π PG C (cd PG 234) = p234_0 π C := by
  funext fr σ k
  obtain ⟨slots, defers, esc, rc⟩ := fr
  unfold p234_0
  iterate 3 (refine dV_eq fun _ _ h => ?_; subst h)
  iterate 14 (refine dKs_eq fun _ _ h => ?_; subst h)
  refine dK0_eq ?_
  refine dN_eq fun h => ?_; subst h
  refine sk_eq (.seq (.run (sA (cd PG 234))) (.seq (.run (sA (sB (cd PG 234)))) (.run (sB (sB (cd PG 234)))))) (by kernel_rfl) ?_
  generalize execG π PG C = H
  kernel_rfl
-- 317 ravelin/rvc unless
noncomputable def p317_0 {α : Type} (π : Prims α) (C : CallF α) (fr : Fr) (σ : St) (k : Ex → Fr → St → Option α) : Option α :=
  (fun no => (dV fr.slots no fun t0 r1 => (dV r1 no fun t1 r2 => (dK 6 r2 no fun r8 => (dN fr.esc 0 no (π.cond t0 (fun _ => (updS fr [(4, .val (.int .u32 (Int.ofNat 0))), (0, .val (.bool false)), (0, .val t0)] fun fr0 => (k .ret fr0 σ))) (fun _ => (updS fr [(4, .val t1), (0, .val (.bool true)), (0, .val t0), (0, .val t1)] fun fr1 => (k .ret fr1 σ))))))))) (execG π PG C (cd PG 317) fr σ k)
theorem p317_0_eq {α : Type} (π : Prims α) (C : CallF α) : execG π PG C (cd PG 317) = p317_0 π C := by
  funext fr σ k
  obtain ⟨slots, defers, esc, rc⟩ := fr
  unfold p317_0
  iterate 2 (refine dV_eq fun _ _ h => ?_; subst h)
  iterate 6 (refine dKs_eq fun _ _ h => ?_; subst h)
  refine dK0_eq ?_
  refine dN_eq fun h => ?_; subst h
  refine sk_eq (.seq (.run (sA (cd PG 317))) (.seq (.seq (.run (sA (sA (sB (cd PG 317))))) (.cond (cX (sB (sA (sB (cd PG 317))))) (.seq (.run (sA (cA (sB (sA (sB (cd PG 317))))))) (.run (sB (cA (sB (sA (sB (cd PG 317)))))))) (.run (cB (sB (sA (sB (cd PG 317)))))))) (.seq (.run (sA (sB (sB (cd PG 317))))) (.run (sB (sB (sB (cd PG 317)))))))) (by kernel_rfl) ?_
  generalize execG π PG C = H
  kernel_rfl
-- 153 ravelin/base opcodes$4
noncomputable def p153_0 {α : Type} (π : Prims α) (C : CallF α) (fr : Fr) (σ : St) (k : Ex → Fr → St → Option α) : Option α :=
  (fun no => (dV fr.slots no fun t0 r1 => (dK 7 r1 no fun r8 => (dN fr.esc 0 no (nbS fr 2 zl66 fun fr0 => (C 154 [t0, (.bool false), (.int .i64 (Int.ofNat 6))] σ (fun x1 σ2 => (π.extract x1 0 fun x3 => (π.extract x1 1 fun x4 => (π.put zl66 0 11 x3 fun c5 => (updS fr0 [(2, .box c5), (0, .val x4), (0, .val t0), (0, .val x1), (0, .val x3), (0, .val x4)] fun fr6 => (k .ret fr6 σ2)))))) (fun x7 σ8 => (updS fr0 [(3, .val (.bool false)), (0, .val t0)] fun fr9 => (k (.panic x7) fr9 σ8))))))))) (execG π PG C (cd PG 153) fr σ k)
theorem p153_0_eq {α : Type} (π : Prims α) (C : CallF α) : execG π PG C (cd PG 153) = p153_0 π C := by
  funext fr σ k
  obtain ⟨slots, defers, esc, rc⟩ := fr
  unfold p153_0
  refine dV_eq fun _ _ h => ?_; subst h
  iterate 7 (refine dKs_eq fun _ _ h => ?_; subst h)
  refine dK0_eq ?_
  refine dN_eq fun h => ?_; subst h
  refine sk_eq (.seq (.run (sA (cd PG 153))) (.seq (.run (sA (sB (cd PG 153)))) (.run (sB (sB (cd PG 153)))))) (by kernel_rfl) ?_
  generalize execG π PG C = H
  kernel_rfl
-- 104 (*sync/atomic Uint64) Load
noncomputable def p104_0 {α : Type} (π : Prims α) (C : CallF α) (fr : Fr) (σ : St) (k : Ex → Fr → St → Option α) : Option α :=
  (fun no => (dV fr.slots no fun t0 r1 => (dK 6 r1 no fun r7 => (dN fr.esc 0 no (π.nc t0 fun _ => (π.add t0 0 fun x0 => (C 164 [x0] σ (fun x1 σ2 => (updS fr [(2, .val x1), (0, .val t0), (0, .val t0), (0, .val x0), (0, .val x1)] fun fr3 => (k .ret fr3 σ2))) (fun x4 σ5 => (updS fr [(2, .val (.int .u64 (Int.ofNat 0))), (0, .val t0), (0, .val t0), (0, .val x0)] fun fr6 => (k (.panic x4) fr6 σ5)))))))))) (execG π PG C (cd PG 104) fr σ k)
theorem p104_0_eq {α : Type} (π : Prims α) (C : CallF α) : execG π PG C (cd PG 104) = p104_0 π C := by
  funext fr σ k
  obtain ⟨slots, defers, esc, rc⟩ := fr
  unfold p104_0
  refine dV_eq fun _ _ h => ?_; subst h
  iterate 6 (refine dKs_eq fun _ _ h => ?_; subst h)
  refine dK0_eq ?_
  refine dN_eq fun h => ?_; subst h
  refine sk_eq (.seq (.run (sA (cd PG 104))) (.seq (.run (sA (sB (cd PG 104)))) (.run (sB (sB (cd PG 104)))))) (by kernel_rfl) ?_
  generalize execG π PG C = H
  kernel_rfl
-- 64 (*sync/atomic Uint32) Load
noncomputable def p64_0 {α : Type} (π : Prims α) (C : CallF α) (fr : Fr) (σ : St) (k : Ex → Fr → St → Option α) : Option α :=
  (fun no => (dV fr.slots no fun t0 r1 => (dK 6 r1 no fun r7 => (dN fr.esc 0 no (π.nc t0 fun _ => (π.add t0 0 fun x0 => (C 105 [x0] σ (fun x1 σ2 => (updS fr [(2, .val x1), (0, .val t0), (0, .val t0), (0, .val x0), (0, .val x1)] fun fr3 => (k .ret fr3 σ2))) (fun x4 σ5 => (updS fr [(2, .val (.int .u32 (Int.ofNat 0))), (0, .val t0), (0, .val t0), (0, .val x0)] fun fr6 => (k (.panic x4) fr6 σ5)))))))))) (execG π PG C (cd PG 64) fr σ k)
theorem p64_0_eq {α : Type} (π : Prims α) (C : CallF α) : execG π PG C (cd PG 64) = p64_0 π C := by
  funext fr σ k
  obtain ⟨slots, defers, esc, rc⟩ := fr
  unfold p64_0
  refine dV_eq fun _ _ h => ?_; subst h
  iterate 6 (refine dKs_eq fun _ _ h => ?_; subst h)
  refine dK0_eq ?_
  refine dN_eq fun h => ?_; subst h
  refine sk_eq (.seq (.run (sA (cd PG 64))) (.seq (.run (sA (sB (cd PG 64)))) (.run (sB (sB (cd PG 64)))))) (by kernel_rfl) ?_
  generalize execG π PG C = H
  kernel_rfl
-- 252 ravelin/rvc branch
noncomputable def p252_0 {α : Type} (π : Prims α) (C : CallF α) (fr : Fr) (σ : St) (k : Ex → Fr → St → Option α) : Option α :=
  (fun no => (dV fr.slots no fun t0 r1 => (dK 3 r1 no fun r4 => (dN fr.esc 2 no (dataF t0 1 fun _ => π.alloc σ (.cells 0 (AVal.cells t0)) fun x0 σ1 => (updS fr [(1, .val x0), (0, .val (.func (.func 331) [] [x0])), (0, .val (.func (.func 331) [] [x0]))] fun fr2 => (k .ret fr2 σ1))))))) (execG π PG C (cd PG 252) fr σ k)
theorem p252_0_eq {α : Type} (π : Prims α) (C : CallF α) : execG π PG C (cd PG 252) = p252_0 π C := by
  funext fr σ k
  obtain ⟨slots, defers, esc, rc⟩ := fr
  unfold p252_0
  refine dV_eq fun _ _ h => ?_; subst h
  iterate 3 (refine dKs_eq fun _ _ h => ?_; subst h)
  refine dK0_eq ?_
  refine dN_eq fun h => ?_; subst h
  refine sk_eq (.seq (.run (sA (cd PG 252))) (.seq (.run (sA (sB (cd PG 252)))) (.run (sB (sB (cd PG 252)))))) (by kernel_rfl) ?_
  generalize execG π PG C = H
  kernel_rfl
end
end Go.Sh
