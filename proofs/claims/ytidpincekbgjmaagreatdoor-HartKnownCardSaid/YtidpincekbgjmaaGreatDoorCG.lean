/-
  The same machine, its operations being parameters. No condition.
-/
import Derived.Test.YtidpincekbgjmaaGreatDoorC
set_option linter.unusedVariables false
set_option linter.unusedSimpArgs false
namespace Go.Abs
noncomputable section

/-! THE SAME MACHINE once more, its operations being parameters: so the kernel compares two runs operation by operation. -/

variable {α β γ : Type}

structure Prims (α : Type) where
  part : Bool → List AVal → Nat → Nat → (AVal → Option α) → Option α
  put : List AVal → Nat → Nat → AVal → (List AVal → Option α) → Option α
  ld : St → Bool → Nat → AVal → (AVal → Option α) → Option α
  st : St → Nat → AVal → AVal → (St → Option α) → Option α
  mapSet : Program → St → TypeId → AVal → AVal → AVal → (St → Option α) → Option α
  append : Program → St → TypeId → AVal → AVal → (AVal → St → Option α) → Option α
  makeSlice : Program → St → TypeId → AVal → AVal → (AVal → St → Option α) → Option α
  clear : Program → St → TypeId → AVal → (St → Option α) → Option α
  lookup : Program → St → TypeId → AVal → AVal → Bool → (AVal → Option α) → Option α
  bin : Program → BinOp → TypeId → Bool → AVal → AVal → (AVal → Option α) → Option α
  un : UnOp → AVal → (AVal → Option α) → Option α
  conv : Program → TypeId → TypeId → AVal → (AVal → Option α) → Option α
  len : Program → TypeId → AVal → (AVal → Option α) → Option α
  idxAddr : Program → TypeId → AVal → AVal → (AVal → Option α) → Option α
  add : AVal → Nat → (AVal → Option α) → Option α
  alloc : St → AObj → (AVal → St → Option α) → Option α
  newSl : St → Nat → List AVal → Nat → (AVal → St → Option α) → Option α
  nc : AVal → (Unit → Option α) → Option α
  slice : Program → St → TypeId → AVal → Option AVal → Option AVal → (AVal → Option α) → Option α
  idx : Program → TypeId → AVal → AVal → (AVal → Option α) → Option α
  assert : Program → AVal → TypeId → Bool → (AVal → Option α) → Option α
  extract : AVal → Nat → (AVal → Option α) → Option α
  minmax : Bool → List AVal → (AVal → Option α) → Option α
  cond : AVal → (Unit → Option α) → (Unit → Option α) → Option α
  loop : (Fr → St → (Ex → Fr → St → Option α) → Option α) → Fr → St → (Ex → Fr → St → Option α) → Option α

def πF : Prims α where
  part := partF
  put := putFF
  ld := ldF
  st := stF
  mapSet := mapSetF
  append := appendF
  makeSlice := makeSliceF
  clear := clearF
  lookup := lookupF
  bin := binF
  un := unF
  conv := convF
  len := lenFF
  idxAddr := idxAddrF
  add := addF
  alloc := allocF
  newSl σ size cs len k := newS σ (.cells size cs) fun σ' => frcN σ.next fun nx => k (.slice (some (nx, 0)) len) σ'
  nc := ncK
  slice := sliceK
  idx := idxK
  assert := assertK
  extract := extractK
  minmax := minmaxK
  cond := condK
  loop b fr σ k := loopK b lim fr σ k

def fillG (π : Prims α) (place : Nat → Option (Nat × Nat)) : List (Nat × AVal) → List AVal → (List AVal → Option α) → Option α
  | [], cs, k => k cs
  | (i, v) :: r, cs, k => match place i with
    | some (off, size) => π.put cs off size v fun cs' => fillG π place r cs' k
    | none => none
theorem fillG_eq (place : Nat → Option (Nat × Nat)) : ∀ (l : List (Nat × AVal)) (cs : List AVal) (k : List AVal → Option α), fillG πF place l cs k = fillF place l cs k := by
  intro l
  induction l with
  | nil => intro cs k; rfl
  | cons p l ih => intro cs k; obtain ⟨i, v⟩ := p; simp only [fillG, fillF, ih]; rfl

def opG (π : Prims α) (P : Program) (callF : CallF α) (o : Oper) (fr : Fr) (σ : St) (k : Fr → St → Option α) (kp : AVal → Fr → St → Option α) : Option α :=
  match o.op with
  | .move x | .assign x => match fr.evF x with
    | some s => (putS fr o.dst s fun fr => k fr σ)
    | none => none
  | .pick c a b => valK (fr.evF c) fun c => match c with
    | .bool true => valK (fr.evF a) fun v => (putS fr o.dst (.val v) fun fr => k fr σ)
    | .bool false => valK (fr.evF b) fun v => (putS fr o.dst (.val v) fun fr => k fr σ)
    | _ => none
  | .alloc t => match o.dst, zeroT P t with
    | some d, some z => match fr.esc.testBit d with
      | true => π.alloc σ (.cells 0 z) fun v σ => (putS fr o.dst (.val v) fun fr => k fr σ)
      | false => newBoxS fr d z fun fr => k fr σ
    | _, _ => none
  | .box _ x => valK (fr.evF x) fun v => match v.isData, o.dst with
    | true, some d => match fr.esc.testBit d with
      | true => π.alloc σ (.cells 0 v.cells) fun v σ => (putS fr o.dst (.val v) fun fr => k fr σ)
      | false => newBoxS fr d v.cells fun fr => k fr σ
    | _, _ => none
  | .build t parts => match zeroT P t, placeT P t, fr.evPartsF parts.toList with
    | some z, some pl, some ps => fillG π pl ps z fun cs => (putS fr o.dst (.val (.agg cs)) fun fr => k fr σ)
    | _, _, _ => none
  | .buildSlice t len parts => match P.underlying t, fr.evPartsF parts.toList with
    | some (.slice e), some ps => match zeroT P e, sizeT P e with
      | some z, some size => if z.length = size ∧ 0 < size ∧ len * size ≤ 16777216 then
          fillG π (fun i => some (i * size, size)) ps (List.replicate len z).flatten fun cs =>
            π.newSl σ size cs len fun v σ' => putS fr o.dst (.val v) fun fr => k fr σ'
        else none
      | _, _ => none
    | _, _ => none
  | .load t a => match aggT P t, sizeT P t, fr.evF a with
    | some g, some size, some (.ref s off) => match fr.boxF s with
      | some cs => π.part g cs off size fun v => (putS fr o.dst (.val v) fun fr => k fr σ)
      | none => none
    | some g, some size, some (.val p) => π.ld σ g size p fun v => (putS fr o.dst (.val v) fun fr => k fr σ)
    | _, _, _ => none
  | .store t a x => match sizeT P t, fr.evF a with
    | some size, some (.ref s off) => valK (fr.evF x) fun v => match fr.boxF s with
      | some cs => π.put cs off size v fun cs' => boxS fr s cs' fun fr => putS fr o.dst Slot.undef fun fr => k fr σ
      | none => none
    | some size, some (.val p) => valK (fr.evF x) fun v => π.st σ size p v fun σ => (putS fr o.dst Slot.undef fun fr => k fr σ)
    | _, _ => none
  | .nilCheck x => match fr.evF x with
    | some (.ref s off) => (putS fr o.dst (.ref s off) fun fr => k fr σ)
    | some (.val v) => π.nc v fun _ => (putS fr o.dst (.val v) fun fr => k fr σ)
    | _ => none
  | .binOp op t x y _ => valK (fr.evF x) fun v => valK (fr.evF y) fun w => π.bin P op t (isConstO x || isConstO y) v w fun r => (putS fr o.dst (.val r) fun fr => k fr σ)
  | .unOp op _ x => valK (fr.evF x) fun v => π.un op v fun r => (putS fr o.dst (.val r) fun fr => k fr σ)
  | .convert s d x => valK (fr.evF x) fun v => π.conv P s d v fun r => (putS fr o.dst (.val r) fun fr => k fr σ)
  | .makeInterface t x => match P.underlying t with
    | some (.interface _) | none => none
    | some _ => valK (fr.evF x) fun v => (putS fr o.dst (.val (.iface t v)) fun fr => k fr σ)
  | .makeFunc fn first captured => match fr.evsF first.toList, fr.evsF captured.toList with
    | some a, some b => (putS fr o.dst (.val (.func fn a b)) fun fr => k fr σ)
    | _, _ => none
  | .makeMap t none => match P.underlying t with
    | some (.map _ _) => π.alloc σ (.map []) fun v σ => match v with
      | .ptr (some (n, _)) => (putS fr o.dst (.val (.map (some n))) fun fr => k fr σ)
      | _ => none
    | _ => none
  | .makeSlice t l c => valK (fr.evF l) fun l => valK (fr.evF c) fun c => π.makeSlice P σ t l c fun v σ => (putS fr o.dst (.val v) fun fr => k fr σ)
  | .slice t x lo hi none => valK (fr.evF x) fun x => match fr.evOptF lo, fr.evOptF hi with
    | some lo, some hi => π.slice P σ t x lo hi fun v => (putS fr o.dst (.val v) fun fr => k fr σ)
    | _, _ => none
  | .fieldAddr t x i => match fieldOff P t i with
    | some (off, _, size) => if size = 0 then none else match fr.evF x with
      | some (.ref s o0) => (putS fr o.dst (.ref s (o0 + off)) fun fr => k fr σ)
      | some (.val p) => π.add p off fun v => (putS fr o.dst (.val v) fun fr => k fr σ)
      | _ => none
    | none => none
  | .field t x i => match fieldOff P t i with
    | some (off, ft, size) => match aggT P ft with
      | some g => valK (fr.evF x) fun v => match v with
        | .agg cs => π.part g cs off size fun v => (putS fr o.dst (.val v) fun fr => k fr σ)
        | _ => none
      | none => none
    | none => none
  | .indexAddr t x ix => valK (fr.evF ix) fun i => match fr.evF x with
    | some (.ref s off) => match P.underlying t, i with
      | some (.array len e), .int _ i => match sizeT P e with
        | some size => if 0 ≤ i ∧ i < len then (putS fr o.dst (.ref s (off + i.toNat * size)) fun fr => k fr σ) else none
        | none => none
      | _, _ => none
    | some (.val x) => π.idxAddr P t x i fun v => (putS fr o.dst (.val v) fun fr => k fr σ)
    | _ => none
  | .index t x ix => valK (fr.evF x) fun x => valK (fr.evF ix) fun i => π.idx P t x i fun v => (putS fr o.dst (.val v) fun fr => k fr σ)
  | .lookup t m key ok => valK (fr.evF m) fun m => valK (fr.evF key) fun key => π.lookup P σ t m key ok fun v => (putS fr o.dst (.val v) fun fr => k fr σ)
  | .mapUpdate t m key x | .insert t m key x => valK (fr.evF m) fun m => valK (fr.evF key) fun key => valK (fr.evF x) fun v => π.mapSet P σ t m key v fun σ => (putS fr o.dst Slot.undef fun fr => k fr σ)
  | .typeAssert x _ t ok => valK (fr.evF x) fun v => π.assert P v t ok fun v => (putS fr o.dst (.val v) fun fr => k fr σ)
  | .extract x i => valK (fr.evF x) fun v => π.extract v i fun v => (putS fr o.dst (.val v) fun fr => k fr σ)
  | .call c => match c.callee, fr.evsF c.args.toList with
    | .value f, some args => valK (fr.evF f) fun f => callV callF f args σ (fun v σ => (putS fr o.dst (.val v) fun fr => k fr σ)) (fun v σ => kp v fr σ)
    | .invoke r name, some args => valK (fr.evF r) fun r => match r with
      | .iface t v => match methodOf P 5 t v name with
        | some (f, recv) => callF f (recv :: args) σ (fun v σ => (putS fr o.dst (.val v) fun fr => k fr σ)) (fun v σ => kp v fr σ)
        | none => none
      | _ => none
    | .builtin b, some args => match b, args with
      | .len, [x] => match c.argTypes[0]? with
        | some t => π.len P t x fun v => (putS fr o.dst (.val v) fun fr => k fr σ)
        | none => none
      | .append, [s, x] => match c.argTypes[0]?, c.argTypes[1]? with
        | some t, some t' => match P.underlying t' with
          | some (.slice _) => π.append P σ t s x fun v σ => (putS fr o.dst (.val v) fun fr => k fr σ)
          | _ => none
        | _, _ => none
      | .min, l => π.minmax false l fun v => (putS fr o.dst (.val v) fun fr => k fr σ)
      | .max, l => π.minmax true l fun v => (putS fr o.dst (.val v) fun fr => k fr σ)
      | .clear, [x] => match c.argTypes[0]? with
        | some t => π.clear P σ t x fun σ => (putS fr o.dst (.val .undef) fun fr => k fr σ)
        | none => none
      | .recover, [] => match fr.rc with
        | .can v => putS { fr with rc := .done } o.dst (.val v) fun fr => k fr σ
        | .cannot | .done => (putS fr o.dst (.val .nilIface) fun fr => k fr σ)
        | .no => none
      | _, _ => none
    | _, none => none
  | .defer c => match c.callee, fr.evsF c.args.toList with
    | .value f, some args => valK (fr.evF f) fun f => match f with
      | .func (.func f) first captured => putS { fr with defers := (f, first ++ args ++ captured) :: fr.defers } o.dst Slot.undef fun fr => k fr σ
      | _ => none
    | _, _ => none
  | .panic x => valK (fr.evF x) fun v => match v with
    | .iface _ _ => kp v fr σ
    | _ => none
  | _ => none
theorem opG_eq : @opG α πF = @opF α := by
  funext P callF o fr σ k kp
  unfold opG opF
  simp only [fillG_eq]
  rfl

def opsG (π : Prims α) (P : Program) (callF : CallF α) (ops : Array Oper) : List Nat → Fr → St → (Fr → St → Option α) → (AVal → Fr → St → Option α) → Option α
  | [], fr, σ, k, _ => k fr σ
  | i :: is, fr, σ, k, kp => match ops[i]? with
    | none => none
    | some o => guardF ops o fr
        (fun fr => opG π P callF o fr σ (fun fr σ => opsG π P callF ops is fr σ k kp) kp)
        (fun fr => putS fr o.dst Slot.undef fun fr => opsG π P callF ops is fr σ k kp)
theorem opsG_eq (P : Program) (callF : CallF α) (ops : Array Oper) : ∀ is fr σ k kp, opsG πF P callF ops is fr σ k kp = opsF P callF ops is fr σ k kp := by
  intro is
  induction is with
  | nil => intro fr σ k kp; rfl
  | cons i is ih =>
    intro fr σ k kp
    simp only [opsG, opsF, opG_eq, ih]
    rfl

def drawG (π : Prims α) (P : Program) (callF : CallF α) (ops : Array Oper) (bef : Array Nat) : List Nat → List (Nat × Acc) → Fr → St → (Fr → St → Option α) → Option α
  | [], _, fr, σ, k => k fr σ
  | i :: is, log, fr, σ, k => match ops[i]? with
    | none => none
    | some o => guardF ops o fr
        (fun fr => match accF fr o, freshOk fr o with
          | some a, true =>
            match oldF ops bef fr o i a && logF bef i a log && apartF ops bef o i with
            | true => opG π P (lockCall ((List.range ops.size).any fun j => free bef i j && isLoad (ops.getD j default)) callF) o fr σ
                (fun fr σ => drawG π P callF ops bef is ((i, a) :: log) fr σ k) (fun _ _ _ => none)
            | false => none
          | _, _ => none)
        (fun fr => match oldF ops bef fr o i .none && apartF ops bef o i with
          | true => putS fr o.dst Slot.undef fun fr => drawG π P callF ops bef is ((i, .none) :: log) fr σ k
          | false => none)
theorem drawG_eq (P : Program) (callF : CallF α) (ops : Array Oper) (bef : Array Nat) : ∀ is log fr σ k, drawG πF P callF ops bef is log fr σ k = drawF P callF ops bef is log fr σ k := by
  intro is
  induction is with
  | nil => intro log fr σ k; rfl
  | cons i is ih =>
    intro log fr σ k
    simp only [drawG, drawF, opG_eq, ih]
    rfl

def execG (π : Prims α) (P : Program) (callF : CallF α) : Code → Fr → St → (Ex → Fr → St → Option α) → Option α
  | .skip, fr, σ, k => k .normal fr σ
  | .label _, fr, σ, k => k .normal fr σ
  | .region _ ops draw, fr, σ, k => match draw with
    | false => opsG π P callF ops (List.range ops.size) fr σ (fun fr σ => k .normal fr σ) (fun v fr σ => k (.panic v) fr σ)
    | true => match edgesOk ops with
      | true => drawG π P callF ops (Region.before ops) (List.range ops.size) [] fr σ (fun fr σ => k .normal fr σ)
      | false => none
  | .seq a b, fr, σ, k => execG π P callF a fr σ fun e fr σ => match e with
    | .normal => execG π P callF b fr σ k
    | e => k e fr σ
  | .cond c a b, fr, σ, k => valK (fr.evF c) fun v => π.cond v (fun _ => execG π P callF a fr σ k) (fun _ => execG π P callF b fr σ k)
  | .block id c, fr, σ, k => execG π P callF c fr σ fun e fr σ => match e with
    | .exit j => if j = id then k .normal fr σ else k (.exit j) fr σ
    | e => k e fr σ
  | .scope c, fr, σ, k => execG π P callF c fr σ k
  | .loop c, fr, σ, k => π.loop (execG π P callF c) fr σ k
  | .exit id, fr, σ, k => k (.exit id) fr σ
  | .ret, fr, σ, k => k .ret fr σ
  | _, _, _, _ => none
theorem execG_eq (P : Program) (callF : CallF α) : ∀ c, execG πF P callF c = execF P callF c := by
  intro c
  induction c with
  | region i ops draw =>
    funext fr σ k
    simp only [execG, execF, opsG_eq, drawG_eq]
    rfl
  | seq a b iha ihb => funext fr σ k; simp only [execG, execF, iha, ihb]; rfl
  | cond c a b iha ihb => funext fr σ k; simp only [execG, execF, iha, ihb]; rfl
  | block id c ih => funext fr σ k; simp only [execG, execF, ih]; rfl
  | scope c ih => funext fr σ k; simp only [execG, execF, ih]
  | loop c ih => funext fr σ k; simp only [execG, execF, ih]; rfl
  | _ => rfl

end
end Go.Abs
