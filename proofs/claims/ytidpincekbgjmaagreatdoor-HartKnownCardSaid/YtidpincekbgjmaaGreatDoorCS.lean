/-
  The words of the printed functions, the machine with a table of them, and what a finished run says of a call. No condition.
-/
import Derived.Test.YtidpincekbgjmaaGreatDoorCG
import Derived.Below
import Derived.OpenShut
import Derived.ChangeArms
import Derived.FnData
set_option linter.unusedVariables false
set_option linter.unusedSimpArgs false
namespace Go.Abs
noncomputable section

/-! WORDS OF THE PRINTED FORM: a function's body with its temporaries as variables. -/

variable {α β γ : Type}

/-! ### a frame, taken apart -/

def dV (l : List Slot) (no : γ) (yes : AVal → List Slot → γ) : γ :=
  match l with
  | .val v :: r => yes v r
  | _ => no
def dB (l : List Slot) (no : γ) (yes : List AVal → List Slot → γ) : γ :=
  match l with
  | .box v :: r => yes v r
  | _ => no
def dR (t : Nat) (l : List Slot) (no : γ) (yes : Nat → List Slot → γ) : γ :=
  match l with
  | .ref s o :: r => if s = t then yes o r else no
  | _ => no
def dK : Nat → List Slot → γ → (List Slot → γ) → γ
  | 0, l, _, yes => yes l
  | _ + 1, [], no, _ => no
  | n + 1, _ :: r, no, yes => dK n r no yes
def dN (e n : Nat) (no yes : γ) : γ := if e = n then yes else no

theorem dV_eq {l : List Slot} {no : γ} {yes : AVal → List Slot → γ} (h : ∀ v r, l = .val v :: r → no = yes v r) : no = dV l no yes := by
  unfold dV
  split
  · exact h _ _ rfl
  · rfl
theorem dB_eq {l : List Slot} {no : γ} {yes : List AVal → List Slot → γ} (h : ∀ v r, l = .box v :: r → no = yes v r) : no = dB l no yes := by
  unfold dB
  split
  · exact h _ _ rfl
  · rfl
theorem dR_eq {t : Nat} {l : List Slot} {no : γ} {yes : Nat → List Slot → γ} (h : ∀ o r, l = .ref t o :: r → no = yes o r) : no = dR t l no yes := by
  unfold dR
  split
  · split
    · rename_i e; subst e; exact h _ _ rfl
    · rfl
  · rfl
theorem dK0_eq {l : List Slot} {no : γ} {yes : List Slot → γ} (h : no = yes l) : no = dK 0 l no yes := h
theorem dKs_eq {n : Nat} {l : List Slot} {no : γ} {yes : List Slot → γ} (h : ∀ s r, l = s :: r → no = dK n r no yes) : no = dK (n + 1) l no yes := by
  cases l with
  | nil => rfl
  | cons s r => exact h s r rfl
theorem dN_eq {e n : Nat} {no yes : γ} (h : e = n → no = yes) : no = dN e n no yes := by
  unfold dN
  split
  · exact h ‹_›
  · rfl

/-- some slots get new contents: each with the number of slots before it that stay -/
def updL (l : List Slot) (ch : List (Nat × Slot)) : (List Slot → γ) → γ :=
  List.rec (motive := fun _ => List Slot → (List Slot → γ) → γ) (fun l k => k l)
    (fun p _ ih l k => Prod.rec (motive := fun _ => γ) (fun g s =>
      Nat.rec (motive := fun _ => List Slot → (List Slot → γ) → γ) (fun l k => List.rec (motive := fun _ => γ) (k []) (fun _ l' _ => ih l' fun r => k (s :: r)) l)
        (fun _ ihm l k => List.rec (motive := fun _ => γ) (k []) (fun a l' _ => ihm l' fun r => k (a :: r)) l) g l k) p) ch l
def updS (fr : Fr) (ch : List (Nat × Slot)) (k : Fr → γ) : γ := updL fr.slots ch fun l => k { fr with slots := l }
/-- as newBoxS, under a name of its own -/
def setF' {β : Type} (b : β) : Nat → List β → (List β → γ) → γ
  | _, [], k => k []
  | 0, _ :: l, k => k (b :: l)
  | n + 1, a :: l, k => setF' b n l fun r => k (a :: r)
def nbS (fr : Fr) (d : Nat) (cs : List AVal) (k : Fr → γ) : γ := setF' (.box cs) d (fr.slots.map (inv1 d)) fun l => k { fr with slots := l }
def dfS (fr : Fr) (d : FuncId × List AVal) (k : Fr → γ) : γ := k { fr with defers := d :: fr.defers }

/-! ### operations -/

def pkF (c a b : AVal) (k : AVal → Option α) : Option α :=
  match c with
  | .bool true => k a
  | .bool false => k b
  | _ => none
def dataF (v : AVal) (d : Nat) (k : Unit → Option α) : Option α :=
  match v.isData, some d with
  | true, some _ => k ()
  | _, _ => none
def aggF (v : AVal) (k : List AVal → Option α) : Option α :=
  match v with
  | .agg cs => k cs
  | _ => none
def ixRF (len size off : Nat) (i : AVal) (k : Nat → Option α) : Option α :=
  match i with
  | .int _ i => if 0 ≤ i ∧ i < len then k (off + i.toNat * size) else none
  | _ => none
def newMapF (π : Prims α) (σ : St) (k : Nat → St → Option α) : Option α :=
  π.alloc σ (.map []) fun v σ => match v with
    | .ptr (some (n, _)) => k n σ
    | _ => none
def panicF (v : AVal) (k : AVal → Option α) : Option α :=
  match v with
  | .iface t v => k (.iface t v)
  | _ => none
def gdF (v : AVal) (a b c : Unit → Option α) : Option α :=
  match some (Slot.val v) with
  | some (.val (.bool true)) => a ()
  | some (.val (.bool false)) => b ()
  | some (.val (.tuple [])) => c ()
  | _ => none

def dfvF (v : AVal) (args : List AVal) (k : FuncId × List AVal → Option α) : Option α :=
  match v with
  | .func (.func f) first captured => k (f, first ++ args ++ captured)
  | _ => none
def invkF (P : Program) (C : CallF α) (r : AVal) (name : String) (args : List AVal) (σ : St) (k kp : AVal → St → Option α) : Option α :=
  match r with
  | .iface t v => match methodOf P 5 t v name with
    | some (f, recv) => C f (recv :: args) σ k kp
    | none => none
  | _ => none

/-- may a variable be made anew here? -/
def frF (fr : Fr) (d : Nat) (k : Unit → Option α) : Option α :=
  match some (Acc.wrL d), (fr.esc.testBit d || noRef d fr.slots) with
  | some _, true => k ()
  | _, _ => none

def ckF (b : Bool) (k : Unit → Option α) : Option α :=
  match b with
  | true => k ()
  | false => none

def seqK (next : Fr → St → (Ex → Fr → St → Option α) → Option α) (k : Ex → Fr → St → Option α) : Ex → Fr → St → Option α := fun e fr σ =>
  match e with
  | .normal => next fr σ k
  | e => k e fr σ
def blkK (id : Nat) (k : Ex → Fr → St → Option α) : Ex → Fr → St → Option α := fun e fr σ =>
  match e with
  | .exit j => if j = id then k .normal fr σ else k (.exit j) fr σ
  | e => k e fr σ

/-! ### parts of code -/

def cd (P : Program) (f : Nat) : Code :=
  match P.funcs[f]? with
  | some fn => match fn.body with
    | some c => c
    | none => .skip
  | none => .skip
def sA : Code → Code
  | .seq a _ => a
  | _ => .skip
def sB : Code → Code
  | .seq _ b => b
  | _ => .skip
def cA : Code → Code
  | .cond _ a _ => a
  | _ => .skip
def cB : Code → Code
  | .cond _ _ b => b
  | _ => .skip
def bK : Code → Code
  | .block _ c => c
  | _ => .skip
def lK : Code → Code
  | .loop c => c
  | _ => .skip
def oK : Code → Code
  | .scope c => c
  | _ => .skip

def cX : Code → Operand
  | .cond x _ _ => x
  | _ => .tmp 0

/-- A piece of code with holes: what stands in a hole is run by what is given. -/
inductive Sk where
  | run (c : Code)
  | hole (c : Code)
  | seq (a b : Sk)
  | cond (x : Operand) (a b : Sk)
  | block (id : Nat) (a : Sk)
  | scope (a : Sk)
  | loopH (c : Code)

def Sk.fill : Sk → Code
  | .run c => c
  | .hole c => c
  | .seq a b => .seq a.fill b.fill
  | .cond x a b => .cond x a.fill b.fill
  | .block id a => .block id a.fill
  | .scope a => .scope a.fill
  | .loopH c => .loop c

abbrev RunF (α : Type) := Fr → St → (Ex → Fr → St → Option α) → Option α

def execSk (π : Prims α) (P : Program) (C : CallF α) (H : Code → RunF α) : Sk → RunF α
  | .run c => execG π P C c
  | .hole c => H c
  | .seq a b => fun fr σ k => execSk π P C H a fr σ (seqK (execSk π P C H b) k)
  | .cond x a b => fun fr σ k => valK (fr.evF x) fun v => π.cond v (fun _ => execSk π P C H a fr σ k) (fun _ => execSk π P C H b fr σ k)
  | .block id a => fun fr σ k => execSk π P C H a fr σ (blkK id k)
  | .scope a => execSk π P C H a
  | .loopH c => fun fr σ k => π.loop (H c) fr σ k

theorem execSk_fill (π : Prims α) (P : Program) (C : CallF α) : ∀ s : Sk, execG π P C s.fill = execSk π P C (execG π P C) s := by
  intro s
  induction s with
  | run c => rfl
  | hole c => rfl
  | seq a b iha ihb => funext fr σ k; simp only [Sk.fill, execG, execSk, ← iha, ← ihb]; rfl
  | cond x a b iha ihb => funext fr σ k; simp only [Sk.fill, execG, execSk, ← iha, ← ihb]
  | block id a ih => funext fr σ k; simp only [Sk.fill, execG, execSk, ← ih]; rfl
  | scope a ih => funext fr σ k; simp only [Sk.fill, execG, execSk, ← ih]
  | loopH c => rfl

/-- a piece, by its sketch -/
theorem sk_eq {π : Prims α} {P : Program} {C : CallF α} (s : Sk) {c : Code} (hc : s.fill = c) {fr : Fr} {σ : St} {k : Ex → Fr → St → Option α} {x : Option α}
    (h : execSk π P C (execG π P C) s fr σ k = x) : execG π P C c fr σ k = x := by
  rw [← hc, execSk_fill]; exact h

/-! ### the machine with a table of printed bodies -/

abbrev Piece := ∀ α : Type, CallF α → Fr → St → (Ex → Fr → St → Option α) → Option α

def lookT : List (Nat × Piece) → Nat → Option Piece
  | [], _ => none
  | (a, b) :: r, n => match Nat.beq a n with
    | true => some b
    | false => lookT r n

def GoodP (P : Program) (f : Nat) (X : Piece) : Prop := ∀ (α : Type) (C : CallF α), execG πF P C (cd P f) = X α C

theorem good_look {P : Program} : ∀ {l : List (Nat × Piece)}, (∀ p ∈ l, GoodP P p.1 p.2) → ∀ {f X}, lookT l f = some X → GoodP P f X := by
  intro l
  induction l with
  | nil => intro _ f X h; cases h
  | cons p l ih =>
    intro hl f X h
    obtain ⟨a, b⟩ := p
    simp only [lookT] at h
    split at h
    · rename_i e
      cases h
      have := Nat.eq_of_beq_eq_true e
      subst this
      exact hl _ (List.mem_cons_self ..)
    · exact ih (fun p hp => hl p (List.mem_cons_of_mem _ hp)) h

theorem good_nil {P : Program} : ∀ p ∈ ([] : List (Nat × Piece)), GoodP P p.1 p.2 := fun _ h => by cases h
theorem good_cons {P : Program} {f : Nat} {X : Piece} {l : List (Nat × Piece)} (h : GoodP P f X) (t : ∀ p ∈ l, GoodP P p.1 p.2) : ∀ p ∈ (f, X) :: l, GoodP P p.1 p.2 := by
  intro p hp
  rcases List.mem_cons.1 hp with rfl | hp
  · exact h
  · exact t p hp

def bodyS (P : Program) (cfg : Cfg) (T : List (Nat × Piece)) (callF : CallF α) (f : FuncId) (fn : Func) (c : Code) (args : List AVal) (σ : St) (k kp : AVal → St → Option α) : Option α :=
  frameF cfg f fn args .no fun fr0 => (match lookT T f with | some X => X α callF | none => execF P callF c) fr0 σ fun e fr σ => match e with
    | .normal | .ret => leaveF P cfg callF fn fr k kp fr.defers .returning σ
    | .panic v => leaveF P cfg callF fn fr k kp fr.defers (.panicking v) σ
    | .exit _ => none

def callS (P : Program) (cfg : Cfg) (T : List (Nat × Piece)) : Nat → CallF α
  | 0 => fun _ _ _ _ _ => none
  | n + 1 => fun f args σ k kp => match P.funcs[f]? with
    | none => none
    | some fn => match fn.body with
      | none => match cfg.ext f with
        | some e => extF e args σ k
        | none => none
      | some c => match cfg.pure f with
        | true => bodyS P cfg T (callS P cfg T n) f fn c args { σ with lock := fun m => σ.lock m || decide (m < σ.next) }
            (fun v _ => match v.old σ.next with | true => k v σ | false => none) (fun v _ => match v.old σ.next with | true => kp v σ | false => none)
        | false => bodyS P cfg T (callS P cfg T n) f fn c args σ k kp

theorem callS_eq {P : Program} {cfg : Cfg} {T : List (Nat × Piece)} (hT : ∀ p ∈ T, GoodP P p.1 p.2) : ∀ n, (callS P cfg T n : CallF α) = callF P cfg n := by
  have hb : ∀ (C : CallF α) f fn c, P.funcs[f]? = some fn → fn.body = some c → ∀ args σ k kp, bodyS P cfg T C f fn c args σ k kp = bodyF P cfg C f fn c args σ k kp := by
    intro C f fn c h1 h2 args σ k kp
    have hc : cd P f = c := by simp only [cd, h1, h2]
    have he : (match lookT T f with | some X => X α C | none => execF P C c) = execF P C c := by
      split
      · rename_i X hX
        rw [← hc]
        rw [← execG_eq]
        exact (good_look hT hX α C).symm
      · rfl
    unfold bodyS bodyF
    rw [he]
    rfl
  intro n
  induction n with
  | zero => rfl
  | succ n ih =>
    funext f args σ k kp
    simp only [callS, callF, ih]
    cases h1 : P.funcs[f]? with
    | none => rfl
    | some fn =>
      simp only
      cases h2 : fn.body with
      | none => rfl
      | some c =>
        simp only
        rw [hb _ _ _ _ h1 h2, hb _ _ _ _ h1 h2]
        cases cfg.pure f <;> rfl

theorem callS_callN {P : Program} {cfg : Cfg} {T : List (Nat × Piece)} (hT : ∀ p ∈ T, GoodP P p.1 p.2) (n : Nat) : (callS P cfg T n : CallF α) = callN P cfg n :=
  (callS_eq hT n).trans (callF_eq P cfg n)

end
end Go.Abs
namespace Go.Abs
open Go.RowKit

/-! FROM A RUN OF THE MACHINE TO WHAT A ROW ASKS -/

/-- a call without arguments, all names being locked: it ends with the run's answer, and what was there is as it was -/
theorem calls_of_run {P : Program} {cfg : Cfg} {B : Nat → Bool} (hP : ProgOK P cfg) {n f : Nat} {fn : Func} {c : Code} (hf : P.funcs[f]? = some fn) (hb : fn.body = some c)
    {σ : St} {ρ : Ren} {W : World} {b : Bool} (hS : SRel B ρ σ W) (hl : ∀ n, (∃ o, σ.get n = some o) → σ.lock n = true)
    (h : callN P cfg n f [] σ (fun v _ => some v) (fun _ _ => none) = some (.bool b)) :
    Calls P f #[] W (fun e w' => e = .returned (.bool b) ∧ Below W.heap.size W w') := by
  rcases (callN_ok (B := B) hP n).ok _ _ f [] σ _ _ h ρ W #[] hS All2.nil with ⟨v, w', hr, _⟩ | ⟨_, hc⟩
  · rw [run_callFunc_enter hf (hP.name f fn hf) hb] at hr
    cases hr
  · refine hc.mono fun e w' he => ?_
    cases e with
    | returned v =>
      obtain ⟨ρ', σ', v', hk, _, hst, hv⟩ := he
      simp only [Option.some.injEq] at hk
      subst hk
      cases hv
      refine ⟨rfl, hst.os, hst.tape, hst.output, hst.size, fun k hk => hst.frame k hk fun ho => ?_⟩
      obtain ⟨m, o, hm, hlo, _⟩ := ho
      rw [hl m ⟨o, hm⟩] at hlo
      cases hlo
    | panicked ch => obtain ⟨v, _, _, _, _, hk, _⟩ := he; cases hk
    | outgrown => exact he.elim

/-! ### package variables that are arrays of integers -/

def ints (l : List Int) : AObj := .cells 0 (l.map (.int .i64))

theorem LRel.ints {ρ : Ren} {N : Nat} (l : List Int) : LRel ρ N (l.map (.int .i64)) (l.map (.int .i64)) :=
  ⟨by simp, fun i x y hx hy => by
    simp only [List.getElem?_map, Option.map_eq_some_iff] at hx hy
    obtain ⟨a, ha, rfl⟩ := hx
    obtain ⟨b, hb, rfl⟩ := hy
    rw [ha] at hb
    cases hb
    exact .int _ _⟩

/-- a block that holds these integers -/
def HoldsInts (W : World) (b : Nat) (l : List Int) : Prop := ∃ c el, W.heap[b]? = some (.cells c el (0, 0)) ∧ c.toList = l.map (.int .i64)

def gRen (room : Nat → Nat) : Ren := fun n => ⟨n, 0, room n, 0⟩

theorem srel_ints {W : World} {tab : List (Nat × List Int)} {σ : St} (hn : σ.next = globMax) (hlk : ∀ n, n < globMax → σ.lock n = true)
    (hg : ∀ n o, σ.get n = some o → ∃ l, (n, l) ∈ tab ∧ o = ints l) (hlt : ∀ p ∈ tab, p.1 < globMax) (hu : ∀ p ∈ tab, ∀ q ∈ tab, p.1 = q.1 → p.2 = q.2) (hW : ∀ p ∈ tab, HoldsInts W p.1 p.2) :
    ∃ ρ, SRel (fun n => decide (n < globMax)) ρ σ W := by
  refine ⟨gRen fun n => match tab.find? (fun p => p.1 == n) with | some p => p.2.length | none => 0, ⟨fun n o ho => ?_, fun n m o o' h1 h2 hne hB => ?_, fun n hn => hlk n (by simpa using hn), fun g hg' => ?_⟩⟩
  · obtain ⟨l, hl, rfl⟩ := hg n o ho
    refine ⟨by rw [hn]; exact hlt _ hl, ?_⟩
    obtain ⟨c, el, hb, hc⟩ := hW _ hl
    have hroom : (match tab.find? (fun p => p.1 == n) with | some p => p.2.length | none => 0) = l.length := by
      cases hf : tab.find? (fun p => p.1 == n) with
      | none =>
        have := List.find?_eq_none.1 hf _ hl
        simp at this
      | some p =>
        have h1 := List.mem_of_find?_eq_some hf
        have h2 := List.find?_some hf
        simp only [beq_iff_eq] at h2
        simp only [hu p h1 _ hl h2]
    have hsz : c.size = l.length := by rw [← Array.length_toList, hc]; simp
    refine ⟨rfl, ?_, fun x hx => ?_, c, el, (0, 0), hb, ?_, fun i x hx => ?_, fun j _ _ => by omega⟩
    · simp only [gRen, List.length_map]
      rw [hroom]
      exact Nat.le_refl _
    · simp only [List.mem_map] at hx
      obtain ⟨z, _, rfl⟩ := hx
      rfl
    · simp only [gRen]
      rw [hroom, hsz]
      omega
    · simp only [gRen, Nat.zero_add]
      have hi : i < l.length := by
        have := (List.getElem?_eq_some_iff.1 hx).1
        simpa using this
      have hci : c[i]? = (l.map (Value.int .i64))[i]? := by rw [← hc]; simp
      simp only [List.getElem?_map, Option.map_eq_some_iff] at hx
      obtain ⟨z, hz, rfl⟩ := hx
      refine ⟨.int .i64 z, ?_, .int _ _⟩
      rw [hci, List.getElem?_map, hz]
      rfl
  · exfalso
    obtain ⟨l, hl, rfl⟩ := hg n o h1
    obtain ⟨l', hl', rfl⟩ := hg m o' h2
    have a := hlt _ hl
    have b := hlt _ hl'
    simp only at a b
    rcases hB with hB | hB
    · simp [a] at hB
    · simp [b] at hB
  · exact ⟨by rw [hn]; exact hg', rfl, rfl⟩

section
variable {H : Type} {enc : TypeId × Value → H} {P : Program} {w : World} {spare : Nat → Bool} {held : Bool} {base : Nat}

/-- what a reading of an array of integers tells of its cells -/
theorem cells_of_ints {fuel t n et : Nat} {cs : List Value} {l : List Int} {ps : List MemPlace} (ht : P.underlying t = some (.array n et)) (he : P.underlying et = some (.int .i64)) (hc : P.cellsOf et = 1) (hct : P.cellsOf t = n)
    (h : DataW.trod enc P w base spare held fuel t cs = some (.agg (l.map fun z => .lit (.int .i64 z)), ps)) : cs = l.map (.int .i64) := by
  obtain ⟨xs, m, _, hx, hlen, hn, hel⟩ := DataW.trod_array ht h
  simp only [Prod.mk.injEq, DataW.agg.injEq] at hx
  have hll : l.length = n := by
    have := congrArg List.length hx.1
    simp only [List.length_map] at this
    omega
  rw [hct] at hlen
  apply List.ext_getElem?
  intro i
  by_cases hi : i < n
  · have h1 := hel i hi
    rw [hc, Nat.mul_one] at h1
    obtain ⟨x, hxi⟩ : ∃ x, xs[i]? = some x := ⟨xs[i]'(by omega), List.getElem?_eq_getElem _⟩
    rw [hxi] at h1
    obtain ⟨z, e1, e2, _⟩ := DataW.trod_int he h1
    have h2 := congrArg (fun (q : List (DataW H)) => q[i]?) hx.1
    simp only [List.getElem?_map, hxi, Option.map_some] at h2
    obtain ⟨y, hy⟩ : ∃ y, l[i]? = some y := ⟨l[i]'(by omega), List.getElem?_eq_getElem _⟩
    rw [hy] at h2
    simp only [Option.map_some, Option.some.injEq] at h2
    rw [e2] at h2
    simp only [DataW.lit.injEq, Lit.int.injEq, true_and] at h2
    have h3 : cs[i]? = some (.int .i64 z) := by
      have := congrArg (fun (q : List Value) => q[0]?) e1
      simpa [List.getElem?_take, List.getElem?_drop] using this
    rw [h3, List.getElem?_map, hy, h2]
    rfl
  · rw [List.getElem?_eq_none (by omega), List.getElem?_eq_none (by simp; omega)]

theorem holds_of_var {P : Program} {w : World} {name : String} {g : Nat} {cs : Array Value} {l : List Int} (hg : P.globalNamed name = some g) (hv : w.var? P name = some cs) (hc : cs.toList = l.map (.int .i64))
    (hz : ∃ c t, w.heap[g]? = some (.cells c t (0, 0))) : HoldsInts w g l := by
  obtain ⟨c, t, hb⟩ := hz
  simp only [World.var?, hg, Option.bind_some, hb, Option.some.injEq] at hv
  subst hv
  exact ⟨c, t, hb, hc⟩

/-- the closed facts about a package variable that is an array of integers -/
def okG (P : Program) (x : String × Nat × List Int) : Bool :=
  P.globalNamed x.1 == some x.2.1 && (match (P.globals[x.2.1]?).map (·.type) with
    | some t => match P.underlying t with
      | some (.array n et) => match P.underlying et with
        | some (.int .i64) => P.cellsOf et == 1 && P.cellsOf t == n && decide (0 < n)
        | _ => false
      | _ => false
    | none => false)

def toLaid (x : String × Nat × List Int) : String × DataW Unit := (x.1, .agg (x.2.2.map fun z => .lit (.int .i64 z)))

theorem mem_row {g n : Nat} (h : 0 < n) : MemPlace.cell g 0 ∈ MemPlace.row ⟨g, 0, none⟩ n := by
  simp only [MemPlace.row, List.mem_map, List.mem_range]
  exact ⟨0, h, rfl⟩

theorem holds_of_laid {P : Program} {w : World} : ∀ (tab : List (String × Nat × List Int)) (ps : List MemPlace), tab.all (okG P) = true → DataW.LaidVars P w (tab.map toLaid) ps →
    (∀ b off, MemPlace.cell b off ∈ ps → ∃ c t, w.heap[b]? = some (.cells c t (0, 0))) → ∀ x ∈ tab, HoldsInts w x.2.1 x.2.2 := by
  intro tab
  induction tab with
  | nil => intro ps _ _ _ x hx; cases hx
  | cons y tab ih =>
    intro ps hok h hz x hx
    simp only [List.all_cons, Bool.and_eq_true] at hok
    obtain ⟨g, t, cs, fuel, p, q, h1, h2, h3, h4, h5, h6⟩ := h
    rcases List.mem_cons.1 hx with rfl | hx
    · have hy := hok.1
      simp only [okG, Bool.and_eq_true, beq_iff_eq] at hy
      obtain ⟨hg, hy⟩ := hy
      have hgg : g = x.2.1 := by
        have := h1.symm.trans hg
        simpa using this
      subst hgg
      rw [h2] at hy
      simp only at hy
      split at hy
      · rename_i n et ht
        split at hy
        · rename_i he
          simp only [Bool.and_eq_true, beq_iff_eq, decide_eq_true_eq] at hy
          obtain ⟨⟨hc, hct⟩, hpos⟩ := hy
          have hcs := cells_of_ints ht he hc hct h4
          refine holds_of_var h1 h3 hcs (hz x.2.1 0 ?_)
          rw [h6]
          refine List.mem_append_left _ (List.mem_append_left _ ?_)
          have hsz : cs.size = n := by
            obtain ⟨_, _, _, _, hlen, _, _⟩ := DataW.trod_array ht h4
            rw [Array.length_toList] at hlen
            omega
          rw [hsz]
          exact mem_row hpos
        · cases hy
      · cases hy
    · exact ih q hok.2 h5 (fun b off hb => hz b off (by rw [h6]; exact List.mem_append_right _ hb)) x hx
end

/-! ### a heap of package variables alone -/

def heapOf : List (Nat × List Int) → PT
  | [] => .leaf
  | (n, l) :: r => (heapOf r).set n (some (ints l))

theorem get_heapOf : ∀ (tab : List (Nat × List Int)) (n : Nat) (o : AObj), (heapOf tab).get n = some o → ∃ l, (n, l) ∈ tab ∧ o = ints l := by
  intro tab
  induction tab with
  | nil => intro n o h; cases h
  | cons p tab ih =>
    intro n o h
    obtain ⟨m, l⟩ := p
    simp only [heapOf, PT.get_set] at h
    split at h
    · rename_i e
      cases h
      subst e
      exact ⟨l, List.mem_cons_self .., rfl⟩
    · obtain ⟨l', h1, h2⟩ := ih n o h
      exact ⟨l', List.mem_cons_of_mem _ h1, h2⟩

def st0 (tab : List (Nat × List Int)) : St := { heap := heapOf tab, next := 64, lock := fun n => decide (n < 64) }

theorem uniq_of_nodup : ∀ (tab : List (Nat × List Int)), (tab.map Prod.fst).Nodup → ∀ p ∈ tab, ∀ q ∈ tab, p.1 = q.1 → p.2 = q.2 := by
  intro tab
  induction tab with
  | nil => intro _ p hp; cases hp
  | cons x tab ih =>
    intro h p hp q hq e
    simp only [List.map_cons, List.nodup_cons] at h
    rcases List.mem_cons.1 hp with hp | hp <;> rcases List.mem_cons.1 hq with hq | hq
    · rw [hp, hq]
    · exfalso; apply h.1; rw [← hp, e]; exact List.mem_map.2 ⟨q, hq, rfl⟩
    · exfalso; apply h.1; rw [← hq, ← e]; exact List.mem_map.2 ⟨p, hp, rfl⟩
    · exact ih h.2 p hp q hq e

/-- a call without arguments, the package variables being arrays of integers -/
theorem calls_of_laid {P : Program} {cfg : Cfg} (hP : ProgOK P cfg) {n f : Nat} {fn : Func} {c : Code} (hf : P.funcs[f]? = some fn) (hb : fn.body = some c)
    (tab : List (String × Nat × List Int)) (hok : tab.all (okG P) = true) (hnd : ((tab.map Prod.snd).map Prod.fst).Nodup) (hlt : (tab.all fun x => decide (x.2.1 < 64)) = true)
    {b : Bool} (h : callN P cfg n f [] (st0 (tab.map Prod.snd)) (fun v _ => some v) (fun _ _ => none) = some (.bool b)) {W : World} (hW : laidMet P (tab.map toLaid) W) :
    Calls P f #[] W (fun e w' => e = .returned (.bool b) ∧ Below W.heap.size W w') := by
  obtain ⟨ps, h1, _, h3⟩ := hW
  have hh := holds_of_laid tab ps hok h1 (fun b off hb => (h3 b off hb).1)
  have hlt' : ∀ p ∈ tab.map Prod.snd, p.1 < globMax := fun p hp => by
    obtain ⟨x, hx, rfl⟩ := List.mem_map.1 hp
    simpa [globMax] using List.all_eq_true.1 hlt x hx
  obtain ⟨ρ, hS⟩ := srel_ints (W := W) (tab := tab.map Prod.snd) (σ := st0 (tab.map Prod.snd)) rfl (fun n hn => by simpa [st0, globMax] using hn)
    (fun n o ho => get_heapOf _ n o ho) hlt' (uniq_of_nodup _ hnd)
    (fun p hp => by obtain ⟨x, hx, rfl⟩ := List.mem_map.1 hp; exact hh x hx)
  refine calls_of_run hP hf hb hS (fun m ⟨o, ho⟩ => ?_) h
  obtain ⟨l, hl, _⟩ := get_heapOf _ m o ho
  have := hlt' _ hl
  simpa [st0, globMax] using this

/-- extern functions by number -/
def look (l : List (Nat × Nat)) (n : Nat) : Option Nat :=
  match l with
  | [] => none
  | (a, b) :: r => match a == n with
    | true => some b
    | false => look r n

theorem look_mem : ∀ {l : List (Nat × Nat)} {n b : Nat}, look l n = some b → (n, b) ∈ l := by
  intro l
  induction l with
  | nil => intro n b h; cases h
  | cons p l ih =>
    intro n b h
    obtain ⟨x, y⟩ := p
    simp only [look] at h
    split at h
    · rename_i e
      cases h
      simp only [beq_iff_eq] at e
      subst e
      exact List.mem_cons_self ..
    · exact List.mem_cons_of_mem _ (ih h)

theorem progOK_mk {P : Program} {esc : FuncId → Nat} {pure : FuncId → Bool} {l : List (Nat × Nat)} (h1 : (P.funcs.all fun fn => !(fn.name == "runtime.NumGoroutine")) = true)
    (h2 : ∀ p ∈ l, ∀ fn s, P.funcs[p.1]? = some fn → extSem p.2 = some s → Extern.findNext fn = none ∧ Extern.find fn = some s) : ProgOK P { esc, pure, ext := look l } := by
  refine ⟨fun f fn hf => ?_, fun f fn e s hf _ he hs => h2 _ (look_mem he) fn s hf hs⟩
  obtain ⟨hlt, rfl⟩ := Array.getElem?_eq_some_iff.1 hf
  have := Array.all_eq_true.1 h1 f hlt
  simpa using this

end Go.Abs
