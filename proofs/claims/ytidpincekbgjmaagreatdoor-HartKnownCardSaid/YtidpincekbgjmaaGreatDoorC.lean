/-
  The abstract machine written so that the kernel runs it fast, shown equal to the plain one. No condition.
-/
import Derived.Test.YtidpincekbgjmaaGreatDoorB
set_option linter.unusedVariables false
set_option linter.unusedSimpArgs false
namespace Go.Abs
noncomputable section

/-! THE SAME MACHINE, written for the kernel: direct recursors, lists rebuilt at once. Each function is shown equal to the plain one. -/

variable {α β γ : Type}

def nthF (l : List β) : Nat → Option β :=
  List.rec (motive := fun _ => Nat → Option β) (fun _ => none) (fun a _ ih n => Nat.rec (motive := fun _ => Option β) (some a) (fun m _ => ih m) n) l

theorem nthF_eq (l : List β) : ∀ n, nthF l n = l[n]? := by
  induction l with
  | nil => intro n; simp [nthF]
  | cons a l ih => intro n; cases n with
    | zero => rfl
    | succ n => simp only [List.getElem?_cons_succ]; exact ih n

def setF (l : List β) (b : β) : Nat → (List β → γ) → γ :=
  List.rec (motive := fun _ => Nat → (List β → γ) → γ) (fun _ k => k []) (fun a l ih n k => Nat.rec (motive := fun _ => γ) (k (b :: l)) (fun m _ => ih m (fun r => k (a :: r))) n) l

theorem setF_eq (l : List β) (b : β) : ∀ (n : Nat) (k : List β → γ), setF l b n k = k (l.set n b) := by
  induction l with
  | nil => intro n k; simp [setF]
  | cons a l ih => intro n k; cases n with
    | zero => rfl
    | succ n => simp only [List.set_cons_succ]; exact ih n _

/-- the first cells are replaced -/
def ovF (vs : List β) : List β → (List β → Option γ) → Option γ :=
  List.rec (motive := fun _ => List β → (List β → Option γ) → Option γ) (fun cs k => k cs)
    (fun v _ ih cs k => List.rec (motive := fun _ => Option γ) none (fun _ cs _ => ih cs (fun r => k (v :: r))) cs) vs

theorem ovF_eq (vs : List β) : ∀ (cs : List β) (k : List β → Option γ), ovF vs cs k = if vs.length ≤ cs.length then k (vs ++ cs.drop vs.length) else none := by
  induction vs with
  | nil => intro cs k; simp [ovF]
  | cons v vs ih => intro cs k; cases cs with
    | nil => simp [ovF]
    | cons c cs =>
      simp only [List.length_cons, Nat.add_le_add_iff_right, List.drop_succ_cons, List.cons_append]
      exact ih cs _

def wrF (vs : List β) (cs : List β) : Nat → (List β → Option γ) → Option γ :=
  List.rec (motive := fun _ => Nat → (List β → Option γ) → Option γ) (fun n k => Nat.rec (motive := fun _ => Option γ) (ovF vs [] k) (fun _ _ => none) n)
    (fun c cs ih n k => Nat.rec (motive := fun _ => Option γ) (ovF vs (c :: cs) k) (fun m _ => ih m (fun r => k (c :: r))) n) cs

theorem wrF_eq (vs : List β) (cs : List β) : ∀ (n : Nat) (k : List β → Option γ), wrF vs cs n k = if n + vs.length ≤ cs.length then k (cs.take n ++ vs ++ cs.drop (n + vs.length)) else none := by
  induction cs with
  | nil => intro n k; cases n with
    | zero => exact (ovF_eq vs [] k).trans (by simp)
    | succ n => exact Eq.trans (b := none) rfl (by simp)
  | cons c cs ih => intro n k; cases n with
    | zero => exact (ovF_eq vs (c :: cs) k).trans (by simp)
    | succ n =>
      have h := ih n (fun r => k (c :: r))
      have e : n + 1 + vs.length = (n + vs.length) + 1 := by omega
      simp only [List.length_cons, e, Nat.add_le_add_iff_right, List.take_succ_cons, List.cons_append, List.drop_succ_cons]
      exact h

def tkF (l : List β) : Nat → (List β → Option γ) → Option γ :=
  List.rec (motive := fun _ => Nat → (List β → Option γ) → Option γ) (fun n k => Nat.rec (motive := fun _ => Option γ) (k []) (fun _ _ => none) n)
    (fun c _ ih n k => Nat.rec (motive := fun _ => Option γ) (k []) (fun m _ => ih m (fun r => k (c :: r))) n) l

theorem tkF_eq (l : List β) : ∀ (n : Nat) (k : List β → Option γ), tkF l n k = if n ≤ l.length then k (l.take n) else none := by
  induction l with
  | nil => intro n k; cases n with
    | zero => rfl
    | succ n => exact Eq.trans (b := none) rfl (by simp)
  | cons c l ih => intro n k; cases n with
    | zero => exact Eq.trans (b := k []) rfl (by simp)
    | succ n =>
      have h := ih n (fun r => k (c :: r))
      simp only [List.length_cons, Nat.add_le_add_iff_right, List.take_succ_cons]
      exact h

def subF (l : List β) (size : Nat) : Nat → (List β → Option γ) → Option γ :=
  List.rec (motive := fun _ => Nat → (List β → Option γ) → Option γ) (fun n k => Nat.rec (motive := fun _ => Option γ) (tkF [] size k) (fun _ _ => none) n)
    (fun c l ih n k => Nat.rec (motive := fun _ => Option γ) (tkF (c :: l) size k) (fun m _ => ih m k) n) l

theorem subF_eq (l : List β) (size : Nat) : ∀ (n : Nat) (k : List β → Option γ), subF l size n k = if n + size ≤ l.length then k ((l.drop n).take size) else none := by
  induction l with
  | nil => intro n k; cases n with
    | zero => exact (tkF_eq [] size k).trans (by simp)
    | succ n => exact Eq.trans (b := none) rfl (by simp)
  | cons c l ih => intro n k; cases n with
    | zero => exact (tkF_eq (c :: l) size k).trans (by simp)
    | succ n =>
      have h := ih n k
      have e : n + 1 + size = (n + size) + 1 := by omega
      simp only [List.length_cons, e, Nat.add_le_add_iff_right, List.drop_succ_cons]
      exact h

/-- is this the length? -/
def lenF (l : List β) : Nat → Bool :=
  List.rec (motive := fun _ => Nat → Bool) (fun n => Nat.rec (motive := fun _ => Bool) true (fun _ _ => false) n)
    (fun _ _ ih n => Nat.rec (motive := fun _ => Bool) false (fun m _ => ih m) n) l

theorem lenF_eq (l : List β) : ∀ n, lenF l n = decide (l.length = n) := by
  induction l with
  | nil => intro n; cases n with
    | zero => rfl
    | succ n => exact Eq.trans (b := false) rfl (by simp)
  | cons c l ih => intro n; cases n with
    | zero => exact Eq.trans (b := false) rfl (by simp)
    | succ n =>
      have h := ih n
      simp only [List.length_cons, Nat.add_right_cancel_iff]
      exact h

def partF (isAgg : Bool) (cs : List AVal) (off size : Nat) (k : AVal → Option α) : Option α :=
  match isAgg with
  | true => subF cs size off fun l => k (.agg l)
  | false => match nthF cs off with
    | some v => k v
    | none => none

theorem partF_eq : @partF α = @partK α := by
  funext g cs off size k
  cases g
  · simp only [partF, partK, nthF_eq]; rfl
  · simp only [partF, partK, subF_eq]

def putFF (cs : List AVal) (off size : Nat) (v : AVal) (k : List AVal → Option α) : Option α :=
  match v with
  | .tuple _ => none
  | .agg l => match lenF l size with
    | true => wrF l cs off k
    | false => none
  | v => match size with
    | 1 => wrF [v] cs off k
    | _ => none

theorem putFF_eq : @putFF α = @putK α := by
  funext cs off size v k
  cases v
  case agg l =>
    simp only [putFF, putK, lenF_eq, wrF_eq, AVal.isData, AVal.cells, writeL, true_and]
    by_cases h : l.length = size
    · subst h; simp
    · simp [h]
  case tuple l => simp [putFF, putK, AVal.isData]
  all_goals
    simp only [putFF, putK, AVal.isData, AVal.cells, List.length_cons, List.length_nil, true_and]
    by_cases h : size = 1
    · subst h; simp [wrF_eq, writeL]
    · have h' : ¬ (0 + 1 = size) := fun e => h e.symm
      simp only [h', false_and, if_false]

/-- a value is reckoned at once -/
def frcN (n : Nat) (k : Nat → γ) : γ := Nat.rec (motive := fun _ => γ) (k 0) (fun m _ => k (Nat.succ m)) n
theorem frcN_eq (n : Nat) (k : Nat → γ) : frcN n k = k n := by cases n <;> rfl
def frcI (n : Int) (k : Int → γ) : γ := Int.rec (motive := fun _ => γ) (fun m => frcN m fun m => k (Int.ofNat m)) (fun m => frcN m fun m => k (Int.negSucc m)) n
theorem frcI_eq (n : Int) (k : Int → γ) : frcI n k = k n := by cases n with
  | ofNat m => exact frcN_eq m fun m => k (Int.ofNat m)
  | negSucc m => exact frcN_eq m fun m => k (Int.negSucc m)
def frc (v : AVal) (k : AVal → γ) : γ :=
  match v with
  | .int kd n => frcI n fun n => k (.int kd n)
  | .bool b => Bool.rec (motive := fun _ => γ) (k (.bool false)) (k (.bool true)) b
  | v => k v
theorem frc_eq (v : AVal) (k : AVal → γ) : frc v k = k v := by
  cases v <;> simp only [frc, frcI_eq]
  case bool b => cases b <;> rfl

/-! ### the heap -/

def PT.getF (t : PT) : Nat → Option AObj :=
  PT.rec (motive := fun _ => Nat → Option AObj) (fun _ => none)
    (fun _ v _ ihl ihr n => Nat.rec (motive := fun _ => Option AObj) v (fun m _ => Bool.rec (motive := fun _ => Option AObj) (ihr (m / 2)) (ihl (m / 2)) (Nat.beq (m % 2) 0)) n) t

theorem PT.getF_eq (t : PT) : ∀ n, t.getF n = t.get n := by
  induction t with
  | leaf => intro n; rfl
  | node l v r ihl ihr =>
    intro n
    cases n with
    | zero => exact Eq.trans (b := v) rfl (by simp [PT.get])
    | succ m =>
      simp only [PT.get, Nat.add_one_ne_zero, if_false]
      by_cases h : m % 2 = 0
      · have h1 : (m + 1) % 2 = 1 := by omega
        have h2 : (m + 1) / 2 = m / 2 := by omega
        rw [if_pos h1, h2, ← ihl]
        show (Bool.rec (motive := fun _ => Option AObj) (r.getF (m / 2)) (l.getF (m / 2)) (Nat.beq (m % 2) 0) : Option AObj) = _
        rw [h]; rfl
      · have h1 : ¬ (m + 1) % 2 = 1 := by omega
        have h2 : (m + 1) / 2 - 1 = m / 2 := by omega
        rw [if_neg h1, h2, ← ihr]
        show (Bool.rec (motive := fun _ => Option AObj) (r.getF (m / 2)) (l.getF (m / 2)) (Nat.beq (m % 2) 0) : Option AObj) = _
        have h3 : m % 2 = 1 := by omega
        rw [h3]; rfl

/-- a new path -/
def newF (x : Option AObj) (f : Nat) : Nat → (PT → γ) → γ :=
  Nat.rec (motive := fun _ => Nat → (PT → γ) → γ) (fun _ k => k .leaf)
    (fun _ ih n k => Nat.rec (motive := fun _ => γ) (k (.node .leaf x .leaf))
      (fun m _ => Bool.rec (motive := fun _ => γ) (ih (m / 2) (fun t => k (.node .leaf none t))) (ih (m / 2) (fun t => k (.node t none .leaf))) (Nat.beq (m % 2) 0)) n) f

theorem newF_eq (x : Option AObj) (f : Nat) : ∀ (n : Nat) (k : PT → γ), newF x f n k = k (PT.put f n x .leaf) := by
  induction f with
  | zero => intro n k; rfl
  | succ f ih =>
    intro n k
    cases n with
    | zero => exact Eq.trans (b := k (.node .leaf x .leaf)) rfl (by simp [PT.put])
    | succ m =>
      simp only [PT.put, Nat.add_one_ne_zero, if_false]
      by_cases h : m % 2 = 0
      · have h1 : (m + 1) % 2 = 1 := by omega
        have h2 : (m + 1) / 2 = m / 2 := by omega
        rw [if_pos h1, h2, ← ih _ (fun t => k (.node t none .leaf))]
        show (Bool.rec (motive := fun _ => γ) (newF x f (m / 2) (fun t => k (.node .leaf none t))) (newF x f (m / 2) (fun t => k (.node t none .leaf))) (Nat.beq (m % 2) 0) : γ) = _
        rw [h]; rfl
      · have h1 : ¬ (m + 1) % 2 = 1 := by omega
        have h2 : (m + 1) / 2 - 1 = m / 2 := by omega
        rw [if_neg h1, h2, ← ih _ (fun t => k (.node .leaf none t))]
        show (Bool.rec (motive := fun _ => γ) (newF x f (m / 2) (fun t => k (.node .leaf none t))) (newF x f (m / 2) (fun t => k (.node t none .leaf))) (Nat.beq (m % 2) 0) : γ) = _
        have h3 : m % 2 = 1 := by omega
        rw [h3]; rfl

def PT.setG (x : Option AObj) (f : Nat) : Nat → PT → (PT → γ) → γ :=
  Nat.rec (motive := fun _ => Nat → PT → (PT → γ) → γ) (fun _ t k => k t)
    (fun f ih n t k => PT.rec (motive := fun _ => γ) (newF x (f + 1) n k)
      (fun l v r _ _ => Nat.rec (motive := fun _ => γ) (k (.node l x r))
        (fun m _ => Bool.rec (motive := fun _ => γ) (ih (m / 2) r (fun t => k (.node l v t))) (ih (m / 2) l (fun t => k (.node t v r))) (Nat.beq (m % 2) 0)) n) t) f

theorem PT.setG_eq (x : Option AObj) (f : Nat) : ∀ (n : Nat) (t : PT) (k : PT → γ), PT.setG x f n t k = k (PT.put f n x t) := by
  induction f with
  | zero => intro n t k; rfl
  | succ f ih =>
    intro n t k
    cases t with
    | leaf => exact newF_eq x (f + 1) n k
    | node l v r =>
      cases n with
      | zero => exact Eq.trans (b := k (.node l x r)) rfl (by simp [PT.put])
      | succ m =>
        simp only [PT.put, Nat.add_one_ne_zero, if_false]
        by_cases h : m % 2 = 0
        · have h1 : (m + 1) % 2 = 1 := by omega
          have h2 : (m + 1) / 2 = m / 2 := by omega
          rw [if_pos h1, h2, ← ih _ _ (fun t => k (.node t v r))]
          show (Bool.rec (motive := fun _ => γ) (PT.setG x f (m / 2) r (fun t => k (.node l v t))) (PT.setG x f (m / 2) l (fun t => k (.node t v r))) (Nat.beq (m % 2) 0) : γ) = _
          rw [h]; rfl
        · have h1 : ¬ (m + 1) % 2 = 1 := by omega
          have h2 : (m + 1) / 2 - 1 = m / 2 := by omega
          rw [if_neg h1, h2, ← ih _ _ (fun t => k (.node l v t))]
          show (Bool.rec (motive := fun _ => γ) (PT.setG x f (m / 2) r (fun t => k (.node l v t))) (PT.setG x f (m / 2) l (fun t => k (.node t v r))) (Nat.beq (m % 2) 0) : γ) = _
          have h3 : m % 2 = 1 := by omega
          rw [h3]; rfl

def hset (σ : St) (n : Nat) (x : Option AObj) (k : PT → γ) : γ := PT.setG x (n + 1) n σ.heap k
theorem hset_eq (σ : St) (n : Nat) (x : Option AObj) (k : PT → γ) : hset σ n x k = k (σ.heap.set n x) := PT.setG_eq x (n + 1) n σ.heap k

def setS (σ : St) (n : Nat) (o : AObj) (k : St → γ) : γ := hset σ n (some o) fun h => k { σ with heap := h }
def delS (σ : St) (n : Nat) (k : St → γ) : γ := hset σ n none fun h => k { σ with heap := h }
/-- a new name; its number is reckoned at once -/
def newS (σ : St) (o : AObj) (k : St → γ) : γ := hset σ σ.next (some o) fun h => Nat.rec (motive := fun _ => γ) (k { σ with heap := h, next := 1 }) (fun m _ => k { σ with heap := h, next := m + 2 }) σ.next
theorem setS_eq (σ : St) (n : Nat) (o : AObj) (k : St → γ) : setS σ n o k = k (σ.set n o) := by simp only [setS, hset_eq, St.set]
theorem delS_eq (σ : St) (n : Nat) (k : St → γ) : delS σ n k = k (σ.del n) := by simp only [delS, hset_eq, St.del]
theorem newS_eq (σ : St) (o : AObj) (k : St → γ) : newS σ o k = k (σ.new o) := by
  simp only [newS, hset_eq, St.new]
  cases σ.next <;> rfl

def cellsF (σ : St) (n : Nat) (k : Nat → List AVal → Option α) : Option α :=
  match σ.heap.getF n with
  | some (.cells g cs) => k g cs
  | _ => none
theorem cellsF_eq : @cellsF α = @cellsK α := by funext σ n k; simp only [cellsF, cellsK, PT.getF_eq, St.get]; rfl

def ldF (σ : St) (isAgg : Bool) (size : Nat) (p : AVal) (k : AVal → Option α) : Option α :=
  match p with
  | .ptr (some (n, o)) => cellsF σ n fun _ cs => partF isAgg cs o size k
  | _ => none

def stF (σ : St) (size : Nat) (p v : AVal) (k : St → Option α) : Option α :=
  match p with
  | .ptr (some (n, o)) => match σ.lock n with
    | true => none
    | false => cellsF σ n fun g cs => putFF cs o size v fun cs' => setS σ n (.cells g cs') k
  | _ => none

def fillF (place : Nat → Option (Nat × Nat)) : List (Nat × AVal) → List AVal → (List AVal → Option α) → Option α
  | [], cs, k => k cs
  | (i, v) :: r, cs, k => match place i with
    | some (off, size) => putFF cs off size v fun cs' => fillF place r cs' k
    | none => none

theorem iteAnd {p q : Prop} [Decidable p] [Decidable q] (a b : γ) : (if p ∧ q then a else b) = if p then if q then a else b else b := by
  by_cases hp : p <;> by_cases hq : q <;> simp [hp, hq]
theorem matchB (b : Bool) (x y : γ) : (match b with | true => x | false => y) = if b = true then x else y := by cases b <;> rfl

theorem ldF_eq : @ldF α = @ldK α := by funext σ g size p k; simp only [ldF, ldK, cellsF_eq, partF_eq]; rfl
theorem stF_eq : @stF α = @stK α := by funext σ size p v k; simp only [stF, stK, cellsF_eq, putFF_eq, setS_eq]; rfl
theorem fillF_eq (place : Nat → Option (Nat × Nat)) : ∀ (l : List (Nat × AVal)) (cs : List AVal) (k : List AVal → Option α), fillF place l cs k = fillK place l cs k := by
  intro l
  induction l with
  | nil => intro cs k; rfl
  | cons p l ih => intro cs k; obtain ⟨i, v⟩ := p; simp only [fillF, fillK, putFF_eq, ih]; rfl

def allocF (σ : St) (o : AObj) (k : AVal → St → Option α) : Option α := newS σ o fun σ' => frcN σ.next fun n => k (.ptr (some (n, 0))) σ'
theorem allocF_eq : @allocF α = @allocK α := by funext σ o k; simp only [allocF, allocK, newS_eq, frcN_eq]

def mapSetF (P : Program) (σ : St) (t : TypeId) (m key v : AVal) (k : St → Option α) : Option α :=
  match P.underlying t, m with
  | some (.map kt _), .map (some r) => match σ.lock r, σ.heap.getF r, keyT P kt key with
    | false, some (.map es), true => match setE key v es with
      | some es' => setS σ r (.map es') k
      | none => none
    | _, _, _ => none
  | _, _ => none
theorem mapSetF_eq : @mapSetF α = @mapSetK α := by funext P σ t m key v k; simp only [mapSetF, mapSetK, PT.getF_eq, setS_eq, St.get]; rfl

def newsF (σ : St) (size : Nat) (x : AVal) (k : Nat → List AVal → Option α) : Option α :=
  match x with
  | .slice none _ => k 0 []
  | .slice (some (n, o)) len => cellsF σ n fun _ cs => subF cs (len * size) o fun l => k len l
  | _ => none
theorem newsF_eq : @newsF α = @newsK α := by funext σ size x k; simp only [newsF, newsK, cellsF_eq, subF_eq]; rfl

/-- two lists, one behind the other -/
def appF (l m : List β) : (List β → γ) → γ := List.rec (motive := fun _ => (List β → γ) → γ) (fun k => k m) (fun a _ ih k => ih fun r => k (a :: r)) l
theorem appF_eq (l m : List β) : ∀ k : List β → γ, appF l m k = k (l ++ m) := by
  induction l with
  | nil => intro k; rfl
  | cons a l ih => intro k; exact ih _

def appendF (P : Program) (σ : St) (t : TypeId) (s x : AVal) (k : AVal → St → Option α) : Option α :=
  match P.underlying t, s with
  | some (.slice e), .slice a len => match sizeT P e, bytesT P e, zeroT P e with
    | some size, some bytes, some z => newsF σ size x fun m news =>
      if m = 0 then k s σ else
      if (len + m) * bytes ≤ 140737488355328 ∧ len + m ≤ 9223372036854775807 ∧ 0 < size ∧ z.length = size ∧ news.all AVal.isCell then
        match a with
        | none => newS σ (.cells size news) fun σ' => frcN σ.next fun nx => k (.slice (some (nx, 0)) m) σ'
        | some (n, o) => match σ.lock n with
          | true => none
          | false => cellsF σ n fun w cs => if w = size then subF cs (len * size) o fun old => appF old news fun cs' => delS σ n fun σ1 => newS σ1 (.cells size cs') fun σ' =>
                frcN (len + m) fun len' => frcN σ.next fun nx => k (.slice (some (nx, 0)) len') σ'
              else none
      else none
    | _, _, _ => none
  | _, _ => none
theorem appendF_eq : @appendF α = @appendK α := by
  funext P σ t s x k
  simp only [appendF, appendK, newsF_eq, newS_eq, delS_eq, cellsF_eq, subF_eq, appF_eq, frcN_eq, iteAnd]
  rfl

def makeSliceF (P : Program) (σ : St) (t : TypeId) (l c : AVal) (k : AVal → St → Option α) : Option α :=
  match P.underlying t, l, c with
  | some (.slice e), .int .i64 n, .int .i64 m => match zeroT P e, sizeT P e, bytesT P e with
    | some z, some size, some bytes =>
      if n = m ∧ 0 ≤ n ∧ n.toNat * bytes ≤ 140737488355328 ∧ n ≤ 9223372036854775807 ∧ z.length = size ∧ 0 < size then
        newS σ (.cells size (List.replicate n.toNat z).flatten) fun σ' => frcN n.toNat fun n' => frcN σ.next fun nx => k (.slice (some (nx, 0)) n') σ'
      else none
    | _, _, _ => none
  | _, _, _ => none
theorem makeSliceF_eq : @makeSliceF α = @makeSliceK α := by funext P σ t l c k; simp only [makeSliceF, makeSliceK, newS_eq, frcN_eq]; rfl

def clearF (P : Program) (σ : St) (t : TypeId) (x : AVal) (k : St → Option α) : Option α :=
  match P.underlying t, x with
  | some (.slice _), .slice none _ => k σ
  | some (.slice e), .slice (some (n, o)) len => match zeroT P e, sizeT P e with
    | some z, some size => if len = 0 then k σ else if z.length = size ∧ 0 < size then
        match σ.lock n with
        | true => none
        | false => cellsF σ n fun g cs => if o + len * size ≤ cs.length then setS σ n (.cells g (writeL cs o (List.replicate len z).flatten)) k else none
      else none
    | _, _ => none
  | _, _ => none
theorem clearF_eq : @clearF α = @clearK α := by funext P σ t x k; simp only [clearF, clearK, cellsF_eq, setS_eq]; rfl

def lookupF (P : Program) (σ : St) (t : TypeId) (m key : AVal) (ok : Bool) (k : AVal → Option α) : Option α :=
  match P.underlying t, m with
  | some (.map kt et), .map (some r) => match σ.heap.getF r, keyT P kt key with
    | some (.map es), true => match findE key es with
      | some (some v) => k (if ok then .tuple [v, .bool true] else v)
      | some none => match zeroV P et with
        | some z => k (if ok then .tuple [z, .bool false] else z)
        | none => none
      | none => none
    | _, _ => none
  | _, _ => none
theorem lookupF_eq : @lookupF α = @lookupK α := by funext P σ t m key ok k; simp only [lookupF, lookupK, PT.getF_eq, St.get]; rfl

def binF (P : Program) (op : BinOp) (t : TypeId) (cst : Bool) (v w : AVal) (k : AVal → Option α) : Option α :=
  binK P op t cst v w fun r => frc r k
theorem binF_eq : @binF α = @binK α := by funext P op t cst v w k; simp only [binF, frc_eq]
def unF (op : UnOp) (v : AVal) (k : AVal → Option α) : Option α := unK op v fun r => frc r k
theorem unF_eq : @unF α = @unK α := by funext op v k; simp only [unF, frc_eq]
def convF (P : Program) (s d : TypeId) (v : AVal) (k : AVal → Option α) : Option α := convK P s d v fun r => frc r k
theorem convF_eq : @convF α = @convK α := by funext P s d v k; simp only [convF, frc_eq]
def lenFF (P : Program) (t : TypeId) (x : AVal) (k : AVal → Option α) : Option α := lenK P t x fun r => frc r k
theorem lenFF_eq : @lenFF α = @lenK α := by funext P t x k; simp only [lenFF, frc_eq]

def idxAddrF (P : Program) (t : TypeId) (x ix : AVal) (k : AVal → Option α) : Option α :=
  idxAddrK P t x ix fun v => match v with
    | .ptr (some (n, o)) => frcN o fun o => k (.ptr (some (n, o)))
    | v => k v
theorem idxAddrF_eq : @idxAddrF α = @idxAddrK α := by
  funext P t x ix k
  have e : (fun v : AVal => match v with | .ptr (some (n, o)) => frcN o fun o => k (.ptr (some (n, o))) | v => k v) = k := by
    funext v
    split
    · simp only [frcN_eq]
    · rfl
  simp only [idxAddrF]
  rw [e]
def addF (p : AVal) (off : Nat) (k : AVal → Option α) : Option α :=
  match p with
  | .ptr (some (n, o)) => frcN (o + off) fun o => k (.ptr (some (n, o)))
  | _ => none
theorem addF_eq : @addF α = @addK α := by funext p off k; simp only [addF, addK, frcN_eq]; rfl

/-! ### frames -/

def Fr.evF (fr : Fr) : Operand → Option Slot
  | .tmp t => match nthF fr.slots t with
    | some (.box _) => some (.ref t 0)
    | s => s
  | o => fr.ev o
theorem evF_eq : Fr.evF = Fr.ev := by
  funext fr o
  cases o <;> simp only [Fr.evF, Fr.ev, nthF_eq] <;> rfl

def Fr.evsF (fr : Fr) : List Operand → Option (List AVal)
  | [] => some []
  | x :: r => match fr.evF x, Fr.evsF fr r with
    | some (.val v), some l => some (v :: l)
    | _, _ => none
theorem evsF_eq (fr : Fr) : ∀ l, fr.evsF l = fr.evs l := by
  intro l
  induction l with
  | nil => rfl
  | cons x l ih => simp only [Fr.evsF, Fr.evs, evF_eq, ih]; rfl

def Fr.evOptF (fr : Fr) : Option Operand → Option (Option AVal)
  | none => some none
  | some x => match fr.evF x with
    | some (.val v) => some (some v)
    | _ => none
theorem evOptF_eq : Fr.evOptF = Fr.evOpt := by funext fr o; cases o <;> simp only [Fr.evOptF, Fr.evOpt, evF_eq] <;> rfl

def Fr.evPartsF (fr : Fr) : List (Nat × Operand) → Option (List (Nat × AVal))
  | [] => some []
  | (i, x) :: r => match fr.evF x, Fr.evPartsF fr r with
    | some (.val v), some l => some ((i, v) :: l)
    | _, _ => none
theorem evPartsF_eq (fr : Fr) : ∀ l, fr.evPartsF l = fr.evParts l := by
  intro l
  induction l with
  | nil => rfl
  | cons x l ih => obtain ⟨i, x⟩ := x; simp only [Fr.evPartsF, Fr.evParts, evF_eq, ih]; rfl

def Fr.boxF (fr : Fr) (t : Nat) : Option (List AVal) :=
  match nthF fr.slots t with
  | some (.box cs) => some cs
  | _ => none
theorem boxF_eq : Fr.boxF = Fr.boxAt := by funext fr t; simp only [Fr.boxF, Fr.boxAt, nthF_eq]; rfl

def putS (fr : Fr) (dst : Option Tmp) (s : Slot) (k : Fr → γ) : γ :=
  match dst with
  | some d => setF fr.slots s d fun l => k { fr with slots := l }
  | none => k fr
theorem putS_eq (fr : Fr) (dst : Option Tmp) (s : Slot) (k : Fr → γ) : putS fr dst s k = k (fr.put dst s) := by
  cases dst <;> simp only [putS, Fr.put, setF_eq]

def inv1 (d : Nat) (s : Slot) : Slot :=
  match s with
  | .ref t o => if t = d then .dead else .ref t o
  | s => s
theorem inval_map (d : Nat) : ∀ l : List Slot, l.map (inv1 d) = inval d l := by
  intro l
  induction l with
  | nil => rfl
  | cons s l ih => cases s <;> simp only [List.map_cons, inval, ih] <;> rfl

def newBoxS (fr : Fr) (d : Nat) (cs : List AVal) (k : Fr → γ) : γ := setF (fr.slots.map (inv1 d)) (.box cs) d fun l => k { fr with slots := l }
theorem newBoxS_eq (fr : Fr) (d : Nat) (cs : List AVal) (k : Fr → γ) : newBoxS fr d cs k = k (fr.newBox d cs) := by simp only [newBoxS, Fr.newBox, inval_map, setF_eq]
def boxS (fr : Fr) (d : Nat) (cs : List AVal) (k : Fr → γ) : γ := setF fr.slots (.box cs) d fun l => k { fr with slots := l }
theorem boxS_eq (fr : Fr) (d : Nat) (cs : List AVal) (k : Fr → γ) : boxS fr d cs k = k { fr with slots := fr.slots.set d (.box cs) } := by simp only [boxS, setF_eq]
def opF (P : Program) (callF : CallF α) (o : Oper) (fr : Fr) (σ : St) (k : Fr → St → Option α) (kp : AVal → Fr → St → Option α) : Option α :=
  match o.op with
  | .move x | .assign x => match fr.evF x with
    | some s => (putS fr o.dst s fun fr => k fr σ)
    | none => none
  | .pick c a b => valK (fr.evF c) fun c => match c with
    | .bool true => valK (fr.evF a) fun v => (putS fr o.dst (.val v) fun fr => k fr σ)
    | .bool false => valK (fr.evF b) fun v => (putS fr o.dst (.val v) fun fr => k fr σ)
    | _ => none
  | .alloc t => match o.dst, zeroT P t with
    | some d, some z => match fr.esc.testBit d with
      | true => allocF σ (.cells 0 z) fun v σ => (putS fr o.dst (.val v) fun fr => k fr σ)
      | false => newBoxS fr d z fun fr => k fr σ
    | _, _ => none
  | .box _ x => valK (fr.evF x) fun v => match v.isData, o.dst with
    | true, some d => match fr.esc.testBit d with
      | true => allocF σ (.cells 0 v.cells) fun v σ => (putS fr o.dst (.val v) fun fr => k fr σ)
      | false => newBoxS fr d v.cells fun fr => k fr σ
    | _, _ => none
  | .build t parts => match zeroT P t, placeT P t, fr.evPartsF parts.toList with
    | some z, some pl, some ps => fillF pl ps z fun cs => (putS fr o.dst (.val (.agg cs)) fun fr => k fr σ)
    | _, _, _ => none
  | .buildSlice t len parts => match P.underlying t, fr.evPartsF parts.toList with
    | some (.slice e), some ps => match zeroT P e, sizeT P e with
      | some z, some size => if z.length = size ∧ 0 < size ∧ len * size ≤ 16777216 then
          fillF (fun i => some (i * size, size)) ps (List.replicate len z).flatten fun cs =>
            newS σ (.cells size cs) fun σ' => frcN σ.next fun nx => putS fr o.dst (.val (.slice (some (nx, 0)) len)) fun fr => k fr σ'
        else none
      | _, _ => none
    | _, _ => none
  | .load t a => match aggT P t, sizeT P t, fr.evF a with
    | some g, some size, some (.ref s off) => match fr.boxF s with
      | some cs => partF g cs off size fun v => (putS fr o.dst (.val v) fun fr => k fr σ)
      | none => none
    | some g, some size, some (.val p) => ldF σ g size p fun v => (putS fr o.dst (.val v) fun fr => k fr σ)
    | _, _, _ => none
  | .store t a x => match sizeT P t, fr.evF a with
    | some size, some (.ref s off) => valK (fr.evF x) fun v => match fr.boxF s with
      | some cs => putFF cs off size v fun cs' => boxS fr s cs' fun fr => putS fr o.dst Slot.undef fun fr => k fr σ
      | none => none
    | some size, some (.val p) => valK (fr.evF x) fun v => stF σ size p v fun σ => (putS fr o.dst Slot.undef fun fr => k fr σ)
    | _, _ => none
  | .nilCheck x => match fr.evF x with
    | some (.ref s off) => (putS fr o.dst (.ref s off) fun fr => k fr σ)
    | some (.val v) => ncK v fun _ => (putS fr o.dst (.val v) fun fr => k fr σ)
    | _ => none
  | .binOp op t x y _ => valK (fr.evF x) fun v => valK (fr.evF y) fun w => binF P op t (isConstO x || isConstO y) v w fun r => (putS fr o.dst (.val r) fun fr => k fr σ)
  | .unOp op _ x => valK (fr.evF x) fun v => unF op v fun r => (putS fr o.dst (.val r) fun fr => k fr σ)
  | .convert s d x => valK (fr.evF x) fun v => convF P s d v fun r => (putS fr o.dst (.val r) fun fr => k fr σ)
  | .makeInterface t x => match P.underlying t with
    | some (.interface _) | none => none
    | some _ => valK (fr.evF x) fun v => (putS fr o.dst (.val (.iface t v)) fun fr => k fr σ)
  | .makeFunc fn first captured => match fr.evsF first.toList, fr.evsF captured.toList with
    | some a, some b => (putS fr o.dst (.val (.func fn a b)) fun fr => k fr σ)
    | _, _ => none
  | .makeMap t none => match P.underlying t with
    | some (.map _ _) => allocF σ (.map []) fun v σ => match v with
      | .ptr (some (n, _)) => (putS fr o.dst (.val (.map (some n))) fun fr => k fr σ)
      | _ => none
    | _ => none
  | .makeSlice t l c => valK (fr.evF l) fun l => valK (fr.evF c) fun c => makeSliceF P σ t l c fun v σ => (putS fr o.dst (.val v) fun fr => k fr σ)
  | .slice t x lo hi none => valK (fr.evF x) fun x => match fr.evOptF lo, fr.evOptF hi with
    | some lo, some hi => sliceK P σ t x lo hi fun v => (putS fr o.dst (.val v) fun fr => k fr σ)
    | _, _ => none
  | .fieldAddr t x i => match fieldOff P t i with
    | some (off, _, size) => if size = 0 then none else match fr.evF x with
      | some (.ref s o0) => (putS fr o.dst (.ref s (o0 + off)) fun fr => k fr σ)
      | some (.val p) => addF p off fun v => (putS fr o.dst (.val v) fun fr => k fr σ)
      | _ => none
    | none => none
  | .field t x i => match fieldOff P t i with
    | some (off, ft, size) => match aggT P ft with
      | some g => valK (fr.evF x) fun v => match v with
        | .agg cs => partF g cs off size fun v => (putS fr o.dst (.val v) fun fr => k fr σ)
        | _ => none
      | none => none
    | none => none
  | .indexAddr t x ix => valK (fr.evF ix) fun i => match fr.evF x with
    | some (.ref s off) => match P.underlying t, i with
      | some (.array len e), .int _ i => match sizeT P e with
        | some size => if 0 ≤ i ∧ i < len then (putS fr o.dst (.ref s (off + i.toNat * size)) fun fr => k fr σ) else none
        | none => none
      | _, _ => none
    | some (.val x) => idxAddrF P t x i fun v => (putS fr o.dst (.val v) fun fr => k fr σ)
    | _ => none
  | .index t x ix => valK (fr.evF x) fun x => valK (fr.evF ix) fun i => idxK P t x i fun v => (putS fr o.dst (.val v) fun fr => k fr σ)
  | .lookup t m key ok => valK (fr.evF m) fun m => valK (fr.evF key) fun key => lookupF P σ t m key ok fun v => (putS fr o.dst (.val v) fun fr => k fr σ)
  | .mapUpdate t m key x | .insert t m key x => valK (fr.evF m) fun m => valK (fr.evF key) fun key => valK (fr.evF x) fun v => mapSetF P σ t m key v fun σ => (putS fr o.dst Slot.undef fun fr => k fr σ)
  | .typeAssert x _ t ok => valK (fr.evF x) fun v => assertK P v t ok fun v => (putS fr o.dst (.val v) fun fr => k fr σ)
  | .extract x i => valK (fr.evF x) fun v => extractK v i fun v => (putS fr o.dst (.val v) fun fr => k fr σ)
  | .call c => match c.callee, fr.evsF c.args.toList with
    | .value f, some args => valK (fr.evF f) fun f => callV callF f args σ (fun v σ => (putS fr o.dst (.val v) fun fr => k fr σ)) (fun v σ => kp v fr σ)
    | .invoke r name, some args => valK (fr.evF r) fun r => match r with
      | .iface t v => match methodOf P 5 t v name with
        | some (f, recv) => callF f (recv :: args) σ (fun v σ => (putS fr o.dst (.val v) fun fr => k fr σ)) (fun v σ => kp v fr σ)
        | none => none
      | _ => none
    | .builtin b, some args => match b, args with
      | .len, [x] => match c.argTypes[0]? with
        | some t => lenFF P t x fun v => (putS fr o.dst (.val v) fun fr => k fr σ)
        | none => none
      | .append, [s, x] => match c.argTypes[0]?, c.argTypes[1]? with
        | some t, some t' => match P.underlying t' with
          | some (.slice _) => appendF P σ t s x fun v σ => (putS fr o.dst (.val v) fun fr => k fr σ)
          | _ => none
        | _, _ => none
      | .min, l => minmaxK false l fun v => (putS fr o.dst (.val v) fun fr => k fr σ)
      | .max, l => minmaxK true l fun v => (putS fr o.dst (.val v) fun fr => k fr σ)
      | .clear, [x] => match c.argTypes[0]? with
        | some t => clearF P σ t x fun σ => (putS fr o.dst (.val .undef) fun fr => k fr σ)
        | none => none
      | .recover, [] => match fr.rc with
        | .can v => putS { fr with rc := .done } o.dst (.val v) fun fr => k fr σ
        | .cannot | .done => (putS fr o.dst (.val .nilIface) fun fr => k fr σ)
        | .no => none
      | _, _ => none
    | _, none => none
  | .defer c => match c.callee, fr.evsF c.args.toList with
    | .value f, some args => valK (fr.evF f) fun f => match f with
      | .func (.func f) first captured => putS { fr with defers := (f, first ++ args ++ captured) :: fr.defers } o.dst Slot.undef fun fr => k fr σ
      | _ => none
    | _, _ => none
  | .panic x => valK (fr.evF x) fun v => match v with
    | .iface _ _ => kp v fr σ
    | _ => none
  | _ => none

theorem opF_eq : @opF α = @opK α := by
  funext P callF o fr σ k kp
  unfold opF opK
  simp only [putS_eq, newBoxS_eq, boxS_eq, evF_eq, evsF_eq, evPartsF_eq, evOptF_eq, boxF_eq, partF_eq, putFF_eq, ldF_eq, stF_eq, fillF_eq, mapSetF_eq, appendF_eq, makeSliceF_eq, clearF_eq, lookupF_eq, binF_eq, unF_eq, convF_eq,
    lenFF_eq, idxAddrF_eq, addF_eq, allocF_eq, newS_eq, frcN_eq]
  rfl

/-! ### guards, regions, code -/

def guardF (ops : Array Oper) (o : Oper) (fr : Fr) (yes no : Fr → Option α) : Option α :=
  match o.guard with
  | none => yes fr
  | some (j, want) => match (ops[j]?).bind (·.dst) with
    | none => none
    | some t => match nthF fr.slots t with
      | some (.val (.bool true)) => setF fr.slots (.val (.bool true)) t fun l => match want with
        | true => yes { fr with slots := l }
        | false => no { fr with slots := l }
      | some (.val (.bool false)) => setF fr.slots (.val (.bool false)) t fun l => match want with
        | true => no { fr with slots := l }
        | false => yes { fr with slots := l }
      | some (.val (.tuple [])) => setF fr.slots (.val (.tuple [])) t fun l => no { fr with slots := l }
      | _ => none
theorem guardF_eq : @guardF α = @guardK α := by
  funext ops o fr yes no
  simp only [guardF, guardK, nthF_eq, setF_eq]
  cases o.guard with
  | none => rfl
  | some g =>
    obtain ⟨j, want⟩ := g
    simp only
    cases (ops[j]?).bind (·.dst) with
    | none => rfl
    | some t =>
      simp only
      have hset : fr.slots[t]? = some (.val (.tuple [])) → fr.slots.set t (.val (.tuple [])) = fr.slots := by
        intro h
        apply List.ext_getElem?
        intro i
        rw [List.getElem?_set]
        split
        · rename_i e; subst e
          have := (List.getElem?_eq_some_iff.1 h).1
          rw [if_pos this, h]
        · rfl
      cases hs : fr.slots[t]? with
      | none => rfl
      | some x =>
        cases x with
        | val v =>
          cases v with
          | tuple l =>
            cases l with
            | nil => exact congrArg no (by rw [hset hs])
            | cons => rfl
          | bool b => cases b <;> rfl
          | _ => rfl
        | _ => rfl

def opsF (P : Program) (callF : CallF α) (ops : Array Oper) : List Nat → Fr → St → (Fr → St → Option α) → (AVal → Fr → St → Option α) → Option α
  | [], fr, σ, k, _ => k fr σ
  | i :: is, fr, σ, k, kp => match ops[i]? with
    | none => none
    | some o => guardF ops o fr
        (fun fr => opF P callF o fr σ (fun fr σ => opsF P callF ops is fr σ k kp) kp)
        (fun fr => putS fr o.dst Slot.undef fun fr => opsF P callF ops is fr σ k kp)
theorem opsF_eq (P : Program) (callF : CallF α) (ops : Array Oper) : ∀ is fr σ k kp, opsF P callF ops is fr σ k kp = opsK P callF ops is fr σ k kp := by
  intro is
  induction is with
  | nil => intro fr σ k kp; rfl
  | cons i is ih =>
    intro fr σ k kp
    simp only [opsF, opsK, guardF_eq, opF_eq, putS_eq, ih]
    rfl

def accF (fr : Fr) (o : Oper) : Option Acc :=
  match o.op with
  | .load _ a => match fr.evF a with
    | some (.ref s _) => some (.rdL s)
    | some (.val v) => some (.rdN v)
    | _ => some .rdG
  | .store _ a _ => match fr.evF a with
    | some (.ref s _) => some (.wrL s)
    | some (.val v) => some (.wrN v)
    | _ => some .wrG
  | _ => accOf fr o
theorem accF_eq : accF = accOf := by
  funext fr o
  unfold accF accOf
  simp only [evF_eq]
  cases o.op <;> rfl

/-- what has gone before and is not bound to -/
def logF (bef : Array Nat) (i : Nat) (a : Acc) (log : List (Nat × Acc)) : Bool :=
  match a with
  | .none => true
  | a => log.all (fun (j, b) => !free bef i j || compat a b)
theorem logF_eq (bef : Array Nat) (i : Nat) (a : Acc) (log : List (Nat × Acc)) : logF bef i a log = log.all (fun (j, b) => !free bef i j || compat a b) := by
  unfold logF
  split
  · symm
    rw [List.all_eq_true]
    intro p _
    obtain ⟨j, b⟩ := p
    cases b <;> simp [compat, isG]
  · rfl

def oldF (ops : Array Oper) (bef : Array Nat) (fr : Fr) (o : Oper) (i : Nat) (a : Acc) : Bool :=
  match o.dst with
  | none => true
  | some d => match nthF fr.slots d with
    | some (.ref t _) => (List.range ops.size).all fun j => !free bef i j || (ops.getD j default).dst != some t
    | some (.box _) => a.isW d
    | _ => true
theorem oldF_eq : oldF = oldOk := by
  funext ops bef fr o i a
  simp only [oldF, oldOk, nthF_eq]
  rfl

/-- what does not hang on the run -/
def apartF (ops : Array Oper) (bef : Array Nat) (o : Oper) (i : Nat) : Bool := (List.range i).all (fun j => !free bef i j || o.apart ops (ops.getD j default))

def drawF (P : Program) (callF : CallF α) (ops : Array Oper) (bef : Array Nat) : List Nat → List (Nat × Acc) → Fr → St → (Fr → St → Option α) → Option α
  | [], _, fr, σ, k => k fr σ
  | i :: is, log, fr, σ, k => match ops[i]? with
    | none => none
    | some o => guardF ops o fr
        (fun fr => match accF fr o, freshOk fr o with
          | some a, true =>
            match oldF ops bef fr o i a && logF bef i a log && apartF ops bef o i with
            | true => opF P (lockCall ((List.range ops.size).any fun j => free bef i j && isLoad (ops.getD j default)) callF) o fr σ
                (fun fr σ => drawF P callF ops bef is ((i, a) :: log) fr σ k) (fun _ _ _ => none)
            | false => none
          | _, _ => none)
        (fun fr => match oldF ops bef fr o i .none && apartF ops bef o i with
          | true => putS fr o.dst Slot.undef fun fr => drawF P callF ops bef is ((i, .none) :: log) fr σ k
          | false => none)
theorem drawF_eq (P : Program) (callF : CallF α) (ops : Array Oper) (bef : Array Nat) : ∀ is log fr σ k, drawF P callF ops bef is log fr σ k = drawK P callF ops bef is log fr σ k := by
  intro is
  induction is with
  | nil => intro log fr σ k; rfl
  | cons i is ih =>
    intro log fr σ k
    simp only [drawF, drawK, guardF_eq, opF_eq, putS_eq, ih, accF_eq, oldF_eq, logF_eq, apartF]
    cases ops[i]? with
    | none => rfl
    | some o =>
      simp only
      congr 1
      · funext fr
        cases accOf fr o with
        | none => rfl
        | some a => cases freshOk fr o with
          | false => rfl
          | true => exact matchB _ _ _
      · funext fr
        exact matchB _ _ _

def execF (P : Program) (callF : CallF α) : Code → Fr → St → (Ex → Fr → St → Option α) → Option α
  | .skip, fr, σ, k => k .normal fr σ
  | .label _, fr, σ, k => k .normal fr σ
  | .region _ ops draw, fr, σ, k => match draw with
    | false => opsF P callF ops (List.range ops.size) fr σ (fun fr σ => k .normal fr σ) (fun v fr σ => k (.panic v) fr σ)
    | true => match edgesOk ops with
      | true => drawF P callF ops (Region.before ops) (List.range ops.size) [] fr σ (fun fr σ => k .normal fr σ)
      | false => none
  | .seq a b, fr, σ, k => execF P callF a fr σ fun e fr σ => match e with
    | .normal => execF P callF b fr σ k
    | e => k e fr σ
  | .cond c a b, fr, σ, k => valK (fr.evF c) fun v => condK v (fun _ => execF P callF a fr σ k) (fun _ => execF P callF b fr σ k)
  | .block id c, fr, σ, k => execF P callF c fr σ fun e fr σ => match e with
    | .exit j => if j = id then k .normal fr σ else k (.exit j) fr σ
    | e => k e fr σ
  | .scope c, fr, σ, k => execF P callF c fr σ k
  | .loop c, fr, σ, k => loopK (execF P callF c) lim fr σ k
  | .exit id, fr, σ, k => k (.exit id) fr σ
  | .ret, fr, σ, k => k .ret fr σ
  | _, _, _, _ => none
theorem execF_eq (P : Program) (callF : CallF α) : ∀ c, execF P callF c = execK P callF c := by
  intro c
  induction c with
  | region i ops draw =>
    funext fr σ k
    simp only [execF, execK, opsF_eq, drawF_eq]
    rfl
  | seq a b iha ihb => funext fr σ k; simp only [execF, execK, iha, ihb]; rfl
  | cond c a b iha ihb => funext fr σ k; simp only [execF, execK, iha, ihb, evF_eq]
  | block id c ih => funext fr σ k; simp only [execF, execK, ih]; rfl
  | scope c ih => funext fr σ k; simp only [execF, execK, ih]
  | loop c ih => funext fr σ k; simp only [execF, execK, ih]
  | _ => rfl

def resultsF (P : Program) (fr : Fr) (σ : St) : List ResultVar → (List AVal → Option α) → Option α
  | [], k => k []
  | .tmp t :: r, k => valK (fr.evF (.tmp t)) fun v => resultsF P fr σ r fun vs => k (v :: vs)
  | .cell a t :: r, k => match aggT P t, sizeT P t, fr.evF (.tmp a) with
    | some g, some size, some (.ref s off) => match fr.boxF s with
      | some cs => partF g cs off size fun v => resultsF P fr σ r fun vs => k (v :: vs)
      | none => none
    | some g, some size, some (.val p) => ldF σ g size p fun v => resultsF P fr σ r fun vs => k (v :: vs)
    | _, _, _ => none
theorem resultsF_eq (P : Program) (fr : Fr) (σ : St) : ∀ (l : List ResultVar) (k : List AVal → Option α), resultsF P fr σ l k = resultsK P fr σ l k := by
  intro l
  induction l with
  | nil => intro k; rfl
  | cons x l ih => intro k; cases x <;> simp only [resultsF, resultsK, evF_eq, boxF_eq, partF_eq, ldF_eq, ih] <;> rfl

def execDF (P : Program) (callF : CallF α) : Code → Fr → St → (Ex → Fr → St → Option α) → Option α
  | .seq a b, fr, σ, k => execDF P callF a fr σ fun e fr σ => match e with
    | .normal => execDF P callF b fr σ k
    | e => k e fr σ
  | .cond c a b, fr, σ, k => valK (fr.evF c) fun v => condK v (fun _ => execDF P callF a fr σ k) (fun _ => execDF P callF b fr σ k)
  | .region _ ops false, fr, σ, k => opsF P callF ops (List.range ops.size) fr σ (fun fr σ => k .normal fr σ) (fun v fr σ => k (.panic v) fr σ)
  | c, fr, σ, k => execF P callF c { fr with rc := .no } σ fun e fr' σ => k e { fr' with rc := fr.rc } σ
theorem execDF_eq (P : Program) (callF : CallF α) : ∀ c, execDF P callF c = execD P callF c := by
  intro c
  induction c with
  | region i ops draw => funext fr σ k; cases draw <;> simp only [execDF, execD, opsF_eq, execF_eq]
  | seq a b iha ihb => funext fr σ k; simp only [execDF, execD, iha, ihb]; rfl
  | cond c a b iha ihb => funext fr σ k; simp only [execDF, execD, iha, ihb, evF_eq]
  | _ => funext fr σ k; simp only [execDF, execD, execF_eq]

def frameF (cfg : Cfg) (f : FuncId) (fn : Func) (args : List AVal) (rc : Rec) (k : Fr → γ) : γ :=
  appF (args.map .val) (List.replicate (fn.ntmps - args.length) Slot.undef) fun l => k { slots := l, defers := [], esc := cfg.esc f, rc }
theorem frameF_eq (cfg : Cfg) (f : FuncId) (fn : Func) (args : List AVal) (rc : Rec) (k : Fr → γ) : frameF cfg f fn args rc k = k (frame0 cfg f fn args rc) := by
  simp only [frameF, appF_eq, frame0]

def leaveF (P : Program) (cfg : Cfg) (callF : CallF α) (fn : Func) (fr : Fr) (k kp : AVal → St → Option α) : List (FuncId × List AVal) → Md → St → Option α
  | [], .returning, σ => resultsF P fr σ fn.results.toList fun vs => k (oneOr vs) σ
  | [], .panicking v, σ => kp v σ
  | (f, args) :: ds, m, σ => match P.funcs[f]? with
    | none => none
    | some g => match g.body with
      | none => none
      | some c => frameF cfg f g args m.rc fun fr0 => execDF P callF c fr0 σ fun e fr' σ => match e with
        | .normal | .ret => match fr'.defers with
          | [] => resultsF P fr' σ g.results.toList fun _ => leaveF P cfg callF fn fr k kp ds (m.settle fr'.rc) σ
          | _ => none
        | _ => none
theorem leaveF_eq (P : Program) (cfg : Cfg) (callF : CallF α) (fn : Func) (fr : Fr) (k kp : AVal → St → Option α) : ∀ ds m σ, leaveF P cfg callF fn fr k kp ds m σ = leaveK P cfg callF fn fr k kp ds m σ := by
  intro ds
  induction ds with
  | nil => intro m σ; cases m <;> simp only [leaveF, leaveK, resultsF_eq]
  | cons d ds ih =>
    intro m σ
    obtain ⟨f, args⟩ := d
    simp only [leaveF, leaveK, resultsF_eq, ih, frameF_eq, execDF_eq]
    rfl

def extF (n : Nat) (args : List AVal) (σ : St) (k : AVal → St → Option α) : Option α := ext n args σ fun v σ => frc v fun v => k v σ
theorem extF_eq : @extF α = @ext α := by funext n args σ k; simp only [extF, frc_eq]

def bodyF (P : Program) (cfg : Cfg) (callF : CallF α) (f : FuncId) (fn : Func) (c : Code) (args : List AVal) (σ : St) (k kp : AVal → St → Option α) : Option α :=
  frameF cfg f fn args .no fun fr0 => execF P callF c fr0 σ fun e fr σ => match e with
    | .normal | .ret => leaveF P cfg callF fn fr k kp fr.defers .returning σ
    | .panic v => leaveF P cfg callF fn fr k kp fr.defers (.panicking v) σ
    | .exit _ => none
theorem bodyF_eq (P : Program) (cfg : Cfg) (callF : CallF α) : bodyF P cfg callF = bodyK P cfg callF := by
  funext f fn c args σ k kp
  simp only [bodyF, bodyK, frameF_eq, execF_eq, leaveF_eq]
  rfl

/-- a call -/
def callF (P : Program) (cfg : Cfg) : Nat → CallF α
  | 0 => fun _ _ _ _ _ => none
  | n + 1 => fun f args σ k kp => match P.funcs[f]? with
    | none => none
    | some fn => match fn.body with
      | none => match cfg.ext f with
        | some e => extF e args σ k
        | none => none
      | some c => match cfg.pure f with
        | true => bodyF P cfg (callF P cfg n) f fn c args { σ with lock := fun m => σ.lock m || decide (m < σ.next) }
            (fun v _ => match v.old σ.next with | true => k v σ | false => none) (fun v _ => match v.old σ.next with | true => kp v σ | false => none)
        | false => bodyF P cfg (callF P cfg n) f fn c args σ k kp
theorem callF_eq (P : Program) (cfg : Cfg) : ∀ n, (callF P cfg n : CallF α) = callN P cfg n := by
  intro n
  induction n with
  | zero => rfl
  | succ n ih =>
    funext f args σ k kp
    simp only [callF, callN, ih, bodyF_eq, extF_eq]
    rfl

end
end Go.Abs
