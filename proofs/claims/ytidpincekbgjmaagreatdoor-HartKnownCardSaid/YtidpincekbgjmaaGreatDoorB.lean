/-
  The second half of the proof that what the abstract machine answers the model answers, in whatever order a region is run. No condition.
-/
import Derived.Test.YtidpincekbgjmaaGreatDoorA
import Derived.LoopN
import Derived.Scope
import Derived.Laws.Externs
import Derived.Orders
set_option linter.unusedVariables false
set_option linter.unusedSimpArgs false
namespace Go.Abs

section
variable {P : Program} {ρ : Ren} {w : World} {α : Type} {r : α} {B : Nat → Bool} {σ : St} {ρ0 : Ren} {σ0 : St} {w0 : World} {β : Nat → Nat} {fr : Fr} {a : Act}

/-- what is asked of the postcondition of a panic -/
def PanicOK (B : Nat → Bool) (ρ0 : Ren) (σ0 : St) (w0 : World) (r : α) (esc : Nat) (rc : Rec) (kp : AVal → Fr → St → Option α) (Q : Exit → Act → World → Prop) : Prop :=
  ∀ v' a w, AfterP B ρ0 σ0 w0 r esc rc kp v' a w → Q (.panic [{ v := v', recovered := false }]) a w

theorem evOpt_rel (hI : Inv B ρ0 σ0 w0 ρ β fr σ a w) {x : Option Operand} {v : Option AVal} (h : fr.evOpt x = some v) : OptRel ρ σ.next v (x.map a.eval) := by
  cases x with
  | none => simp [Fr.evOpt] at h; subst h; trivial
  | some x =>
    simp only [Fr.evOpt] at h
    split at h
    · rename_i u hu
      simp at h; subst h
      exact ev_val hI hu
    · cases h

theorem fieldOff_some {t : TypeId} {i off ft size : Nat} (h : fieldOff P t i = some (off, ft, size)) : ∃ fs f, P.underlying t = some (.struct fs) ∧ fs[i]? = some f ∧ f.offset = off ∧ f.type = ft ∧ sizeT P ft = some size := by
  unfold fieldOff at h
  split at h
  · rename_i fs hu
    split at h
    · rename_i f hf
      split at h
      · rename_i s hs
        simp at h
        obtain ⟨rfl, rfl, rfl⟩ := h
        exact ⟨fs, f, hu, hf, rfl, rfl, hs⟩
      · cases h
    · cases h
  · cases h

theorem run_fieldAt {t : TypeId} {i off ft size : Nat} (h : fieldOff P t i = some (off, ft, size)) (h0 : size ≠ 0) (b o : Nat) :
    (Instr.fieldAt t (.pointer (some ⟨b, o, none⟩)) i).run P w = .ok (.pointer (some ⟨b, o + off, none⟩)) w := by
  obtain ⟨fs, f, hu, hf, rfl, rfl, hs⟩ := fieldOff_some h
  simp only [Instr.fieldAt, Sem.run_bind, run_und hu, Result.andThen_ok, hf, Instr.sureAddr, Sem.run_pure, fieldPlace, run_size hs, h0, if_false, addr_add]

theorem callV_some {callF : CallF α} {f : AVal} {args : List AVal} {k kp : AVal → St → Option α} (h : callV callF f args σ k kp = some r) :
    ∃ fn first cap, f = .func (.func fn) first cap ∧ callF fn (first ++ args ++ cap) σ k kp = some r := by
  unfold callV at h
  split at h
  · exact ⟨_, _, _, rfl, h⟩
  · cases h

theorem methodOf_sound : ∀ (n : Nat) {t : TypeId} {v recv : AVal} {v' : Value} {name : String} {f : FuncId} {ρ : Ren} {N : Nat}, methodOf P n t v name = some (f, recv) → VRel ρ N v v' →
    ∃ recv', VRel ρ N recv recv' ∧ ∀ m, n ≤ m → (method m t v' name).run P w = .ok (f, recv') w := by
  intro n
  induction n with
  | zero => intro t v recv v' name f ρ N h; simp [methodOf] at h
  | succ n ih =>
    intro t v recv v' name f ρ N h hv
    simp only [methodOf] at h
    split at h
    · cases h
    · rename_i info hinfo
      split at h
      · cases h
      · rename_i m hm
        split at h
        · rename_i g hpath hfunc
          split at h
          · rename_i e hu
            simp at h; obtain ⟨rfl, rfl⟩ := h
            refine ⟨v', hv, fun k hk => ?_⟩
            obtain ⟨k, rfl⟩ : ∃ j, k = j + 1 := ⟨k - 1, by omega⟩
            simp only [method, Sem.run_bind, run_info hinfo, Result.andThen_ok, hm, hpath, follow, Sem.run_pure, hfunc, receiverAt, run_und hu, Place.get]
          · cases h
        · rename_i s hpath hfunc
          split at h
          · rename_i off ft sz cs hd hfo
            split at h
            · rename_i t2 v2 hag hcs
              obtain ⟨fs, fl, hu, hfl, rfl, rfl, hs⟩ := fieldOff_some hfo
              cases hv with
              | agg hl h1 hr =>
                rename_i arr
                obtain ⟨u, hu2, hru⟩ := (LRel.of_array hl hr).get hcs
                cases hru with
                | iface _ hv2 =>
                  rename_i v2'
                  obtain ⟨recv', g1, g2⟩ := ih h hv2
                  refine ⟨recv', g1, fun k hk => ?_⟩
                  obtain ⟨k, rfl⟩ : ∃ j, k = j + 1 := ⟨k - 1, by omega⟩
                  have hp := run_part (P := P) (w := w) hag hs arr.toList fl.offset
                  simp only [Array.toArray_toList, Bool.false_eq_true, if_false, hu2] at hp
                  simp only [method, Sem.run_bind, run_info hinfo, Result.andThen_ok, hm, hpath, follow, run_und hu, hfl, hd, Bool.false_eq_true, if_false, hp, Sem.run_pure, hfunc, Place.get]
                  exact g2 k (by omega)
            · cases h
          · cases h
        · cases h

theorem run_mapM_list {β γ : Type} (f : β → Sem γ) (g : β → γ) : ∀ (l : List β), (∀ x ∈ l, (f x).run P w = .ok (g x) w) → (l.mapM f).run P w = .ok (l.map g) w
  | [], _ => by simp
  | x :: l, h => by
    have := run_mapM_list f g l fun y hy => h y (List.mem_cons_of_mem _ hy)
    simp only [List.mapM_cons, Sem.run_bind, h x List.mem_cons_self, Result.andThen_ok, this, Sem.run_pure, List.map_cons]

theorem run_mapM_array {β γ : Type} (f : β → Sem γ) (g : β → γ) (l : Array β) (h : ∀ x ∈ l.toList, (f x).run P w = .ok (g x) w) : (l.mapM f).run P w = .ok (l.map g) w := by
  have h1 := run_mapM_list (P := P) (w := w) f g l.toList h
  rw [← Array.toList_mapM] at h1
  simp only [Sem.run_map] at h1
  cases hr : (l.mapM f).run P w with
  | ok arr w' =>
    rw [hr] at h1
    simp only [Result.andThen_ok, Result.ok.injEq] at h1
    obtain ⟨h2, rfl⟩ := h1
    congr 1
    apply Array.ext'
    simp [h2]
  | halt x w' => rw [hr] at h1; simp [Result.andThen] at h1

theorem addK_some {p : AVal} {off : Nat} {k : AVal → Option α} (h : addK p off k = some r) : ∃ n o, p = .ptr (some (n, o)) ∧ k (.ptr (some (n, o + off))) = some r := by
  unfold addK at h
  split at h
  · exact ⟨_, _, rfl, h⟩
  · cases h

theorem boxAt_some {s : Nat} {cs : List AVal} (h : fr.boxAt s = some cs) : fr.slots[s]? = some (.box cs) := by
  unfold Fr.boxAt at h
  split at h
  · rename_i c hc; simp at h; subst h; exact hc
  · cases h

theorem run_resolve_value {c : Call} {f : Operand} {t : TypeId} (hc : c.callee = .value f) {fn : Fn} {first cap : Array Value} (hf : a.eval f = .func fn first cap) :
    (resolve a.eval c t).run P w = .ok { target := .fn fn cap, args := first ++ c.args.map a.eval } w := by
  simp only [resolve, hc, hf, Deferred.ofValue, Sem.run_pure]

set_option maxHeartbeats 4000000 in
theorem opK_sound {callF : CallF α} (hC : CallOK P B r callF) {o : Oper} {k : Fr → St → Option α} {kp : AVal → Fr → St → Option α} {Q : Exit → Act → World → Prop}
    (h : opK P callF o fr σ k kp = some r) (hI : Inv B ρ0 σ0 w0 ρ β fr σ a w) (hQ : PanicOK B ρ0 σ0 w0 r fr.esc fr.rc kp Q) (hrec : isRec o = false) :
    o.wp P a w (After B ρ0 σ0 w0 r fr.esc fr.rc k) Q := by
  obtain ⟨dst, op, ty, pos, after, guard⟩ := o
  cases op <;> simp only [opK] at h
  case move x | assign x =>
    split at h
    · rename_i s hs
      cases s with
      | val v => exact wp_value rfl (after_val hI h (ev_val hI hs))
      | box cs => exact absurd hs ev_box
      | ref s o =>
        refine wp_value rfl ?_
        rw [ev_ref hI hs]
        exact after_ref hI h
      | dead => exact wp_value rfl ⟨ρ, β, _, σ, h, hI.putDead dst _, (put_esc _ _ _).1, (put_esc _ _ _).2⟩
    · cases h
  case pick c x y =>
    replace h := valK_some h; obtain ⟨cv, hc, h⟩ := h
    have hcr := ev_val hI hc
    split at h
    · replace h := valK_some h; obtain ⟨v, hv, h⟩ := h
      have hce : a.eval c = .bool true := by generalize a.eval c = q at hcr; cases hcr; rfl
      refine wp_value (v := a.eval x) ?_ (after_val hI h (ev_val hI hv))
      simp [execOp, hce, asBool]
    · replace h := valK_some h; obtain ⟨v, hv, h⟩ := h
      have hce : a.eval c = .bool false := by generalize a.eval c = q at hcr; cases hcr; rfl
      refine wp_value (v := a.eval y) ?_ (after_val hI h (ev_val hI hv))
      simp [execOp, hce, asBool]
    · cases h
  case alloc t =>
    split at h
    · rename_i d z hz
      obtain ⟨i, zv, hi, hzv, hzr, hzc⟩ := zeroT_rel (P := P) (ρ := ρ) (N := σ.next) hz
      have hrun : ∀ (d : Option Tmp), (execOp a.eval { dst := d, op := .alloc t, type := ty, pos := pos, after := after, guard := guard }).run P w = .ok (.value (.pointer (some ⟨w.heap.size, 0, none⟩))) { w with heap := w.heap.push (.cells zv.cells t) } := fun d => by
        simp only [execOp]
        exact run_value (by simp only [Instr.alloc, Sem.run_bind, run_zero hi hzv, Result.andThen_ok]; rfl)
      split at h
      · simp only [allocK] at h
        obtain ⟨ρ', g1, g2, g3⟩ := hI.s.newCells 0 z zv.cells t (by rw [List.take_of_length_le (by rw [hzr.1]; simp)]; exact hzr) hzc (by have := hzr.1; simp at this; omega)
        refine wp_value (hrun _) (after_val (hI.global g2 g3) h ?_)
        have hb : (⟨w.heap.size, 0, none⟩ : Addr) = ⟨(ρ' σ.next).block, (ρ' σ.next).off + 0, none⟩ := by simp [g1]
        rw [hb]
        exact .ptr 0 (by simp [St.new])
      · obtain ⟨β', hβ, hI'⟩ := hI.newBox d zv.cells t hzr hzc
        exact wp_value (hrun _) ⟨ρ, β', _, σ, h, hI', rfl, rfl⟩
    · cases h
  case box t x =>
    replace h := valK_some h; obtain ⟨v, hv, h⟩ := h
    have hvr := ev_val hI hv
    split at h
    · rename_i d hd
      obtain ⟨hl, hc⟩ := hvr.cells hd
      have hrun : ∀ (d : Option Tmp), (execOp a.eval { dst := d, op := .box t x, type := ty, pos := pos, after := after, guard := guard }).run P w = .ok (.value (.pointer (some ⟨w.heap.size, 0, none⟩))) { w with heap := w.heap.push (.cells (a.eval x).cells t) } := fun d => by
        simp only [execOp]
        exact run_value (by simp only [Instr.box, newVar, newRow, Sem.run_bind, run_newObj, Result.andThen_ok, Sem.run_pure])
      split at h
      · simp only [allocK] at h
        obtain ⟨ρ', g1, g2, g3⟩ := hI.s.newCells 0 v.cells (a.eval x).cells t (by rw [List.take_of_length_le (by rw [hl.1]; simp)]; exact hl) hc (by have := hl.1; simp at this; omega)
        refine wp_value (hrun _) (after_val (hI.global g2 g3) h ?_)
        have hb : (⟨w.heap.size, 0, none⟩ : Addr) = ⟨(ρ' σ.next).block, (ρ' σ.next).off + 0, none⟩ := by simp [g1]
        rw [hb]
        exact .ptr 0 (by simp [St.new])
      · obtain ⟨β', hβ, hI'⟩ := hI.newBox d (a.eval x).cells t hl hc
        exact wp_value (hrun _) ⟨ρ, β', _, σ, h, hI', rfl, rfl⟩
    · cases h
  case build t parts =>
    split at h
    · rename_i z pl ps hz hpl hps
      obtain ⟨i, zv, hi, hzv, hzr, hzc⟩ := zeroT_rel (P := P) (ρ := ρ) (N := σ.next) hz
      obtain ⟨ds, ds', g1, g2, g3, _, g5⟩ := fill_sound (ρ := ρ) (N := σ.next) h (evParts_rel hI hps) hzr hzc
      refine wp_value (v := .agg ds') ?_ (after_val hI g1 ?_)
      · simp only [execOp]
        refine run_value ?_
        have hpe : (Array.map (fun x => match x with | (i, x) => (i, a.eval x)) parts).toList = List.map (fun x => match x with | (i, x) => (i, a.eval x)) parts.toList := by simp
        unfold placeT at hpl
        split at hpl
        · rename_i fs hu
          split at hpl
          case isFalse => cases hpl
          rename_i hall
          simp only [Option.some.injEq] at hpl
          subst hpl
          simp only [Instr.build, Sem.run_bind, run_zero hi hzv, Result.andThen_ok, run_und hu]
          rw [run_mapM_array _ (fun f : Field => (f.offset, (sizeT P f.type).getD 0)) fs (fun (f : Field) hf => by
            have := List.all_eq_true.1 hall f hf
            obtain ⟨s, hs⟩ := Option.isSome_iff_exists.1 this
            simp only [Sem.run_bind, run_size hs, Result.andThen_ok, Sem.run_pure, hs, Option.getD_some])]
          simp only [Result.andThen_ok]
          have hpl : (fun i => (Array.map (fun f : Field => (f.offset, (sizeT P f.type).getD 0)) fs)[i]?) = fieldPlaceOf P fs := by
            funext i
            simp only [Array.getElem?_map, fieldPlaceOf]
            cases hf : fs[i]? with
            | none => rfl
            | some f =>
              have : f ∈ fs.toList := by simpa using Array.mem_of_getElem? hf
              obtain ⟨s, hs⟩ := Option.isSome_iff_exists.1 (List.all_eq_true.1 hall f this)
              simp [hs]
          rw [hpl, hpe, g5]
          rfl
        · rename_i n e hu
          simp only [Option.map_eq_some_iff] at hpl
          obtain ⟨s, hs, rfl⟩ := hpl
          simp only [Instr.build, Sem.run_bind, run_zero hi hzv, Result.andThen_ok, run_und hu, run_size hs]
          rw [hpe, g5]
          rfl
        · cases hpl
      · have := VRel.agg' g3 g2
        simpa using this
    · cases h
  case buildSlice t len parts =>
    split at h
    · rename_i e ps hu hps
      split at h
      · rename_i z size hz hs
        split at h
        · rename_i hcond
          obtain ⟨hzl, hpos, hmax⟩ := hcond
          obtain ⟨i, zv, hi, hzv, hzr, hzc⟩ := zeroT_rel (P := P) (ρ := ρ) (N := σ.next) hz
          have hZ := zeros_rel hzr (by omega) len
          obtain ⟨ds, ds', g1, g2, g3, g4, g5⟩ := fill_sound (ρ := ρ) (N := σ.next) h (evParts_rel hI hps) hZ (isCell_rep hzc _)
          have hdl : ds.length = len * size := by rw [g4, len_rep, hzl]
          have hds' : ds'.size = len * size := by have := g2.1; simp at this; omega
          obtain ⟨ρ', k1, k2, k3⟩ := hI.s.newCells size ds ds' e (by rw [List.take_of_length_le (by rw [g2.1]; exact Nat.le_refl _)]; exact g2) g3 (by omega)
          refine wp_value (v := .slice (some ⟨w.heap.size, 0, none⟩) len len) ?_ (after_val (hI.global k2 k3) g1 ?_)
          · simp only [execOp]
            refine run_value ?_
            have hpe : (Array.map (fun x => match x with | (i, x) => (i, a.eval x)) parts).toList = List.map (fun x => match x with | (i, x) => (i, a.eval x)) parts.toList := by simp
            have hzsz : zv.cells.size = size := by have := hzr.1; simp at this; omega
            have h24 : ¬ (len * size > 2 ^ 24) := by omega
            have hbase : (Array.range (len * size)).map (fun j => zv.cells[j % zv.cells.size]!) = (Array.range (len * z.length)).map (fun j => zv.cells[j % zv.cells.size]!) := by rw [hzl]
            simp only [Instr.buildSlice, Sem.run_bind, run_und hu, Result.andThen_ok, run_size hs, h24, if_false, Sem.run_pure]
            split
            · rename_i h0
              have hem : ∀ f : Nat → Value, (Array.range 0).map f = #[] := fun f => by simp [Array.range]
              rw [← hbase, h0, hem] at g5
              simp only [Sem.run_pure, Result.andThen_ok, h0, hem, hpe, g5, newRow, Sem.run_bind, run_newObj]
            · simp only [Sem.run_bind, run_zero hi hzv, Sem.run_pure, Result.andThen_ok, hbase, hpe, g5, newRow, run_newObj]
          · have hb : (⟨w.heap.size, 0, none⟩ : Addr) = ⟨(ρ' σ.next).block, (ρ' σ.next).off + 0, none⟩ := by simp [k1]
            rw [hb]
            refine .slice 0 _ _ (by simp [St.new]) (Nat.le_refl _) fun _ => ?_
            rw [k1]; simp [hds']
        · cases h
      · cases h
    · cases h
  case load t x =>
    split at h
    · rename_i g size s off hg hs hx
      split at h
      · rename_i cs hb
        have hbox := (hI.f.box s cs (boxAt_some hb)).2.2.holds
        obtain ⟨v, v', hk, hv, hr⟩ := hbox.load hg hs h
        refine wp_value (v := v') ?_ (after_val hI hk hv)
        simp only [execOp]
        refine run_value ?_
        simp only [Nat.zero_add] at hr
        simp only [Instr.loadAt, ev_ref hI hx, Instr.sureAddr, Sem.run_bind, Sem.run_pure, Result.andThen_ok, hr]
      · cases h
    · rename_i g size p hg hs hx
      obtain ⟨v, v', hk, hv, hr⟩ := ld_sound hI.s hg hs (ev_val hI hx) h
      exact wp_value (by simp only [execOp]; exact run_value hr) (after_val hI hk hv)
    · cases h
  case store t x y =>
    split at h
    · rename_i size s off hs hx
      replace h := valK_some h; obtain ⟨v, hv, h⟩ := h
      split at h
      · rename_i cs hb
        obtain ⟨hd, hlen, hle, hk⟩ := putK_some h
        have hvr := ev_val hI hv
        obtain ⟨hl, hc⟩ := hvr.cells hd
        have hbs := boxAt_some hb
        have hI2 := hI.boxWrite hbs off hl hc (by omega)
        refine wp_skip' (w' := w.setCells (β s) off (a.eval y).cells.toList) ?_ ?_
        · simp only [execOp]
          refine run_unit ?_
          obtain ⟨_, _, hcell, c, el, fz, hbk, hrel, hfz⟩ := hI.f.box s cs hbs
          have hcl : cs.length = c.size := by simpa using hrel.1
          have := run_storeVar (P := P) hs hvr hd hlen hbk (by omega : off + size ≤ c.size) (fun j _ _ => hfz j)
          simp only [Instr.storeAt, ev_ref hI hx, Instr.sureAddr, Sem.run_bind, Sem.run_pure, Result.andThen_ok, this]
        · refine ⟨ρ, β, _, σ, hk, hI2.put dst VRel.undef, ?_, ?_⟩ <;> cases dst <;> rfl
      · cases h
    · rename_i size p hs hx
      replace h := valK_some h; obtain ⟨v, hv, h⟩ := h
      obtain ⟨σ', w', hk, h1, h2, hr⟩ := st_sound hI.s hs (ev_val hI hx) (ev_val hI hv) h
      exact wp_skip' (by simp only [execOp]; exact run_unit hr) ⟨ρ, β, _, σ', hk, (hI.global h1 h2).put dst VRel.undef, (put_esc _ _ _).1, (put_esc _ _ _).2⟩
    · cases h
  case nilCheck x =>
    split at h
    · rename_i s off hx
      refine wp_value (v := .pointer (some ⟨β s, off, none⟩)) ?_ (after_ref hI h)
      simp only [execOp, ev_ref hI hx]; rfl
    · rename_i v hx
      obtain ⟨hk, hr⟩ := ncK_sound (P := P) (w := w) h (ev_val hI hx) { dst := dst, op := .nilCheck x, type := ty, pos := pos, after := after, guard := guard } x a rfl rfl
      exact wp_value hr (after_val hI hk (ev_val hI hx))
    · cases h
  case binOp op t x y yt =>
    replace h := valK_some h; obtain ⟨v, hv, h⟩ := h
    replace h := valK_some h; obtain ⟨u, hu, h⟩ := h
    obtain ⟨z, z', hk, hz, hr⟩ := binK_sound (P := P) (w := w) h (ev_val hI hv) (ev_val hI hu)
    exact wp_value (by simp only [execOp]; exact run_value hr) (after_val hI hk hz)
  case unOp op t x =>
    replace h := valK_some h; obtain ⟨v, hv, h⟩ := h
    obtain ⟨z, z', hk, hz, hr⟩ := unK_sound (P := P) (w := w) h (ev_val hI hv)
    exact wp_value (by simp only [execOp]; exact run_value hr) (after_val hI hk hz)
  case convert s d x =>
    replace h := valK_some h; obtain ⟨v, hv, h⟩ := h
    obtain ⟨z, z', hk, hz, hr⟩ := convK_sound (P := P) (w := w) h (ev_val hI hv)
    exact wp_value (by simp only [execOp]; exact run_value hr) (after_val hI hk hz)
  case makeInterface t x =>
    split at h
    · cases h
    · cases h
    · rename_i d hni hu
      replace h := valK_some h; obtain ⟨v, hv, h⟩ := h
      refine wp_value (v := .iface t (a.eval x)) ?_ (after_val hI h (.iface t (ev_val hI hv)))
      simp only [execOp]
      refine run_value ?_
      simp only [Instr.makeInterface, Sem.run_bind, run_und hu, Result.andThen_ok]
      cases d <;> first | (exact absurd hu (hni _)) | rfl
  case makeFunc fn first captured =>
    split at h
    · rename_i l1 l2 h1 h2
      have r1 := evs_rel hI h1
      have r2 := evs_rel hI h2
      refine wp_value (v := .func fn (first.map a.eval) (captured.map a.eval)) (by simp only [execOp]; exact run_value rfl) (after_val hI h ?_)
      have := VRel.func' fn r1 r2
      have e1 : (List.map a.eval first.toList).toArray = first.map a.eval := Array.ext' (by simp)
      have e2 : (List.map a.eval captured.toList).toArray = captured.map a.eval := Array.ext' (by simp)
      rw [e1, e2] at this
      exact this
    · cases h
  case makeMap t reserve =>
    cases reserve with
    | some x => simp at h
    | none =>
      simp only at h
      split at h
      · rename_i kt et hu
        simp only [allocK] at h
        obtain ⟨ρ', g1, g2, g3⟩ := newMap_sound hI.s
        refine wp_value (v := .map (some w.heap.size)) ?_ (after_val (hI.global g1 g2) h g3)
        simp only [execOp]
        exact run_value (by simp only [Instr.makeMap, Option.map_none, Sem.run_bind, run_newObj, Result.andThen_ok, Sem.run_pure])
      · cases h
  case makeSlice t l c =>
    replace h := valK_some h; obtain ⟨v, hv, h⟩ := h
    replace h := valK_some h; obtain ⟨u, hu, h⟩ := h
    obtain ⟨z, z', ρ', σ', w', hk, h1, h2, hz, hr⟩ := makeSliceK_sound hI.s (ev_val hI hv) (ev_val hI hu) h
    exact wp_value (by simp only [execOp]; exact run_value hr) (after_val (hI.global h1 h2) hk hz)
  case slice t x lo hi mx =>
    cases mx with
    | some m => simp at h
    | none =>
      simp only at h
      replace h := valK_some h; obtain ⟨v, hv, h⟩ := h
      split at h
      · rename_i lo' hi' h1 h2
        obtain ⟨z, z', hk, hz, hr⟩ := sliceK_sound (P := P) hI.s (ev_val hI hv) (evOpt_rel hI h1) (evOpt_rel hI h2) h
        exact wp_value (by simp only [execOp]; exact run_value hr) (after_val hI hk hz)
      · cases h
  case fieldAddr t x i =>
    split at h
    · rename_i off ft size hf
      split at h
      · cases h
      · rename_i h0
        split at h
        · rename_i s o0 hx
          refine wp_value (v := .pointer (some ⟨β s, o0 + off, none⟩)) ?_ (after_ref hI h)
          simp only [execOp]
          rw [ev_ref hI hx]
          exact run_value (run_fieldAt hf h0 _ _)
        · rename_i p hx
          obtain ⟨n, o, rfl, hk⟩ := addK_some h
          obtain ⟨hn, he⟩ := (ev_val hI hx).ptr_inv
          refine wp_value (v := .pointer (some ⟨(ρ n).block, (ρ n).off + (o + off), none⟩)) ?_ (after_val hI hk (.ptr _ hn))
          simp only [execOp, he]
          rw [← Nat.add_assoc]
          exact run_value (run_fieldAt hf h0 _ _)
        · cases h
    · cases h
  case field t x i =>
    split at h
    · rename_i off ft size hf
      split at h
      · rename_i g hg
        replace h := valK_some h; obtain ⟨v, hv, h⟩ := h
        split at h
        · rename_i cs
          have hvr := ev_val hI hv
          generalize he : a.eval x = q at hvr
          cases hvr with
          | agg hl h1 hr =>
            rename_i arr
            obtain ⟨fs, f, hu, hfi, rfl, rfl, hs⟩ := fieldOff_some hf
            have hL := LRel.of_array hl hr
            have hp := run_part (P := P) (w := w) hg hs arr.toList f.offset
            simp only [Array.toArray_toList] at hp
            have hrun : ∀ v, (part f.type arr f.offset).run P w = .ok v w → (Instr.field t (a.eval x) i).run P w = .ok v w := fun v hv => by
              simp only [Instr.field, Sem.run_bind, run_und hu, Result.andThen_ok, hfi, he, asAgg, Sem.run_pure]
              exact hv
            rcases partK_some h with ⟨rfl, hle, hk⟩ | ⟨rfl, v, hv, hk⟩
            · exact wp_value (by simp only [execOp]; exact run_value (hrun _ (by rw [hp]; rfl))) (after_val hI hk (VRel.agg' (fun x hx => h1 x (List.mem_of_mem_drop (List.mem_of_mem_take hx))) ((hL.drop _).take _)))
            · obtain ⟨v', hv', hvr⟩ := hL.get hv
              exact wp_value (by simp only [execOp]; exact run_value (hrun v' (by rw [hp]; simp only [Bool.false_eq_true, if_false, hv']))) (after_val hI hk hvr)
        · cases h
      · cases h
    · cases h
  case indexAddr t x ix =>
    replace h := valK_some h; obtain ⟨i, hi, h⟩ := h
    have hir := ev_val hI hi
    split at h
    · rename_i s off hx
      split at h
      · rename_i len e kd n hu
        split at h
        · rename_i size hs
          split at h
          · rename_i hc
            have hix : a.eval ix = .int kd n := by generalize a.eval ix = q at hir; cases hir; rfl
            refine wp_value (v := .pointer (some ⟨β s, off + n.toNat * size, none⟩)) ?_ (after_ref hI h)
            simp only [execOp]
            refine run_value ?_
            simp only [Instr.indexAt, hix, asIntOf, Sem.run_bind, Sem.run_pure, Result.andThen_ok, run_und hu, ev_ref hI hx, Instr.sureAddr]
            rw [if_pos hc]
            simp only [Sem.run_bind, run_size hs, Result.andThen_ok, Sem.run_pure, addr_add]
          · cases h
        · cases h
      · cases h
    · rename_i p hx
      obtain ⟨z, z', hk, hz, hr⟩ := idxAddrK_sound (P := P) (w := w) (ev_val hI hx) hir h
      exact wp_value (by simp only [execOp]; exact run_value hr) (after_val hI hk hz)
    · cases h
  case index t x ix =>
    replace h := valK_some h; obtain ⟨v, hv, h⟩ := h
    replace h := valK_some h; obtain ⟨u, hu, h⟩ := h
    obtain ⟨z, z', hk, hz, hr⟩ := idxK_sound (P := P) (w := w) (ev_val hI hv) (ev_val hI hu) h
    exact wp_value (by simp only [execOp]; exact run_value hr) (after_val hI hk hz)
  case lookup t m key ok =>
    replace h := valK_some h; obtain ⟨v, hv, h⟩ := h
    replace h := valK_some h; obtain ⟨u, hu, h⟩ := h
    obtain ⟨z, z', hk, hz, hr⟩ := lookupK_sound (P := P) hI.s (ev_val hI hv) (ev_val hI hu) h
    exact wp_value (by simp only [execOp]; exact run_value hr) (after_val hI hk hz)
  case mapUpdate t m key x | insert t m key x =>
    replace h := valK_some h; obtain ⟨v, hv, h⟩ := h
    replace h := valK_some h; obtain ⟨u, hu, h⟩ := h
    replace h := valK_some h; obtain ⟨y, hy, h⟩ := h
    obtain ⟨σ', w', hk, h1, h2, hr⟩ := mapSetK_sound (P := P) hI.s (ev_val hI hv) (ev_val hI hu) (ev_val hI hy) h
    exact wp_skip' (by simp only [execOp]; exact run_unit hr) ⟨ρ, β, _, σ', hk, (hI.global h1 h2).put dst VRel.undef, (put_esc _ _ _).1, (put_esc _ _ _).2⟩
  case typeAssert x xt t ok =>
    replace h := valK_some h; obtain ⟨v, hv, h⟩ := h
    obtain ⟨z, z', hk, hz, hr⟩ := assertK_sound (P := P) (w := w) (xt := xt) (ev_val hI hv) h
    exact wp_value (by simp only [execOp]; exact run_value hr) (after_val hI hk hz)
  case extract x i =>
    replace h := valK_some h; obtain ⟨v, hv, h⟩ := h
    obtain ⟨z, z', hk, hz, hr⟩ := extractK_sound (P := P) (w := w) h (ev_val hI hv)
    exact wp_value (by simp only [execOp]; exact run_value hr) (after_val hI hk hz)
  case call c =>
    split at h
    · -- a function value
      rename_i f args hcal hargs
      replace h := valK_some h; obtain ⟨fv, hf, h⟩ := h
      obtain ⟨fn, first, cap, rfl, hcl⟩ := callV_some h
      have hfr := ev_val hI hf
      generalize hfe : a.eval f = q at hfr
      cases hfr with
      | func _ l1 l2 r1 r2 =>
        rename_i first' cap'
        have hl : LRel ρ σ.next (first ++ args ++ cap) (first' ++ c.args.map a.eval ++ cap').toList := by
          simp only [Array.toList_append, Array.toList_map]
          exact ((LRel.of_array l1 r1).append (evs_rel hI hargs)).append (LRel.of_array l2 r2)
        refine wp_call ?_ (hC fn _ σ _ _ hcl ρ w _ hI.s hl) (fun v w' hp => ?_) (fun v w' hp => ?_)
        · simp only [execOp, Sem.run_bind, run_resolve_value hcal hfe, Result.andThen_ok, invoke]
        · obtain ⟨ρ', σ', v', hk, h1, h2, h3⟩ := hp
          exact after_val (hI.global h1 h2) hk h3
        · obtain ⟨ρ', σ', v', hk, h1, h2, h3⟩ := hp
          exact hQ v a w' ⟨ρ', β, fr, σ', v', hk, hI.global h1 h2, h3, rfl, rfl⟩
    · -- a method of an interface value
      rename_i rr name args hcal hargs
      replace h := valK_some h; obtain ⟨rv, hr, h⟩ := h
      split at h
      · rename_i t v
        split at h
        · rename_i f recv hm
          have hrr := ev_val hI hr
          generalize hre : a.eval rr = q at hrr
          cases hrr with
          | iface _ hv =>
            rename_i v'
            obtain ⟨recv', hv2, hrun⟩ := methodOf_sound (P := P) (w := w) 5 hm hv
            have hl : LRel ρ σ.next (recv :: args) (#[recv'] ++ (#[Value.iface t v'] ++ c.args.map a.eval).extract 1 (#[Value.iface t v'] ++ c.args.map a.eval).size).toList := by
              have : (#[recv'] ++ (#[Value.iface t v'] ++ c.args.map a.eval).extract 1 (#[Value.iface t v'] ++ c.args.map a.eval).size).toList = recv' :: c.args.toList.map a.eval := by
                simp
                exact List.take_of_length_le (by simp)
              rw [this]
              exact All2.cons hv2 (evs_rel hI hargs)
            refine wp_call ?_ (hC f _ σ _ _ h ρ w _ hI.s hl) (fun v w' hp => ?_) (fun v w' hp => ?_)
            · simp only [execOp, Sem.run_bind, resolve, hcal, hre, Sem.run_pure, Result.andThen_ok, invoke]
              have h0 : (#[Value.iface t v'] ++ Array.map a.eval c.args)[0]? = some (Value.iface t v') := by
                rw [← Array.getElem?_toList, Array.toList_append]; rfl
              rw [h0]
              simp only [callMethod, Sem.run_bind, run_program, Result.andThen_ok]
              rw [hrun _ (by have : 5 ≤ Made.depth := by decide
                             omega)]
              rfl
            · obtain ⟨ρ', σ', v', hk, h1, h2, h3⟩ := hp
              exact after_val (hI.global h1 h2) hk h3
            · obtain ⟨ρ', σ', v', hk, h1, h2, h3⟩ := hp
              exact hQ v a w' ⟨ρ', β, fr, σ', v', hk, hI.global h1 h2, h3, rfl, rfl⟩
        · cases h
      · cases h
    · -- a builtin
      rename_i b args hcal hargs
      have hL := evs_rel hI hargs
      have hLa : LRel ρ σ.next args (c.args.map a.eval).toList := by simpa using hL
      have hrun : ∀ {n : Next} {w' : World}, (builtin b c.argTypes ty (c.args.map fun | .const _ => true | _ => false) (c.args.map a.eval)).run P w = .ok n w' →
          (execOp a.eval { dst := dst, op := .call c, type := ty, pos := pos, after := after, guard := guard }).run P w = .ok n w' := fun {n w'} hb => by
        simp only [execOp, Sem.run_bind, resolve, hcal, Sem.run_pure, Result.andThen_ok, invoke]
        exact hb
      split at h
      · -- len
        rename_i x
        obtain ⟨x', l', he, hx, hn⟩ := hLa.cons_left
        obtain rfl := hn.nil_left
        have hargs1 : c.args.map a.eval = #[x'] := Array.ext' he
        cases hts : c.argTypes[0]? with
        | none => rw [hts] at h; cases h
        | some t =>
          rw [hts] at h
          simp only at h
          obtain ⟨z, z', hk, hz, hr⟩ := lenK_sound (P := P) (w := w) hx (ty := ty) hts h
          exact wp_value (hrun (by simp only [builtin, hargs1]; exact run_value hr)) (after_val hI hk hz)
      · -- append
        rename_i s x
        obtain ⟨s', l', he, hs, hn⟩ := hLa.cons_left
        obtain ⟨x', l'', rfl, hx, hn2⟩ := hn.cons_left
        obtain rfl := hn2.nil_left
        have hargs1 : c.args.map a.eval = #[s', x'] := Array.ext' he
        split at h
        · rename_i t t' ht ht'
          split at h
          · rename_i e' hu'
            obtain ⟨z, z', ρ', σ', w', hk, h1, h2, hz, hr⟩ := appendK_sound (P := P) (ty := ty) hI.s hs hx hu' h
            refine wp_value (hrun ?_) (after_val (hI.global h1 h2) hk hz)
            simp only [builtin, hargs1]
            refine run_value ?_
            have : (Builtin.append_ c.argTypes ty #[s', x']).run P w = (Builtin.append_ #[t, t'] ty #[s', x']).run P w := by
              unfold Builtin.append_
              simp only [ht, ht']
              rfl
            rw [this, hr]
          · cases h
        · cases h
      · -- min
        obtain ⟨z, z', hk, hz, hr⟩ := minmaxK_sound (P := P) (w := w) hLa h c.argTypes ty
        exact wp_value (hrun (by simp only [builtin]; exact run_value hr)) (after_val hI hk hz)
      · -- max
        obtain ⟨z, z', hk, hz, hr⟩ := minmaxK_sound (P := P) (w := w) hLa h c.argTypes ty
        exact wp_value (hrun (by simp only [builtin]; exact run_value hr)) (after_val hI hk hz)
      · -- clear
        rename_i x
        obtain ⟨x', l', he, hx, hn⟩ := hLa.cons_left
        obtain rfl := hn.nil_left
        have hargs1 : c.args.map a.eval = #[x'] := Array.ext' he
        cases hts : c.argTypes[0]? with
        | none => rw [hts] at h; cases h
        | some t =>
          rw [hts] at h
          simp only at h
          obtain ⟨σ', w', hk, h1, h2, hr⟩ := clearK_sound (P := P) hI.s hx (ty := ty) hts h
          exact wp_value (hrun (by simp only [builtin, hargs1]; exact run_value hr)) (after_val (hI.global h1 h2) hk VRel.undef)
      · -- recover
        simp [isRec, hcal] at hrec
      · cases h
    · cases h
  case defer c =>
    split at h
    · rename_i f args hcal hargs
      replace h := valK_some h; obtain ⟨fv, hf, h⟩ := h
      split at h
      · rename_i fn first cap
        have hfr := ev_val hI hf
        generalize hfe : a.eval f = q at hfr
        cases hfr with
        | func _ l1 l2 r1 r2 =>
          rename_i first' cap'
          have hl : LRel ρ σ.next (first ++ args ++ cap) (first' ++ c.args.map a.eval ++ cap').toList := by
            simp only [Array.toList_append, Array.toList_map]
            exact ((LRel.of_array l1 r1).append (evs_rel hI hargs)).append (LRel.of_array l2 r2)
          unfold Oper.wp
          have hrun : (execOp a.eval { dst := dst, op := .defer c, type := ty, pos := pos, after := after, guard := guard }).run P w = .ok (.defer { target := .fn (.func fn) cap', args := first' ++ c.args.map a.eval }) w := by
            simp only [execOp, Sem.run_bind, run_resolve_value hcal hfe, Result.andThen_ok, Sem.run_pure]
          rw [hrun]
          have hI2 : Inv B ρ0 σ0 w0 ρ β { fr with defers := (fn, first ++ args ++ cap) :: fr.defers } σ { a with defers := { target := .fn (.func fn) cap', args := first' ++ c.args.map a.eval } :: a.defers } w :=
            ⟨hI.s, hI.st, ⟨hI.f.size, hI.f.slot, hI.f.box, hI.f.inj, All2.cons ⟨cap', rfl, hl⟩ hI.f.defers⟩⟩
          exact ⟨ρ, β, _, σ, h, hI2.put dst VRel.undef, (put_esc _ _ _).1, (put_esc _ _ _).2⟩
      · cases h
    · cases h
  case panic x =>
    replace h := valK_some h; obtain ⟨v, hv, h⟩ := h
    have hvr := ev_val hI hv
    split at h
    · rename_i t u
      have hrun : (execOp a.eval { dst := dst, op := .panic x, type := ty, pos := pos, after := after, guard := guard }).run P w = .halt (.panic (a.eval x)) w := by
        generalize hq : a.eval x = q at hvr
        cases hvr
        simp [execOp, Instr.panic, hq]
      unfold Oper.wp
      rw [hrun]
      exact hQ _ a w ⟨ρ, β, fr, σ, _, h, hI, hvr, rfl, rfl⟩
    · cases h
  all_goals (first | (cases h; done) | (simp at h; done))

end
end Go.Abs
namespace Go.Abs

section
variable {P : Program} {ρ : Ren} {w : World} {α : Type} {r : α} {B : Nat → Bool} {σ : St} {ρ0 : Ren} {σ0 : St} {w0 : World} {β : Nat → Nat} {fr : Fr} {a : Act}

theorem Inv.tmp (hI : Inv B ρ0 σ0 w0 ρ β fr σ a w) {t : Nat} {v : AVal} (h : fr.slots[t]? = some (.val v)) : ∃ u, a.tmps[t]? = some u ∧ VRel ρ σ.next v u := by
  have hlt := (List.getElem?_eq_some_iff.1 h).1
  rw [hI.f.size] at hlt
  have hu : a.tmps[t]? = some a.tmps[t] := Array.getElem?_eq_getElem hlt
  have := hI.f.slot t _ _ h hu
  cases this with
  | val hv => exact ⟨_, hu, hv⟩

theorem guardK_sound {ops : Array Oper} {o : Oper} {yes no : Fr → Option α} (h : guardK ops o fr yes no = some r) (hI : Inv B ρ0 σ0 w0 ρ β fr σ a w) :
    (Region.wanted o (yielded ops a.tmps) = true ∧ yes fr = some r) ∨ (Region.wanted o (yielded ops a.tmps) = false ∧ no fr = some r) := by
  unfold guardK at h
  split at h
  · rename_i hg
    exact .inl ⟨by simp [Region.wanted, hg], h⟩
  · rename_i j want hg
    split at h
    · cases h
    · rename_i t ht
      have hy : ∀ u, a.tmps[t]? = some u → yielded ops a.tmps j = match u with | .bool b => some b | _ => none := fun u hu => by
        simp only [yielded, ht, Option.bind_some, hu]
        cases u <;> rfl
      split at h
      · rename_i hs
        rw [hI.f.same hs] at h
        obtain ⟨u, hu, hr⟩ := hI.tmp hs
        cases hr
        have := hy _ hu
        simp only at this
        split at h
        · exact .inl ⟨by simp [Region.wanted, hg, this], h⟩
        · exact .inr ⟨by simp [Region.wanted, hg, this], h⟩
      · rename_i hs
        rw [hI.f.same hs] at h
        obtain ⟨u, hu, hr⟩ := hI.tmp hs
        cases hr
        have := hy _ hu
        simp only at this
        split at h
        · exact .inr ⟨by simp [Region.wanted, hg, this], h⟩
        · exact .inl ⟨by simp [Region.wanted, hg, this], h⟩
      · rename_i hs
        obtain ⟨u, hu, hr⟩ := hI.tmp hs
        cases hr
        have := hy _ hu
        simp only at this
        exact .inr ⟨by simp [Region.wanted, hg, this], h⟩
      · cases h

/-- a region in the text's order -/
theorem opsK_sound {callF : CallF α} (hC : CallOK P B r callF) {ops : Array Oper} {k : Fr → St → Option α} {kp : AVal → Fr → St → Option α} {Q : Exit → Act → World → Prop} {esc : Nat}
    (hN : ∀ a w, After B ρ0 σ0 w0 r esc .no k a w → Q .normal a w) (hQ : PanicOK B ρ0 σ0 w0 r esc .no kp Q) :
    ∀ (l : List Nat) {fr : Fr} {σ : St} {ρ : Ren} {β : Nat → Nat} {a : Act} {w : World}, opsK P callF ops l fr σ k kp = some r → Inv B ρ0 σ0 w0 ρ β fr σ a w → fr.esc = esc → fr.rc = .no → wpOps P ops Q l a w := by
  intro l
  induction l with
  | nil =>
    intro fr σ ρ β a w h hI he hr
    simp only [opsK] at h
    exact hN a w ⟨ρ, β, fr, σ, h, hI, he, hr⟩
  | cons i l ih =>
    intro fr σ ρ β a w h hI he hr
    simp only [opsK] at h
    split at h
    · cases h
    · rename_i o ho
      simp only [wpOps, ho]
      rcases guardK_sound h hI with ⟨hw, h⟩ | ⟨hw, h⟩
      · rw [if_pos hw]
        left
        by_cases hrec : isRec o = true
        · exfalso
          unfold isRec at hrec
          obtain ⟨dst, op, ty, pos, after, guard⟩ := o
          cases op with
          | call c =>
            simp only at hrec
            simp only [opK] at h
            cases hcal : c.callee with
            | builtin b =>
              rw [hcal] at hrec h
              cases b <;> simp at hrec
              split at h
              · cases ‹_ = Callee.value _›
              · cases ‹_ = Callee.invoke _ _›
              · rename_i b args heq hargs
                cases heq
                split at h
                all_goals first
                  | (rename_i heq; cases heq; done)
                  | (rename_i heq _; cases heq; done)
                  | (rw [hr] at h; simp at h; done)
                  | cases h
              · cases h
            | value f => rw [hcal] at hrec; simp at hrec
            | invoke f n => rw [hcal] at hrec; simp at hrec
          | _ => simp at hrec
        · have := opK_sound hC (Q := Q) h hI (by rw [he, hr]; exact hQ) (by simpa using hrec)
          rw [he, hr] at this
          refine Oper.wp_mono (fun a w hA => ?_) this
          obtain ⟨ρ', β', fr', σ', hk, hI', he', hr'⟩ := hA
          exact ih hk hI' he' hr'
      · rw [if_neg (by simp [hw])]
        exact ih h (hI.put o.dst VRel.undef) (by rw [(put_esc _ _ _).1]; exact he) (by rw [(put_esc _ _ _).2]; exact hr)

end
end Go.Abs
namespace Go.Abs

/-! ### what follows a piece of code may be joined to it -/

section
variable {P : Program} {α β : Type} {σ : St} {g : α → Option β}

theorem valK_bind (s : Option Slot) (k : AVal → Option α) : (valK s k).bind g = valK s fun v => (k v).bind g := by unfold valK; split <;> rfl
theorem partK_bind (b : Bool) (cs : List AVal) (o s : Nat) (k : AVal → Option α) : (partK b cs o s k).bind g = partK b cs o s fun v => (k v).bind g := by
  unfold partK; split <;> split <;> rfl
theorem putK_bind (cs : List AVal) (o s : Nat) (v : AVal) (k : List AVal → Option α) : (putK cs o s v k).bind g = putK cs o s v fun v => (k v).bind g := by unfold putK; split <;> rfl
theorem cellsK_bind (n : Nat) (k : Nat → List AVal → Option α) : (cellsK σ n k).bind g = cellsK σ n fun a b => (k a b).bind g := by unfold cellsK; split <;> rfl
theorem ldK_bind (b : Bool) (s : Nat) (p : AVal) (k : AVal → Option α) : (ldK σ b s p k).bind g = ldK σ b s p fun v => (k v).bind g := by
  unfold ldK; split
  · rw [cellsK_bind]; congr 1; funext a b; exact partK_bind _ _ _ _ _
  · rfl
theorem stK_bind (s : Nat) (p v : AVal) (k : St → Option α) : (stK σ s p v k).bind g = stK σ s p v fun v => (k v).bind g := by
  unfold stK; split
  · split
    · rfl
    · rw [cellsK_bind]; congr 1; funext a b; exact putK_bind _ _ _ _ _
  · rfl
theorem ncK_bind (v : AVal) (k : Unit → Option α) : (ncK v k).bind g = ncK v fun u => (k u).bind g := by unfold ncK; split <;> rfl
theorem condK_bind (v : AVal) (a b : Unit → Option α) : (condK v a b).bind g = condK v (fun u => (a u).bind g) (fun u => (b u).bind g) := by unfold condK; split <;> rfl
theorem addK_bind (p : AVal) (o : Nat) (k : AVal → Option α) : (addK p o k).bind g = addK p o fun v => (k v).bind g := by unfold addK; split <;> rfl
theorem extractK_bind (p : AVal) (o : Nat) (k : AVal → Option α) : (extractK p o k).bind g = extractK p o fun v => (k v).bind g := by unfold extractK; split <;> (try split) <;> rfl
theorem eqK_bind (op : BinOp) (t : TypeId) (c : Bool) (v w : AVal) (k : AVal → Option α) : (eqK P op t c v w k).bind g = eqK P op t c v w fun v => (k v).bind g := by unfold eqK; split <;> rfl
theorem binK_bind (op : BinOp) (t : TypeId) (c : Bool) (v w : AVal) (k : AVal → Option α) : (binK P op t c v w k).bind g = binK P op t c v w fun v => (k v).bind g := by
  unfold binK
  split
  · split <;> rfl
  · split <;> first | rfl | (split <;> rfl)
  · exact eqK_bind _ _ _ _ _ _
theorem unK_bind (op : UnOp) (v : AVal) (k : AVal → Option α) : (unK op v k).bind g = unK op v fun v => (k v).bind g := by unfold unK; split <;> rfl
theorem convK_bind (s d : TypeId) (v : AVal) (k : AVal → Option α) : (convK P s d v k).bind g = convK P s d v fun v => (k v).bind g := by unfold convK; split <;> rfl
theorem fillK_bind (pl : Nat → Option (Nat × Nat)) : ∀ (ps : List (Nat × AVal)) (cs : List AVal) (k : List AVal → Option α), (fillK pl ps cs k).bind g = fillK pl ps cs fun v => (k v).bind g
  | [], cs, k => rfl
  | (i, v) :: r, cs, k => by
    simp only [fillK]; split
    · rw [putK_bind]; congr 1; funext x; exact fillK_bind pl r x k
    · rfl
theorem allocK_bind (o : AObj) (k : AVal → St → Option α) : (allocK σ o k).bind g = allocK σ o fun v s => (k v s).bind g := rfl
theorem boundK_bind (v : Option AVal) (d h : Nat) (k : Nat → Option α) : (boundK v d h k).bind g = boundK v d h fun v => (k v).bind g := by
  unfold boundK; split <;> first | rfl | (split <;> rfl)
theorem sliceK_bind (t : TypeId) (x : AVal) (lo hi : Option AVal) (k : AVal → Option α) : (sliceK P σ t x lo hi k).bind g = sliceK P σ t x lo hi fun v => (k v).bind g := by
  unfold sliceK; split
  · rw [boundK_bind]; congr 1; funext a; exact boundK_bind _ _ _ _
  · split
    · rw [boundK_bind]; congr 1; funext a
      split
      · rfl
      · rw [boundK_bind]; congr 1; funext b
        split
        · rw [cellsK_bind]; congr 1; funext c d; split <;> rfl
        · rfl
    · rfl
  · split
    · rw [boundK_bind]; congr 1; funext a; rw [boundK_bind]; congr 1; funext b; rw [cellsK_bind]; congr 1; funext c d; split <;> rfl
    · rfl
  · rfl
theorem idxAddrK_bind (t : TypeId) (x i : AVal) (k : AVal → Option α) : (idxAddrK P t x i k).bind g = idxAddrK P t x i fun v => (k v).bind g := by
  unfold idxAddrK; split <;> first | rfl | (split <;> first | rfl | (split <;> rfl))
theorem idxK_bind (t : TypeId) (x i : AVal) (k : AVal → Option α) : (idxK P t x i k).bind g = idxK P t x i fun v => (k v).bind g := by
  unfold idxK; split
  · split
    · split
      · exact partK_bind _ _ _ _ _
      · rfl
    · rfl
  · split
    · split <;> rfl
    · rfl
  · rfl
theorem lenK_bind (t : TypeId) (x : AVal) (k : AVal → Option α) : (lenK P t x k).bind g = lenK P t x fun v => (k v).bind g := by unfold lenK; split <;> rfl
theorem lookupK_bind (t : TypeId) (m x : AVal) (ok : Bool) (k : AVal → Option α) : (lookupK P σ t m x ok k).bind g = lookupK P σ t m x ok fun v => (k v).bind g := by
  unfold lookupK; split
  · split
    · split
      · rfl
      · split <;> rfl
      · rfl
    · rfl
  · rfl
theorem mapSetK_bind (t : TypeId) (m x v : AVal) (k : St → Option α) : (mapSetK P σ t m x v k).bind g = mapSetK P σ t m x v fun v => (k v).bind g := by
  unfold mapSetK; split
  · split
    · split <;> rfl
    · rfl
  · rfl
theorem assertK_bind (x : AVal) (t : TypeId) (ok : Bool) (k : AVal → Option α) : (assertK P x t ok k).bind g = assertK P x t ok fun v => (k v).bind g := by
  unfold assertK; split
  · rfl
  · rfl
  · split
    · split
      · rfl
      · split <;> rfl
    · split <;> rfl
    · rfl
theorem minmaxK_bind (b : Bool) (l : List AVal) (k : AVal → Option α) : (minmaxK b l k).bind g = minmaxK b l fun v => (k v).bind g := by
  unfold minmaxK; split
  · split <;> rfl
  · rfl
theorem newsK_bind (s : Nat) (x : AVal) (k : Nat → List AVal → Option α) : (newsK σ s x k).bind g = newsK σ s x fun a b => (k a b).bind g := by
  unfold newsK; split
  · rfl
  · rw [cellsK_bind]; congr 1; funext a b; split <;> rfl
  · rfl
theorem appendK_bind (t : TypeId) (s x : AVal) (k : AVal → St → Option α) : (appendK P σ t s x k).bind g = appendK P σ t s x fun a b => (k a b).bind g := by
  unfold appendK; split
  · split
    · rw [newsK_bind]; congr 1; funext a b
      split
      · rfl
      · split
        · split
          · rfl
          · split
            · rfl
            · rw [cellsK_bind]; congr 1; funext c d; split <;> rfl
        · rfl
    · rfl
  · rfl
theorem makeSliceK_bind (t : TypeId) (l c : AVal) (k : AVal → St → Option α) : (makeSliceK P σ t l c k).bind g = makeSliceK P σ t l c fun a b => (k a b).bind g := by
  unfold makeSliceK; split
  · split
    · split <;> rfl
    · rfl
  · rfl
theorem clearK_bind (t : TypeId) (x : AVal) (k : St → Option α) : (clearK P σ t x k).bind g = clearK P σ t x fun a => (k a).bind g := by
  unfold clearK; split
  · rfl
  · split
    · split
      · rfl
      · split
        · split
          · rfl
          · rw [cellsK_bind]; congr 1; funext c d; split <;> rfl
        · rfl
    · rfl
  · rfl

/-- calls of one function at two types of answers -/
def NatF (cA : CallF α) (cB : CallF β) (g : α → Option β) : Prop :=
  ∀ f args σ k kp, (cA f args σ k kp).bind g = cB f args σ (fun v σ => (k v σ).bind g) (fun v σ => (kp v σ).bind g)

theorem callV_bind {cA : CallF α} {cB : CallF β} (h : NatF cA cB g) (f : AVal) (args : List AVal) (k kp : AVal → St → Option α) :
    (callV cA f args σ k kp).bind g = callV cB f args σ (fun v σ => (k v σ).bind g) (fun v σ => (kp v σ).bind g) := by
  unfold callV; split
  · exact h _ _ _ _ _
  · rfl

theorem guardK_bind (ops : Array Oper) (o : Oper) (fr : Fr) (yes no : Fr → Option α) : (guardK ops o fr yes no).bind g = guardK ops o fr (fun fr => (yes fr).bind g) (fun fr => (no fr).bind g) := by
  unfold guardK; split
  · rfl
  · split
    · rfl
    · split <;> first | rfl | (split <;> rfl)

theorem opK_bind {cA : CallF α} {cB : CallF β} (h : NatF cA cB g) (o : Oper) (fr : Fr) (k : Fr → St → Option α) (kp : AVal → Fr → St → Option α) :
    (opK P cA o fr σ k kp).bind g = opK P cB o fr σ (fun fr σ => (k fr σ).bind g) (fun v fr σ => (kp v fr σ).bind g) := by
  obtain ⟨dst, op, ty, pos, after, guard⟩ := o
  cases op <;> simp only [opK]
  case move x | assign x => split <;> rfl
  case pick c x y => rw [valK_bind]; congr 1; funext v; split <;> first | rfl | exact valK_bind _ _
  case alloc t => split <;> first | rfl | (split <;> rfl)
  case box t x => rw [valK_bind]; congr 1; funext v; split <;> first | rfl | (split <;> rfl)
  case build t ps => split <;> first | rfl | exact fillK_bind _ _ _ _
  case buildSlice t l ps => split <;> first | rfl | (split <;> first | rfl | (split <;> first | rfl | exact fillK_bind _ _ _ _))
  case load t x => split <;> first | rfl | exact ldK_bind _ _ _ _ | (split <;> first | rfl | exact partK_bind _ _ _ _ _)
  case store t x y =>
    split
    · rw [valK_bind]; congr 1; funext v; split <;> first | rfl | exact putK_bind _ _ _ _ _
    · rw [valK_bind]; congr 1; funext v; exact stK_bind _ _ _ _
    · rfl
  case nilCheck x => split <;> first | rfl | exact ncK_bind _ _
  case binOp op t x y yt => rw [valK_bind]; congr 1; funext v; rw [valK_bind]; congr 1; funext u; exact binK_bind _ _ _ _ _ _
  case unOp op t x => rw [valK_bind]; congr 1; funext v; exact unK_bind _ _ _
  case convert s d x => rw [valK_bind]; congr 1; funext v; exact convK_bind _ _ _ _
  case makeInterface t x => split <;> first | rfl | exact valK_bind _ _
  case makeFunc fn a b => split <;> rfl
  case makeMap t r =>
    cases r with
    | none => simp only; split <;> rfl
    | some x => rfl
  case makeSlice t l c => rw [valK_bind]; congr 1; funext v; rw [valK_bind]; congr 1; funext u; exact makeSliceK_bind _ _ _ _
  case slice t x lo hi mx =>
    cases mx with
    | none => simp only; rw [valK_bind]; congr 1; funext v; split <;> first | rfl | exact sliceK_bind _ _ _ _ _
    | some x => rfl
  case fieldAddr t x i => split <;> first | rfl | (split <;> first | rfl | (split <;> first | rfl | exact addK_bind _ _ _))
  case field t x i =>
    split
    · split
      · rw [valK_bind]; congr 1; funext v; split <;> first | rfl | exact partK_bind _ _ _ _ _
      · rfl
    · rfl
  case indexAddr t x ix =>
    rw [valK_bind]; congr 1; funext v
    split
    · split
      · split <;> first | rfl | (split <;> rfl)
      · rfl
    · exact idxAddrK_bind _ _ _ _
    · rfl
  case index t x ix => rw [valK_bind]; congr 1; funext v; rw [valK_bind]; congr 1; funext u; exact idxK_bind _ _ _ _
  case lookup t m key ok => rw [valK_bind]; congr 1; funext v; rw [valK_bind]; congr 1; funext u; exact lookupK_bind _ _ _ _ _
  case mapUpdate t m key x | insert t m key x => rw [valK_bind]; congr 1; funext v; rw [valK_bind]; congr 1; funext u; rw [valK_bind]; congr 1; funext y; exact mapSetK_bind _ _ _ _ _
  case typeAssert x xt t ok => rw [valK_bind]; congr 1; funext v; exact assertK_bind _ _ _ _
  case extract x i => rw [valK_bind]; congr 1; funext v; exact extractK_bind _ _ _
  case call c =>
    split
    · rw [valK_bind]; congr 1; funext v; exact callV_bind h _ _ _ _
    · rw [valK_bind]; congr 1; funext v
      split
      · split
        · exact h _ _ _ _ _
        · rfl
      · rfl
    · split
      · split
        · exact lenK_bind _ _ _
        · rfl
      · split
        · split
          · exact appendK_bind _ _ _ _
          · rfl
        · rfl
      · exact minmaxK_bind _ _ _
      · exact minmaxK_bind _ _ _
      · split
        · exact clearK_bind _ _ _
        · rfl
      · split <;> rfl
      · rfl
    · rfl
  case defer c =>
    split
    · rw [valK_bind]; congr 1; funext v; split <;> rfl
    · rfl
  case panic x => rw [valK_bind]; congr 1; funext v; split <;> rfl
  all_goals rfl

theorem opsK_bind {cA : CallF α} {cB : CallF β} (h : NatF cA cB g) (ops : Array Oper) : ∀ (l : List Nat) (fr : Fr) (σ : St) (k : Fr → St → Option α) (kp : AVal → Fr → St → Option α),
    (opsK P cA ops l fr σ k kp).bind g = opsK P cB ops l fr σ (fun fr σ => (k fr σ).bind g) (fun v fr σ => (kp v fr σ).bind g) := by
  intro l
  induction l with
  | nil => intro fr σ k kp; rfl
  | cons i l ih =>
    intro fr σ k kp
    simp only [opsK]
    split
    · rfl
    · rw [guardK_bind]
      congr 1
      · funext fr; rw [opK_bind h]; congr 1; funext fr σ; exact ih _ _ _ _
      · funext fr; exact ih _ _ _ _

theorem lockCall_nat {cA : CallF α} {cB : CallF β} (h : NatF cA cB g) (b : Bool) : NatF (lockCall b cA) (lockCall b cB) g := by
  intro f args σ k kp
  cases b <;> simp only [lockCall] <;> rw [h] <;> rfl

theorem drawK_bind {cA : CallF α} {cB : CallF β} (h : NatF cA cB g) (ops : Array Oper) (bef : Array Nat) : ∀ (l : List Nat) (log : List (Nat × Acc)) (fr : Fr) (σ : St) (k : Fr → St → Option α),
    (drawK P cA ops bef l log fr σ k).bind g = drawK P cB ops bef l log fr σ (fun fr σ => (k fr σ).bind g) := by
  intro l
  induction l with
  | nil => intro log fr σ k; rfl
  | cons i l ih =>
    intro log fr σ k
    simp only [drawK]
    split
    · rfl
    · rw [guardK_bind]
      congr 1
      · funext fr
        split
        · split
          · rw [opK_bind (lockCall_nat h _)]; congr 1
            · funext fr σ; exact ih _ _ _ _
          · rfl
        · rfl
      · funext fr
        split
        · exact ih _ _ _ _
        · rfl

end
end Go.Abs
namespace Go.Abs

section
variable {P : Program} {cfg : Cfg} {α β : Type} {g : α → Option β}

theorem loopK_bind {bA : Fr → St → (Ex → Fr → St → Option α) → Option α} {bB : Fr → St → (Ex → Fr → St → Option β) → Option β}
    (h : ∀ fr σ k, (bA fr σ k).bind g = bB fr σ fun e fr σ => (k e fr σ).bind g) : ∀ (n : Nat) (fr : Fr) (σ : St) (k : Ex → Fr → St → Option α),
    (loopK bA n fr σ k).bind g = loopK bB n fr σ fun e fr σ => (k e fr σ).bind g := by
  intro n
  induction n with
  | zero => intro fr σ k; rfl
  | succ n ih =>
    intro fr σ k
    simp only [loopK]
    rw [h]
    congr 1
    funext e fr σ
    cases e <;> first | exact ih _ _ _ | rfl

theorem execK_bind {cA : CallF α} {cB : CallF β} (h : NatF cA cB g) : ∀ (c : Code) (fr : Fr) (σ : St) (k : Ex → Fr → St → Option α),
    (execK P cA c fr σ k).bind g = execK P cB c fr σ fun e fr σ => (k e fr σ).bind g := by
  intro c
  induction c with
  | skip => intro fr σ k; rfl
  | region id ops draw =>
    intro fr σ k
    cases draw with
    | false => simp only [execK]; rw [opsK_bind h]
    | true => simp only [execK]; split
              · rw [drawK_bind h]
              · rfl
  | seq a b iha ihb =>
    intro fr σ k
    simp only [execK]
    rw [iha]
    congr 1
    funext e fr σ
    cases e <;> first | exact ihb _ _ _ | rfl
  | cond c a b iha ihb =>
    intro fr σ k
    simp only [execK]
    rw [valK_bind]
    congr 1
    funext v
    rw [condK_bind]
    congr 1
    · funext u; exact iha _ _ _
    · funext u; exact ihb _ _ _
  | block id c ih =>
    intro fr σ k
    simp only [execK]
    rw [ih]
    congr 1
    funext e fr σ
    cases e <;> first | rfl | (simp only; split <;> rfl)
  | loop c ih =>
    intro fr σ k
    simp only [execK]
    exact loopK_bind (fun fr σ k => ih fr σ k) _ _ _ _
  | rangeFunc f ps a b _ _ => intro fr σ k; rfl
  | exit id => intro fr σ k; rfl
  | scope c ih => intro fr σ k; exact ih _ _ _
  | label l => intro fr σ k; rfl
  | goto l => intro fr σ k; rfl
  | ret => intro fr σ k; rfl
  | refuse s => intro fr σ k; rfl

theorem resultsK_bind (fr : Fr) (σ : St) : ∀ (l : List ResultVar) (k : List AVal → Option α), (resultsK P fr σ l k).bind g = resultsK P fr σ l fun vs => (k vs).bind g
  | [], k => rfl
  | .tmp t :: r, k => by
    simp only [resultsK]; rw [valK_bind]; congr 1; funext v; exact resultsK_bind fr σ r _
  | .cell a t :: r, k => by
    simp only [resultsK]; split
    · split
      · rw [partK_bind]; congr 1; funext v; exact resultsK_bind fr σ r _
      · rfl
    · rw [ldK_bind]; congr 1; funext v; exact resultsK_bind fr σ r _
    · rfl

theorem execD_bind {cA : CallF α} {cB : CallF β} (h : NatF cA cB g) : ∀ (c : Code) (fr : Fr) (σ : St) (k : Ex → Fr → St → Option α),
    (execD P cA c fr σ k).bind g = execD P cB c fr σ fun e fr σ => (k e fr σ).bind g := by
  intro c
  induction c with
  | seq a b iha ihb =>
    intro fr σ k
    simp only [execD]
    rw [iha]
    congr 1
    funext e fr σ
    cases e <;> first | exact ihb _ _ _ | rfl
  | cond c a b iha ihb =>
    intro fr σ k
    simp only [execD]
    rw [valK_bind]
    congr 1
    funext v
    rw [condK_bind]
    congr 1
    · funext u; exact iha _ _ _
    · funext u; exact ihb _ _ _
  | region id ops draw =>
    intro fr σ k
    cases draw with
    | false => simp only [execD]; rw [opsK_bind h]
    | true => simp only [execD]; rw [execK_bind h]
  | _ => intro fr σ k; simp only [execD]; rw [execK_bind h]

theorem leaveK_bind {cA : CallF α} {cB : CallF β} (h : NatF cA cB g) (fn : Func) (fr : Fr) (k kp : AVal → St → Option α) : ∀ (l : List (FuncId × List AVal)) (m : Md) (σ : St),
    (leaveK P cfg cA fn fr k kp l m σ).bind g = leaveK P cfg cB fn fr (fun v σ => (k v σ).bind g) (fun v σ => (kp v σ).bind g) l m σ := by
  intro l
  induction l with
  | nil => intro m σ; cases m <;> simp only [leaveK] <;> first | rw [resultsK_bind] | rfl
  | cons d l ih =>
    intro m σ
    simp only [leaveK]
    split
    · rfl
    · split
      · rfl
      · rw [execD_bind h]
        congr 1
        funext e fr' σ
        cases e <;> first | rfl | (simp only; split <;> first | rfl | (rw [resultsK_bind]; congr 1; funext vs; exact ih _ _))

theorem ext_bind (n : Nat) (args : List AVal) (σ : St) (k : AVal → St → Option α) : (ext n args σ k).bind g = ext n args σ fun v σ => (k v σ).bind g := by
  unfold ext
  split <;> first
    | rfl
    | (split <;> rfl)
    | (rw [ldK_bind]; congr 1; funext v; split <;> first | rfl | exact stK_bind _ _ _ _)
    | exact stK_bind _ _ _ _

theorem bodyK_bind {cA : CallF α} {cB : CallF β} (h : NatF cA cB g) (f : FuncId) (fn : Func) (c : Code) (args : List AVal) (σ : St) (k kp : AVal → St → Option α) :
    (bodyK P cfg cA f fn c args σ k kp).bind g = bodyK P cfg cB f fn c args σ (fun v σ => (k v σ).bind g) (fun v σ => (kp v σ).bind g) := by
  simp only [bodyK]
  rw [execK_bind h]
  congr 1
  funext e fr σ
  cases e <;> first | rfl | exact leaveK_bind h _ _ _ _ _ _ _

theorem callN_nat : ∀ (n : Nat), NatF (callN P cfg n) (callN P cfg n) g := by
  intro n
  induction n with
  | zero => intro f args σ k kp; rfl
  | succ n ih =>
    intro f args σ k kp
    simp only [callN]
    split
    · rfl
    · split
      · split
        · exact ext_bind _ _ _ _
        · rfl
      · split
        · rw [bodyK_bind ih]
          congr 1
          · funext v s; split <;> rfl
          · funext v s; split <;> rfl
        · exact bodyK_bind ih _ _ _ _ _ _ _

end
end Go.Abs
namespace Go.Abs

section
variable {P : Program} {ρ : Ren} {w : World} {α : Type} {r : α} {B : Nat → Bool} {σ : St} {ρ0 : Ren} {σ0 : St} {w0 : World} {β : Nat → Nat} {fr : Fr} {a : Act}

def CPost (B : Nat → Bool) (ρ0 : Ren) (σ0 : St) (w0 : World) (r : α) (esc : Nat) (rc : Rec) (k : Ex → Fr → St → Option α) : Exit → Act → World → Prop
  | .normal, a, w => After B ρ0 σ0 w0 r esc rc (k .normal) a w
  | .exit id, a, w => After B ρ0 σ0 w0 r esc rc (k (.exit id)) a w
  | .ret, a, w => After B ρ0 σ0 w0 r esc rc (k .ret) a w
  | .panic chain, a, w => ∃ v', chain = [{ v := v', recovered := false }] ∧ AfterP B ρ0 σ0 w0 r esc rc (fun v => k (.panic v)) v' a w
  | .goto _, _, _ => False
  | .outgrown, _, _ => False

theorem condK_some {v : AVal} {x y : Unit → Option α} (h : condK v x y = some r) : (v = .bool true ∧ x () = some r) ∨ (v = .bool false ∧ y () = some r) := by
  unfold condK at h
  split at h
  · exact .inl ⟨rfl, h⟩
  · exact .inr ⟨rfl, h⟩
  · cases h

/-- calls at all types of answers -/
structure CallsOK (P : Program) (B : Nat → Bool) (callF : (γ : Type) → CallF γ) : Prop where
  ok : ∀ (γ : Type) (r : γ), CallOK P B r (callF γ)
  nat : ∀ (γ δ : Type) (g : γ → Option δ), NatF (callF γ) (callF δ) g

def DrawOK (P : Program) (B : Nat → Bool) (callF : (γ : Type) → CallF γ) : Prop :=
  ∀ {α : Type} {r : α} {ρ : Ren} {w : World} {σ : St} {ρ0 : Ren} {σ0 : St} {w0 : World} {β : Nat → Nat} {fr : Fr} {a : Act} {id : Nat} {ops : Array Oper} {k : Fr → St → Option α} {Q : Exit → Act → World → Prop} {esc : Nat},
    edgesOk ops = true → drawK P (callF α) ops (Region.before ops) (List.range ops.size) [] fr σ k = some r → Inv B ρ0 σ0 w0 ρ β fr σ a w → fr.esc = esc → fr.rc = .no →
      (∀ a w, After B ρ0 σ0 w0 r esc .no k a w → Q .normal a w) → (Code.region id ops true).wp P Q a w

theorem execK_sound {callF : (γ : Type) → CallF γ} (hC : CallsOK P B callF) (hD : DrawOK P B callF) {esc : Nat} : ∀ (c : Code) {fr : Fr} {σ : St} {ρ : Ren} {β : Nat → Nat} {a : Act} {w : World} {k : Ex → Fr → St → Option α},
    execK P (callF α) c fr σ k = some r → Inv B ρ0 σ0 w0 ρ β fr σ a w → fr.esc = esc → fr.rc = .no → c.wp P (CPost B ρ0 σ0 w0 r esc .no k) a w := by
  intro c
  induction c with
  | skip => intro fr σ ρ β a w k h hI he hr; exact wp_skip ⟨ρ, β, fr, σ, h, hI, he, hr⟩
  | label l => intro fr σ ρ β a w k h hI he hr; exact wp_label ⟨ρ, β, fr, σ, h, hI, he, hr⟩
  | region id ops draw =>
    intro fr σ ρ β a w k h hI he hr
    cases draw with
    | false =>
      simp only [execK] at h
      refine wp_region (opsK_sound (hC.ok α r) (fun a w hA => hA) (fun v' a w hA => ⟨v', rfl, hA⟩) _ h hI he hr)
    | true =>
      simp only [execK] at h
      split at h
      · exact hD ‹_› h hI he hr fun a w hA => hA
      · cases h
  | seq x y ihx ihy =>
    intro fr σ ρ β a w k h hI he hr
    simp only [execK] at h
    refine wp_seq (wp_mono (ihx h hI he hr) fun e a w hq => ?_)
    cases e with
    | normal =>
      obtain ⟨ρ', β', fr', σ', hk, hI', he', hr'⟩ := hq
      exact ihy hk hI' he' hr'
    | exit id => exact hq
    | goto l => exact hq.elim
    | ret => exact hq
    | panic ch => exact hq
    | outgrown => exact hq.elim
  | cond c x y ihx ihy =>
    intro fr σ ρ β a w k h hI he hr
    simp only [execK] at h
    replace h := valK_some h; obtain ⟨v, hv, h⟩ := h
    have hvr := ev_val hI hv
    rcases condK_some h with ⟨rfl, h⟩ | ⟨rfl, h⟩
    · have hce : a.eval c = .bool true := by generalize a.eval c = q at hvr; cases hvr; rfl
      exact wp_cond_true hce (ihx h hI he hr)
    · have hce : a.eval c = .bool false := by generalize a.eval c = q at hvr; cases hvr; rfl
      exact wp_cond_false hce (ihy h hI he hr)
  | block id c ih =>
    intro fr σ ρ β a w k h hI he hr
    simp only [execK] at h
    refine wp_block (wp_mono (ih h hI he hr) fun e a w hq => ?_)
    cases e with
    | normal => exact hq
    | exit j =>
      simp only [Exit.inBlock]
      obtain ⟨ρ', β', fr', σ', hk, hI', he', hr'⟩ := hq
      simp only at hk
      split
      · rename_i hj; rw [if_pos hj] at hk; exact ⟨ρ', β', fr', σ', hk, hI', he', hr'⟩
      · rename_i hj; rw [if_neg hj] at hk; exact ⟨ρ', β', fr', σ', hk, hI', he', hr'⟩
    | goto l => exact hq.elim
    | ret => exact hq
    | panic ch => exact hq
    | outgrown => exact hq.elim
  | loop c ih =>
    intro fr σ ρ β a w k h hI he hr
    simp only [execK] at h
    refine wp_loop_rounds lim ?_
    have key : ∀ (n : Nat) {fr : Fr} {σ : St} {ρ : Ren} {β : Nat → Nat} {a : Act} {w : World}, loopK (execK P (callF α) c) n fr σ k = some r → Inv B ρ0 σ0 w0 ρ β fr σ a w → fr.esc = esc → fr.rc = .no →
        Code.rounds P c (CPost B ρ0 σ0 w0 r esc .no k) n a w := by
      intro n
      induction n with
      | zero => intro fr σ ρ β a w h; simp [loopK] at h
      | succ n ihn =>
        intro fr σ ρ β a w h hI he hr
        simp only [loopK] at h
        rw [rounds_succ]
        refine wp_mono (ih h hI he hr) fun e a w hq => ?_
        cases e with
        | normal =>
          obtain ⟨ρ', β', fr', σ', hk, hI', he', hr'⟩ := hq
          exact ihn hk hI' he' hr'
        | exit id => exact hq
        | goto l => exact hq.elim
        | ret => exact hq
        | panic ch => exact hq
        | outgrown => exact hq.elim
    exact key lim h hI he hr
  | scope c ih =>
    intro fr σ ρ β a w k h hI he hr
    simp only [execK] at h
    refine wp_scope_straight (wp_mono (ih h hI he hr) fun e a w hq => ?_)
    cases e with
    | goto l => exact hq.elim
    | _ => exact hq
  | exit id => intro fr σ ρ β a w k h hI he hr; exact wp_exit ⟨ρ, β, fr, σ, h, hI, he, hr⟩
  | ret => intro fr σ ρ β a w k h hI he hr; exact wp_ret ⟨ρ, β, fr, σ, h, hI, he, hr⟩
  | rangeFunc f ps x y _ _ => intro fr σ ρ β a w k h; simp [execK] at h
  | goto l => intro fr σ ρ β a w k h; simp [execK] at h
  | refuse s => intro fr σ ρ β a w k h; simp [execK] at h

end
end Go.Abs
namespace Go.Abs

section
variable {P : Program} {cfg : Cfg} {ρ : Ren} {w : World} {α : Type} {r : α} {B : Nat → Bool} {σ : St} {ρ0 : Ren} {σ0 : St} {w0 : World} {β : Nat → Nat} {fr : Fr} {a : Act}

/-! ### results -/

theorem run_mapM_of_list {γ δ : Type} (f : γ → Sem δ) (l : Array γ) {vs : List δ} (h : (l.toList.mapM f).run P w = .ok vs w) : (l.mapM f).run P w = .ok vs.toArray w := by
  rw [← Array.toList_mapM] at h
  simp only [Sem.run_map] at h
  cases hr : (l.mapM f).run P w with
  | ok arr w' =>
    rw [hr] at h
    simp only [Result.andThen_ok, Result.ok.injEq] at h
    obtain ⟨h2, rfl⟩ := h
    congr 1
    apply Array.ext'
    simp [h2]
  | halt x w' => rw [hr] at h; simp [Result.andThen] at h

theorem resultsK_list (hI : Inv B ρ0 σ0 w0 ρ β fr σ a w) : ∀ {l : List ResultVar} {k : List AVal → Option α}, resultsK P fr σ l k = some r →
    ∃ vs vs', k vs = some r ∧ LRel ρ σ.next vs vs' ∧ (l.mapM fun
      | .tmp t => pure (a.tmps.getD t undef)
      | .cell c t => do loadVar t (← asAddr (a.tmps.getD c undef)) : Sem (List Value)).run P w = .ok vs' w := by
  intro l
  induction l with
  | nil => intro k h; exact ⟨[], [], h, All2.nil, rfl⟩
  | cons x l ih =>
    intro k h
    cases x with
    | tmp t =>
      simp only [resultsK] at h
      replace h := valK_some h; obtain ⟨v, hv, h⟩ := h
      obtain ⟨vs, vs', h1, h2, h3⟩ := ih h
      have hvr := ev_val hI hv
      refine ⟨v :: vs, _ :: vs', h1, All2.cons hvr h2, ?_⟩
      simp only [List.mapM_cons, Sem.run_bind, Sem.run_pure, Result.andThen_ok, h3]
      rfl
    | cell c t =>
      simp only [resultsK] at h
      split at h
      · rename_i g size s off hg hs hx
        split at h
        · rename_i cs hb
          have hbox := (hI.f.box s cs (boxAt_some hb)).2.2.holds
          obtain ⟨v, v', hk, hv, hr⟩ := hbox.load (P := P) hg hs h
          obtain ⟨vs, vs', h1, h2, h3⟩ := ih hk
          refine ⟨v :: vs, v' :: vs', h1, All2.cons hv h2, ?_⟩
          have he : a.tmps.getD c undef = .pointer (some ⟨β s, off, none⟩) := ev_ref hI hx
          simp only [Nat.zero_add] at hr
          rw [List.mapM_cons]
          simp only [Sem.run_bind]
          rw [he]
          have h4 : (asAddr (.pointer (some ⟨β s, off, none⟩)) : Sem Addr).run P w = .ok ⟨β s, off, none⟩ w := rfl
          rw [h4]
          simp only [Result.andThen_ok]
          rw [hr]
          simp only [Result.andThen_ok]
          erw [h3]
          rfl
        · cases h
      · rename_i g size p hg hs hx
        have hp := ev_val hI hx
        obtain ⟨v, v', hk, hv, hr⟩ := ld_sound hI.s hg hs hp h
        obtain ⟨vs, vs', h1, h2, h3⟩ := ih hk
        refine ⟨v :: vs, v' :: vs', h1, All2.cons hv h2, ?_⟩
        obtain ⟨n, o, wd, cs, rfl, _, _⟩ := ldK_some h
        obtain ⟨_, he⟩ := hp.ptr_inv
        have he' : a.tmps.getD c undef = .pointer (some ⟨(ρ n).block, (ρ n).off + o, none⟩) := he
        rw [he] at hr
        simp only [Instr.loadAt, Instr.sureAddr, Sem.run_bind, Sem.run_pure, Result.andThen_ok] at hr
        rw [List.mapM_cons]
        simp only [Sem.run_bind]
        rw [he']
        have h4 : (asAddr (.pointer (some ⟨(ρ n).block, (ρ n).off + o, none⟩)) : Sem Addr).run P w = .ok ⟨(ρ n).block, (ρ n).off + o, none⟩ w := rfl
        rw [h4]
        simp only [Result.andThen_ok]
        rw [hr]
        simp only [Result.andThen_ok]
        erw [h3]
        rfl
      · cases h

theorem oneOr_rel {vs : List AVal} {vs' : List Value} (h : LRel ρ σ.next vs vs') : VRel ρ σ.next (oneOr vs) (if h : vs'.toArray.size = 1 then vs'.toArray[0] else .tuple vs'.toArray) := by
  match vs, vs', h with
  | [], vs', h =>
    obtain rfl := h.nil_left
    exact VRel.undef
  | [x], vs', h =>
    obtain ⟨y, l, rfl, hy, hl⟩ := h.cons_left
    obtain rfl := hl.nil_left
    exact hy
  | x :: y :: l, vs', h =>
    obtain ⟨x', l1, rfl, hx, hl1⟩ := h.cons_left
    obtain ⟨y', l2, rfl, hy, hl2⟩ := hl1.cons_left
    rw [dif_neg (by simp)]
    exact VRel.tuple' h

theorem resultsK_sound (hI : Inv B ρ0 σ0 w0 ρ β fr σ a w) {fn : Func} {k : List AVal → Option α} (h : resultsK P fr σ fn.results.toList k = some r) :
    ∃ vs v', k vs = some r ∧ VRel ρ σ.next (oneOr vs) v' ∧ (results fn a.tmps).run P w = .ok v' w := by
  obtain ⟨vs, vs', h1, h2, h3⟩ := resultsK_list hI h
  refine ⟨vs, _, h1, oneOr_rel h2, ?_⟩
  have := run_mapM_of_list _ _ h3
  simp only [results, Sem.run_bind, Sem.run_pure]
  erw [this]
  rfl

/-! ### deferred calls -/

def RcRel (ρ : Ren) (N : Nat) (rc : Rec) (u : FrameMode) : Prop :=
  match rc with
  | .no => False
  | .cannot => u = .returning
  | .can v => ∃ v', VRel ρ N v v' ∧ u = .panicking [{ v := v', recovered := false }]
  | .done => ∃ v', u = .panicking [{ v := v', recovered := true }]

theorem RcRel.mono {ρ ρ' : Ren} {N N' : Nat} {rc : Rec} {u : FrameMode} (h : RcRel ρ N rc u) (hN : N ≤ N') (he : ∀ n, n < N → ρ' n = ρ n) : RcRel ρ' N' rc u := by
  cases rc with
  | no => exact h
  | cannot => exact h
  | can v => obtain ⟨v', h1, h2⟩ := h; exact ⟨v', h1.mono hN he, h2⟩
  | done => exact h

theorem Inv.rc (h : Inv B ρ0 σ0 w0 ρ β fr σ a w) (rc : Rec) : Inv B ρ0 σ0 w0 ρ β { fr with rc := rc } σ a w :=
  ⟨h.s, h.st, ⟨h.f.size, h.f.slot, h.f.box, h.f.inj, h.f.defers⟩⟩

def AfterD (B : Nat → Bool) (ρ0 : Ren) (σ0 : St) (w0 : World) (r : α) (esc : Nat) (u : FrameMode) (k : Fr → St → Option α) (a : Act) (w : World) : Prop :=
  ∃ ρ β fr σ, k fr σ = some r ∧ Inv B ρ0 σ0 w0 ρ β fr σ a w ∧ fr.esc = esc ∧ RcRel ρ0 σ0.next fr.rc u

def DPost (B : Nat → Bool) (ρ0 : Ren) (σ0 : St) (w0 : World) (r : α) (esc : Nat) (c0 : Frame) (cs : List Frame) (k : Ex → Fr → St → Option α) : Exit → Act → List Frame → World → Prop := fun e a cs' w =>
  ∃ u, cs' = { c0 with mode := u } :: cs ∧ match e with
    | .normal => AfterD B ρ0 σ0 w0 r esc u (k .normal) a w
    | .exit id => AfterD B ρ0 σ0 w0 r esc u (k (.exit id)) a w
    | .ret => AfterD B ρ0 σ0 w0 r esc u (k .ret) a w
    | .panic _ => ∃ v, AfterD B ρ0 σ0 w0 r esc u (k (.panic v)) a w
    | .goto _ => False
    | .outgrown => False

theorem isRec_run {o : Oper} (h : isRec o = true) : (execOp a.eval o).run P w = .ok .recover w := by
  obtain ⟨dst, op, ty, pos, after, guard⟩ := o
  cases op with
  | call c =>
    simp only [isRec] at h
    cases hcal : c.callee with
    | builtin b =>
      rw [hcal] at h
      cases b <;> simp at h
      simp only [execOp, Sem.run_bind, resolve, hcal, Sem.run_pure, Result.andThen_ok, invoke, builtin]
    | value f => rw [hcal] at h; simp at h
    | invoke f n => rw [hcal] at h; simp at h
  | _ => simp [isRec] at h

theorem opK_recover {callF : CallF α} {o : Oper} (h : isRec o = true) {k : Fr → St → Option α} {kp : AVal → Fr → St → Option α} (hk : opK P callF o fr σ k kp = some r) :
    (∃ v, fr.rc = .can v ∧ k ({ fr with rc := .done }.put o.dst (.val v)) σ = some r) ∨ ((fr.rc = .cannot ∨ fr.rc = .done) ∧ k (fr.put o.dst (.val .nilIface)) σ = some r) := by
  obtain ⟨dst, op, ty, pos, after, guard⟩ := o
  cases op with
  | call c =>
    simp only [isRec] at h
    simp only [opK] at hk
    cases hcal : c.callee with
    | builtin b =>
      rw [hcal] at h hk
      cases b <;> simp at h
      split at hk
      · cases ‹_ = Callee.value _›
      · cases ‹_ = Callee.invoke _ _›
      · rename_i b args heq hargs
        cases heq
        split at hk
        all_goals first
          | (rename_i heq; cases heq; done)
          | (rename_i heq _; cases heq; done)
          | cases hk
          | skip
        split at hk
        · exact .inl ⟨_, ‹_›, hk⟩
        · exact .inr ⟨.inl ‹_›, hk⟩
        · exact .inr ⟨.inr ‹_›, hk⟩
        · cases hk
      · cases hk
    | value f => rw [hcal] at h; simp at h
    | invoke f n => rw [hcal] at h; simp at h
  | _ => simp [isRec] at h

theorem opsS_sound {callF : CallF α} (hC : CallOK P B r callF) {ops : Array Oper} {k : Fr → St → Option α} {kp : AVal → Fr → St → Option α} {esc : Nat} {c0 : Frame} {cs : List Frame} {Q : Exit → Act → List Frame → World → Prop}
    (hN : ∀ u a w, AfterD B ρ0 σ0 w0 r esc u k a w → Q .normal a ({ c0 with mode := u } :: cs) w)
    (hQ : ∀ u v' a w, (∃ v, AfterD B ρ0 σ0 w0 r esc u (kp v) a w) → Q (.panic [{ v := v', recovered := false }]) a ({ c0 with mode := u } :: cs) w) :
    ∀ (l : List Nat) {fr : Fr} {σ : St} {ρ : Ren} {β : Nat → Nat} {a : Act} {w : World} {u : FrameMode}, opsK P callF ops l fr σ k kp = some r → Inv B ρ0 σ0 w0 ρ β fr σ a w → fr.esc = esc → RcRel ρ0 σ0.next fr.rc u →
      wpOpsS P ops Q l a ({ c0 with mode := u } :: cs) w := by
  intro l
  induction l with
  | nil =>
    intro fr σ ρ β a w u h hI he hr
    simp only [opsK] at h
    exact hN u a w ⟨ρ, β, fr, σ, h, hI, he, hr⟩
  | cons i l ih =>
    intro fr σ ρ β a w u h hI he hr
    simp only [opsK] at h
    split at h
    · cases h
    · rename_i o ho
      simp only [wpOpsS, ho]
      rcases guardK_sound h hI with ⟨hw, h⟩ | ⟨hw, h⟩
      · rw [if_pos hw]
        by_cases hrec : isRec o = true
        · rw [isRec_run hrec]
          simp only
          rcases opK_recover hrec h with ⟨v, hrc, hk⟩ | ⟨hrc, hk⟩
          · rw [hrc] at hr
            obtain ⟨v', hv, rfl⟩ := hr
            simp only [recoverD]
            have hI2 := (hI.rc .done).put o.dst (hv.mono hI.st.next hI.st.ren)
            exact ih (u := .panicking [{ v := v', recovered := true }]) hk hI2 (by rw [(put_esc _ _ _).1]; exact he) (by rw [(put_esc _ _ _).2]; exact ⟨v', rfl⟩)
          · have hnone : recoverD ({ c0 with mode := u } :: cs) = none := by
              rcases hrc with hrc | hrc
              · rw [hrc] at hr
                have : u = .returning := hr
                subst this
                rfl
              · rw [hrc] at hr
                obtain ⟨v', rfl⟩ := hr
                rfl
            rw [hnone]
            exact ih hk (hI.put o.dst .nilIface) (by rw [(put_esc _ _ _).1]; exact he) (by rw [(put_esc _ _ _).2]; exact hr)
        · have hop := opK_sound hC (Q := fun e a w => match e with
              | .panic ch => ∃ v', ch = [{ v := v', recovered := false }] ∧ AfterP B ρ0 σ0 w0 r fr.esc fr.rc kp v' a w
              | _ => False) h hI (fun v' a w hA => ⟨v', rfl, hA⟩) (by simpa using hrec)
          -- the rest goes on in the same mode
          have hstep : ∀ (a' : Act) (w' : World), After B ρ0 σ0 w0 r fr.esc fr.rc (fun fr σ => opsK P callF ops l fr σ k kp) a' w' → wpOpsS P ops Q l a' ({ c0 with mode := u } :: cs) w' := by
            rintro a' w' ⟨ρ', β', fr', σ', hk, hI', he', hr'⟩
            refine ih hk hI' (he'.trans he) ?_
            rw [hr']
            exact hr
          have hpan : ∀ (ch : List PanicEntry) (a' : Act) (w' : World), (∃ v', ch = [{ v := v', recovered := false }] ∧ AfterP B ρ0 σ0 w0 r fr.esc fr.rc kp v' a' w') → Q (.panic ch) a' ({ c0 with mode := u } :: cs) w' := by
            rintro ch a' w' ⟨v', rfl, ρ', β', fr', σ', v, hk, hI', hv, he', hr'⟩
            exact hQ u v' a' w' ⟨v, ρ', β', fr', σ', hk, hI', he'.trans he, by rw [hr']; exact hr⟩
          unfold Oper.wp at hop
          generalize hrun : (execOp a.eval o).run P w = rr at hop
          cases rr with
          | ok n w' =>
            cases n with
            | recover => exact hop.elim
            | value v => exact hstep _ _ hop
            | skip => exact hstep _ _ hop
            | defer d => exact hstep _ _ hop
            | enter f args =>
              refine Calls.mono hop fun e w'' hee => ?_
              cases e with
              | returned v => exact hstep _ _ hee
              | panicked ch => exact hpan _ _ _ hee
              | outgrown => obtain ⟨_, _, hf⟩ := hee; exact hf.elim
            | row row args => exact Rows.mono hop fun v w'' hee => hstep _ _ hee
            | _ => exact hop.elim
          | halt x w' =>
            cases x with
            | panic v => exact hpan _ _ _ hop
            | _ => exact hop.elim
      · rw [if_neg (by simp [hw])]
        exact ih h (hI.put o.dst VRel.undef) (by rw [(put_esc _ _ _).1]; exact he) (by rw [(put_esc _ _ _).2]; exact hr)

end
end Go.Abs
namespace Go.Abs

/-! ### functions without a body -/

def extSem : Nat → Option (Array Value → Sem Value)
  | 0 => (Extern.MathBitsCarry.rows.lookup "math/bits.Add64")
  | 1 => some (Extern.Atomic.loadT (.int .u32))
  | 2 => some (Extern.Atomic.loadT (.int .u64))
  | 3 => some Extern.Atomic.storeT
  | 4 => some (Extern.Atomic.update (Op.intArith .add) .u64 true)
  | 5 => some (Extern.Atomic.update (Op.intBits .and) .u32 false)
  | 6 => some (Extern.Atomic.update (Op.intBits .or) .u32 false)
  | _ => none

section
variable {P : Program} {cfg : Cfg} {ρ : Ren} {w : World} {α : Type} {r : α} {B : Nat → Bool} {σ : St}

theorem cell_of_get (hS : SRel B ρ σ w) {n o wd : Nat} {cs : List AVal} {v : AVal} (hn : σ.get n = some (.cells wd cs)) (hv : cs[o]? = some v) :
    ∃ v', w.cell? ⟨(ρ n).block, (ρ n).off + o, none⟩ = some v' ∧ VRel ρ σ.next v v' ∧ w.frozen? ⟨(ρ n).block, (ρ n).off + o, none⟩ = false := by
  obtain ⟨_, hw, hroom, hcell, c, el, fz, hb, hsz, hrel, hfz⟩ := hS.obj n _ hn
  obtain ⟨v', hv', hr⟩ := hrel o v hv
  refine ⟨v', by rw [cell?_of hb]; simpa using hv', hr, ?_⟩
  have := (List.getElem?_eq_some_iff.1 hv).1
  have hz := hfz ((ρ n).off + o) (by omega) (by omega)
  simp only [World.frozen?, hb]
  simp only [decide_eq_false_iff_not, Bool.and_eq_false_iff]
  simp only [not_and] at hz
  by_cases h1 : fz.1 ≤ (ρ n).off + o
  · right; exact hz h1
  · left; exact h1

theorem extLd (hS : SRel B ρ σ w) {p : AVal} {p' : Value} (hp : VRel ρ σ.next p p') {k : AVal → Option α} (h : ldK σ false 1 p k = some r) :
    ∃ v v' ad, k v = some r ∧ VRel ρ σ.next v v' ∧ p' = .pointer (some ad) ∧ w.cell? ad = some v' ∧ w.frozen? ad = false := by
  obtain ⟨n, o, wd, cs, rfl, h1, h2⟩ := ldK_some h
  obtain ⟨_, rfl⟩ := hp.ptr_inv
  simp only [partK] at h2
  split at h2
  · rename_i v hv
    obtain ⟨v', hc, hr, hz⟩ := cell_of_get hS h1 hv
    exact ⟨v, v', _, h2, hr, rfl, hc, hz⟩
  · cases h2

theorem extSt (hS : SRel B ρ σ w) {p : AVal} {p' : Value} (hp : VRel ρ σ.next p p') {kd : IntKind} {x : Int} {k : St → Option α} (h : stK σ 1 p (.int kd x) k = some r) :
    ∃ σ' ad v, k σ' = some r ∧ p' = .pointer (some ad) ∧ w.cell? ad = some v ∧ w.frozen? ad = false ∧ SRel B ρ σ' (w.setCell ad (.int kd x)) ∧ Step ρ σ w ρ σ' (w.setCell ad (.int kd x)) := by
  obtain ⟨n, o, wd, cs, rfl, hlk, h1, hd, hlen, hle, hk⟩ := stK_some h
  obtain ⟨_, rfl⟩ := hp.ptr_inv
  obtain ⟨v', hc, _, hz⟩ := cell_of_get hS h1 (List.getElem?_eq_getElem (show o < cs.length by omega))
  have := hS.write h1 hlk o [.int kd x] [.int kd x] (All2.cons (.int _ _) All2.nil) (by simp [AVal.isCell]) (by simp; omega)
  exact ⟨_, _, v', hk, rfl, hc, hz, this.1, this.2⟩

theorem run_store_int' {w : World} {a : Addr} {kd : IntKind} {x : Int} {v : Value} (hc : w.cell? a = some v) (hz : w.frozen? a = false) : (store a (.int kd x) .atomic).run P w = .ok () (w.setCell a (.int kd x)) := by
  rw [run_store P w a _ _ rfl, hc]
  simp [hz]

theorem run_asIntOf' (kd : IntKind) (x : Int) : (asIntOf (.int kd x)).run P w = .ok (kd, x) w := rfl

theorem All2.one {γ δ : Type} {R : γ → δ → Prop} {x : γ} {l : List δ} (h : All2 R [x] l) : ∃ y, l = [y] ∧ R x y := by
  obtain ⟨y, l', rfl, hy, hl⟩ := h.cons_left
  obtain rfl := hl.nil_left
  exact ⟨y, rfl, hy⟩

theorem VRel.int_inv {N : Nat} {kd : IntKind} {x : Int} {v : Value} (h : VRel ρ N (.int kd x) v) : v = .int kd x := by cases h; rfl

theorem ext_sound {n : Nat} {args : List AVal} {k : AVal → St → Option α} (h : ext n args σ k = some r) (hS : SRel B ρ σ w) {args' : Array Value} (hl : LRel ρ σ.next args args'.toList) :
    ∃ e, extSem n = some e ∧ ∃ v' w', (e args').run P w = .ok v' w' ∧ CallPost B ρ σ w r k v' w' := by
  obtain ⟨args'⟩ := args'
  simp only at hl
  unfold ext at h
  split at h
  · -- Add64
    split at h
    · rename_i x y c hc
      obtain ⟨x', l, rfl, hx, hl⟩ := hl.cons_left
      obtain ⟨y', l, rfl, hy, hl⟩ := hl.cons_left
      obtain ⟨c', rfl, hc'⟩ := hl.one
      cases hx; cases hy; cases hc'
      refine ⟨_, rfl, _, w, ?_, ρ, σ, _, h, hS, Step.refl _ _ _, VRel.tuple' (All2.cons (.int _ _) (All2.cons (.int _ _) All2.nil))⟩
      have hc1 : ¬ (c.toNat > 1) := by omega
      change Sem.run P (do
        let (x, y, c) ← (do
          let c := (← asInt (.int .u64 c)).toNat
          if c > 1 then unsupported (.noEntry ("extern/math/bits." ++ "Add64" ++ ": a carry that is neither 0 nor 1"))
          pure ((← asInt (.int .u64 x)).toNat, (← asInt (.int .u64 y)).toNat, c))
        pure (Extern.MathBitsCarry.pair ((x + y + c) % Extern.MathBitsCarry.m64) ((x + y + c) / Extern.MathBitsCarry.m64))) w = _
      simp only [asInt, run_asIntOf', Sem.run_bind, Sem.run_pure, Result.andThen_ok, if_neg hc1]
      rfl
    · cases h
  · obtain ⟨p', rfl, hp⟩ := hl.one
    obtain ⟨v, v', ad, hk, hv, rfl, hc, hz⟩ := extLd hS hp h
    split at hk
    · cases hv
      exact ⟨_, rfl, _, w, by
        change Sem.run P (do Extern.Atomic.read (.int .u32) (← asAddr (.pointer (some ad)))) w = _
        simp [Extern.Atomic.read, asAddr, hc], ρ, σ, _, hk, hS, Step.refl _ _ _, .int _ _⟩
    · cases hk
  · obtain ⟨p', rfl, hp⟩ := hl.one
    obtain ⟨v, v', ad, hk, hv, rfl, hc, hz⟩ := extLd hS hp h
    split at hk
    · cases hv
      exact ⟨_, rfl, _, w, by
        change Sem.run P (do Extern.Atomic.read (.int .u64) (← asAddr (.pointer (some ad)))) w = _
        simp [Extern.Atomic.read, asAddr, hc], ρ, σ, _, hk, hS, Step.refl _ _ _, .int _ _⟩
    · cases hk
  · obtain ⟨p', l, rfl, hp, hl⟩ := hl.cons_left
    obtain ⟨x', rfl, hx⟩ := hl.one
    cases hx
    obtain ⟨σ', ad, v, hk, rfl, hc, hz, h1, h2⟩ := extSt hS hp h
    refine ⟨_, rfl, _, _, ?_, ρ, σ', _, hk, h1, h2, VRel.tuple' All2.nil⟩
    change Sem.run P (do
      store (← asAddr (.pointer (some ad))) (.int _ _) .atomic
      pure Extern.Atomic.none_) w = _
    simp only [asAddr, Sem.run_bind, Sem.run_pure, Result.andThen_ok, run_store_int' hc hz]
    rfl
  · obtain ⟨p', l, rfl, hp, hl⟩ := hl.cons_left
    obtain ⟨x', rfl, hx⟩ := hl.one
    cases hx
    obtain ⟨v, v', ad, hk, hv, rfl, hc, hz⟩ := extLd hS hp h
    split at hk
    · cases hv
      obtain ⟨σ', ad', v, hk, he, hc', hz', h1, h2⟩ := extSt hS hp hk
      cases he
      refine ⟨_, rfl, _, _, ?_, ρ, σ', _, hk, h1, h2, .int _ _⟩
      change Sem.run P (do
        let a ← asAddr (.pointer (some ad))
        let old ← Extern.Atomic.read (.int .u64) a
        let new ← Op.intArith .add .u64 (← asInt old) (← asInt (.int .u64 _))
        store a new .atomic
        pure new) w = _
      simp [Extern.Atomic.read, asAddr, asInt, run_asIntOf', Op.intArith, Op.intBits, hc, run_store_int' hc hz]
    · cases hk
  · obtain ⟨p', l, rfl, hp, hl⟩ := hl.cons_left
    obtain ⟨x', rfl, hx⟩ := hl.one
    cases hx
    obtain ⟨v, v', ad, hk, hv, rfl, hc, hz⟩ := extLd hS hp h
    split at hk
    · cases hv
      obtain ⟨σ', ad', v, hk, he, hc', hz', h1, h2⟩ := extSt hS hp hk
      cases he
      refine ⟨_, rfl, _, _, ?_, ρ, σ', _, hk, h1, h2, .int _ _⟩
      change Sem.run P (do
        let a ← asAddr (.pointer (some ad))
        let old ← Extern.Atomic.read (.int .u32) a
        let new ← Op.intBits .and .u32 (← asInt old) (← asInt (.int .u32 _))
        store a new .atomic
        pure old) w = _
      simp [Extern.Atomic.read, asAddr, asInt, run_asIntOf', Op.intArith, Op.intBits, hc, run_store_int' hc hz]
      rfl
    · cases hk
  · obtain ⟨p', l, rfl, hp, hl⟩ := hl.cons_left
    obtain ⟨x', rfl, hx⟩ := hl.one
    cases hx
    obtain ⟨v, v', ad, hk, hv, rfl, hc, hz⟩ := extLd hS hp h
    split at hk
    · cases hv
      obtain ⟨σ', ad', v, hk, he, hc', hz', h1, h2⟩ := extSt hS hp hk
      cases he
      refine ⟨_, rfl, _, _, ?_, ρ, σ', _, hk, h1, h2, .int _ _⟩
      change Sem.run P (do
        let a ← asAddr (.pointer (some ad))
        let old ← Extern.Atomic.read (.int .u32) a
        let new ← Op.intBits .or .u32 (← asInt old) (← asInt (.int .u32 _))
        store a new .atomic
        pure old) w = _
      simp [Extern.Atomic.read, asAddr, asInt, run_asIntOf', Op.intArith, Op.intBits, hc, run_store_int' hc hz]
      rfl
    · cases hk
  · cases h

end
end Go.Abs
namespace Go.Abs

section
variable {P : Program} {cfg : Cfg} {ρ : Ren} {w : World} {α : Type} {r : α} {B : Nat → Bool} {σ : St} {ρ0 : Ren} {σ0 : St} {w0 : World} {β : Nat → Nat} {fr : Fr} {a : Act}

theorem wpS_mono {c : Code} {Q Q' : Exit → Act → List Frame → World → Prop} {cs : List Frame} (h : c.wpS P Q a cs w) (hq : ∀ e a cs w, Q e a cs w → Q' e a cs w) : c.wpS P Q' a cs w :=
  fun b k hb hr => let ⟨e, a', cs', w', q, x⟩ := h b k hb hr; ⟨e, a', cs', w', hq _ _ _ _ q, x⟩

theorem AfterD.of {esc : Nat} {u : FrameMode} {rc : Rec} {k : Fr → St → Option α} (hrc : RcRel ρ0 σ0.next rc u)
    (h : After B ρ0 σ0 w0 r esc .no (fun fr' σ => k { fr' with rc := rc } σ) a w) : AfterD B ρ0 σ0 w0 r esc u k a w := by
  obtain ⟨ρ, β, fr, σ, hk, hI, he, hr⟩ := h
  exact ⟨ρ, β, { fr with rc := rc }, σ, hk, hI.rc rc, he, hrc⟩

theorem execD_sound {callF : (γ : Type) → CallF γ} (hC : CallsOK P B callF) (hD : DrawOK P B callF) {esc : Nat} {c0 : Frame} {cs : List Frame} :
    ∀ (c : Code) {fr : Fr} {σ : St} {ρ : Ren} {β : Nat → Nat} {a : Act} {w : World} {u : FrameMode} {k : Ex → Fr → St → Option α},
    execD P (callF α) c fr σ k = some r → Inv B ρ0 σ0 w0 ρ β fr σ a w → fr.esc = esc → RcRel ρ0 σ0.next fr.rc u → c.wpS P (DPost B ρ0 σ0 w0 r esc c0 cs k) a ({ c0 with mode := u } :: cs) w := by
  have other : ∀ (c : Code) {fr : Fr} {σ : St} {ρ : Ren} {β : Nat → Nat} {a : Act} {w : World} {u : FrameMode} {k : Ex → Fr → St → Option α},
      execK P (callF α) c { fr with rc := .no } σ (fun e fr' σ => k e { fr' with rc := fr.rc } σ) = some r → Inv B ρ0 σ0 w0 ρ β fr σ a w → fr.esc = esc → RcRel ρ0 σ0.next fr.rc u →
      c.wpS P (DPost B ρ0 σ0 w0 r esc c0 cs k) a ({ c0 with mode := u } :: cs) w := by
    intro c fr σ ρ β a w u k h hI he hr
    refine wpS_of_wp (wp_mono (execK_sound hC hD c h (hI.rc .no) he rfl) fun e a w hq => ?_)
    refine ⟨u, rfl, ?_⟩
    cases e with
    | normal => exact AfterD.of hr hq
    | exit id => exact AfterD.of hr hq
    | ret => exact AfterD.of hr hq
    | panic ch =>
      obtain ⟨v', _, ρ', β', fr', σ', v, hk, hI', _, he', _⟩ := hq
      exact ⟨v, ρ', β', { fr' with rc := fr.rc }, σ', hk, hI'.rc _, he', hr⟩
    | goto l => exact hq.elim
    | outgrown => exact hq.elim
  intro c
  induction c with
  | seq x y ihx ihy =>
    intro fr σ ρ β a w u k h hI he hr
    simp only [execD] at h
    refine wpS_seq (wpS_mono (ihx h hI he hr) fun e a cs' w hq => ?_)
    obtain ⟨u', rfl, hq⟩ := hq
    cases e with
    | normal =>
      obtain ⟨ρ', β', fr', σ', hk, hI', he', hr'⟩ := hq
      exact ihy hk hI' he' hr'
    | exit id => exact ⟨u', rfl, hq⟩
    | goto l => exact hq.elim
    | ret => exact ⟨u', rfl, hq⟩
    | panic ch => exact ⟨u', rfl, hq⟩
    | outgrown => exact hq.elim
  | cond c x y ihx ihy =>
    intro fr σ ρ β a w u k h hI he hr
    simp only [execD] at h
    replace h := valK_some h; obtain ⟨v, hv, h⟩ := h
    have hvr := ev_val hI hv
    rcases condK_some h with ⟨rfl, h⟩ | ⟨rfl, h⟩
    · have hce : a.eval c = .bool true := by generalize a.eval c = q at hvr; cases hvr; rfl
      exact wpS_cond hce (ihx h hI he hr)
    · have hce : a.eval c = .bool false := by generalize a.eval c = q at hvr; cases hvr; rfl
      exact wpS_cond hce (ihy h hI he hr)
  | region id ops draw =>
    intro fr σ ρ β a w u k h hI he hr
    cases draw with
    | false =>
      simp only [execD] at h
      exact wpS_region (opsS_sound (hC.ok α r) (fun u a w hA => ⟨u, rfl, hA⟩) (fun u v' a w hA => ⟨u, rfl, hA⟩) _ h hI he hr)
    | true =>
      simp only [execD] at h
      exact other _ h hI he hr
  | _ =>
    intro fr σ ρ β a w u k h hI he hr
    simp only [execD] at h
    exact other _ h hI he hr

end
end Go.Abs
namespace Go.Abs

theorem run_callFunc_enter {P : Program} {f : FuncId} {fn : Func} {c : Code} (hf : P.funcs[f]? = some fn) (hname : (fn.name == "runtime.NumGoroutine") = false) (hb : fn.body = some c) (args : Array Value) (w : World) :
    (callFunc f args).run P w = .ok (.enter f args) w := by
  have h1 : fn.name ≠ "runtime.NumGoroutine" := by simpa using hname
  simp [callFunc, hf, h1, hb]

section
variable {P : Program} {cfg : Cfg} {ρ : Ren} {w : World} {α : Type} {r : α} {B : Nat → Bool} {σ : St} {ρ0 : Ren} {σ0 : St} {w0 : World} {β : Nat → Nat} {fr : Fr} {a : Act}

structure ProgOK (P : Program) (cfg : Cfg) : Prop where
  name : ∀ (f : Nat) (fn : Func), P.funcs[f]? = some fn → (fn.name == "runtime.NumGoroutine") = false
  ext : ∀ (f : Nat) (fn : Func) (e : Nat) s, P.funcs[f]? = some fn → fn.body = none → cfg.ext f = some e → extSem e = some s → Extern.findNext fn = none ∧ Extern.find fn = some s

def DrawAll (P : Program) (B : Nat → Bool) : Prop := ∀ callF : (γ : Type) → CallF γ, CallsOK P B callF → DrawOK P B callF

theorem inv_frame0 (hS : SRel B ρ σ w) {args : List AVal} {args' : Array Value} (hl : LRel ρ σ.next args args'.toList) (f : FuncId) (fn : Func) (rc : Rec) :
    Inv B ρ σ w ρ (fun _ => 0) (frame0 cfg f fn args rc) σ { tmps := args' ++ Array.replicate (fn.ntmps - args'.size) undef, defers := [] } w := by
  have hlen : args.length = args'.size := by simpa using hl.1
  have hnob : ∀ (t : Nat) (cs : List AVal), (frame0 cfg f fn args rc).slots[t]? = some (.box cs) → False := fun t cs h => by
    simp only [frame0] at h
    rw [List.getElem?_append] at h
    split at h
    · rw [List.getElem?_map] at h
      cases h2 : args[t]? <;> rw [h2] at h <;> simp at h
    · rw [List.getElem?_replicate] at h
      split at h <;> simp [Slot.undef] at h
  refine ⟨hS, Step.refl _ _ _, ⟨by simp [frame0, hlen], fun t s v hs hv => ?_, fun t cs h => (hnob t cs h).elim, fun t t' cs cs' h => (hnob t cs h).elim, All2.nil⟩⟩
  simp only [frame0] at hs
  rw [List.getElem?_append] at hs
  rw [Array.getElem?_append] at hv
  simp only [List.length_map, hlen] at hs
  split at hs
  · rename_i hlt
    rw [if_pos hlt] at hv
    rw [List.getElem?_map] at hs
    cases h2 : args[t]? with
    | none => rw [h2] at hs; simp at hs
    | some x =>
      rw [h2] at hs; simp at hs; subst hs
      exact .val (hl.2 t x v h2 (by simpa using hv))
  · rename_i hlt
    rw [if_neg hlt] at hv
    rw [List.getElem?_replicate] at hs
    split at hs <;> simp at hs
    subst hs
    rw [Array.getElem?_replicate] at hv
    split at hv
    · simp at hv
      subst hv
      exact .val VRel.undef
    · omega

def MdRel (ρ : Ren) (N : Nat) : Md → FrameMode → Prop
  | .returning, u => u = .returning
  | .panicking v, u => ∃ v', VRel ρ N v v' ∧ u = .panicking [{ v := v', recovered := false }]

def EndOK (B : Nat → Bool) (ρ : Ren) (σ : St) (w : World) (r : α) (k kp : AVal → St → Option α) : Ending → World → Prop
  | .returned v, w' => CallPost B ρ σ w r k v w'
  | .panicked chain, w' => ∃ v, chain = [{ v := v, recovered := false }] ∧ CallPost B ρ σ w r kp v w'
  | .outgrown, _ => False

theorem mdRel_settle {m : Md} {rc : Rec} {u : FrameMode} {N : Nat} (h : RcRel ρ N rc u) : MdRel ρ N (m.settle rc) (settle u) := by
  cases rc with
  | no => exact h.elim
  | cannot => cases h; rfl
  | can v => obtain ⟨v', hv, rfl⟩ := h; exact ⟨v', hv, rfl⟩
  | done => obtain ⟨v', rfl⟩ := h; rfl

theorem rcRel_md {m : Md} {u : FrameMode} {N : Nat} (h : MdRel ρ N m u) : RcRel ρ N m.rc u := by
  cases m with
  | returning => exact h
  | panicking v => exact h

theorem leaveK_sound (hP : ProgOK P cfg) {callF : (γ : Type) → CallF γ} (hC : CallsOK P B callF) (hD : DrawOK P B callF) {fn : Func} {k kp : AVal → St → Option α} :
    ∀ (l : List (FuncId × List AVal)) {m : Md} {σ : St} {ρ : Ren} {w : World} {ds : List Deferred} {u : FrameMode}, leaveK P cfg (callF α) fn fr k kp l m σ = some r → Inv B ρ0 σ0 w0 ρ β fr σ a w →
      All2 (DRel ρ σ.next) l ds → MdRel ρ σ.next m u → Leaves P fn a.tmps (EndOK B ρ0 σ0 w0 r k kp) ds u w := by
  intro l
  induction l with
  | nil =>
    intro m σ ρ w ds u h hI hd hm
    obtain rfl := hd.nil_left
    cases m with
    | returning =>
      cases hm
      simp only [leaveK] at h
      obtain ⟨vs, v', h1, h2, h3⟩ := resultsK_sound hI h
      exact ⟨v', h3, ρ, σ, _, h1, hI.s, hI.st, h2⟩
    | panicking v =>
      obtain ⟨v', hv, rfl⟩ := hm
      exact ⟨v', rfl, ρ, σ, _, h, hI.s, hI.st, hv⟩
  | cons d l ih =>
    intro m σ ρ w ds u h hI hd hm
    obtain ⟨f, args⟩ := d
    obtain ⟨d', ds', rfl, hd1, hds⟩ := hd.cons_left
    simp only [leaveK] at h
    cases hf : P.funcs[f]? with
    | none => rw [hf] at h; cases h
    | some g =>
      rw [hf] at h
      cases hb : g.body with
      | none => simp only [hb] at h; cases h
      | some c =>
        simp only [hb] at h
        obtain ⟨cap, ht, hl⟩ := hd1
        have hu : u ≠ .run := by cases m with
          | returning => rw [show u = .returning from hm]; simp
          | panicking v => obtain ⟨v', _, rfl⟩ := hm; simp
        refine ⟨hu, _, cap, f, d'.args ++ cap, ht, by rw [ht]; exact run_callFunc_enter hf (hP.name f g hf) hb _ w, ?_⟩
        refine callsD_of_wpS hf hb fun c₀ cs hc => ?_
        have hcc : ({ c₀ with mode := u } : Frame) = c₀ := by subst hc; rfl
        have hx := execD_sound hC hD (c0 := c₀) (cs := cs) c h (inv_frame0 (cfg := cfg) hI.s hl f g m.rc) rfl (rcRel_md hm)
        rw [hcc] at hx
        refine wpS_mono hx fun e a' cs' w' hq => ?_
        obtain ⟨u', rfl, hq⟩ := hq
        have fin : ∀ {k' : Fr → St → Option α}, AfterD B ρ σ w r (cfg.esc f) u' k' a' w' → (∀ fr' σ', k' fr' σ' = match fr'.defers with
              | [] => resultsK P fr' σ' g.results.toList fun _ => leaveK P cfg (callF α) fn fr k kp l (m.settle fr'.rc) σ'
              | _ => none) → a'.defers = [] ∧ ∃ v, (results g a'.tmps).run P w' = .ok v w' ∧ Leaves P fn a.tmps (EndOK B ρ0 σ0 w0 r k kp) ds' (settle u') w' := by
          rintro k' ⟨ρ', β', fr', σ', hk, hI', he', hr'⟩ hk'
          rw [hk'] at hk
          split at hk
          · rename_i hfd
            have hdf := hI'.f.defers
            rw [hfd] at hdf
            obtain ⟨vs, v', h1, h2, h3⟩ := resultsK_sound hI' hk
            refine ⟨hdf.nil_left, v', h3, ih h1 (hI.global hI'.s hI'.st) (hds.mono fun x y hxy => ?_) (mdRel_settle (hr'.mono hI'.st.next hI'.st.ren))⟩
            obtain ⟨cap, hc, hl⟩ := hxy
            exact ⟨cap, hc, hl.mono' hI'.st.next hI'.st.ren⟩
          · cases hk
        cases e with
        | normal =>
          obtain ⟨h1, v, h2, h3⟩ := fin hq (fun _ _ => rfl)
          exact ⟨h1, u', rfl, v, h2, h3⟩
        | ret =>
          obtain ⟨h1, v, h2, h3⟩ := fin hq (fun _ _ => rfl)
          exact ⟨h1, u', rfl, v, h2, h3⟩
        | exit id => obtain ⟨_, _, _, _, hk, _⟩ := hq; cases hk
        | panic ch => obtain ⟨_, _, _, _, _, hk, _⟩ := hq; cases hk
        | goto l => exact hq.elim
        | outgrown => exact hq.elim

theorem bodyK_sound (hP : ProgOK P cfg) {callF : (γ : Type) → CallF γ} (hC : CallsOK P B callF) (hD : DrawOK P B callF) {f : FuncId} {fn : Func} {c : Code} {args : List AVal} {args' : Array Value} {k kp : AVal → St → Option α}
    (hf : P.funcs[f]? = some fn) (hb : fn.body = some c) (h : bodyK P cfg (callF α) f fn c args σ k kp = some r) (hS : SRel B ρ σ w) (hl : LRel ρ σ.next args args'.toList) :
    Calls P f args' w (EndOK B ρ σ w r k kp) := by
  refine calls_of_wp_defers hf hb (wp_mono (execK_sound hC hD c h (inv_frame0 hS hl f fn .no) rfl rfl) fun e a' w' hq => ?_)
  cases e with
  | normal => obtain ⟨ρ', β', fr', σ', hk, hI, _, _⟩ := hq; exact leaveK_sound hP hC hD _ hk hI hI.f.defers rfl
  | ret => obtain ⟨ρ', β', fr', σ', hk, hI, _, _⟩ := hq; exact leaveK_sound hP hC hD _ hk hI hI.f.defers rfl
  | panic ch => obtain ⟨v', rfl, ρ', β', fr', σ', v, hk, hI, hv, _, _⟩ := hq; exact leaveK_sound hP hC hD _ hk hI hI.f.defers ⟨v', hv, rfl⟩
  | exit id => obtain ⟨_, _, _, _, hk, _⟩ := hq; cases hk
  | goto l => exact hq.elim
  | outgrown => exact hq.elim

theorem callPost_pure (hS : SRel B ρ σ w) {k : AVal → St → Option α} {v' : Value} {w' : World}
    (h : CallPost B ρ σ.locked w r (fun v _ => match v.old σ.next with | true => k v σ | false => none) v' w') : CallPost B ρ σ w r k v' w' := by
  obtain ⟨ρ', σ', v, hk, h1, h2, h3⟩ := h
  simp only at hk
  split at hk
  · rename_i ho
    have := hS.forget h2
    have hv := h3.of_old ho
    exact ⟨ρ, σ, v, hk, this.1, this.2, hv.mono (Nat.le_refl _) (fun n hn => (h2.ren n hn).symm)⟩
  · cases hk

theorem callN_sound (hP : ProgOK P cfg) (hD : DrawAll P B) : ∀ n, CallsOK P B (fun _ => callN P cfg n) := by
  intro n
  induction n with
  | zero => exact ⟨fun γ r f args σ k kp h => by simp [callN] at h, fun γ δ g => callN_nat 0⟩
  | succ n ih =>
    refine ⟨fun γ r f args σ k kp h ρ w args' hS hl => ?_, fun γ δ g => callN_nat (n + 1)⟩
    simp only [callN] at h
    cases hf : P.funcs[f]? with
    | none => rw [hf] at h; cases h
    | some fn =>
      rw [hf] at h
      cases hb : fn.body with
      | none =>
        simp only [hb] at h
        cases he : cfg.ext f with
        | none => rw [he] at h; cases h
        | some e =>
          rw [he] at h
          obtain ⟨s, hs, v', w', hr, hp⟩ := ext_sound (P := P) h hS hl
          obtain ⟨h1, h2⟩ := hP.ext f fn e s hf hb he hs
          refine .inl ⟨v', w', ?_, hp⟩
          rw [run_callFunc_extern hf (hP.name f fn hf) (by simp [hb]) h1 h2, hr]
          rfl
      | some c =>
        simp only [hb] at h
        refine .inr ⟨run_callFunc_enter hf (hP.name f fn hf) hb _ w, ?_⟩
        cases hpu : cfg.pure f with
        | false =>
          rw [hpu] at h
          refine (bodyK_sound hP ih (hD _ ih) hf hb h hS hl).mono fun e w' he => ?_
          cases e with
          | returned v => exact he
          | panicked ch => exact he
          | outgrown => exact he
        | true =>
          rw [hpu] at h
          refine (bodyK_sound (σ := σ.locked) hP ih (hD _ ih) hf hb h hS.locked hl).mono fun e w' he => ?_
          cases e with
          | returned v => exact callPost_pure hS he
          | panicked ch => obtain ⟨v, hv, hh⟩ := he; exact ⟨v, hv, callPost_pure hS hh⟩
          | outgrown => exact he

end
end Go.Abs
namespace Go.Abs

/-! ### what an operation of a drawn region does, told without its frame -/

inductive Eff where
  | put (s : Slot)
  | newBox (cs : List AVal)
  | wr (s : Nat) (cs : List AVal)

def Fr.app (fr : Fr) (dst : Option Tmp) : Eff → Fr
  | .put s => fr.put dst s
  | .newBox cs => match dst with
    | some d => fr.newBox d cs
    | none => fr
  | .wr s cs => { fr with slots := fr.slots.set s (.box cs) }.put dst Slot.undef

def evsF (ev : Operand → Option Slot) : List Operand → Option (List AVal)
  | [] => some []
  | x :: r => match ev x, evsF ev r with
    | some (.val v), some l => some (v :: l)
    | _, _ => none

def evOptF (ev : Operand → Option Slot) : Option Operand → Option (Option AVal)
  | none => some none
  | some x => match ev x with
    | some (.val v) => some (some v)
    | _ => none

def evPartsF (ev : Operand → Option Slot) : List (Nat × Operand) → Option (List (Nat × AVal))
  | [] => some []
  | (i, x) :: r => match ev x, evPartsF ev r with
    | some (.val v), some l => some ((i, v) :: l)
    | _, _ => none

section
variable {α : Type}

def opE (P : Program) (callF : CallF α) (o : Oper) (ev : Operand → Option Slot) (box : Nat → Option (List AVal)) (esc : Nat) (σ : St) (k : Eff → St → Option α) : Option α :=
  match o.op with
  | .move x | .assign x => match ev x with
    | some s => k (.put s) σ
    | none => none
  | .pick c a b => valK (ev c) fun c => match c with
    | .bool true => valK (ev a) fun v => k (.put (.val v)) σ
    | .bool false => valK (ev b) fun v => k (.put (.val v)) σ
    | _ => none
  | .alloc t => match o.dst, zeroT P t with
    | some d, some z => match esc.testBit d with
      | true => allocK σ (.cells 0 z) fun v σ => k (.put (.val v)) σ
      | false => k (.newBox z) σ
    | _, _ => none
  | .box _ x => valK (ev x) fun v => match v.isData, o.dst with
    | true, some d => match esc.testBit d with
      | true => allocK σ (.cells 0 v.cells) fun v σ => k (.put (.val v)) σ
      | false => k (.newBox v.cells) σ
    | _, _ => none
  | .build t parts => match zeroT P t, placeT P t, evPartsF ev parts.toList with
    | some z, some pl, some ps => fillK pl ps z fun cs => k (.put (.val (.agg cs))) σ
    | _, _, _ => none
  | .buildSlice t len parts => match P.underlying t, evPartsF ev parts.toList with
    | some (.slice e), some ps => match zeroT P e, sizeT P e with
      | some z, some size => if z.length = size ∧ 0 < size ∧ len * size ≤ 16777216 then
          fillK (fun i => some (i * size, size)) ps (List.replicate len z).flatten fun cs =>
            k (.put (.val (.slice (some (σ.next, 0)) len))) (σ.new (.cells size cs))
        else none
      | _, _ => none
    | _, _ => none
  | .load t a => match aggT P t, sizeT P t, ev a with
    | some g, some size, some (.ref s off) => match box s with
      | some cs => partK g cs off size fun v => k (.put (.val v)) σ
      | none => none
    | some g, some size, some (.val p) => ldK σ g size p fun v => k (.put (.val v)) σ
    | _, _, _ => none
  | .store t a x => match sizeT P t, ev a with
    | some size, some (.ref s off) => valK (ev x) fun v => match box s with
      | some cs => putK cs off size v fun cs' => k (.wr s cs') σ
      | none => none
    | some size, some (.val p) => valK (ev x) fun v => stK σ size p v fun σ => k (.put Slot.undef) σ
    | _, _ => none
  | .nilCheck x => match ev x with
    | some (.ref s off) => k (.put (.ref s off)) σ
    | some (.val v) => ncK v fun _ => k (.put (.val v)) σ
    | _ => none
  | .binOp op t x y _ => valK (ev x) fun v => valK (ev y) fun w => binK P op t (isConstO x || isConstO y) v w fun r => k (.put (.val r)) σ
  | .unOp op _ x => valK (ev x) fun v => unK op v fun r => k (.put (.val r)) σ
  | .convert s d x => valK (ev x) fun v => convK P s d v fun r => k (.put (.val r)) σ
  | .makeInterface t x => match P.underlying t with
    | some (.interface _) | none => none
    | some _ => valK (ev x) fun v => k (.put (.val (.iface t v))) σ
  | .makeFunc fn first captured => match evsF ev first.toList, evsF ev captured.toList with
    | some a, some b => k (.put (.val (.func fn a b))) σ
    | _, _ => none
  | .makeMap t none => match P.underlying t with
    | some (.map _ _) => allocK σ (.map []) fun v σ => match v with
      | .ptr (some (n, _)) => k (.put (.val (.map (some n)))) σ
      | _ => none
    | _ => none
  | .makeSlice t l c => valK (ev l) fun l => valK (ev c) fun c => makeSliceK P σ t l c fun v σ => k (.put (.val v)) σ
  | .slice t x lo hi none => valK (ev x) fun x => match evOptF ev lo, evOptF ev hi with
    | some lo, some hi => sliceK P σ t x lo hi fun v => k (.put (.val v)) σ
    | _, _ => none
  | .fieldAddr t x i => match fieldOff P t i with
    | some (off, _, size) => if size = 0 then none else match ev x with
      | some (.ref s o0) => k (.put (.ref s (o0 + off))) σ
      | some (.val p) => addK p off fun v => k (.put (.val v)) σ
      | _ => none
    | none => none
  | .field t x i => match fieldOff P t i with
    | some (off, ft, size) => match aggT P ft with
      | some g => valK (ev x) fun v => match v with
        | .agg cs => partK g cs off size fun v => k (.put (.val v)) σ
        | _ => none
      | none => none
    | none => none
  | .indexAddr t x ix => valK (ev ix) fun i => match ev x with
    | some (.ref s off) => match P.underlying t, i with
      | some (.array len e), .int _ i => match sizeT P e with
        | some size => if 0 ≤ i ∧ i < len then k (.put (.ref s (off + i.toNat * size))) σ else none
        | none => none
      | _, _ => none
    | some (.val x) => idxAddrK P t x i fun v => k (.put (.val v)) σ
    | _ => none
  | .index t x ix => valK (ev x) fun x => valK (ev ix) fun i => idxK P t x i fun v => k (.put (.val v)) σ
  | .lookup t m key ok => valK (ev m) fun m => valK (ev key) fun key => lookupK P σ t m key ok fun v => k (.put (.val v)) σ
  | .mapUpdate t m key x | .insert t m key x => valK (ev m) fun m => valK (ev key) fun key => valK (ev x) fun v => mapSetK P σ t m key v fun σ => k (.put Slot.undef) σ
  | .typeAssert x _ t ok => valK (ev x) fun v => assertK P v t ok fun v => k (.put (.val v)) σ
  | .extract x i => valK (ev x) fun v => extractK v i fun v => k (.put (.val v)) σ
  | .call c => match c.callee, evsF ev c.args.toList with
    | .value f, some args => valK (ev f) fun f => callV callF f args σ (fun v σ => k (.put (.val v)) σ) (fun _ _ => none)
    | .invoke r name, some args => valK (ev r) fun r => match r with
      | .iface t v => match methodOf P 5 t v name with
        | some (f, recv) => callF f (recv :: args) σ (fun v σ => k (.put (.val v)) σ) (fun _ _ => none)
        | none => none
      | _ => none
    | .builtin b, some args => match b, args with
      | .len, [x] => match c.argTypes[0]? with
        | some t => lenK P t x fun v => k (.put (.val v)) σ
        | none => none
      | .append, [s, x] => match c.argTypes[0]?, c.argTypes[1]? with
        | some t, some t' => match P.underlying t' with
          | some (.slice _) => appendK P σ t s x fun v σ => k (.put (.val v)) σ
          | _ => none
        | _, _ => none
      | .min, l => minmaxK false l fun v => k (.put (.val v)) σ
      | .max, l => minmaxK true l fun v => k (.put (.val v)) σ
      | _, _ => none
    | _, none => none
  | _ => none

end

section
variable {P : Program} {α β : Type} {σ : St} {g : α → Option β}

theorem evs_eq (fr : Fr) : ∀ l, fr.evs l = evsF fr.ev l
  | [] => rfl
  | x :: r => by simp only [Fr.evs, evsF, evs_eq fr r]; rfl
theorem evOpt_eq (fr : Fr) (x : Option Operand) : fr.evOpt x = evOptF fr.ev x := by cases x <;> rfl
theorem evParts_eq (fr : Fr) : ∀ l, fr.evParts l = evPartsF fr.ev l
  | [] => rfl
  | (i, x) :: r => by simp only [Fr.evParts, evPartsF, evParts_eq fr r]; rfl

theorem opK_E {callF : CallF α} {o : Oper} {fr : Fr} (h : (accOf fr o).isSome = true) (k : Fr → St → Option α) :
    opK P callF o fr σ k (fun _ _ _ => none) = opE P callF o fr.ev fr.boxAt fr.esc σ (fun e σ => k (fr.app o.dst e) σ) := by
  obtain ⟨dst, op, ty, pos, after, guard⟩ := o
  cases op <;> simp only [opK, opE, evs_eq, evOpt_eq, evParts_eq]
  case alloc t => cases dst <;> cases zeroT P t <;> rfl
  case box t x => congr 1; funext v; cases dst <;> cases v.isData <;> rfl
  case makeMap t r => cases r <;> rfl
  case slice t x lo hi mx => cases mx <;> simp only [evOpt_eq] <;> rfl
  case call c =>
    cases hc : c.callee with
    | value f => cases evsF fr.ev c.args.toList <;> rfl
    | invoke r n => cases evsF fr.ev c.args.toList <;> rfl
    | builtin b =>
      cases evsF fr.ev c.args.toList with
      | none => rfl
      | some args =>
        cases b <;> simp only [accOf, hc, Option.isSome_none, Bool.false_eq_true] at h <;> rcases args with _ | ⟨x, _ | ⟨y, _ | ⟨z, l⟩⟩⟩ <;> rfl
  all_goals first | rfl | (simp [accOf] at h; done)

theorem opE_bind {cA : CallF α} {cB : CallF β} (h : NatF cA cB g) (o : Oper) (ev : Operand → Option Slot) (box : Nat → Option (List AVal)) (esc : Nat) (k : Eff → St → Option α) :
    (opE P cA o ev box esc σ k).bind g = opE P cB o ev box esc σ (fun e σ => (k e σ).bind g) := by
  obtain ⟨dst, op, ty, pos, after, guard⟩ := o
  cases op <;> simp only [opE]
  case move x | assign x => split <;> rfl
  case pick c x y => rw [valK_bind]; congr 1; funext v; split <;> first | rfl | exact valK_bind _ _
  case alloc t => split <;> first | rfl | (split <;> rfl)
  case box t x => rw [valK_bind]; congr 1; funext v; split <;> first | rfl | (split <;> rfl)
  case build t ps => split <;> first | rfl | exact fillK_bind _ _ _ _
  case buildSlice t l ps => split <;> first | rfl | (split <;> first | rfl | (split <;> first | rfl | exact fillK_bind _ _ _ _))
  case load t x => split <;> first | rfl | exact ldK_bind _ _ _ _ | (split <;> first | rfl | exact partK_bind _ _ _ _ _)
  case store t x y =>
    split
    · rw [valK_bind]; congr 1; funext v; split <;> first | rfl | exact putK_bind _ _ _ _ _
    · rw [valK_bind]; congr 1; funext v; exact stK_bind _ _ _ _
    · rfl
  case nilCheck x => split <;> first | rfl | exact ncK_bind _ _
  case binOp op t x y yt => rw [valK_bind]; congr 1; funext v; rw [valK_bind]; congr 1; funext u; exact binK_bind _ _ _ _ _ _
  case unOp op t x => rw [valK_bind]; congr 1; funext v; exact unK_bind _ _ _
  case convert s d x => rw [valK_bind]; congr 1; funext v; exact convK_bind _ _ _ _
  case makeInterface t x => split <;> first | rfl | exact valK_bind _ _
  case makeFunc fn a b => split <;> rfl
  case makeMap t r =>
    cases r with
    | none => simp only; split <;> rfl
    | some x => rfl
  case makeSlice t l c => rw [valK_bind]; congr 1; funext v; rw [valK_bind]; congr 1; funext u; exact makeSliceK_bind _ _ _ _
  case slice t x lo hi mx =>
    cases mx with
    | none => simp only; rw [valK_bind]; congr 1; funext v; split <;> first | rfl | exact sliceK_bind _ _ _ _ _
    | some x => rfl
  case fieldAddr t x i => split <;> first | rfl | (split <;> first | rfl | (split <;> first | rfl | exact addK_bind _ _ _))
  case field t x i =>
    split
    · split
      · rw [valK_bind]; congr 1; funext v; split <;> first | rfl | exact partK_bind _ _ _ _ _
      · rfl
    · rfl
  case indexAddr t x ix =>
    rw [valK_bind]; congr 1; funext v
    split
    · split
      · split <;> first | rfl | (split <;> rfl)
      · rfl
    · exact idxAddrK_bind _ _ _ _
    · rfl
  case index t x ix => rw [valK_bind]; congr 1; funext v; rw [valK_bind]; congr 1; funext u; exact idxK_bind _ _ _ _
  case lookup t m key ok => rw [valK_bind]; congr 1; funext v; rw [valK_bind]; congr 1; funext u; exact lookupK_bind _ _ _ _ _
  case mapUpdate t m key x | insert t m key x => rw [valK_bind]; congr 1; funext v; rw [valK_bind]; congr 1; funext u; rw [valK_bind]; congr 1; funext y; exact mapSetK_bind _ _ _ _ _
  case typeAssert x xt t ok => rw [valK_bind]; congr 1; funext v; exact assertK_bind _ _ _ _
  case extract x i => rw [valK_bind]; congr 1; funext v; exact extractK_bind _ _ _
  case call c =>
    split
    · rw [valK_bind]; congr 1; funext v; exact callV_bind h _ _ _ _
    · rw [valK_bind]; congr 1; funext v
      split
      · split
        · exact h _ _ _ _ _
        · rfl
      · rfl
    · split
      · split
        · exact lenK_bind _ _ _
        · rfl
      · split
        · split
          · exact appendK_bind _ _ _ _
          · rfl
        · rfl
      · exact minmaxK_bind _ _ _
      · exact minmaxK_bind _ _ _
      · rfl
    · rfl
  all_goals rfl

theorem evsF_congr {ev ev' : Operand → Option Slot} : ∀ {l : List Operand}, (∀ x ∈ l, ev x = ev' x) → evsF ev l = evsF ev' l
  | [], _ => rfl
  | x :: r, h => by
    have h2 : evsF ev r = evsF ev' r := evsF_congr fun y hy => h y (List.mem_cons_of_mem _ hy)
    simp only [evsF, h x List.mem_cons_self, h2]
theorem evOptF_congr {ev ev' : Operand → Option Slot} {x : Option Operand} (h : ∀ y, x = some y → ev y = ev' y) : evOptF ev x = evOptF ev' x := by
  cases x with
  | none => rfl
  | some y => simp only [evOptF, h y rfl]
theorem evPartsF_congr {ev ev' : Operand → Option Slot} : ∀ {l : List (Nat × Operand)}, (∀ x ∈ l, ev x.2 = ev' x.2) → evPartsF ev l = evPartsF ev' l
  | [], _ => rfl
  | (i, x) :: r, h => by
    have h2 : evPartsF ev r = evPartsF ev' r := evPartsF_congr fun y hy => h y (List.mem_cons_of_mem _ hy)
    have h1 := h (i, x) List.mem_cons_self
    simp only at h1
    simp only [evPartsF, h1, h2]

theorem opE_congr {cF : CallF α} {o : Oper} {ev ev' : Operand → Option Slot} {box box' : Nat → Option (List AVal)} {esc : Nat} {k : Eff → St → Option α} (hev : ∀ x ∈ o.op.operands, ev x = ev' x)
    (hbox : ∀ s off t a, (o.op = .load t a ∨ ∃ x, o.op = .store t a x) → ev a = some (.ref s off) → box s = box' s) :
    opE P cF o ev box esc σ k = opE P cF o ev' box' esc σ k := by
  obtain ⟨dst, op, ty, pos, after, guard⟩ := o
  cases op <;> simp only [Op.operands] at hev <;> simp only [opE]
  case move x | assign x => rw [hev x (by simp)]
  case pick c x y => rw [hev c (by simp), hev x (by simp), hev y (by simp)]
  case box t x => rw [hev x (by simp)]
  case build t ps => rw [evPartsF_congr (ev := ev) (ev' := ev') fun x hx => hev x.2 (by simp; exact ⟨x.1, by simpa using hx⟩)]
  case buildSlice t l ps => rw [evPartsF_congr (ev := ev) (ev' := ev') fun x hx => hev x.2 (by simp; exact ⟨x.1, by simpa using hx⟩)]
  case load t x =>
    have hb := hbox
    rw [← hev x (by simp)]
    split
    · rename_i s off _ _ hx; rw [hbox _ _ _ _ (.inl rfl) hx]
    · rfl
    · rfl
  case store t x y =>
    rw [← hev x (by simp), ← hev y (by simp)]
    split
    · rename_i s off _ hx; rw [hbox _ _ _ _ (.inr ⟨_, rfl⟩) hx]
    · rfl
    · rfl
  case nilCheck x => rw [hev x (by simp)]
  case binOp op t x y yt => rw [hev x (by simp), hev y (by simp)]
  case unOp op t x => rw [hev x (by simp)]
  case convert s d x => rw [hev x (by simp)]
  case makeInterface t x => rw [hev x (by simp)]
  case makeFunc fn a b => rw [evsF_congr (ev := ev) (ev' := ev') (l := a.toList) fun x hx => hev x (by simp at hx; simp [hx]), evsF_congr (ev := ev) (ev' := ev') (l := b.toList) fun x hx => hev x (by simp at hx; simp [hx])]
  case makeMap t r => cases r <;> rfl
  case makeSlice t l c => rw [hev l (by simp), hev c (by simp)]
  case slice t x lo hi mx =>
    cases mx with
    | none =>
      simp only
      rw [hev x (by simp), evOptF_congr (ev := ev) (ev' := ev') (x := lo) fun y hy => hev y (by simp [hy]), evOptF_congr (ev := ev) (ev' := ev') (x := hi) fun y hy => hev y (by simp [hy])]
    | some m => rfl
  case fieldAddr t x i => rw [hev x (by simp)]
  case field t x i => rw [hev x (by simp)]
  case indexAddr t x ix => rw [hev x (by simp), hev ix (by simp)]
  case index t x ix => rw [hev x (by simp), hev ix (by simp)]
  case lookup t m key ok => rw [hev m (by simp), hev key (by simp)]
  case mapUpdate t m key x | insert t m key x => rw [hev m (by simp), hev key (by simp), hev x (by simp)]
  case typeAssert x xt t ok => rw [hev x (by simp)]
  case extract x i => rw [hev x (by simp)]
  case call c =>
    have ha : evsF ev c.args.toList = evsF ev' c.args.toList := evsF_congr fun x hx => hev x (by simp [Call.operands]; exact .inr (by simpa using hx))
    rw [ha]
    cases hc : c.callee with
    | value f => have h1 := hev f (by simp [Call.operands, hc]); cases evsF ev' c.args.toList <;> simp only [h1]
    | invoke r n => have h1 := hev r (by simp [Call.operands, hc]); cases evsF ev' c.args.toList <;> simp only [h1]
    | builtin b => cases evsF ev' c.args.toList <;> rfl

end
end Go.Abs
namespace Go.Abs

def accE (ev : Operand → Option Slot) (esc : Nat) (o : Oper) : Option Acc := accOf { slots := [], defers := [], esc, rc := .no } { o with op := match o.op with
  | .load t a => match ev a with
    | some (.ref s _) => .load t a
    | _ => .load t a
  | op => op }

/-- the name that a value bears -/
def AVal.nm : AVal → Option Nat
  | .ptr (some (n, _)) | .slice (some (n, _)) _ | .map (some n) => some n
  | _ => none

def Reads (σ σ' : St) (o : Oper) (ev : Operand → Option Slot) : Prop := ∀ x ∈ o.op.operands, ∀ v, ev x = some (.val v) → ∀ n, v.nm = some n → σ.get n = σ'.get n

def EffOK (o : Oper) (ev : Operand → Option Slot) (box : Nat → Option (List AVal)) (a : Acc) : Eff → Prop
  | .put s => (∃ v, s = .val v) ∨ (∃ x ∈ o.op.operands, ev x = some s) ∨ (∃ x ∈ o.op.operands, ∃ t o1 o2, ev x = some (.ref t o1) ∧ s = .ref t o2)
  | .newBox _ => ∃ d, o.dst = some d ∧ a = .wrL d
  | .wr s _ => a = .wrL s ∧ ∃ cs, box s = some cs

section
variable {P : Program} {α β : Type} {σ σ' σ1 : St} {r : α}

theorem ex_of_nat {V : Type} (p : {δ : Type} → (V → Option δ) → Option δ) (hn : ∀ {δ ε : Type} (k : V → Option δ) (g : δ → Option ε), (p k).bind g = p fun v => (k v).bind g)
    {k : V → Option α} (h : p k = some r) : ∃ v, k v = some r ∧ ∀ {γ : Type} (k' : V → Option γ), p k' = k' v := by
  have h1 : ∀ {γ : Type} (k' : V → Option γ), p k' = (p some).bind k' := fun k' => by rw [hn]; rfl
  rw [h1] at h
  cases hp : p some with
  | none => rw [hp] at h; cases h
  | some v =>
    rw [hp] at h
    exact ⟨v, h, fun k' => by rw [h1, hp]; rfl⟩

theorem ex_valK {x : Option Slot} {k : AVal → Option α} (h : valK x k = some r) : ∃ v, x = some (.val v) ∧ k v = some r := by
  unfold valK at h; split at h
  · exact ⟨_, rfl, h⟩
  · cases h

theorem ldK_congr {g : Bool} {s : Nat} {p : AVal} {k : AVal → Option α} (h : ∀ n, p.nm = some n → σ.get n = σ'.get n) : ldK σ' g s p k = ldK σ g s p k := by
  unfold ldK; split
  · simp only [cellsK]; rw [h _ rfl]
  · rfl

theorem lookupK_congr {t : TypeId} {m key : AVal} {ok : Bool} {k : AVal → Option α} (h : ∀ n, m.nm = some n → σ.get n = σ'.get n) : lookupK P σ' t m key ok k = lookupK P σ t m key ok k := by
  unfold lookupK; split
  · rw [h _ rfl]
  · rfl

theorem sliceK_congr {t : TypeId} {x : AVal} {lo hi : Option AVal} {k : AVal → Option α} (h : ∀ n, x.nm = some n → σ.get n = σ'.get n) : sliceK P σ' t x lo hi k = sliceK P σ t x lo hi k := by
  unfold sliceK; split
  · rfl
  · rename_i e a len _
    split
    · congr 1; funext a
      split
      · rfl
      · congr 1; funext b
        split
        · simp only [cellsK]; rw [h _ rfl]
        · rfl
    · rfl
  · split
    · simp only [cellsK]; rw [h _ rfl]
    · rfl
  · rfl

/-- an operation that leaves the names' memory as it is -/
theorem opE_S {cF : CallF (Eff × St)} {o : Oper} {fr : Fr} {a : Acc} {e : Eff}
    (h : opE P cF o fr.ev fr.boxAt fr.esc σ (fun e σ => some (e, σ)) = some (e, σ1)) (ha : accOf fr o = some a) (hg : isG a = false) :
    σ1 = σ ∧ EffOK o fr.ev fr.boxAt a e ∧ ((isR a = true → Reads σ σ' o fr.ev) → opE P cF o fr.ev fr.boxAt fr.esc σ' (fun e σ => some (e, σ)) = some (e, σ')) := by
  obtain ⟨dst, op, ty, pos, after, guard⟩ := o
  cases op <;> simp only [opE] at h ⊢
  case move x | assign x =>
    split at h <;> simp at h
    rename_i s hs
    obtain ⟨rfl, rfl⟩ := h
    exact ⟨rfl, .inr (.inl ⟨x, by simp [Op.operands], hs⟩), fun _ => rfl⟩
  case pick c x y =>
    obtain ⟨v, hv, h⟩ := ex_valK h
    rw [hv]
    simp only [valK]
    split at h
    · obtain ⟨u, hu, h⟩ := ex_valK h
      simp at h; obtain ⟨rfl, rfl⟩ := h
      exact ⟨rfl, .inl ⟨_, rfl⟩, fun _ => by rw [hu]⟩
    · obtain ⟨u, hu, h⟩ := ex_valK h
      simp at h; obtain ⟨rfl, rfl⟩ := h
      exact ⟨rfl, .inl ⟨_, rfl⟩, fun _ => by rw [hu]⟩
    · cases h
  case alloc t =>
    split at h
    · rename_i d z hz
      simp only [accOf, Option.some.injEq] at ha
      split at h
      · rename_i he; rw [he] at ha; subst ha; simp [isG] at hg
      · rename_i he; rw [he] at ha; subst ha
        simp at h; obtain ⟨rfl, rfl⟩ := h
        exact ⟨rfl, ⟨d, rfl, rfl⟩, fun _ => by simp only [he]⟩
    · cases h
  case box t x =>
    obtain ⟨v, hv, h⟩ := ex_valK h
    rw [hv]
    simp only [valK]
    split at h
    · rename_i d hd _
      simp only [accOf, Option.some.injEq] at ha
      split at h
      · rename_i he; rw [he] at ha; subst ha; simp [isG] at hg
      · rename_i he; rw [he] at ha; subst ha
        simp at h; obtain ⟨rfl, rfl⟩ := h
        exact ⟨rfl, ⟨d, rfl, rfl⟩, fun _ => by simp only [he]⟩
    · cases h
  case build t ps =>
    split at h
    · rename_i z pl ps' hz hp hps
      obtain ⟨v, hk, hd⟩ := ex_of_nat (fun k => fillK pl ps' z k) (fun k g => fillK_bind _ _ _ _) h
      simp at hk; obtain ⟨rfl, rfl⟩ := hk
      exact ⟨rfl, .inl ⟨_, rfl⟩, fun _ => hd _⟩
    · cases h
  case load t x =>
    simp only [accOf] at ha
    split at h
    · rename_i g size s off hgt hs hx
      rw [hx] at ha
      simp only at ha
      split at h
      · rename_i cs hb
        obtain ⟨v, hk, hd⟩ := ex_of_nat (fun k => partK g cs off size k) (fun k g => partK_bind _ _ _ _ _) h
        simp at hk; obtain ⟨rfl, rfl⟩ := hk
        exact ⟨rfl, .inl ⟨_, rfl⟩, fun _ => hd _⟩
      · cases h
    · rename_i g size p hgt hs hx
      rw [hx] at ha
      simp only [Option.some.injEq] at ha
      obtain ⟨v, hk, hd⟩ := ex_of_nat (fun k => ldK σ g size p k) (fun k g => ldK_bind _ _ _ _) h
      simp at hk; obtain ⟨rfl, rfl⟩ := hk
      refine ⟨rfl, .inl ⟨_, rfl⟩, fun hR => ?_⟩
      rw [ldK_congr (σ := σ) fun n hn => hR (by rw [← ha]; rfl) x (by simp [Op.operands]) p hx n hn]
      exact hd _
    · cases h
  case store t x y =>
    simp only [accOf] at ha
    split at h
    · rename_i size s off hs hx
      rw [hx] at ha
      simp only [Option.some.injEq] at ha
      obtain ⟨v, hv, h⟩ := ex_valK h
      rw [hv]
      simp only [valK]
      split at h
      · rename_i cs hb
        obtain ⟨v, hk, hd⟩ := ex_of_nat (fun k => putK cs off size v k) (fun k g => putK_bind _ _ _ _ _) h
        simp at hk; obtain ⟨rfl, rfl⟩ := hk
        exact ⟨rfl, ⟨ha.symm, cs, hb⟩, fun _ => hd _⟩
      · cases h
    · rename_i size p hs hx
      rw [hx] at ha
      simp only [Option.some.injEq] at ha
      subst ha; simp [isG] at hg
    · cases h
  case nilCheck x =>
    split at h
    · rename_i s off hx
      simp at h; obtain ⟨rfl, rfl⟩ := h
      exact ⟨rfl, .inr (.inl ⟨x, by simp [Op.operands], hx⟩), fun _ => rfl⟩
    · rename_i v hx
      obtain ⟨u, hk, hd⟩ := ex_of_nat (fun k => ncK v k) (fun k g => ncK_bind _ _) h
      simp at hk; obtain ⟨rfl, rfl⟩ := hk
      exact ⟨rfl, .inl ⟨_, rfl⟩, fun _ => hd _⟩
    · cases h
  case binOp op t x y yt =>
    obtain ⟨v, hv, h⟩ := ex_valK h
    obtain ⟨u, hu, h⟩ := ex_valK h
    rw [hv, hu]
    simp only [valK]
    obtain ⟨z, hk, hd⟩ := ex_of_nat (fun k => binK P op t (isConstO x || isConstO y) v u k) (fun k g => binK_bind _ _ _ _ _ _) h
    simp at hk; obtain ⟨rfl, rfl⟩ := hk
    exact ⟨rfl, .inl ⟨_, rfl⟩, fun _ => hd _⟩
  case unOp op t x =>
    obtain ⟨v, hv, h⟩ := ex_valK h
    rw [hv]
    simp only [valK]
    obtain ⟨z, hk, hd⟩ := ex_of_nat (fun k => unK op v k) (fun k g => unK_bind _ _ _) h
    simp at hk; obtain ⟨rfl, rfl⟩ := hk
    exact ⟨rfl, .inl ⟨_, rfl⟩, fun _ => hd _⟩
  case convert s d x =>
    obtain ⟨v, hv, h⟩ := ex_valK h
    rw [hv]
    simp only [valK]
    obtain ⟨z, hk, hd⟩ := ex_of_nat (fun k => convK P s d v k) (fun k g => convK_bind _ _ _ _) h
    simp at hk; obtain ⟨rfl, rfl⟩ := hk
    exact ⟨rfl, .inl ⟨_, rfl⟩, fun _ => hd _⟩
  case makeInterface t x =>
    split at h
    · cases h
    · cases h
    · obtain ⟨v, hv, h⟩ := ex_valK h
      rw [hv]
      simp only [valK]
      simp at h; obtain ⟨rfl, rfl⟩ := h
      exact ⟨rfl, .inl ⟨_, rfl⟩, fun _ => rfl⟩
  case makeFunc fn a b =>
    split at h
    · simp at h; obtain ⟨rfl, rfl⟩ := h
      exact ⟨rfl, .inl ⟨_, rfl⟩, fun _ => rfl⟩
    · cases h
  case slice t x lo hi mx =>
    simp only [accOf, Option.some.injEq] at ha
    cases mx with
    | some m => simp at h
    | none =>
      simp only at h ⊢
      obtain ⟨v, hv, h⟩ := ex_valK h
      rw [hv]
      simp only [valK]
      split at h
      · rename_i l' h' _ _
        obtain ⟨z, hk, hd⟩ := ex_of_nat (fun k => sliceK P σ t v l' h' k) (fun k g => sliceK_bind _ _ _ _ _) h
        simp at hk; obtain ⟨rfl, rfl⟩ := hk
        refine ⟨rfl, .inl ⟨_, rfl⟩, fun hR => ?_⟩
        rw [sliceK_congr (σ := σ) fun n hn => hR (by rw [← ha]; rfl) x (by simp [Op.operands]) v hv n hn]
        exact hd _
      · cases h
  case fieldAddr t x i =>
    split at h
    · split at h
      · cases h
      · split at h
        · rename_i s o0 hx
          simp at h; obtain ⟨rfl, rfl⟩ := h
          exact ⟨rfl, .inr (.inr ⟨x, by simp [Op.operands], s, o0, _, hx, rfl⟩), fun _ => by simp [*]⟩
        · rename_i p hx
          obtain ⟨z, hk, hd⟩ := ex_of_nat (fun k => addK _ _ k) (fun k g => addK_bind _ _ _) h
          simp at hk; obtain ⟨rfl, rfl⟩ := hk
          exact ⟨rfl, .inl ⟨_, rfl⟩, fun _ => by simp [*]⟩
        · cases h
    · cases h
  case field t x i =>
    split at h
    · split at h
      · obtain ⟨v, hv, h⟩ := ex_valK h
        rw [hv]
        simp only [valK]
        split at h
        · obtain ⟨z, hk, hd⟩ := ex_of_nat (fun k => partK _ _ _ _ k) (fun k g => partK_bind _ _ _ _ _) h
          simp at hk; obtain ⟨rfl, rfl⟩ := hk
          exact ⟨rfl, .inl ⟨_, rfl⟩, fun _ => hd _⟩
        · cases h
      · cases h
    · cases h
  case indexAddr t x ix =>
    obtain ⟨v, hv, h⟩ := ex_valK h
    rw [hv]
    simp only [valK]
    split at h
    · rename_i s off hx
      split at h
      · split at h
        · split at h
          · simp at h; obtain ⟨rfl, rfl⟩ := h
            exact ⟨rfl, .inr (.inr ⟨x, by simp [Op.operands], s, off, _, hx, rfl⟩), fun _ => by simp [*]⟩
          · cases h
        · cases h
      · cases h
    · rename_i p hx
      obtain ⟨z, hk, hd⟩ := ex_of_nat (fun k => idxAddrK P t p v k) (fun k g => idxAddrK_bind _ _ _ _) h
      simp at hk; obtain ⟨rfl, rfl⟩ := hk
      exact ⟨rfl, .inl ⟨_, rfl⟩, fun _ => hd _⟩
    · cases h
  case index t x ix =>
    obtain ⟨v, hv, h⟩ := ex_valK h
    obtain ⟨u, hu, h⟩ := ex_valK h
    rw [hv, hu]
    simp only [valK]
    obtain ⟨z, hk, hd⟩ := ex_of_nat (fun k => idxK P t v u k) (fun k g => idxK_bind _ _ _ _) h
    simp at hk; obtain ⟨rfl, rfl⟩ := hk
    exact ⟨rfl, .inl ⟨_, rfl⟩, fun _ => hd _⟩
  case lookup t m key ok =>
    simp only [accOf, Option.some.injEq] at ha
    obtain ⟨v, hv, h⟩ := ex_valK h
    obtain ⟨u, hu, h⟩ := ex_valK h
    rw [hv, hu]
    simp only [valK]
    obtain ⟨z, hk, hd⟩ := ex_of_nat (fun k => lookupK P σ t v u ok k) (fun k g => lookupK_bind _ _ _ _ _) h
    simp at hk; obtain ⟨rfl, rfl⟩ := hk
    refine ⟨rfl, .inl ⟨_, rfl⟩, fun hR => ?_⟩
    rw [lookupK_congr (σ := σ) fun n hn => hR (by rw [← ha]; rfl) m (by simp [Op.operands]) v hv n hn]
    exact hd _
  case typeAssert x xt t ok =>
    obtain ⟨v, hv, h⟩ := ex_valK h
    rw [hv]
    simp only [valK]
    obtain ⟨z, hk, hd⟩ := ex_of_nat (fun k => assertK P v t ok k) (fun k g => assertK_bind _ _ _ _) h
    simp at hk; obtain ⟨rfl, rfl⟩ := hk
    exact ⟨rfl, .inl ⟨_, rfl⟩, fun _ => hd _⟩
  case extract x i =>
    obtain ⟨v, hv, h⟩ := ex_valK h
    rw [hv]
    simp only [valK]
    obtain ⟨z, hk, hd⟩ := ex_of_nat (fun k => extractK v i k) (fun k g => extractK_bind _ _ _) h
    simp at hk; obtain ⟨rfl, rfl⟩ := hk
    exact ⟨rfl, .inl ⟨_, rfl⟩, fun _ => hd _⟩
  case call c =>
    simp only [accOf] at ha
    cases hc : c.callee with
    | value f => simp [hc] at ha; subst ha; simp [isG] at hg
    | invoke r n => simp [hc] at ha; subst ha; simp [isG] at hg
    | builtin b =>
      simp only [hc] at h ha ⊢
      cases hargs : evsF fr.ev c.args.toList with
      | none => simp only [hargs] at h; cases b <;> simp at h
      | some args =>
        simp only [hargs] at h ⊢
        cases b <;> simp only [Option.some.injEq, reduceCtorEq] at ha
        case len =>
          split at h
          · split at h
            · rename_i x _ _ t ht
              obtain ⟨z, hk, hd⟩ := ex_of_nat (fun k => lenK P t x k) (fun k g => lenK_bind _ _ _) h
              simp at hk; obtain ⟨rfl, rfl⟩ := hk
              exact ⟨rfl, .inl ⟨_, rfl⟩, fun _ => by simp [*]⟩
            · cases h
          · simp at *
          · simp at *
          · simp at *
          · cases h
        case append => subst ha; simp [isG] at hg
        case min =>
          obtain ⟨z, hk, hd⟩ := ex_of_nat (fun k => minmaxK false args k) (fun k g => minmaxK_bind _ _ _) h
          simp at hk; obtain ⟨rfl, rfl⟩ := hk
          exact ⟨rfl, .inl ⟨_, rfl⟩, fun _ => hd _⟩
        case max =>
          obtain ⟨z, hk, hd⟩ := ex_of_nat (fun k => minmaxK true args k) (fun k g => minmaxK_bind _ _ _) h
          simp at hk; obtain ⟨rfl, rfl⟩ := hk
          exact ⟨rfl, .inl ⟨_, rfl⟩, fun _ => hd _⟩
  case buildSlice t l ps => simp only [accOf, Option.some.injEq] at ha; subst ha; simp [isG] at hg
  case makeMap t r => simp only [accOf, Option.some.injEq] at ha; subst ha; simp [isG] at hg
  case makeSlice t l c => simp only [accOf, Option.some.injEq] at ha; subst ha; simp [isG] at hg
  case mapUpdate t m key x | insert t m key x => simp only [accOf, Option.some.injEq] at ha; subst ha; simp [isG] at hg
  all_goals cases h

end
end Go.Abs
namespace Go.Abs

def Ext (σ σ' : St) : Prop := σ.next ≤ σ'.next ∧ ∀ n, n < σ.next → σ'.get n = σ.get n

section
variable {P : Program} {α β : Type} {ρ : Ren} {w : World} {B : Nat → Bool} {σ σ' σ1 : St} {ρ0 : Ren} {σ0 : St} {w0 : World} {β : Nat → Nat} {fr : Fr} {act : Act}

theorem CallWp.ex {f : FuncId} {args' : Array Value} {R Rp : Value → World → Prop} (h : CallWp P f args' w R Rp) : (∃ v w', R v w') ∨ (∃ v w', Rp v w') := by
  rcases h with ⟨v, w', _, hR⟩ | ⟨_, hc⟩
  · exact .inl ⟨v, w', hR⟩
  · obtain ⟨e, w', fr, hR, _⟩ := hc []
    cases e with
    | returned v => exact .inl ⟨v, w', hR⟩
    | panicked ch => obtain ⟨v, _, h⟩ := hR; exact .inr ⟨v, w', h⟩
    | outgrown => exact hR.elim

theorem ext_new (σ : St) (o : AObj) : Ext σ (σ.new o) := ⟨by simp [St.new], fun n hn => by rw [St.get_new, if_neg (by omega)]⟩

theorem call_keep {cF : CallF (Eff × St)} (hC : ∀ r, CallOK P B r cF) (hS : SRel B ρ σ w) {b : Bool} {f : FuncId} {args : List AVal} {args' : List Value} {e : Eff} (hl : LRel ρ σ.next args args')
    (h : lockCall b cF f args σ (fun v σ => some (.put (.val v), σ)) (fun _ _ => none) = some (e, σ1)) : (∃ v, e = .put (.val v)) ∧ (b = true → Ext σ σ1) := by
  cases b with
  | false =>
    simp only [lockCall] at h
    rcases (hC _ f args σ _ _ h ρ w args'.toArray hS (by simpa using hl)).ex with ⟨v, w', ρ', σ', v', hk, _⟩ | ⟨v, w', ρ', σ', v', hk, _⟩
    · simp at hk; exact ⟨⟨v', hk.1.symm⟩, by simp⟩
    · cases hk
  | true =>
    simp only [lockCall] at h
    rcases (hC _ f args σ.locked _ _ h ρ w args'.toArray hS.locked (by rw [List.toList_toArray]; exact hl)).ex with ⟨v, w', ρ', σ', v', hk, _, hst, _⟩ | ⟨v, w', ρ', σ', v', hk, _⟩
    · simp at hk
      obtain ⟨rfl, rfl⟩ := hk
      refine ⟨⟨v', rfl⟩, fun _ => ⟨hst.next, fun n hn => ?_⟩⟩
      exact hst.keep n hn (by simp only [St.locked, Bool.or_eq_true, decide_eq_true_eq]; exact .inr hn)
    · cases hk

/-- an operation that changes the names' memory -/
theorem opE_G {cF : CallF (Eff × St)} (hC : ∀ r, CallOK P B r cF) (hI : Inv B ρ0 σ0 w0 ρ β fr σ act w) {b : Bool} {o : Oper} {a : Acc} {e : Eff}
    (h : opE P (lockCall b cF) o fr.ev fr.boxAt fr.esc σ (fun e σ => some (e, σ)) = some (e, σ1)) (ha : accOf fr o = some a) (hg : isG a = true) :
    (∃ v, e = .put (.val v)) ∧ (a = .alG ∨ (a = .call ∧ b = true) → Ext σ σ1) := by
  obtain ⟨dst, op, ty, pos, after, guard⟩ := o
  cases op <;> simp only [opE] at h
  case alloc t =>
    cases dst with
    | none => simp [accOf] at ha
    | some d =>
      simp only [accOf, Option.some.injEq] at ha
      cases hz : zeroT P t with
      | none => rw [hz] at h; cases h
      | some z =>
        rw [hz] at h
        cases he : fr.esc.testBit d with
        | false => rw [he] at ha; subst ha; simp [isG] at hg
        | true =>
          simp only [he] at h
          simp [allocK] at h
          obtain ⟨rfl, rfl⟩ := h
          exact ⟨⟨_, rfl⟩, fun _ => ext_new _ _⟩
  case box t x =>
    obtain ⟨v, hv, h⟩ := ex_valK h
    cases dst with
    | none => simp [accOf] at ha
    | some d =>
      simp only [accOf, Option.some.injEq] at ha
      cases hz : v.isData with
      | false => rw [hz] at h; cases h
      | true =>
        rw [hz] at h
        cases he : fr.esc.testBit d with
        | false => rw [he] at ha; subst ha; simp [isG] at hg
        | true =>
          simp only [he] at h
          simp [allocK] at h
          obtain ⟨rfl, rfl⟩ := h
          exact ⟨⟨_, rfl⟩, fun _ => ext_new _ _⟩
  case buildSlice t l ps =>
    split at h
    · split at h
      · split at h
        · obtain ⟨v, hk, hd⟩ := ex_of_nat (fun k => fillK _ _ _ k) (fun k g => fillK_bind _ _ _ _) h
          simp at hk; obtain ⟨rfl, rfl⟩ := hk
          exact ⟨⟨_, rfl⟩, fun _ => ext_new _ _⟩
        · cases h
      · cases h
    · cases h
  case makeMap t r =>
    cases r with
    | some x => simp at h
    | none =>
      simp only at h
      split at h
      · simp [allocK] at h
        obtain ⟨rfl, rfl⟩ := h
        exact ⟨⟨_, rfl⟩, fun _ => ext_new _ _⟩
      · cases h
  case makeSlice t l c =>
    obtain ⟨v, hv, h⟩ := ex_valK h
    obtain ⟨u, hu, h⟩ := ex_valK h
    unfold makeSliceK at h
    split at h
    · split at h
      · split at h
        · simp at h
          obtain ⟨rfl, rfl⟩ := h
          exact ⟨⟨_, rfl⟩, fun _ => ext_new _ _⟩
        · cases h
      · cases h
    · cases h
  case store t x y =>
    simp only [accOf] at ha
    split at h
    · rename_i size s off hs hx
      rw [hx] at ha
      simp at ha; subst ha; simp [isG] at hg
    · rename_i size p hs hx
      rw [hx] at ha
      simp only [Option.some.injEq] at ha
      subst ha
      obtain ⟨v, hv, h⟩ := ex_valK h
      obtain ⟨v, hk, hd⟩ := ex_of_nat (fun k => stK σ size p v k) (fun k g => stK_bind _ _ _ _) h
      simp at hk; obtain ⟨rfl, rfl⟩ := hk
      exact ⟨⟨_, rfl⟩, by simp⟩
    · cases h
  case mapUpdate t m key x | insert t m key x =>
    simp only [accOf, Option.some.injEq] at ha
    subst ha
    obtain ⟨m', hm, h⟩ := ex_valK h
    obtain ⟨k', hk, h⟩ := ex_valK h
    obtain ⟨x', hx, h⟩ := ex_valK h
    obtain ⟨v, hk, hd⟩ := ex_of_nat (fun k => mapSetK P σ t m' k' x' k) (fun k g => mapSetK_bind _ _ _ _ _) h
    simp at hk; obtain ⟨rfl, rfl⟩ := hk
    exact ⟨⟨_, rfl⟩, by simp⟩
  case call c =>
    simp only [accOf] at ha
    cases hargs : evsF fr.ev c.args.toList with
    | none => simp only [hargs] at h; cases hc : c.callee <;> simp [hc] at h
    | some args =>
      have hrel := evs_rel hI (by rw [evs_eq]; exact hargs)
      cases hc : c.callee with
      | value f =>
        simp only [hc, hargs] at h ha
        simp at ha; subst ha
        obtain ⟨fv, hf, h⟩ := ex_valK h
        unfold callV at h
        split at h
        · rename_i fn first cap
          have hfr := ev_val hI hf
          generalize act.eval f = q at hfr
          cases hfr with
          | func _ l1 l2 r1 r2 =>
            have := call_keep hC hI.s (((LRel.of_array l1 r1).append hrel).append (LRel.of_array l2 r2)) h
            exact ⟨this.1, fun ho => this.2 (by rcases ho with ho | ho; · cases ho
                                                · exact ho.2)⟩
        · cases h
      | invoke rr n =>
        simp only [hc, hargs] at h ha
        simp at ha; subst ha
        obtain ⟨rv, hr, h⟩ := ex_valK h
        split at h
        · rename_i t v
          split at h
          · rename_i f recv hm
            have hrr := ev_val hI hr
            generalize act.eval rr = q at hrr
            cases hrr with
            | iface _ hv =>
              obtain ⟨recv', hv2, _⟩ := methodOf_sound (P := P) (w := w) 5 hm hv
              have := call_keep hC hI.s (All2.cons hv2 hrel) h
              exact ⟨this.1, fun ho => this.2 (by rcases ho with ho | ho; · cases ho
                                                  · exact ho.2)⟩
          · cases h
        · cases h
      | builtin bb =>
        simp only [hc, hargs] at h ha
        cases bb <;> simp only [Option.some.injEq, reduceCtorEq] at ha
        case append =>
          subst ha
          split at h
          · simp at *
          · split at h
            · split at h
              · obtain ⟨v, hk, hd⟩ := ex_of_nat (fun {δ} (k : AVal × St → Option δ) => appendK P σ _ _ _ (fun v σ => k (v, σ))) (fun k g => appendK_bind _ _ _ _) (k := fun p => some (Eff.put (.val p.1), p.2)) h
                simp at hk; obtain ⟨rfl, rfl⟩ := hk
                exact ⟨⟨_, rfl⟩, by simp⟩
              · cases h
            · cases h
          · simp at *
          · simp at *
          · cases h
        all_goals (subst ha; simp [isG] at hg)
  all_goals first
    | cases h
    | (simp only [accOf, Option.some.injEq] at ha; subst ha; simp [isG] at hg; done)
    | (simp only [accOf] at ha; split at ha <;> (simp at ha; subst ha; simp [isG] at hg))

end
end Go.Abs
namespace Go.Abs

section
variable {P : Program} {α β : Type} {ρ : Ren} {w : World} {B : Nat → Bool} {σ σ' σ1 σ2 : St} {ρ0 : Ren} {σ0 : St} {w0 : World} {β : Nat → Nat} {fr fr' : Fr} {act : Act} {ops : Array Oper} {bef : Array Nat}

def guardD (ops : Array Oper) (o : Oper) (fr : Fr) : Option Bool :=
  match o.guard with
  | none => some true
  | some (j, want) => match (ops[j]?).bind (·.dst) with
    | none => none
    | some t => match fr.slots[t]? with
      | some (.val (.bool b)) => some (b == want)
      | some (.val (.tuple [])) => some false
      | _ => none

theorem slots_same (fr : Fr) {t : Nat} {s : Slot} (h : fr.slots[t]? = some s) : { fr with slots := fr.slots.set t s } = fr := by
  obtain ⟨hlt, he⟩ := List.getElem?_eq_some_iff.1 h
  have : fr.slots.set t s = fr.slots := by rw [← he]; exact List.set_getElem_self hlt
  rw [this]

theorem guardK_eq {o : Oper} {yes no : Fr → Option α} : guardK ops o fr yes no = match guardD ops o fr with
    | some true => yes fr
    | some false => no fr
    | none => none := by
  unfold guardK guardD
  cases hg : o.guard with
  | none => rfl
  | some gw =>
    obtain ⟨j, want⟩ := gw
    simp only
    cases ht : (ops[j]?).bind (·.dst) with
    | none => rfl
    | some t =>
      simp only
      cases hs : fr.slots[t]? with
      | none => rfl
      | some s =>
        cases s with
        | val v =>
          cases v with
          | bool b => cases b <;> cases want <;> simp only [slots_same fr hs] <;> rfl
          | tuple l => cases l <;> rfl
          | _ => rfl
        | _ => rfl

def flag (ops : Array Oper) (bef : Array Nat) (i : Nat) : Bool := (List.range ops.size).any fun j => free bef i j && isLoad (ops.getD j default)

def dstOf (ops : Array Oper) (i : Nat) : Option Tmp := (ops[i]?).bind (·.dst)

noncomputable instance accDec : DecidableEq Acc := fun _ _ => Classical.propDecidable _


noncomputable def resD (P : Program) (cF : (γ : Type) → CallF γ) (ops : Array Oper) (bef : Array Nat) (i : Nat) (a : Acc) (fr : Fr) (σ : St) : Option (Eff × St) :=
  match ops[i]? with
  | none => none
  | some o => match guardD ops o fr with
    | none => none
    | some true => if accOf fr o = some a ∧ freshOk fr o = true ∧ oldOk ops bef fr o i a = true then
        opE P (lockCall (flag ops bef i) (cF (Eff × St))) o fr.ev fr.boxAt fr.esc σ (fun e σ => some (e, σ)) else none
    | some false => if a = .none ∧ oldOk ops bef fr o i .none = true then some (.put Slot.undef, σ) else none

theorem ev_not_box (fr : Fr) (x : Operand) (cs : List AVal) : fr.ev x ≠ some (.box cs) := by
  cases x <;> simp only [Fr.ev]
  · rename_i t
    intro h
    split at h
    · simp at h
    · rename_i h2; exact h2 cs h
  · split <;> simp
  · split <;> simp
  · simp

theorem inval_noRef {d : Nat} : ∀ {l : List Slot}, noRef d l = true → inval d l = l
  | [], _ => rfl
  | .ref t o :: r, h => by
    simp only [noRef, Bool.and_eq_true, bne_iff_ne, ne_eq] at h
    simp only [inval, if_neg h.1, inval_noRef h.2]
  | .val v :: r, h => by simp only [noRef] at h; simp only [inval, inval_noRef h]
  | .box v :: r, h => by simp only [noRef] at h; simp only [inval, inval_noRef h]
  | .dead :: r, h => by simp only [noRef] at h; simp only [inval, inval_noRef h]

theorem noRef_iff {d : Nat} : ∀ {l : List Slot}, noRef d l = true ↔ ∀ (t o : Nat), l[t]? ≠ some (.ref d o)
  | [] => by simp [noRef]
  | s :: r => by
    have ih := noRef_iff (d := d) (l := r)
    have step : noRef d (s :: r) = true ↔ (∀ o, s ≠ .ref d o) ∧ noRef d r = true := by
      cases s <;> simp [noRef]
    rw [step, ih]
    constructor
    · rintro ⟨h1, h2⟩ t o
      cases t with
      | zero => simpa using h1 o
      | succ t => simpa using h2 t o
    · intro h
      exact ⟨fun o => by simpa using h 0 o, fun t o => by simpa using h (t + 1) o⟩

/-- what is known of an operation's doing -/
structure Facts (ops : Array Oper) (bef : Array Nat) (fr : Fr) (o : Oper) (i : Nat) (a : Acc) (e : Eff) : Prop where
  newBox : ∀ cs, e = .newBox cs → ∃ t, o.dst = some t ∧ a = .wrL t ∧ noRef t fr.slots = true
  wr : ∀ s cs, e = .wr s cs → a = .wrL s ∧ ∃ cs0, fr.boxAt s = some cs0
  put : ∀ s, e = .put s → ∀ cs, s ≠ .box cs
  ref : ∀ t o2, e = .put (.ref t o2) → ∃ x ∈ o.op.operands, ∃ o1, fr.ev x = some (.ref t o1)
  old : oldOk ops bef fr o i a = true

theorem resD_some {cF : (γ : Type) → CallF γ} {i : Nat} {a : Acc} {e : Eff} (h : resD P cF ops bef i a fr σ = some (e, σ1)) : ∃ o, ops[i]? = some o ∧
    ((guardD ops o fr = some true ∧ accOf fr o = some a ∧ freshOk fr o = true ∧ oldOk ops bef fr o i a = true ∧
        opE P (lockCall (flag ops bef i) (cF (Eff × St))) o fr.ev fr.boxAt fr.esc σ (fun e σ => some (e, σ)) = some (e, σ1)) ∨
      (guardD ops o fr = some false ∧ a = .none ∧ oldOk ops bef fr o i a = true ∧ e = .put Slot.undef ∧ σ1 = σ)) := by
  unfold resD at h
  split at h
  · cases h
  · rename_i o ho
    refine ⟨o, ho, ?_⟩
    split at h
    · cases h
    · rename_i hg
      split at h
      · rename_i hc
        exact .inl ⟨hg, hc.1, hc.2.1, hc.2.2, h⟩
      · cases h
    · rename_i hg
      split at h
      · rename_i hc
        simp at h
        exact .inr ⟨hg, hc.1, by rw [hc.1]; exact hc.2, h.1.symm, h.2.symm⟩
      · cases h

theorem accOf_alloc {o : Oper} {t : Nat} (ha : accOf fr o = some (.wrL t)) (hd : o.dst = some t) (hf : freshOk fr o = true) (hn : (∃ x, o.op = .alloc x) ∨ (∃ x y, o.op = .box x y)) : noRef t fr.slots = true := by
  rcases hn with ⟨x, hx⟩ | ⟨x, y, hx⟩
  · simp only [accOf, hx, hd, Option.some.injEq] at ha
    simp only [freshOk, hx, hd] at hf
    cases he : fr.esc.testBit t with
    | true => rw [he] at ha; simp at ha
    | false => rw [he] at hf; simpa using hf
  · simp only [accOf, hx, hd, Option.some.injEq] at ha
    simp only [freshOk, hx, hd] at hf
    cases he : fr.esc.testBit t with
    | true => rw [he] at ha; simp at ha
    | false => rw [he] at hf; simpa using hf

theorem opE_newBox {cF : CallF (Eff × St)} {o : Oper} {cs : List AVal} (h : opE P cF o fr.ev fr.boxAt fr.esc σ (fun e σ => some (e, σ)) = some (.newBox cs, σ1)) {a : Acc} (ha : accOf fr o = some a) (hg : isG a = false) :
    (∃ x, o.op = .alloc x) ∨ (∃ x y, o.op = .box x y) := by
  obtain ⟨h1, h2, h3⟩ := opE_S (σ' := σ) h ha hg
  obtain ⟨d, hd, rfl⟩ := h2
  cases hop : o.op <;> simp only [accOf, hop] at ha
  case alloc x => exact .inl ⟨x, rfl⟩
  case box x y => exact .inr ⟨x, y, rfl⟩
  all_goals first
    | (simp at ha; done)
    | skip
  case load t x => split at ha <;> simp at ha
  case store t x y =>
    simp only [opE, hop] at h
    split at h
    · obtain ⟨v, hv, h⟩ := ex_valK h
      split at h
      · obtain ⟨v, hk, hd⟩ := ex_of_nat (fun k => putK _ _ _ _ k) (fun k g => putK_bind _ _ _ _ _) h
        simp at hk
      · cases h
    · obtain ⟨v, hv, h⟩ := ex_valK h
      obtain ⟨v, hk, hd⟩ := ex_of_nat (fun k => stK _ _ _ _ k) (fun k g => stK_bind _ _ _ _) h
      simp at hk
    · cases h
  case call c =>
    cases hc : c.callee with
    | value f => rw [hc] at ha; simp at ha
    | invoke r n => rw [hc] at ha; simp at ha
    | builtin b => rw [hc] at ha; cases b <;> simp at ha

theorem resD_facts {cF : (γ : Type) → CallF γ} (hC : CallsOK P B cF) (hI : Inv B ρ0 σ0 w0 ρ β fr σ act w) {i : Nat} {a : Acc} {e : Eff} {o : Oper} (ho : ops[i]? = some o)
    (h : resD P cF ops bef i a fr σ = some (e, σ1)) : Facts ops bef fr o i a e := by
  obtain ⟨o', ho', hr⟩ := resD_some h
  clear h
  rw [ho] at ho'; cases ho'
  rcases hr with ⟨hg, ha, hf, hold, h⟩ | ⟨hg, rfl, hold, rfl, rfl⟩
  · cases hG : isG a with
    | true =>
      obtain ⟨⟨v, rfl⟩, _⟩ := opE_G (fun r => hC.ok _ r) hI h ha hG
      exact ⟨fun cs hh => (by cases hh), fun s cs hh => (by cases hh), fun s hh cs => (by cases hh; simp), fun t o2 hh => (by cases hh), hold⟩
    | false =>
      obtain ⟨h1, h2, h3⟩ := opE_S (σ' := σ) h ha hG
      refine ⟨fun cs hh => ?_, fun s cs hh => ?_, fun s hh cs => ?_, fun t o2 hh => ?_, hold⟩
      · subst hh
        obtain ⟨d, hd, rfl⟩ := h2
        exact ⟨d, hd, rfl, accOf_alloc ha hd hf (opE_newBox h ha hG)⟩
      · subst hh; exact h2
      · subst hh
        rcases h2 with ⟨v, rfl⟩ | ⟨x, hx, he⟩ | ⟨x, hx, t, o1, o2, he, rfl⟩
        · simp
        · intro hs; subst hs; exact ev_not_box fr x cs he
        · simp
      · subst hh
        rcases h2 with ⟨v, hv⟩ | ⟨x, hx, he⟩ | ⟨x, hx, t', o1, o2', he, hs⟩
        · cases hv
        · exact ⟨x, hx, o2, he⟩
        · cases hs; exact ⟨x, hx, o1, he⟩
  · exact ⟨fun cs hh => (by cases hh), fun s cs hh => (by cases hh), fun s hh cs => (by cases hh; simp [Slot.undef]), fun t o2 hh => (by cases hh), hold⟩

def setO (l : List Slot) (d : Option Tmp) (s : Slot) : List Slot :=
  match d with
  | some d => l.set d s
  | none => l

def upd (d : Option Tmp) (e : Eff) (l : List Slot) : List Slot :=
  match e with
  | .put s => setO l d s
  | .newBox cs => setO l d (.box cs)
  | .wr s cs => setO (l.set s (.box cs)) d Slot.undef

theorem app_eq {o : Oper} {i : Nat} {a : Acc} {e : Eff} (F : Facts ops bef fr o i a e) : fr.app o.dst e = { fr with slots := upd o.dst e fr.slots } := by
  cases e with
  | put s => cases hd : o.dst <;> rfl
  | newBox cs =>
    obtain ⟨t, hd, _, hn⟩ := F.newBox cs rfl
    rw [hd]
    simp only [Fr.app, Fr.newBox, inval_noRef hn, upd, setO]
  | wr s cs => cases hd : o.dst <;> rfl

theorem upd_get {d : Option Tmp} {e : Eff} {l : List Slot} {t : Nat} (h1 : d ≠ some t) (h2 : ∀ cs, e ≠ .wr t cs) : (upd d e l)[t]? = l[t]? := by
  have hs : ∀ (l : List Slot) s, (setO l d s)[t]? = l[t]? := fun l s => by
    cases d with
    | none => rfl
    | some d => simp only [setO]; rw [List.getElem?_set_ne (by intro hh; exact h1 (by rw [hh]))]
  cases e with
  | put s => exact hs _ _
  | newBox cs => exact hs _ _
  | wr s cs =>
    simp only [upd, hs]
    rw [List.getElem?_set_ne (by intro hh; subst hh; exact h2 cs rfl)]

theorem upd_wr {d : Option Tmp} {l : List Slot} {t : Nat} {cs cs0 : List AVal} (h1 : d ≠ some t) (hb : l[t]? = some (.box cs0)) : (upd d (.wr t cs) l)[t]? = some (.box cs) := by
  have hs : ∀ (l : List Slot) s, (setO l d s)[t]? = l[t]? := fun l s => by
    cases d with
    | none => rfl
    | some d => simp only [setO]; rw [List.getElem?_set_ne (by intro hh; exact h1 (by rw [hh]))]
  simp only [upd, hs]
  rw [List.getElem?_set_self (List.getElem?_eq_some_iff.1 hb).1]

theorem boxAt_some' {s : Nat} {cs : List AVal} : fr.boxAt s = some cs ↔ fr.slots[s]? = some (.box cs) := by
  unfold Fr.boxAt
  constructor
  · intro h; split at h
    · simp at h; subst h; assumption
    · cases h
  · intro h; rw [h]

/-- where a slot held a variable, it still does -/
theorem app_wr {o : Oper} {i : Nat} {a : Acc} {e : Eff} (F : Facts ops bef fr o i a e) {s : Nat} {cs : List AVal} (he : e = .wr s cs) (hd : o.dst ≠ some s) : (fr.app o.dst e).slots[s]? = some (.box cs) := by
  obtain ⟨_, cs0, hb⟩ := F.wr s cs he
  rw [app_eq F]
  subst he
  exact upd_wr hd (boxAt_some'.1 hb)

theorem app_get {o : Oper} {i : Nat} {a : Acc} {e : Eff} (F : Facts ops bef fr o i a e) {t : Nat} (h1 : o.dst ≠ some t) (h2 : ∀ cs, e ≠ .wr t cs) : (fr.app o.dst e).slots[t]? = fr.slots[t]? := by
  rw [app_eq F]; exact upd_get h1 h2

theorem app_ev {o : Oper} {i : Nat} {a : Acc} {e : Eff} (F : Facts ops bef fr o i a e) {x : Operand} (h1 : ∀ t, o.dst = some t → x ≠ .tmp t) : (fr.app o.dst e).ev x = fr.ev x := by
  cases x with
  | tmp t =>
    have hd : o.dst ≠ some t := fun hh => h1 t hh rfl
    simp only [Fr.ev]
    by_cases hw : ∃ cs, e = .wr t cs
    · obtain ⟨cs, hw⟩ := hw
      obtain ⟨_, cs0, hb⟩ := F.wr t cs hw
      rw [app_wr F hw hd, boxAt_some'.1 hb]
    · rw [app_get F hd fun cs hh => hw ⟨cs, hh⟩]
  | const v => rfl
  | global g => rfl
  | func f => rfl

theorem app_guard {o o2 : Oper} {i : Nat} {a : Acc} {e : Eff} (F : Facts ops bef fr o i a e) (h1 : ∀ d, o.dst = some d → d ∉ o2.looksAt ops) : guardD ops o2 (fr.app o.dst e) = guardD ops o2 fr := by
  unfold guardD
  cases hg : o2.guard with
  | none => rfl
  | some gw =>
    obtain ⟨j, want⟩ := gw
    simp only
    cases ht : (ops[j]?).bind (·.dst) with
    | none => rfl
    | some t =>
      simp only
      have hd : o.dst ≠ some t := fun hh => h1 t hh (by simp [Oper.looksAt, hg, ht])
      by_cases hw : ∃ cs, e = .wr t cs
      · obtain ⟨cs, hw⟩ := hw
        obtain ⟨_, cs0, hb⟩ := F.wr t cs hw
        rw [app_wr F hw hd, boxAt_some'.1 hb]
      · rw [app_get F hd fun cs hh => hw ⟨cs, hh⟩]

theorem app_box {o : Oper} {i : Nat} {a : Acc} {e : Eff} (F : Facts ops bef fr o i a e) {t : Nat} (h1 : a ≠ .wrL t) : (fr.app o.dst e).boxAt t = fr.boxAt t := by
  have hw : ∀ cs, e ≠ .wr t cs := fun cs hh => h1 (F.wr t cs hh).1
  by_cases hd : o.dst = some t
  · -- neither before nor behind it is there a variable
    have hold : ∀ cs, fr.slots[t]? ≠ some (.box cs) := fun cs hb => by
      have := F.old
      simp only [oldOk, hd, hb] at this
      exact h1 (Acc.isW_iff.1 this)
    have hnew : ∀ cs, (fr.app o.dst e).slots[t]? ≠ some (.box cs) := fun cs hb => by
      rw [app_eq F, hd] at hb
      cases e with
      | put s =>
        simp only [upd, setO] at hb
        rw [List.getElem?_set] at hb
        simp only [if_true] at hb
        split at hb
        · simp at hb; exact F.put s rfl cs hb
        · cases hb
      | newBox cs' =>
        obtain ⟨t', ht', ha, _⟩ := F.newBox cs' rfl
        rw [hd] at ht'; cases ht'
        exact h1 ha
      | wr s cs' =>
        simp only [upd, setO] at hb
        rw [List.getElem?_set] at hb
        simp only [if_true] at hb
        split at hb
        · simp [Slot.undef] at hb
        · cases hb
    have e1 : (fr.app o.dst e).boxAt t = none := by
      cases hb : (fr.app o.dst e).boxAt t with
      | none => rfl
      | some cs => exact (hnew cs (boxAt_some'.1 hb)).elim
    have e2 : fr.boxAt t = none := by
      cases hb : fr.boxAt t with
      | none => rfl
      | some cs => exact (hold cs (boxAt_some'.1 hb)).elim
    rw [e1, e2]
  · unfold Fr.boxAt
    rw [app_get F hd hw]

theorem app_esc {o : Oper} {e : Eff} : (fr.app o.dst e).esc = fr.esc ∧ (fr.app o.dst e).rc = fr.rc := by
  cases e <;> cases o.dst <;> exact ⟨rfl, rfl⟩

end
end Go.Abs
namespace Go.Abs

section
variable {P : Program} {α β : Type} {ρ : Ren} {w : World} {B : Nat → Bool} {σ σ' σ1 σ2 : St} {ρ0 : Ren} {σ0 : St} {w0 : World} {β : Nat → Nat} {fr fr' : Fr} {act : Act} {ops : Array Oper} {bef : Array Nat}

theorem accOf_congr {o : Oper} (hev : ∀ x ∈ o.op.operands, fr'.ev x = fr.ev x) (he : fr'.esc = fr.esc) : accOf fr' o = accOf fr o := by
  cases hop : o.op <;> simp only [hop, Op.operands] at hev <;> simp only [accOf, hop, he]
  case load t x => rw [hev x (by simp)]
  case store t x y => rw [hev x (by simp)]

theorem oldOk_congr {o : Oper} {i : Nat} {a : Acc} (h : ∀ t, o.dst = some t → fr'.slots[t]? = fr.slots[t]?) : oldOk ops bef fr' o i a = oldOk ops bef fr o i a := by
  unfold oldOk
  cases hd : o.dst with
  | none => rfl
  | some d => simp only [h d hd]

theorem resD_frame {cF : (γ : Type) → CallF γ} {i : Nat} {a : Acc} {o : Oper} {p : Eff × St} (ho : ops[i]? = some o) (h : resD P cF ops bef i a fr σ = some p)
    (hev : ∀ x ∈ o.op.operands, fr'.ev x = fr.ev x) (hg : guardD ops o fr' = guardD ops o fr) (he : fr'.esc = fr.esc) (hb : ∀ s, a = .rdL s ∨ a = .wrL s → fr'.boxAt s = fr.boxAt s)
    (hd : ∀ t, o.dst = some t → fr'.slots[t]? = fr.slots[t]?) (hf : freshOk fr o = true → freshOk fr' o = true) : resD P cF ops bef i a fr' σ = some p := by
  obtain ⟨e, σ1⟩ := p
  obtain ⟨o', ho', hr⟩ := resD_some h
  rw [ho] at ho'; cases ho'
  unfold resD
  simp only [ho, hg]
  rcases hr with ⟨hg', ha, hfr, hold, hr⟩ | ⟨hg', rfl, hold, rfl, rfl⟩
  · rw [hg']
    simp only
    rw [if_pos ⟨by rw [accOf_congr hev he]; exact ha, hf hfr, by rw [oldOk_congr hd]; exact hold⟩, he]
    rw [← hr]
    refine opE_congr hev fun s off t x hop hx => ?_
    rcases hop with hop | ⟨y, hop⟩
    · have hx' := hev x (by simp [hop, Op.operands])
      rw [hx] at hx'
      exact hb s (.inl (by simp only [accOf, hop, ← hx', Option.some.injEq] at ha; exact ha.symm))
    · have hx' := hev x (by simp [hop, Op.operands])
      rw [hx] at hx'
      exact hb s (.inr (by simp only [accOf, hop, ← hx', Option.some.injEq] at ha; exact ha.symm))
  · rw [hg']
    simp only
    rw [if_pos ⟨trivial, by rw [oldOk_congr hd]; exact hold⟩]

theorem resD_sig {cF : (γ : Type) → CallF γ} {i : Nat} {a : Acc} {o : Oper} {e : Eff} (ho : ops[i]? = some o) (h : resD P cF ops bef i a fr σ = some (e, σ1)) (hG : isG a = false) :
    σ1 = σ ∧ ((isR a = true → accOf fr o = some a → Reads σ σ' o fr.ev) → resD P cF ops bef i a fr σ' = some (e, σ')) := by
  obtain ⟨o', ho', hr⟩ := resD_some h
  rw [ho] at ho'; cases ho'
  unfold resD
  simp only [ho]
  rcases hr with ⟨hg', ha, hfr, hold, hr⟩ | ⟨hg', rfl, hold, rfl, rfl⟩
  · obtain ⟨h1, h2, h3⟩ := opE_S (σ' := σ') hr ha hG
    refine ⟨h1, fun hR => ?_⟩
    rw [hg']
    simp only
    rw [if_pos ⟨ha, hfr, hold⟩]
    exact h3 fun e => hR e ha
  · refine ⟨rfl, fun _ => ?_⟩
    rw [hg']
    simp only
    rw [if_pos ⟨trivial, hold⟩]

theorem resD_ext {cF : (γ : Type) → CallF γ} (hC : CallsOK P B cF) (hI : Inv B ρ0 σ0 w0 ρ β fr σ act w) {i : Nat} {a : Acc} {e : Eff} (h : resD P cF ops bef i a fr σ = some (e, σ1))
    (hG : isG a = true) (hx : a = .alG ∨ (a = .call ∧ flag ops bef i = true)) : Ext σ σ1 := by
  obtain ⟨o', ho', hr⟩ := resD_some h
  rcases hr with ⟨hg', ha, hfr, hold, hr⟩ | ⟨hg', rfl, hold, rfl, rfl⟩
  · exact (opE_G (fun r => hC.ok _ r) hI hr ha hG).2 hx
  · cases hG

theorem nm_lt {N : Nat} {v : AVal} {v' : Value} (h : VRel ρ N v v') {n : Nat} (hn : v.nm = some n) : n < N := by
  cases h <;> simp [AVal.nm] at hn <;> subst hn <;> assumption

theorem reads_of_ext (hI : Inv B ρ0 σ0 w0 ρ β fr σ act w) (hE : Ext σ σ1) (o : Oper) : Reads σ σ1 o fr.ev := by
  intro x _ v hv n hn
  exact (hE.2 n (nm_lt (ev_val hI hv) hn)).symm

theorem free_symm (i j : Nat) : free bef i j = free bef j i := by
  unfold free
  rw [Nat.max_comm, Nat.min_comm]
  congr 1
  by_cases h : i = j
  · rw [h]
  · have h2 : ¬ (j = i) := fun e => h e.symm
    rw [bne, bne, show (i == j) = false from by simpa using h, show (j == i) = false from by simpa using h2]

theorem compat_symm (a b : Acc) : compat a b = compat b a := by
  cases a <;> cases b <;> simp [compat, isG]
  all_goals
    rename_i s t
    by_cases h : s = t
    · rw [h]
    · have h2 : ¬ (t = s) := fun e => h e.symm
      rw [bne, bne, show (s == t) = false from by simpa using h, show (t == s) = false from by simpa using h2]

theorem flag_of {i j : Nat} {o : Oper} (hf : free bef i j = true) (hj : ops[j]? = some o) (hl : isLoad o = true) : flag ops bef i = true := by
  unfold flag
  rw [List.any_eq_true]
  have hlt := (Array.getElem?_eq_some_iff.1 hj).1
  refine ⟨j, by simpa using hlt, ?_⟩
  rw [Bool.and_eq_true]
  refine ⟨hf, ?_⟩
  simp only [Array.getD_eq_getD_getElem?, hj, Option.getD_some]
  exact hl

theorem isLoad_of {o : Oper} {a : Acc} (h : accOf fr o = some a) (hr : isR a = true) : isLoad o = true := by
  cases hop : o.op <;> simp only [accOf, hop] at h <;> simp only [isLoad, hop]
  all_goals
    repeat' (split at h)
    all_goals first
      | (cases h; done)
      | (simp only [Option.some.injEq] at h; subst h; first | (simp [isR] at hr; done) | (split at hr <;> simp [isR] at hr; done))

/-- what a load looks at -/
theorem rdN_ops {o : Oper} {v : AVal} (h : accOf fr o = some (.rdN v)) : ∀ x ∈ o.op.operands, ∀ u, fr.ev x = some (.val u) → u = v := by
  cases hop : o.op <;> simp only [accOf, hop] at h
  case load t a =>
    intro x hx u hu
    simp [Op.operands] at hx
    subst hx
    rw [hu] at h
    simp at h
    exact h
  all_goals
    repeat' (split at h)
    all_goals first
      | (cases h; done)
      | (simp only [Option.some.injEq] at h; split at h <;> cases h; done)

/-- a store changes one name's memory -/
theorem wrN_get {cF : (γ : Type) → CallF γ} {i : Nat} {v : AVal} {e : Eff} (h : resD P cF ops bef i (.wrN v) fr σ = some (e, σ1)) :
    ∀ n, (∀ m o, v = .ptr (some (m, o)) → n ≠ m) → σ1.get n = σ.get n := by
  intro n hn
  obtain ⟨o, ho, hr⟩ := resD_some h
  rcases hr with ⟨hg1, ha, hfr1, hold1, hr⟩ | ⟨_, hc, _⟩
  · clear hfr1 hold1 hg1
    cases hop : o.op <;> simp only [accOf, hop] at ha
    case store t x y =>
      split at ha <;> simp at ha
      rename_i u hu
      subst ha
      simp only [opE, hop, hu] at hr
      split at hr
      · rename_i hu'; cases hu'
      · rename_i size p hs hp
        cases hp
        obtain ⟨z, hz, hr⟩ := ex_valK hr
        unfold stK at hr
        split at hr
        · rename_i m off
          split at hr
          · cases hr
          · simp only [cellsK] at hr
            split at hr
            · simp only [putK] at hr
              split at hr
              · simp at hr
                obtain ⟨_, rfl⟩ := hr
                simp only [St.get, St.set, PT.get_set]
                rw [if_neg (hn _ _ rfl)]
              · cases hr
            · cases hr
        · cases hr
      · cases hr
    all_goals
      repeat' (split at ha)
      all_goals first
        | (cases ha; done)
        | (simp only [Option.some.injEq] at ha; split at ha <;> cases ha; done)
  · cases hc

theorem not_wr_dst {o o2 : Oper} {i j : Nat} {a b : Acc} {e : Eff} (F : Facts ops bef fr o i a e) (hne : ∀ d, o.dst = some d → o2.dst ≠ some d) (hc : compat a b = true) {t : Nat} (ht : o2.dst = some t)
    (hold : oldOk ops bef (fr.app o.dst e) o2 j b = true) : ∀ cs, e ≠ .wr t cs := by
  intro cs he
  have h1 := app_wr F he (fun hh => hne t hh ht)
  simp only [oldOk, ht, h1] at hold
  have hb : b = .wrL t := Acc.isW_iff.1 hold
  have ha := (F.wr t cs he).1
  rw [ha, hb] at hc
  simp [compat, isG] at hc

theorem not_wr_dst' {o o2 : Oper} {i j : Nat} {a b : Acc} {e : Eff} (F : Facts ops bef fr o i a e) (hc : compat a b = true) {t : Nat} (ht : o2.dst = some t)
    (hold : oldOk ops bef fr o2 j b = true) : ∀ cs, e ≠ .wr t cs := by
  intro cs he
  obtain ⟨ha, cs0, hb0⟩ := F.wr t cs he
  have h1 := boxAt_some'.1 hb0
  simp only [oldOk, ht, h1] at hold
  have hb : b = .wrL t := Acc.isW_iff.1 hold
  rw [ha, hb] at hc
  simp [compat, isG] at hc

theorem mem_looks {o : Oper} {d : Tmp} (h : Operand.tmp d ∈ o.op.operands) : d ∈ o.looksAt ops :=
  List.mem_append_left _ (List.mem_filterMap.2 ⟨.tmp d, by simpa using h, rfl⟩)

theorem compat_box {a b : Acc} (hc : compat a b = true) {s : Nat} (hb : b = .rdL s ∨ b = .wrL s) : a ≠ .wrL s := by
  intro ha
  subst ha
  rcases hb with rfl | rfl <;> simp [compat, isG] at hc

theorem upd_comm {d1 d2 : Option Tmp} {e1 e2 : Eff} {l : List Slot} (h : ∀ d, d1 = some d → d2 ≠ some d) (h1 : ∀ s cs, e1 = .wr s cs → d2 ≠ some s) (h2 : ∀ s cs, e2 = .wr s cs → d1 ≠ some s)
    (h3 : ∀ s cs s' cs', e1 = .wr s cs → e2 = .wr s' cs' → s ≠ s') : upd d2 e2 (upd d1 e1 l) = upd d1 e1 (upd d2 e2 l) := by
  have c1 : ∀ (l : List Slot) s1 s2, setO (setO l d1 s1) d2 s2 = setO (setO l d2 s2) d1 s1 := fun l s1 s2 => by
    cases d1 with
    | none => rfl
    | some a =>
      cases d2 with
      | none => rfl
      | some b =>
        simp only [setO]
        exact List.set_comm _ _ (fun e => h a rfl (by rw [e]))
  have c2 : ∀ (l : List Slot) t s1 s2, d2 ≠ some t → setO (l.set t s1) d2 s2 = (setO l d2 s2).set t s1 := fun l t s1 s2 hne => by
    cases d2 with
    | none => rfl
    | some b =>
      simp only [setO]
      exact List.set_comm _ _ (fun e => hne (by rw [e]))
  have c3 : ∀ (l : List Slot) t s1 s2, d1 ≠ some t → setO (l.set t s1) d1 s2 = (setO l d1 s2).set t s1 := fun l t s1 s2 hne => by
    cases d1 with
    | none => rfl
    | some b =>
      simp only [setO]
      exact List.set_comm _ _ (fun e => hne (by rw [e]))
  cases e1 with
  | put x =>
    cases e2 with
    | put y => exact c1 _ _ _
    | newBox y => exact c1 _ _ _
    | wr s y => simp only [upd]; rw [← c3 _ _ _ _ (h2 s y rfl), c1]
  | newBox x =>
    cases e2 with
    | put y => exact c1 _ _ _
    | newBox y => exact c1 _ _ _
    | wr s y => simp only [upd]; rw [← c3 _ _ _ _ (h2 s y rfl), c1]
  | wr s x =>
    cases e2 with
    | put y => simp only [upd]; rw [c1, c2 _ _ _ _ (h1 s x rfl)]
    | newBox y => simp only [upd]; rw [c1, c2 _ _ _ _ (h1 s x rfl)]
    | wr s' y =>
      simp only [upd]
      rw [← c3 _ _ _ _ (h2 s' y rfl), ← c2 _ _ _ _ (h1 s x rfl), c1]
      rw [List.set_comm _ _ (h3 s x s' y rfl rfl)]

set_option maxHeartbeats 1000000 in
theorem swap {cF : (γ : Type) → CallF γ} (hC : CallsOK P B cF) (hI : Inv B ρ0 σ0 w0 ρ β fr σ act w) {i j : Nat} {a b : Acc} {ex ey : Eff} {ox oy : Oper} (hi : ops[i]? = some ox) (hj : ops[j]? = some oy)
    (hI1 : resD P cF ops bef i a fr σ = some (ex, σ1) → ∃ ρ1 β1 act1 w1, Inv B ρ0 σ0 w0 ρ1 β1 (fr.app ox.dst ex) σ1 act1 w1)
    (hx : resD P cF ops bef i a fr σ = some (ex, σ1)) (hy : resD P cF ops bef j b (fr.app ox.dst ex) σ1 = some (ey, σ2)) (hf : free bef i j = true) (hap : ox.apart ops oy = true) (hc : compat a b = true) :
    ∃ τ, resD P cF ops bef j b fr σ = some (ey, τ) ∧ resD P cF ops bef i a (fr.app oy.dst ey) τ = some (ex, σ2) ∧ (fr.app ox.dst ex).app oy.dst ey = (fr.app oy.dst ey).app ox.dst ex := by
  obtain ⟨ap1, ap2, ap3⟩ := Oper.apart_spec hap
  have ap2' : ∀ d, oy.dst = some d → ox.dst ≠ some d := fun d hd hh => ap2 d hh hd
  have Fx := resD_facts hC hI hi hx
  obtain ⟨ρ1, β1, act1, w1, hI1⟩ := hI1 hx
  have Fy1 := resD_facts hC hI1 hj hy
  have hc' : compat b a = true := by rw [compat_symm]; exact hc
  -- the later one, at the frame ahead of the earlier
  have wr1 : ∀ t, oy.dst = some t → ∀ cs, ex ≠ .wr t cs := fun t ht => not_wr_dst Fx ap2 hc ht Fy1.old
  have hy0 : resD P cF ops bef j b fr σ1 = some (ey, σ2) := by
    refine resD_frame hj hy (fun x hx => ?_) ?_ ?_ (fun s hs => ?_) (fun t ht => ?_) (fun hfr => ?_)
    · exact (app_ev Fx fun t ht hh => ap1 t ht (mem_looks (by rw [← hh]; exact hx))).symm
    · exact (app_guard Fx ap1).symm
    · exact (app_esc (fr := fr)).1.symm
    · exact (app_box Fx (compat_box hc hs)).symm
    · exact (app_get Fx (fun hh => ap2 t hh ht) (wr1 t ht)).symm
    · -- it may be made anew
      unfold freshOk at hfr ⊢
      have key : ∀ d, oy.dst = some d → noRef d (fr.app ox.dst ex).slots = true → noRef d fr.slots = true := fun d hd hn => by
        rw [noRef_iff] at hn ⊢
        intro t o hr
        by_cases hw : ∃ cs, ex = .wr t cs
        · obtain ⟨cs, hw⟩ := hw
          obtain ⟨_, cs0, hb⟩ := Fx.wr t cs hw
          rw [boxAt_some'.1 hb] at hr
          simp at hr
        · by_cases hdx : ox.dst = some t
          · have hold := Fx.old
            simp only [oldOk, hdx, hr] at hold
            rw [List.all_eq_true] at hold
            have := hold j (by simpa using (Array.getElem?_eq_some_iff.1 hj).1)
            simp only [hf, Bool.not_true, Bool.false_or, Array.getD_eq_getD_getElem?, hj, Option.getD_some, hd] at this
            simp at this
          · exact hn t o (by rw [app_get Fx hdx fun cs hh => hw ⟨cs, hh⟩]; exact hr)
      split at hfr
      · split at hfr
        · rename_i d hd
          simp only [Bool.or_eq_true] at hfr ⊢
          rcases hfr with hfr | hfr
          · left; rw [(app_esc (fr := fr)).1] at hfr; exact hfr
          · right; exact key d hd hfr
        · cases hfr
      · split at hfr
        · rename_i d hd
          simp only [Bool.or_eq_true] at hfr ⊢
          rcases hfr with hfr | hfr
          · left; rw [(app_esc (fr := fr)).1] at hfr; exact hfr
          · right; exact key d hd hfr
        · cases hfr
      · rfl
  -- the memory of names
  have hGG : ¬ (isG a = true ∧ isG b = true) := fun ⟨h1, h2⟩ => by simp [compat, h1, h2] at hc
  have loadFlag : ∀ {i j : Nat} {o : Oper} {b : Acc}, free bef i j = true → ops[j]? = some o → accOf fr o = some b → isR b = true → flag ops bef i = true := fun hf hj ha hr => flag_of hf hj (isLoad_of ha hr)
  have grd : ∀ {a b : Acc}, compat a b = true → isG a = true → isR b = true → a = .alG ∨ a = .call ∨ ∃ u v, a = .wrN u ∧ b = .rdN v ∧ differ v u = true := fun {a b} hc hG hb => by
    cases b <;> simp [isR] at hb <;> cases a <;> simp [compat, isG] at hc hG ⊢
    exact hc
  have far : ∀ {v u : AVal}, differ v u = true → ∀ n, v.nm = some n → ∀ m o, u = .ptr (some (m, o)) → n ≠ m := fun {v u} h n hn m o hu => by
    subst hu
    unfold differ at h
    split at h
    · rename_i e; cases e
      simp [AVal.nm] at hn
      subst hn
      simpa using h
    · cases h
  have hτ : ∃ τ, resD P cF ops bef j b fr σ = some (ey, τ) ∧ (∀ fr2, resD P cF ops bef i a fr2 σ = some (ex, σ1) → fr2.ev = fr2.ev → (∀ x ∈ ox.op.operands, fr2.ev x = fr.ev x) → resD P cF ops bef i a fr2 τ = some (ex, σ2)) := by
    cases hGa : isG a with
    | false =>
      obtain ⟨rfl, _⟩ := resD_sig (σ' := σ1) hi hx hGa
      refine ⟨σ2, hy0, fun fr2 h2 _ hev => ?_⟩
      refine (resD_sig (σ' := σ2) hi h2 hGa).2 fun ha hacc => ?_
      cases hGb : isG b with
      | false =>
        obtain ⟨rfl, _⟩ := resD_sig (σ' := σ2) hj hy0 hGb
        intro x _ v _ n _; rfl
      | true =>
        have ext : (b = .alG ∨ b = .call) → Reads σ1 σ2 ox fr2.ev := fun h => by
          have hE : Ext σ1 σ2 := by
            refine resD_ext hC hI hy0 hGb ?_
            rcases h with h | h
            · exact .inl h
            · exact .inr ⟨h, flag_of (by rw [free_symm]; exact hf) hi (isLoad_of hacc ha)⟩
          intro x hx' v hv n hn
          rw [hev x hx'] at hv
          exact reads_of_ext hI hE ox x hx' v hv n hn
        rcases grd hc' hGb ha with h | h | ⟨u, v, rfl, rfl, hd⟩
        · exact ext (.inl h)
        · exact ext (.inr h)
        · intro x hx' z hz n hn
          have := rdN_ops hacc x hx' z hz
          subst this
          exact (wrN_get hy0 n (far hd n hn)).symm
    | true =>
      have hGb : isG b = false := by
        cases hb : isG b with
        | false => rfl
        | true => exact (hGG ⟨hGa, hb⟩).elim
      obtain ⟨rfl, _⟩ := resD_sig (σ' := σ) hj hy0 hGb
      refine ⟨σ, (resD_sig (σ' := σ) hj hy0 hGb).2 fun hb hacc => ?_, fun fr2 h2 _ _ => h2⟩
      have ext : (a = .alG ∨ a = .call) → Reads σ2 σ oy fr.ev := fun h => by
        have hE : Ext σ σ2 := by
          refine resD_ext hC hI hx hGa ?_
          rcases h with h | h
          · exact .inl h
          · exact .inr ⟨h, loadFlag hf hj hacc hb⟩
        intro x hx' v hv n hn
        exact (reads_of_ext hI hE oy x hx' v hv n hn).symm
      rcases grd hc hGa hb with h | h | ⟨u, v, rfl, rfl, hd⟩
      · exact ext (.inl h)
      · exact ext (.inr h)
      · intro x hx' z hz n hn
        have := rdN_ops hacc x hx' z hz
        subst this
        exact wrN_get hx n (far hd n hn)
  obtain ⟨τ, hyτ, hxτ⟩ := hτ
  have Fy := resD_facts hC hI hj hyτ
  have wr2 : ∀ t, ox.dst = some t → ∀ cs, ey ≠ .wr t cs := fun t ht => not_wr_dst' Fy hc' ht Fx.old
  have hx2 : resD P cF ops bef i a (fr.app oy.dst ey) σ = some (ex, σ1) := by
    refine resD_frame hi hx (fun x hx => ?_) ?_ ?_ (fun s hs => ?_) (fun t ht => ?_) (fun hfr => ?_)
    · exact app_ev Fy fun t ht hh => ap3 t ht (mem_looks (by rw [← hh]; exact hx))
    · exact app_guard Fy ap3
    · exact (app_esc (fr := fr)).1
    · exact app_box Fy (compat_box hc' hs)
    · exact app_get Fy (fun hh => ap2' t hh ht) (wr2 t ht)
    · unfold freshOk at hfr ⊢
      have key : ∀ d, ox.dst = some d → noRef d fr.slots = true → noRef d (fr.app oy.dst ey).slots = true := fun d hd hn => by
        have hn' := noRef_iff.1 hn
        rw [noRef_iff]
        intro t o hr
        by_cases hdy : oy.dst = some t
        · rw [app_eq Fy, hdy] at hr
          have hset : ∀ (l : List Slot) (s : Slot), (setO l (some t) s)[t]? = some (.ref d o) → s = .ref d o := fun l s h => by
            simp only [setO] at h
            rw [List.getElem?_set] at h
            simp only [if_true] at h
            split at h
            · simpa using h
            · cases h
          cases hey : ey with
          | put s =>
            rw [hey] at hr
            have hs := hset _ _ hr
            subst hs
            obtain ⟨x, hx', o1, hxe⟩ := Fy.ref d o hey
            cases x with
            | tmp t' =>
              simp only [Fr.ev] at hxe
              split at hxe
              · simp at hxe
                obtain ⟨rfl, _⟩ := hxe
                exact ap1 t' hd (mem_looks hx')
              · exact hn' _ _ hxe
            | const v => simp only [Fr.ev] at hxe; split at hxe <;> simp at hxe
            | global g => simp only [Fr.ev] at hxe; split at hxe <;> simp at hxe
            | func f => simp [Fr.ev] at hxe
          | newBox cs => rw [hey] at hr; have hs := hset _ _ hr; cases hs
          | wr s cs => rw [hey] at hr; have hs := hset _ _ hr; simp [Slot.undef] at hs
        · by_cases hw : ∃ cs, ey = .wr t cs
          · obtain ⟨cs, hw⟩ := hw
            rw [app_wr Fy hw hdy] at hr
            simp at hr
          · rw [app_get Fy hdy fun cs hh => hw ⟨cs, hh⟩] at hr
            exact hn' _ _ hr
      split at hfr
      · split at hfr
        · rename_i d hd
          simp only [Bool.or_eq_true] at hfr ⊢
          rcases hfr with hfr | hfr
          · left; rw [(app_esc (fr := fr)).1]; exact hfr
          · right; exact key d hd hfr
        · cases hfr
      · split at hfr
        · rename_i d hd
          simp only [Bool.or_eq_true] at hfr ⊢
          rcases hfr with hfr | hfr
          · left; rw [(app_esc (fr := fr)).1]; exact hfr
          · right; exact key d hd hfr
        · cases hfr
      · rfl
  have hx3 := hxτ _ hx2 rfl (fun x hx => app_ev Fy fun t ht hh => ap3 t ht (mem_looks (by rw [← hh]; exact hx)))
  refine ⟨τ, hyτ, hx3, ?_⟩
  -- the frames
  have Fx2 : Facts ops bef (fr.app oy.dst ey) ox i a ex := by
    refine ⟨fun cs he => ?_, fun s cs he => ?_, Fx.put, fun t o2 he => ?_, ?_⟩
    · obtain ⟨t, h1, h2, h3⟩ := Fx.newBox cs he
      obtain ⟨o', ho', hr⟩ := resD_some hx2
      rw [hi] at ho'; cases ho'
      rcases hr with ⟨hg', ha, hfr, hold, hr⟩ | ⟨_, ha, _, hu, _⟩
      · subst he; exact ⟨t, h1, h2, accOf_alloc (by rw [← h2]; exact ha) h1 hfr (opE_newBox hr ha (by rw [h2]; rfl))⟩
      · rw [h2] at ha; cases ha
    · obtain ⟨h1, cs0, h2⟩ := Fx.wr s cs he
      exact ⟨h1, cs0, by rw [app_box Fy (compat_box hc' (.inr h1))]; exact h2⟩
    · obtain ⟨x, hx', o1, hxe⟩ := Fx.ref t o2 he
      exact ⟨x, hx', o1, by rw [app_ev Fy fun t ht hh => ap3 t ht (mem_looks (by rw [← hh]; exact hx'))]; exact hxe⟩
    · rw [oldOk_congr (fun t ht => app_get Fy (fun hh => ap2' t hh ht) (wr2 t ht))]; exact Fx.old
  rw [app_eq Fy1, app_eq Fx2, app_eq Fx, app_eq Fy]
  simp only
  rw [upd_comm ap2 (fun s cs he hh => wr1 s hh cs he) (fun s cs he hh => wr2 s hh cs he) (fun s cs s' cs' h1 h2 hss => ?_)]
  subst hss
  exact compat_box hc (.inr (Fy.wr s cs' h2).1) (Fx.wr s cs h1).1

end
end Go.Abs
namespace Go.Abs

section
variable {P : Program} {α β : Type} {ρ : Ren} {w : World} {B : Nat → Bool} {σ σ' σ1 σ2 : St} {ρ0 : Ren} {σ0 : St} {w0 : World} {β : Nat → Nat} {fr fr' : Fr} {act : Act} {ops : Array Oper} {bef : Array Nat}

noncomputable def runD (P : Program) (cF : (γ : Type) → CallF γ) (ops : Array Oper) (bef : Array Nat) : List (Nat × Acc) → Fr → St → Option (Fr × St)
  | [], fr, σ => some (fr, σ)
  | (i, a) :: L, fr, σ => match resD P cF ops bef i a fr σ with
    | some (e, σ') => runD P cF ops bef L (fr.app (dstOf ops i) e) σ'
    | none => none

theorem isRec_of_acc {o : Oper} {a : Acc} (h : accOf fr o = some a) : isRec o = false := by
  cases hop : o.op <;> simp only [isRec, hop]
  case call c =>
    simp only [accOf, hop] at h
    cases hc : c.callee with
    | value f => rfl
    | invoke r n => rfl
    | builtin b => rw [hc] at h; cases b <;> simp at h <;> rfl

/-- one step, as the machine takes it -/
theorem resD_sound {cF : (γ : Type) → CallF γ} (hC : CallsOK P B cF) (hI : Inv B ρ0 σ0 w0 ρ β fr σ act w) {i : Nat} {a : Acc} {e : Eff} (h : resD P cF ops bef i a fr σ = some (e, σ1)) (hrc : fr.rc = .no)
    {Q : Exit → Act → World → Prop} {K : Act → World → Prop} (hK : ∀ ρ1 β1 act1 w1, Inv B ρ0 σ0 w0 ρ1 β1 (fr.app (dstOf ops i) e) σ1 act1 w1 → K act1 w1) : wpOp P ops Q i K act w := by
  obtain ⟨o, ho, hr⟩ := resD_some h
  have hd : dstOf ops i = o.dst := by simp [dstOf, ho]
  rw [hd] at hK
  have hgs : ∀ b, guardD ops o fr = some b → Region.wanted o (yielded ops act.tmps) = b := fun b hg => by
    rcases guardK_sound (r := b) (yes := fun _ => some true) (no := fun _ => some false) (by rw [guardK_eq, hg]; cases b <;> rfl) hI with ⟨h1, h2⟩ | ⟨h1, h2⟩
    · simp at h2; rw [h1, h2]
    · simp at h2; rw [h1, h2]
  unfold wpOp
  simp only [ho]
  rcases hr with ⟨hg, ha, hfr, hold, hr⟩ | ⟨hg, rfl, hold, rfl, rfl⟩
  · rw [if_pos (hgs _ hg)]
    left
    have hk : opK P (lockCall (flag ops bef i) (cF (Fr × St))) o fr σ (fun fr σ => some (fr, σ)) (fun _ _ _ => none) = some (fr.app o.dst e, σ1) := by
      rw [opK_E (by rw [ha]; rfl)]
      have hn := opE_bind (P := P) (σ := σ) (lockCall_nat (hC.nat (Eff × St) (Fr × St) (fun p => some (fr.app o.dst p.1, p.2))) (flag ops bef i)) o fr.ev fr.boxAt fr.esc (fun e σ => some (e, σ))
      rw [hr] at hn
      exact hn.symm
    have := opK_sound (Q := Q) ((hC.ok _ (fr.app o.dst e, σ1)).lock (flag ops bef i)) hk hI (fun v' a w hA => by obtain ⟨_, _, _, _, _, hx, _⟩ := hA; cases hx) (isRec_of_acc ha)
    refine Oper.wp_mono (fun a1 w1 hA => ?_) this
    obtain ⟨ρ1, β1, fr1, σ', hk1, hI1, _, _⟩ := hA
    simp at hk1
    obtain ⟨rfl, rfl⟩ := hk1
    exact hK _ _ _ _ hI1
  · rw [if_neg (by rw [hgs _ hg]; simp)]
    exact hK _ _ _ _ (hI.put o.dst VRel.undef)

theorem wp_const {o : Oper} {G : Prop} (h : o.wp P act w (fun _ _ => G) (fun _ _ _ => False)) : G := by
  unfold Oper.wp at h
  generalize (execOp act.eval o).run P w = r at h
  cases r with
  | ok n w' =>
    cases n <;> simp only [Oper.upon] at h <;> first
      | exact h
      | exact h.elim
      | skip
    · obtain ⟨e, w'', fr, hR, _⟩ := h []
      cases e with
      | returned v => exact hR
      | panicked ch => exact hR.elim
      | outgrown => obtain ⟨_, _, hf⟩ := hR; exact hf.elim
    · obtain ⟨v, w'', hR, _⟩ := h default []
      exact hR
  | halt x w' => cases x <;> simp only [Oper.upon] at h

/-- there is a world behind a step -/
theorem resD_inv {cF : (γ : Type) → CallF γ} (hC : CallsOK P B cF) (hI : Inv B ρ0 σ0 w0 ρ β fr σ act w) {i : Nat} {a : Acc} {e : Eff} (h : resD P cF ops bef i a fr σ = some (e, σ1)) (hrc : fr.rc = .no) :
    ∃ ρ1 β1 act1 w1, Inv B ρ0 σ0 w0 ρ1 β1 (fr.app (dstOf ops i) e) σ1 act1 w1 := by
  obtain ⟨o, ho, hr⟩ := resD_some h
  have := resD_sound (Q := fun _ _ _ => False) hC hI h hrc (K := fun _ _ => ∃ ρ1 β1 act1 w1, Inv B ρ0 σ0 w0 ρ1 β1 (fr.app (dstOf ops i) e) σ1 act1 w1) (fun ρ1 β1 act1 w1 h => ⟨ρ1, β1, act1, w1, h⟩)
  unfold wpOp at this
  simp only [ho] at this
  split at this
  · rcases this with h | ⟨_, hl⟩
    · exact wp_const h
    · unfold LetsOut at hl
      obtain ⟨_, _, hf⟩ := hl; exact hf.elim
  · exact this

theorem runD_front {cF : (γ : Type) → CallF γ} (hC : CallsOK P B cF) {i : Nat} {a : Acc} {oi : Oper} (hi : ops[i]? = some oi) {L2 : List (Nat × Acc)} {r : Fr × St} : ∀ (L1 : List (Nat × Acc)) {fr : Fr} {σ : St} {ρ : Ren} {β : Nat → Nat} {act : Act} {w : World},
    runD P cF ops bef (L1 ++ (i, a) :: L2) fr σ = some r → Inv B ρ0 σ0 w0 ρ β fr σ act w → fr.rc = .no →
    (∀ q ∈ L1, free bef i q.1 = true ∧ compat a q.2 = true ∧ ∀ oj, ops[q.1]? = some oj → oi.apart ops oj = true) →
    runD P cF ops bef ((i, a) :: L1 ++ L2) fr σ = some r := by
  intro L1
  induction L1 with
  | nil => intro fr σ ρ β act w h _ _ _; exact h
  | cons q L1 ih =>
    obtain ⟨j, b⟩ := q
    intro fr σ ρ β act w h hI hrc hq
    simp only [List.cons_append, runD] at h
    split at h
    · rename_i ej σ1 hj
      obtain ⟨oj, hoj, _⟩ := resD_some hj
      have hdj : dstOf ops j = oj.dst := by simp [dstOf, hoj]
      have hdi : dstOf ops i = oi.dst := by simp [dstOf, hi]
      obtain ⟨ρ1, β1, act1, w1, hI1⟩ := resD_inv hC hI hj hrc
      have h1 := ih h hI1 (by rw [hdj, (app_esc (fr := fr)).2]; exact hrc) (fun q hq' => hq q (List.mem_cons_of_mem _ hq'))
      simp only [List.cons_append, runD] at h1
      split at h1
      · rename_i ei σ2 hi1
        obtain ⟨hf, hc, hap⟩ := hq (j, b) List.mem_cons_self
        have hap' : oj.apart ops oi = true := by
          have := hap oj hoj
          obtain ⟨s1, s2, s3⟩ := Oper.apart_spec this
          unfold Oper.apart
          cases hd1 : oj.dst with
          | none =>
            cases hd2 : oi.dst with
            | none => rfl
            | some d2 => simpa using s1 d2 hd2
          | some d1 =>
            have a1 := s3 d1 hd1
            cases hd2 : oi.dst with
            | none => simpa using a1
            | some d2 =>
              have a2 := s1 d2 hd2
              have a3 := s2 d2 hd2
              rw [hd1] at a3
              simp only [Bool.and_eq_true, Bool.not_eq_true', bne_iff_ne, ne_eq, Option.some.injEq]
              refine ⟨⟨by simpa using a1, fun e => a3 (by rw [e])⟩, by simpa using a2⟩
        rw [hdj] at hi1 hI1 h1
        rw [hdi] at h1
        obtain ⟨τ, k1, k2, k3⟩ := swap hC hI hoj hi (fun _ => ⟨ρ1, β1, act1, w1, hI1⟩) hj hi1 (by rw [free_symm]; exact hf) hap' (by rw [compat_symm]; exact hc)
        simp only [List.cons_append, runD]
        rw [k1]
        simp only [hdi]
        rw [k2]
        simp only [hdj]
        rw [← k3]
        exact h1
      · cases h1
    · cases h

/-! ### what lies ahead of what -/

theorem inner_bits {acc : Array Nat} {j : Nat} : ∀ (l : List Edge) (s0 : Nat), (l.foldl (fun s e => if Region.binds .any e then s ||| 2 ^ e.on ||| acc.getD e.on 0 else s) s0).testBit j = true →
    s0.testBit j = true ∨ ∃ e ∈ l, Region.binds .any e = true ∧ (e.on = j ∨ (acc.getD e.on 0).testBit j = true) := by
  intro l
  induction l with
  | nil => intro s0 h; exact .inl h
  | cons e l ih =>
    intro s0 h
    simp only [List.foldl_cons] at h
    rcases ih _ h with h1 | ⟨e', he', h2⟩
    · split at h1
      · rename_i hb
        simp only [Nat.testBit_or, Bool.or_eq_true] at h1
        rcases h1 with (h1 | h1) | h1
        · exact .inl h1
        · right
          refine ⟨e, List.mem_cons_self, hb, .inl ?_⟩
          rw [Nat.testBit_two_pow] at h1
          simpa using h1
        · exact .inr ⟨e, List.mem_cons_self, hb, .inr h1⟩
      · exact .inl h1
    · exact .inr ⟨e', List.mem_cons_of_mem _ he', h2⟩

def Good (pre : List Oper) (acc : Array Nat) : Prop := acc.size = pre.length ∧ ∀ (i : Nat) (o : Oper), pre[i]? = some o → ∀ j, (acc.getD i 0).testBit j = true →
    ∃ e ∈ o.after, Region.binds .any e = true ∧ (e.on = j ∨ ((acc.getD e.on 0).testBit j = true))

theorem good_push {pre : List Oper} {acc : Array Nat} (h : Good pre acc) (o : Oper) : Good (pre ++ [o]) (acc.push (o.after.foldl (fun s e => if Region.binds .any e then s ||| 2 ^ e.on ||| acc.getD e.on 0 else s) 0)) := by
  obtain ⟨h1, h2⟩ := h
  generalize hv : o.after.foldl (fun s e => if Region.binds .any e then s ||| 2 ^ e.on ||| acc.getD e.on 0 else s) 0 = v
  have up : ∀ n j, (acc.getD n 0).testBit j = true → ((acc.push v).getD n 0).testBit j = true := fun n j hn => by
    rw [Array.getD_eq_getD_getElem?] at hn ⊢
    rw [Array.getElem?_push]
    cases hx : acc[n]? with
    | none => rw [hx] at hn; simp at hn
    | some x =>
      rw [hx] at hn
      have hlt := (Array.getElem?_eq_some_iff.1 hx).1
      rw [if_neg (by omega)]
      simpa [hx] using hn
  refine ⟨by simp [h1], fun i o' ho' j hj => ?_⟩
  by_cases hi : i < pre.length
  · rw [List.getElem?_append_left hi] at ho'
    have hj' : (acc.getD i 0).testBit j = true := by
      rw [Array.getD_eq_getD_getElem?] at hj ⊢
      rw [Array.getElem?_push, if_neg (by omega)] at hj
      exact hj
    obtain ⟨e, he, hb, hor⟩ := h2 i o' ho' j hj'
    exact ⟨e, he, hb, hor.imp id (up _ _)⟩
  · rw [List.getElem?_append_right (by omega)] at ho'
    have hi2 : i = pre.length := by
      have := (List.getElem?_eq_some_iff.1 ho').1
      simp at this; omega
    subst hi2
    simp at ho'
    subst ho'
    rw [Array.getD_eq_getD_getElem?, Array.getElem?_push, if_pos h1.symm] at hj
    simp only [Option.getD_some] at hj
    rw [← hv, ← Array.foldl_toList] at hj
    rcases inner_bits _ _ hj with hz | ⟨e, he, hb, hor⟩
    · simp at hz
    · exact ⟨e, by simpa using he, hb, hor.imp id (up _ _)⟩

theorem good_fold : ∀ (l pre : List Oper) (acc : Array Nat), Good pre acc → Good (pre ++ l) (l.foldl (fun acc o => acc.push (o.after.foldl (fun s e => if Region.binds .any e then s ||| 2 ^ e.on ||| acc.getD e.on 0 else s) 0)) acc)
  | [], pre, acc, h => by simpa using h
  | o :: l, pre, acc, h => by
    have := good_fold l (pre ++ [o]) _ (good_push h o)
    simpa using this

theorem before_spec (ops : Array Oper) {i : Nat} {o : Oper} (ho : ops[i]? = some o) {j : Nat} (hj : ((Region.before ops).getD i 0).testBit j = true) :
    ∃ e ∈ o.after, Region.binds .any e = true ∧ (e.on = j ∨ (((Region.before ops).getD e.on 0).testBit j = true)) := by
  have := good_fold ops.toList [] #[] ⟨rfl, fun i o h => by simp at h⟩
  rw [List.nil_append, Array.foldl_toList] at this
  exact this.2 i o (by simpa using ho) j hj

end
end Go.Abs
namespace Go.Abs

section
variable {P : Program} {α β : Type} {ρ : Ren} {w : World} {B : Nat → Bool} {σ σ' σ1 σ2 : St} {ρ0 : Ren} {σ0 : St} {w0 : World} {β : Nat → Nat} {fr fr' : Fr} {act : Act} {ops : Array Oper} {bef : Array Nat}

theorem drawK_runD {cF : (γ : Type) → CallF γ} (hN : ∀ (γ δ : Type) (g : γ → Option δ), NatF (cF γ) (cF δ) g) {α : Type} {r : α} {k : Fr → St → Option α} : ∀ (is : List Nat) {log : List (Nat × Acc)} {fr : Fr} {σ : St},
    drawK P (cF α) ops bef is log fr σ k = some r → ∃ L fr' σ', L.map Prod.fst = is ∧ runD P cF ops bef L fr σ = some (fr', σ') ∧ k fr' σ' = some r ∧
      (∀ q ∈ L, ∀ p ∈ log, free bef q.1 p.1 = true → compat q.2 p.2 = true) ∧ L.Pairwise (fun p q => free bef q.1 p.1 = true → compat q.2 p.2 = true) ∧
      (∀ q ∈ L, ∀ o, ops[q.1]? = some o → ∀ j, j < q.1 → free bef q.1 j = true → o.apart ops (ops.getD j default) = true) := by
  intro is
  induction is with
  | nil => intro log fr σ h; exact ⟨[], fr, σ, rfl, rfl, h, by simp, List.Pairwise.nil, by simp⟩
  | cons i is ih =>
    intro log fr σ h
    simp only [drawK] at h
    split at h
    · cases h
    · rename_i o ho
      rw [guardK_eq] at h
      have fin : ∀ {a : Acc} {e : Eff} {σ1 : St}, resD P cF ops bef i a fr σ = some (e, σ1) → drawK P (cF α) ops bef is ((i, a) :: log) (fr.app o.dst e) σ1 k = some r →
          (∀ p ∈ log, free bef i p.1 = true → compat a p.2 = true) → (∀ j, j < i → free bef i j = true → o.apart ops (ops.getD j default) = true) →
          ∃ L fr' σ', L.map Prod.fst = i :: is ∧ runD P cF ops bef L fr σ = some (fr', σ') ∧ k fr' σ' = some r ∧
            (∀ q ∈ L, ∀ p ∈ log, free bef q.1 p.1 = true → compat q.2 p.2 = true) ∧ L.Pairwise (fun p q => free bef q.1 p.1 = true → compat q.2 p.2 = true) ∧
            (∀ q ∈ L, ∀ o, ops[q.1]? = some o → ∀ j, j < q.1 → free bef q.1 j = true → o.apart ops (ops.getD j default) = true) := by
        intro a e σ1 hr hd hlog hap
        obtain ⟨L, fr', σ', h1, h2, h3, h4, h5, h6⟩ := ih hd
        refine ⟨(i, a) :: L, fr', σ', by simp [h1], ?_, h3, fun q hq p hp => ?_, List.Pairwise.cons (fun q hq => h4 q hq (i, a) List.mem_cons_self) h5, fun q hq o' ho' => ?_⟩
        · simp only [runD, hr, dstOf, ho, Option.bind_some]
          exact h2
        · rcases List.mem_cons.1 hq with rfl | hq
          · exact hlog p hp
          · exact h4 q hq p (List.mem_cons_of_mem _ hp)
        · rcases List.mem_cons.1 hq with rfl | hq
          · simp only at ho'
            rw [ho] at ho'; cases ho'
            exact hap
          · exact h6 q hq o' ho'
      split at h
      · rename_i hg
        split at h
        · rename_i a ha hfr
          split at h
          · rename_i hc
            simp only [Bool.and_eq_true, List.all_eq_true, List.mem_range, Bool.or_eq_true, Bool.not_eq_true'] at hc
            obtain ⟨⟨hold, hlog⟩, hap⟩ := hc
            rw [opK_E (by rw [ha]; rfl)] at h
            have hn := opE_bind (P := P) (σ := σ) (lockCall_nat (hN (Eff × St) α (fun p => drawK P (cF α) ops bef is ((i, a) :: log) (fr.app o.dst p.1) p.2 k)) (flag ops bef i)) o fr.ev fr.boxAt fr.esc (fun e σ => some (e, σ))
            have h' : (opE P (lockCall (flag ops bef i) (cF (Eff × St))) o fr.ev fr.boxAt fr.esc σ (fun e σ => some (e, σ))).bind (fun p => drawK P (cF α) ops bef is ((i, a) :: log) (fr.app o.dst p.1) p.2 k) = some r := by
              rw [hn]; exact h
            cases hx : opE P (lockCall (flag ops bef i) (cF (Eff × St))) o fr.ev fr.boxAt fr.esc σ (fun e σ => some (e, σ)) with
            | none => rw [hx] at h'; cases h'
            | some p =>
              obtain ⟨e, σ1⟩ := p
              rw [hx] at h'
              refine fin (a := a) (e := e) (σ1 := σ1) ?_ h' (fun p hp hf => ?_) (fun j hj hf => ?_)
              · unfold resD
                simp only [ho, hg]
                rw [if_pos ⟨ha, hfr, hold⟩]
                exact hx
              · rcases hlog p hp with h1 | h1
                · rw [hf] at h1; cases h1
                · exact h1
              · rcases hap j hj with h1 | h1
                · rw [hf] at h1; cases h1
                · exact h1
          · cases h
        · cases h
      · rename_i hg
        split at h
        · rename_i hc
          simp only [Bool.and_eq_true, List.all_eq_true, List.mem_range, Bool.or_eq_true, Bool.not_eq_true'] at hc
          obtain ⟨hold, hap⟩ := hc
          refine fin (a := .none) (e := .put Slot.undef) (σ1 := σ) ?_ h (fun p hp hf => ?_) (fun j hj hf => ?_)
          · unfold resD
            simp only [ho, hg]
            rw [if_pos ⟨trivial, hold⟩]
          · cases p.2 <;> simp [compat, isG]
          · rcases hap j hj with h1 | h1
            · rw [hf] at h1; cases h1
            · exact h1
        · cases h
      · cases h

theorem binds_any {e : Edge} (h : Region.binds .any e = true) (md : Region.Mode) : Region.binds md e = true := by
  unfold Region.binds at *
  split at h
  · simp at h
  · simp at h
  · first
    | rfl
    | (split <;> simp_all)

theorem edge_lt (h : edgesOk ops = true) {i : Nat} {o : Oper} (ho : ops[i]? = some o) {e : Edge} (he : e ∈ o.after) (hb : Region.binds .any e = true) : e.on < i := by
  unfold edgesOk at h
  rw [Bool.and_eq_true, Bool.and_eq_true, List.all_eq_true] at h
  have := h.1.1 i (by simpa using (Array.getElem?_eq_some_iff.1 ho).1)
  rw [List.all_eq_true] at this
  have := this e (by simp only [Array.getD_eq_getD_getElem?, ho, Option.getD_some]; simpa using he)
  rw [hb] at this
  simpa using this

/-- were nothing ready, then all would be listed -/
theorem passE_listed {md : Region.Mode} {listed : Array Bool} (hsz : listed.size = ops.size) (hn : Region.ready md ops listed = []) : ∀ (l : List Nat) {m : Nat}, (∀ i ∈ l, i < ops.size) → (∀ j, m.testBit j = true → listed.getD j false = true) →
    ∀ j, (l.foldl (fun m i => if (ops.getD i default).after.toList.all (fun e => !Region.binds md e || m.testBit e.on) then m ||| 2 ^ i else m) m).testBit j = true → listed.getD j false = true := by
  intro l
  induction l with
  | nil => intro m _ hm j hj; exact hm j hj
  | cons i l ih =>
    intro m hl hm j hj
    simp only [List.foldl_cons] at hj
    refine ih (fun k hk => hl k (List.mem_cons_of_mem _ hk)) (fun k hk => ?_) j hj
    split at hk
    · rename_i hall
      rw [Nat.testBit_or, Bool.or_eq_true] at hk
      rcases hk with hk | hk
      · exact hm k hk
      · rw [Nat.testBit_two_pow] at hk
        have hik : i = k := by simpa using hk
        subst hik
        have hi := hl i List.mem_cons_self
        cases hb : listed.getD i true with
        | true =>
          rw [Array.getD_eq_getD_getElem?, Array.getElem?_eq_getElem (by omega)] at hb ⊢
          exact hb
        | false =>
          have hr : i ∈ Region.ready md ops listed := by
            rw [mem_ready]
            refine ⟨hb, ops[i], Array.getElem?_eq_getElem hi, fun e he hbi => ?_⟩
            rw [List.all_eq_true] at hall
            have := hall e (by simp only [Array.getD_eq_getD_getElem?, Array.getElem?_eq_getElem hi, Option.getD_some]; simpa using he)
            rw [hbi] at this
            exact hm _ (by simpa using this)
          rw [hn] at hr
          cases hr
    · exact hm k hk

theorem fullE_listed {md : Region.Mode} {listed : Array Bool} (hsz : listed.size = ops.size) (hn : Region.ready md ops listed = []) : ∀ (n : Nat) {m : Nat}, fullE md ops n m = true → (∀ j, m.testBit j = true → listed.getD j false = true) →
    ∀ i, i < ops.size → listed.getD i false = true := by
  have base : ∀ {m : Nat}, ((List.range ops.size).all fun i => m.testBit i) = true → (∀ j, m.testBit j = true → listed.getD j false = true) → ∀ i, i < ops.size → listed.getD i false = true := fun {m} h hm i hi => by
    rw [List.all_eq_true] at h
    exact hm i (h i (by simpa using hi))
  intro n
  induction n with
  | zero => intro m h hm; exact base h hm
  | succ n ih =>
    intro m h hm
    simp only [fullE] at h
    split at h
    · rename_i hb; exact base hb hm
    · exact ih h (passE_listed hsz hn _ (fun i hi => by simpa using hi) hm)

theorem before_listed (hE : edgesOk ops = true) {listed : Array Bool} (hcl : ∀ (i : Nat) (o : Oper), ops[i]? = some o → listed.getD i false = true → ∀ e ∈ o.after, Region.binds .any e = true → listed.getD e.on false = true) :
    ∀ (i : Nat) (o : Oper), ops[i]? = some o → (∀ e ∈ o.after, Region.binds .any e = true → listed.getD e.on false = true) → ∀ j, ((Region.before ops).getD i 0).testBit j = true → listed.getD j false = true := by
  intro i
  induction i using Nat.strongRecOn with
  | ind i ih =>
    intro o ho hp j hj
    obtain ⟨e, he, hb, hor⟩ := before_spec ops ho hj
    have hl := hp e he hb
    rcases hor with rfl | hor
    · exact hl
    · have hlt := edge_lt hE ho he hb
      have hsz := (Array.getElem?_eq_some_iff.1 ho).1
      have ho' : ops[e.on]? = some ops[e.on] := Array.getElem?_eq_getElem (by omega)
      exact ih e.on hlt _ ho' (hcl e.on _ ho' hl) j hor

theorem runD_lt {cF : (γ : Type) → CallF γ} : ∀ (L : List (Nat × Acc)) {fr : Fr} {σ : St} {r : Fr × St}, runD P cF ops bef L fr σ = some r → ∀ q ∈ L, q.1 < ops.size := by
  intro L
  induction L with
  | nil => intro fr σ r _ q hq; cases hq
  | cons q L ih =>
    obtain ⟨i, a⟩ := q
    intro fr σ r h q hq
    simp only [runD] at h
    split at h
    · rename_i e σ1 hr
      obtain ⟨o, ho, _⟩ := resD_some hr
      rcases List.mem_cons.1 hq with rfl | hq
      · exact (Array.getElem?_eq_some_iff.1 ho).1
      · exact ih h q hq
    · cases h

theorem any_sound {cF : (γ : Type) → CallF γ} (hC : CallsOK P B cF) (md : Region.Mode) (hE : edgesOk ops = true) (hfull : fullE md ops 5 0 = true) {Q : Exit → Act → World → Prop} {fr' : Fr} {σ' : St}
    (hQ : ∀ ρ β act w, Inv B ρ0 σ0 w0 ρ β fr' σ' act w → Q .normal act w) : ∀ (fuel : Nat) {listed : Array Bool} {L : List (Nat × Acc)} {fr : Fr} {σ : St} {ρ : Ren} {β : Nat → Nat} {act : Act} {w : World},
    L.length = fuel → runD P cF ops (Region.before ops) L fr σ = some (fr', σ') → Inv B ρ0 σ0 w0 ρ β fr σ act w → fr.rc = .no → listed.size = ops.size →
    (∀ i, i < ops.size → (listed.getD i true = false ↔ i ∈ L.map Prod.fst)) → (L.map Prod.fst).Pairwise (· < ·) → L.Pairwise (fun p q => free (Region.before ops) q.1 p.1 = true → compat q.2 p.2 = true) →
    (∀ q ∈ L, ∀ o, ops[q.1]? = some o → ∀ j, j < q.1 → free (Region.before ops) q.1 j = true → o.apart ops (ops.getD j default) = true) →
    (∀ (i : Nat) (o : Oper), ops[i]? = some o → listed.getD i false = true → ∀ e ∈ o.after, Region.binds .any e = true → listed.getD e.on false = true) →
    wpAny P md ops Q fuel listed act w := by
  intro fuel
  have hun : ∀ {listed : Array Bool} {i : Nat}, listed.getD i true = false → i < listed.size := fun {listed i} h => by
    rcases Nat.lt_or_ge i listed.size with h' | h'
    · exact h'
    · rw [Array.getD_eq_getD_getElem?, Array.getElem?_eq_none h'] at h; simp at h
  induction fuel with
  | zero =>
    intro listed L fr σ ρ β act w hlen hrun hI hrc hsz hL hs hpc hap hcl
    obtain rfl : L = [] := List.eq_nil_of_length_eq_zero hlen
    simp only [runD, Option.some.injEq, Prod.mk.injEq] at hrun
    obtain ⟨rfl, rfl⟩ := hrun
    refine ⟨?_, hQ _ _ _ _ hI⟩
    rw [List.eq_nil_iff_forall_not_mem]
    intro i hi
    obtain ⟨h1, _⟩ := mem_ready.1 hi
    have := (hL i (by have := hun h1; omega)).1 h1
    simp at this
  | succ fuel ih =>
    intro listed L fr σ ρ β act w hlen hrun hI hrc hsz hL hs hpc hap hcl
    have hlt := runD_lt L hrun
    refine ⟨fun hnil => ?_, fun i hi => ?_⟩
    · exfalso
      cases L with
      | nil => simp at hlen
      | cons q L =>
        have hq := hlt q List.mem_cons_self
        have h1 := (hL q.1 hq).2 (by simp)
        have h2 := fullE_listed hsz hnil 5 hfull (fun j hj => by simp at hj) q.1 hq
        rw [Array.getD_eq_getD_getElem?, Array.getElem?_eq_getElem (by omega)] at h1 h2
        simp only [Option.getD_some] at h1 h2
        rw [h2] at h1; cases h1
    · obtain ⟨hi1, oi, hoi, hpre⟩ := mem_ready.1 hi
      have hisz : i < ops.size := (Array.getElem?_eq_some_iff.1 hoi).1
      have him := (hL i hisz).1 hi1
      obtain ⟨⟨i', a⟩, hmem, rfl⟩ := List.mem_map.1 him
      obtain ⟨L1, L2, rfl⟩ := List.append_of_mem hmem
      simp only at hi1 hoi hisz hi him
      have hs1 : ∀ q ∈ L1, q.1 < i' := fun q hq => by
        rw [List.map_append, List.pairwise_append] at hs
        exact hs.2.2 q.1 (List.mem_map_of_mem hq) i' (by simp)
      have hs2 : ∀ q ∈ L2, i' < q.1 := fun q hq => by
        rw [List.map_append, List.pairwise_append] at hs
        have := hs.2.1
        simp only [List.map_cons, List.pairwise_cons] at this
        exact this.1 q.1 (List.mem_map_of_mem hq)
      have hfree : ∀ q ∈ L1, free (Region.before ops) i' q.1 = true := fun q hq => by
        have hqi := hs1 q hq
        have hqu : listed.getD q.1 true = false := (hL q.1 (by omega)).2 (List.mem_map_of_mem (List.mem_append_left _ hq))
        unfold free
        rw [Nat.max_eq_left (by omega), Nat.min_eq_right (by omega)]
        have hb : ((Region.before ops).getD i' 0).testBit q.1 = false := by
          cases hb : ((Region.before ops).getD i' 0).testBit q.1 with
          | false => rfl
          | true =>
            have := before_listed hE hcl i' oi hoi (fun e he hb => hpre e he (binds_any hb md)) q.1 hb
            have hqs := hun hqu
            rw [Array.getD_eq_getD_getElem?, Array.getElem?_eq_getElem hqs] at this hqu
            simp only [Option.getD_some] at this hqu
            rw [this] at hqu; cases hqu
        rw [hb]
        simp only [Bool.not_false, Bool.true_and, bne_iff_ne, ne_eq]
        omega
      have hfront := runD_front hC hoi L1 hrun hI hrc (fun q hq => ?_)
      · simp only [List.cons_append, runD] at hfront
        split at hfront
        · rename_i e σ1 hr
          refine resD_sound hC hI hr hrc fun ρ1 β1 act1 w1 hI1 => ?_
          refine ih (L := L1 ++ L2) ?_ hfront hI1 (by rw [show (fr.app (dstOf ops i') e).rc = fr.rc by
              cases e <;> simp only [Fr.app] <;> cases dstOf ops i' <;> rfl]; exact hrc) (by simp [hsz]) (fun j hj => ?_) ?_ ?_ (fun q hq => hap q ?_) (fun j o ho hjl e' he' hb => ?_)
          · simp only [List.length_append, List.length_cons] at hlen ⊢; omega
          · by_cases hji : i' = j
            · subst hji
              constructor
              · intro h
                rw [Array.getD_eq_getD_getElem?, Array.getElem?_setIfInBounds, if_pos rfl, if_pos (by omega)] at h
                simp at h
              · intro h
                rw [List.map_append, List.mem_append] at h
                rcases h with h | h
                · obtain ⟨q, hq, he⟩ := List.mem_map.1 h
                  have := hs1 q hq; omega
                · obtain ⟨q, hq, he⟩ := List.mem_map.1 h
                  have := hs2 q hq; omega
            · rw [getD_set_ne true hji, hL j hj]
              simp only [List.map_append, List.map_cons, List.mem_append, List.mem_cons]
              constructor
              · rintro (h | h | h)
                · exact .inl h
                · exact (hji h.symm).elim
                · exact .inr h
              · rintro (h | h)
                · exact .inl h
                · exact .inr (.inr h)
          · rw [List.map_append, List.pairwise_append] at hs ⊢
            simp only [List.map_cons, List.pairwise_cons] at hs
            exact ⟨hs.1, hs.2.1.2, fun x hx y hy => hs.2.2 x hx y (List.mem_cons_of_mem _ hy)⟩
          · rw [List.pairwise_append] at hpc ⊢
            simp only [List.pairwise_cons] at hpc
            exact ⟨hpc.1, hpc.2.1.2, fun x hx y hy => hpc.2.2 x hx y (List.mem_cons_of_mem _ hy)⟩
          · rcases List.mem_append.1 hq with h | h
            · exact List.mem_append_left _ h
            · exact List.mem_append_right _ (List.mem_cons_of_mem _ h)
          · by_cases hji : i' = j
            · subst hji
              rw [hoi] at ho; cases ho
              exact getD_set_true (hpre e' he' (binds_any hb md))
            · rw [getD_set_ne false hji] at hjl
              exact getD_set_true (hcl j o ho hjl e' he' hb)
        · cases hfront
      · refine ⟨hfree q hq, ?_, fun oj hoj => ?_⟩
        · rw [List.pairwise_append] at hpc
          exact hpc.2.2 q hq (i', a) List.mem_cons_self (hfree q hq)
        · have := hap (i', a) hmem oi hoi q.1 (hs1 q hq) (hfree q hq)
          simpa only [Array.getD_eq_getD_getElem?, hoj, Option.getD_some] using this

theorem drawAll : DrawAll P B := by
  intro cF hC α r ρ w σ ρ0 σ0 w0 β fr a id ops k Q esc hE h hI he hr hQ
  obtain ⟨L, fr', σ', h1, h2, h3, h4, h5, h6⟩ := drawK_runD hC.nat _ h
  have hesc : fr'.esc = fr.esc ∧ fr'.rc = fr.rc := by
    clear h1 h3 h4 h5 h6 h
    induction L generalizing fr σ ρ β a w with
    | nil => simp only [runD, Option.some.injEq, Prod.mk.injEq] at h2; obtain ⟨rfl, rfl⟩ := h2; exact ⟨rfl, rfl⟩
    | cons q L ih =>
      obtain ⟨i, a'⟩ := q
      simp only [runD] at h2
      split at h2
      · rename_i e σ1 hr1
        obtain ⟨ρ1, β1, act1, w1, hI1⟩ := resD_inv hC hI hr1 hr
        have hsame : (fr.app (dstOf ops i) e).esc = fr.esc ∧ (fr.app (dstOf ops i) e).rc = fr.rc := by
          cases e <;> simp only [Fr.app] <;> cases dstOf ops i <;> exact ⟨rfl, rfl⟩
        have := ih hI1 (by rw [hsame.1]; exact he) (by rw [hsame.2]; exact hr) h2
        exact ⟨this.1.trans hsame.1, this.2.trans hsame.2⟩
      · cases h2
  have key : ∀ md t, fullE md ops 5 0 = true → wpOps P ops Q (Region.linearise md ops t) a { w with drawn := w.drawn + 1 } := fun md t hfull => by
    have hI' : Inv B ρ0 σ0 w0 ρ β fr σ a { w with drawn := w.drawn + 1 } := by
      have hst : Step ρ σ w ρ σ { w with drawn := w.drawn + 1 } := (Step.refl ρ σ w).world rfl rfl rfl rfl
      exact hI.global (hI.s.world rfl) hst
    refine wpAny_sound ops.size t _ a _ (any_sound hC md hE hfull (fun ρ β act w hI2 => hQ act w ⟨ρ, β, fr', σ', h3, hI2, hesc.1.trans he, hesc.2.trans hr⟩) ops.size ?_ h2 hI' hr (by simp) (fun i hi => ?_) ?_ h5 h6 (fun i o ho hl => ?_))
    · have := congrArg List.length h1; simpa using this
    · rw [h1]
      simp [hi]
    · rw [h1]; exact List.pairwise_lt_range
    · have hlt := (Array.getElem?_eq_some_iff.1 ho).1
      simp [hlt] at hl
  refine wp_region_draw fun t => ?_
  have hE' := hE
  unfold edgesOk at hE'
  rw [Bool.and_eq_true, Bool.and_eq_true] at hE'
  obtain ⟨⟨_, hany⟩, hdep⟩ := hE'
  unfold Region.schedule
  split
  · exact key _ _ hany
  · rename_i hm
    simp only [Bool.or_eq_true, Bool.not_eq_true', not_or] at hm
    have hd : Region.departs ops = true := by simpa using hm.2
    rw [hd] at hdep
    simp only [Bool.not_true, Bool.false_or, Bool.and_eq_true] at hdep
    split
    · exact key _ _ hdep.1
    · exact key _ _ hdep.2

end
end Go.Abs
namespace Go.Abs
/-- THE LAW: what the abstract run of a call answers, the machine's call answers -/
theorem callN_ok {P : Program} {cfg : Cfg} {B : Nat → Bool} (hP : ProgOK P cfg) (n : Nat) : CallsOK P B (fun _ => callN P cfg n) := callN_sound hP drawAll n
end Go.Abs
