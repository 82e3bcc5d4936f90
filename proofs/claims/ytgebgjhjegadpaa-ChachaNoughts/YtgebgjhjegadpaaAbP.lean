/-
  The abstract machine: one operation, whichever it is, against the model's (calls of functions by what is known of them).
-/
import Derived.Test.YtgebgjhjegadpaaAbO
namespace Go.Proofs.Ytgebgjhjegadpaa
open Go

section
variable {P : Program} {cx : Cx} {Wr : Nat → Prop} {β : Bm} {H : Nat → Option Blk} {D : Nat → Prop} {w : World}

/-- What is asked of a call. -/
def CallOk (cx : Cx) (Wr : Nat → Prop) (P : Program) (β : Bm) (H : Nat → Option Blk) (D : Nat → Prop) (w : World) (f : Nat) (cargs : List Value) (out : Out) : Prop :=
  (∃ fn b, P.funcs[f]? = some fn ∧ fn.body = some b ∧ fn.name ≠ "runtime.NumGoroutine") ∧ Calls P f cargs.toArray w (fun e w' => ∃ cv, e = .returned cv ∧ Post cx Wr β H D out cv w') ∨
  ∃ cv, (callFunc f cargs.toArray).run P w = .ok (.value cv) w ∧ Post cx Wr β H D out cv w

theorem upon_val {o : Oper} {a : Act} {K : Act → World → Prop} {Q : Exit → Act → World → Prop} {m : Sem Value} {cv : Value} {w' : World} (h : m.run P w = .ok cv w') (hn : K (a.put o.dst cv) w') :
    o.upon P a K Q ((do pure (Next.value (← m)) : Sem Next).run P w) := by
  simp only [Sem.run_bind, h, Result.andThen_ok, Sem.run_pure]
  exact hn

theorem upon_unit {o : Oper} {a : Act} {K : Act → World → Prop} {Q : Exit → Act → World → Prop} {m : Sem Unit} {w' : World} (h : m.run P w = .ok () w') (hn : K (a.put o.dst undef) w') :
    o.upon P a K Q ((do m; pure Next.skip : Sem Next).run P w) := by
  simp only [Sem.run_bind, h, Result.andThen_ok, Sem.run_pure]
  exact hn

theorem parts_rel {ρ : Operand → AV} {a : Act} (hρ : ∀ x, RelV cx β (ρ x) (a.eval x)) (ps : Array (Nat × Operand)) :
    (∀ (j : Nat) (p : Nat × AV), (partsAV ρ ps)[j]? = some p → ∃ cv, ((ps.map fun (i, x) => (i, a.eval x)).toList)[j]? = some (p.1, cv) ∧ RelV cx β p.2 cv) ∧ (partsAV ρ ps).length = (ps.map fun (i, x) => (i, a.eval x)).toList.length := by
  refine ⟨fun j p h => ?_, by simp [partsAV]⟩
  simp only [partsAV, List.getElem?_map, Option.map_eq_some_iff] at h
  obtain ⟨q, hq, rfl⟩ := h
  refine ⟨a.eval q.2, ?_, hρ q.2⟩
  simp only [Array.toList_map, List.getElem?_map, hq, Option.map_some]

theorem refAV_rel {ρ : Operand → AV} {a : Act} (hρ : ∀ x, RelV cx β (ρ x) (a.eval x)) (x : Option Operand) : RelO cx β (refAV ρ x) (x.map a.eval) := by
  cases x with
  | none => trivial
  | some x => exact hρ x

theorem map_rel {ρ : Operand → AV} {a : Act} (hρ : ∀ x, RelV cx β (ρ x) (a.eval x)) (xs : Array Operand) : (xs.toList.map ρ).length = (xs.map a.eval).toList.length ∧ ∀ (j : Nat) (v : AV) (cv : Value), (xs.toList.map ρ)[j]? = some v → (xs.map a.eval).toList[j]? = some cv → RelV cx β v cv := by
  refine ⟨by simp, fun j v cv h1 h2 => ?_⟩
  simp only [List.getElem?_map, Option.map_eq_some_iff] at h1
  obtain ⟨x, hx, rfl⟩ := h1
  simp only [Array.toList_map, List.getElem?_map, hx, Option.map_some, Option.some.injEq] at h2
  subst h2
  exact hρ x

theorem ptrsAV_rel : ∀ {ps : List (Nat × Nat)} {l : List Value}, RelPs β ps l → (ptrsAV ps).length = l.length ∧ ∀ (j : Nat) (v : AV) (cv : Value), (ptrsAV ps)[j]? = some v → l[j]? = some cv → RelV cx β v cv
  | [], l, h => by rw [h]; exact ⟨rfl, fun j v cv e => by simp [ptrsAV] at e⟩
  | p :: ps, l, ⟨cv0, l', e, h1, h2⟩ => by
    subst e
    obtain ⟨a1, a2⟩ := ptrsAV_rel h2
    refine ⟨by simp [ptrsAV, a1], fun j v cv e1 e2 => ?_⟩
    cases j with
    | zero =>
      simp only [ptrsAV, List.getElem?_cons_zero, Option.some.injEq] at e1 e2
      subst e1; subst e2
      exact h1
    | succ j => exact a2 j v cv (by simpa [ptrsAV] using e1) (by simpa using e2)

theorem app_rel {as bs : List AV} {l m : List Value} (h0 : as.length = l.length) (h1 : ∀ (j : Nat) (v : AV) (cv : Value), as[j]? = some v → l[j]? = some cv → RelV cx β v cv) (h2 : ∀ (j : Nat) (v : AV) (cv : Value), bs[j]? = some v → m[j]? = some cv → RelV cx β v cv) :
    ∀ (j : Nat) (v : AV) (cv : Value), (as ++ bs)[j]? = some v → (l ++ m)[j]? = some cv → RelV cx β v cv := by
  intro j v cv e1 e2
  by_cases hj : j < as.length
  · rw [List.getElem?_append_left hj] at e1
    rw [List.getElem?_append_left (by omega)] at e2
    exact h1 j v cv e1 e2
  · rw [List.getElem?_append_right (by omega)] at e1
    rw [List.getElem?_append_right (by omega)] at e2
    rw [h0] at e1
    exact h2 _ v cv e1 e2

theorem upon_call {o : Oper} {a : Act} {K : Act → World → Prop} {Q : Exit → Act → World → Prop} {f : Nat} {cargs : List Value} {out : Out} (h : CallOk cx Wr P β H D w f cargs out) (hK : ∀ cv w', Post cx Wr β H D out cv w' → K (a.put o.dst cv) w') :
    o.upon P a K Q ((callFunc f cargs.toArray).run P w) := by
  rcases h with ⟨⟨fn, b, hf, hb, hn⟩, hc⟩ | ⟨cv, hr, hp⟩
  · have : (callFunc f cargs.toArray).run P w = .ok (.enter f cargs.toArray) w := by
      simp [callFunc, hf, hb, hn]
    rw [this]
    refine hc.mono ?_
    rintro e w' ⟨cv, rfl, hp⟩
    exact hK cv w' hp
  · rw [hr]
    exact hK cv w hp

theorem op_sound {E : Env} {m : SubMode} {ρ : Operand → AV} {nx : Nat} {o : Oper} {a : Act} {tr : Tr Out} {rd : List Nat} {out : Out} {K : Act → World → Prop} {Q : Exit → Act → World → Prop} (hρ : ∀ x, RelV cx β (ρ x) (a.eval x))
    (h : (opSem E m ρ nx o.op).run H = some (tr, rd)) (hg : tr.get = some out) (hH : RelH cx Wr β H D w) (hf : Fresh D out)
    (hcall : ∀ f ts args cargs tr' rd', (callSem E f ts nx args).run H = some (tr', rd') → tr'.get = some out → args.length = cargs.length → (∀ (j : Nat) (v : AV) (cv : Value), args[j]? = some v → cargs[j]? = some cv → RelV cx β v cv) → CallOk cx Wr E.P β H D w f cargs out)
    (hK : ∀ cv w', Post cx Wr β H D out cv w' → K (a.put o.dst cv) w') : o.wp E.P a w K Q := by
  obtain ⟨dst, op, type, pos, after, guard⟩ := o
  have hval : ∀ {m : Sem Value} {cv : Value} {w' : World}, m.run E.P w = .ok cv w' → Post cx Wr β H D out cv w' → (Oper.mk dst op type pos after guard).upon E.P a K Q ((do pure (Next.value (← m)) : Sem Next).run E.P w) :=
    fun h hp => upon_val h (hK _ _ hp)
  unfold Oper.wp
  cases op
  case move x =>
    obtain rfl := pure_run h
    obtain rfl := leaf_get hg
    exact hK _ _ (post_val hH (hρ x))
  case assign x =>
    obtain rfl := pure_run h
    obtain rfl := leaf_get hg
    exact hK _ _ (post_val hH (hρ x))
  case pick c x y =>
    obtain ⟨t, ht, hp⟩ := pickSem_run h hg hH (hρ c) (hρ x) (hρ y)
    simp only [execOp, ht, Sem.run_bind, asBool, Sem.run_pure, Result.andThen_ok]
    exact hK _ _ hp
  case alloc t =>
    obtain ⟨x, w', h1, h2⟩ := alloc_run (P := E.P) (t := t) h hg hH hf
    exact hval h1 h2
  case box t x =>
    obtain ⟨y, w', h1, h2⟩ := box_run (P := E.P) (t := t) h hg hH (hρ x) hf
    exact hval h1 h2
  case build t ps =>
    obtain ⟨y, h1, h2⟩ := buildSem_run h hg hH (parts_rel hρ ps).1 (parts_rel hρ ps).2
    exact hval h1 h2
  case buildSlice t n ps =>
    obtain ⟨y, w', h1, h2⟩ := buildSliceSem_run h hg hH hf (parts_rel hρ ps).1 (parts_rel hρ ps).2
    exact hval h1 h2
  case load t x =>
    obtain ⟨y, h1, h2⟩ := loadSem_run h hg hH (hρ x)
    exact hval h1 h2
  case store t x y =>
    obtain ⟨w', h1, h2⟩ := storeSem_run h hg hH (hρ x) (hρ y)
    exact upon_unit h1 (hK _ _ h2)
  case nilCheck x =>
    obtain ⟨⟨p, hp⟩, h2⟩ := nilCheckSem_run h hg hH (hρ x)
    simp only [execOp, hp] at h2 ⊢
    exact hK _ _ h2
  case binOp op t x y yt =>
    obtain ⟨z, h1, h2⟩ := binOpSem_run (ox := x) (oy := y) h hg hH (hρ x) (hρ y)
    exact hval h1 h2
  case unOp op t x =>
    obtain ⟨z, h1, h2⟩ := unSem_run (P := E.P) h hg hH (hρ x)
    exact hval h1 h2
  case convert src dst' x =>
    obtain ⟨z, w', h1, h2⟩ := convSem_run h hg hH hf (hρ x)
    exact hval h1 h2
  case sliceToArrayPointer t x =>
    obtain ⟨z, h1, h2⟩ := toArrSem_run h hg hH (hρ x)
    exact hval h1 h2
  case makeFunc fn first cap =>
    cases fn
    case func f =>
      have h2 := makeFuncSem_run (cf := (first.map a.eval).toList) (cc := (cap.map a.eval).toList) h hg hH (map_rel hρ first).1 (map_rel hρ cap).1 (map_rel hρ first).2 (map_rel hρ cap).2
      simp only [Array.toArray_toList] at h2
      refine hval (m := Instr.makeFunc (.func f) (first.map a.eval) (cap.map a.eval)) ?_ h2
      rfl
    all_goals exact (fail_run h).elim
  case makeSlice t l c =>
    obtain ⟨z, w', h1, h2⟩ := makeSliceSem_run h hg hH hf (hρ l) (hρ c)
    exact hval h1 h2
  case slice t x lo hi mx =>
    cases mx
    case none =>
      obtain ⟨z, h1, h2⟩ := sliceSem_run h hg hH (hρ x) (refAV_rel hρ lo) (refAV_rel hρ hi)
      exact hval h1 h2
    case some _ => exact (fail_run h).elim
  case fieldAddr t x f =>
    obtain ⟨z, h1, h2⟩ := fieldAddrSem_run h hg hH (hρ x)
    exact hval h1 h2
  case field t x f =>
    obtain ⟨z, h1, h2⟩ := fieldSem_run h hg hH (hρ x)
    exact hval h1 h2
  case indexAddr t x i =>
    obtain ⟨z, h1, h2⟩ := indexAddrSem_run h hg hH (hρ x) (hρ i)
    exact hval h1 h2
  case index t x i =>
    obtain ⟨z, h1, h2⟩ := indexSem_run h hg hH (hρ x) (hρ i)
    exact hval h1 h2
  case extract x i =>
    obtain ⟨z, h1, h2⟩ := extractSem_run (P := E.P) h hg hH (hρ x)
    exact hval h1 h2
  case call c =>
    have h : (callOp E nx ρ c).run H = some (tr, rd) := h
    unfold callOp at h
    split at h
    · rename_i f hcal
      have h1 := hcall f _ _ ((c.args.map a.eval).toList) _ _ h hg (map_rel hρ c.args).1 (map_rel hρ c.args).2
      have h2 := upon_call (o := ⟨dst, .call c, type, pos, after, guard⟩) (a := a) (Q := Q) h1 hK
      simp only [Array.toArray_toList] at h2
      simp only [execOp, resolve, hcal, Act.eval, Deferred.ofValue, Sem.run_bind, Sem.run_pure, Result.andThen_ok, Go.invoke]
      simpa using h2
    · rename_i f _ hcal
      split at h
      · rename_i g first cap hfv
        have hv := hρ f
        rw [hfv] at hv
        obtain ⟨l1, l2, he, hr1, hr2⟩ := hv
        have hp1 := ptrsAV_rel (cx := cx) hr1
        have hp2 := ptrsAV_rel (cx := cx) hr2
        have hm := map_rel hρ c.args
        have h1 := hcall g _ _ (l1 ++ ((c.args.map a.eval).toList ++ l2)) _ _ h hg (by simp [hp1.1, hp2.1]) (app_rel hp1.1 hp1.2 (app_rel hm.1 hm.2 hp2.2))
        have h2 := upon_call (o := ⟨dst, .call c, type, pos, after, guard⟩) (a := a) (Q := Q) h1 hK
        simp only [execOp, resolve, hcal, he, Deferred.ofValue, Sem.run_bind, Sem.run_pure, Result.andThen_ok, Go.invoke]
        have e : (l1.toArray ++ c.args.map a.eval ++ l2.toArray) = (l1 ++ ((c.args.map a.eval).toList ++ l2)).toArray := by
          apply Array.ext'
          simp
        rw [e]
        exact h2
      · exact (fail_run h).elim
    · rename_i b hcal
      have hres : ∀ (y : Value) (w' : World), (match b with
          | .len => Builtin.len_ c.argTypes type (c.args.map a.eval)
          | .min => Builtin.min_ c.argTypes type (c.args.map a.eval)
          | .append => Builtin.append_ c.argTypes type (c.args.map a.eval)
          | .copy => Builtin.copy_ c.argTypes type (c.args.map a.eval)
          | _ => stuck "").run E.P w = .ok y w' → Post cx Wr β H D out y w' → (Oper.mk dst (.call c) type pos after guard).upon E.P a K Q ((execOp a.eval (Oper.mk dst (.call c) type pos after guard)).run E.P w) := by
        intro y w' hr hp
        simp only [execOp, resolve, hcal, Sem.run_bind, Sem.run_pure, Result.andThen_ok, Go.invoke]
        cases b <;> first | (simp at hr; done) | exact upon_val hr (hK _ _ hp)
      have hargs : ∀ (n : Nat) (x : AV), (c.args.toList.map ρ)[n]? = some x → ∃ op, c.args[n]? = some op ∧ x = ρ op := by
        intro n x hx
        simp only [List.getElem?_map, Option.map_eq_some_iff, Array.getElem?_toList] at hx
        obtain ⟨op, h1, rfl⟩ := hx
        exact ⟨op, h1, rfl⟩
      have one : ∀ x, c.args.toList.map ρ = [x] → ∃ p, c.args = #[p] ∧ x = ρ p := by
        intro x hx
        rcases hl : c.args.toList with _ | ⟨p, _ | ⟨q, l⟩⟩
        · simp [hl] at hx
        · simp [hl] at hx
          exact ⟨p, by apply Array.ext'; simp [hl], hx.symm⟩
        · simp [hl] at hx
      have two : ∀ x y, c.args.toList.map ρ = [x, y] → ∃ p q, c.args = #[p, q] ∧ x = ρ p ∧ y = ρ q := by
        intro x y hx
        rcases hl : c.args.toList with _ | ⟨p, _ | ⟨q, _ | ⟨r, l⟩⟩⟩
        · simp [hl] at hx
        · simp [hl] at hx
        · simp [hl] at hx
          exact ⟨p, q, by apply Array.ext'; simp [hl], hx.1.symm, hx.2.symm⟩
        · simp [hl] at hx
      unfold builtinSem at h
      split at h
      · split at h
        · rename_i x t hx ht
          obtain ⟨p, hp, rfl⟩ := one _ hx
          obtain ⟨z, h1, h2⟩ := lenSem_run (P := E.P) (ts := c.argTypes) (ty := type) h hg hH (hρ p) (by
            rw [← Array.getElem?_toList, ht]; rfl)
          refine hres z w ?_ h2
          rw [hp]
          simpa using h1
        · exact (fail_run h).elim
      · split at h
        · rename_i x y hx
          obtain ⟨p, q, hp, rfl, rfl⟩ := two _ _ hx
          obtain ⟨z, h1, h2⟩ := minSem_run (P := E.P) (ts := c.argTypes) (ty := type) h hg hH (hρ p) (hρ q)
          refine hres z w ?_ h2
          rw [hp]
          simpa using h1
        · exact (fail_run h).elim
      · split at h
        · rename_i x y t t2 hx ht
          obtain ⟨p, q, hp, rfl, rfl⟩ := two _ _ hx
          obtain ⟨z, w', h1, h2⟩ := appendSem_run (P := E.P) (ty := type) h hg hH hf (hρ p) (hρ q)
          refine hres z w' ?_ h2
          have ht2 : c.argTypes = #[t, t2] := by apply Array.ext'; simp [ht]
          rw [hp, ht2]
          simpa using h1
        · exact (fail_run h).elim
      · split at h
        · rename_i x y t t2 hx ht
          obtain ⟨p, q, hp, rfl, rfl⟩ := two _ _ hx
          obtain ⟨z, w', h1, h2⟩ := copySem_run (P := E.P) (t2 := t2) (ty := type) h hg hH (hρ p) (hρ q)
          refine hres z w' ?_ h2
          have ht2 : c.argTypes = #[t, t2] := by apply Array.ext'; simp [ht]
          rw [hp, ht2]
          simpa using h1
        · exact (fail_run h).elim
      · exact (fail_run h).elim
    · exact (fail_run h).elim
  all_goals exact (fail_run h).elim

end
end Go.Proofs.Ytgebgjhjegadpaa
