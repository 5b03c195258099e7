import Derived.Test.YtdgkilbimampkaaGreatEvO
namespace Go.Ev
open Go
variable {P : Program} [Base]

omit [Base] in
theorem new_obj {ι : Inj} {m : AMem} {w : World} (hm : MRel ι m w) (hf : ι m.next = none) {x : AObj} {c : Obj} (ho : ORel (upd ι m.next ⟨w.heap.size, 0, 0⟩) x ⟨w.heap.size, 0, 0⟩ c) :
    ∃ ι', MRel ι' (m.new x) { w with heap := w.heap.push c } ∧ Ext ι m (m.new x) w { w with heap := w.heap.push c } ι' ∧ ι' m.next = some ⟨w.heap.size, 0, 0⟩ :=
  ⟨_, hm.new hf rfl ho, Ext.alloc (c := c) hf rfl, upd_same _ _ _⟩

theorem rangeA_run {ι : Inj} {m m' : AMem} {w : World} (hm : MRel ι m w) (hf : Free ι m m' w) {t : TypeId} {x x' v : Value} (hx : VRel ι x x') (h : rangeA P m t x = some (v, m')) :
    ∃ v' w' ι', (Instr.range t x').run P w = .ok v' w' ∧ VRel ι' v v' ∧ MRel ι' m' w' ∧ Ext ι m m' w w' ι' := by
  have fin : ∀ {xo : AObj} {c : Obj}, v = .pointer (some ⟨m.next, 0, none⟩) → m' = m.new xo → ORel (upd ι m.next ⟨w.heap.size, 0, 0⟩) xo ⟨w.heap.size, 0, 0⟩ c → (Instr.range t x').run P w = .ok (.pointer (some ⟨w.heap.size, 0, none⟩)) { w with heap := w.heap.push c } →
      ∃ v' w' ι', (Instr.range t x').run P w = .ok v' w' ∧ VRel ι' v v' ∧ MRel ι' m' w' ∧ Ext ι m m' w w' ι' := by
    intro xo c hv hmm ho hr
    subst hv; subst hmm
    obtain ⟨ι', h1, h2, h3⟩ := new_obj hm (hf _ (Nat.le_refl _) (by simp)) ho
    exact ⟨_, _, ι', hr, .ptr (j := ⟨w.heap.size, 0, 0⟩) h3, h1, h2⟩
  unfold rangeA at h
  split at h
  case h_1 s hu =>
    cases h
    cases hx
    refine fin rfl rfl (c := .stringIter s 0) ⟨rfl, rfl, rfl⟩ ?_
    unfold Instr.range
    simp only [Sem.run_bind, run_underlying hu, Result.andThen_ok, Sem.run_pure, run_newObj]
  case h_2 kt et hu =>
    cases h
    cases hx
    refine fin rfl rfl (c := .mapIter none 0 #[] 0) ⟨rfl, rfl, rfl, rfl, trivial⟩ ?_
    unfold Instr.range
    simp only [Sem.run_bind, run_underlying hu, Result.andThen_ok, Sem.run_pure, run_newObj]
  case h_3 kt et b hu =>
    split at h
    case h_2 => cases h
    case h_1 es clock hb =>
      cases h
      cases hx with
      | map hj ho =>
        rename_i j
        obtain ⟨cc, hcc, hor⟩ := hm.obj _ _ _ hb hj
        cases cc with
        | map esC clkC =>
          obtain ⟨_, rfl, hes⟩ := hor
          refine fin rfl rfl (c := .mapIter (some j.blk) clkC #[] clkC) ⟨rfl, rfl, rfl, rfl, j, upd_sub (hf _ (Nat.le_refl _) (by simp)) _ _ hj, ho, rfl⟩ ?_
          unfold Instr.range
          simp only [Sem.run_bind, run_underlying hu, Result.andThen_ok, Sem.run_pure, run_getObj hcc (by simp), run_newObj]
        | _ => simp [ORel] at hor
  case h_4 => cases h

omit [Base] in
theorem all_born {ι : Inj} {n : Nat} : ∀ {l l' : List MapEntry}, EsRel ι l l' → (l'.all fun e => decide (e.born ≥ n)) = (l.all fun e => decide (e.born ≥ n))
  | [], [], _ => rfl
  | e :: l, e' :: l', ⟨_, _, h3, _, h5⟩ => by rw [List.all_cons, List.all_cons, h3, all_born h5]
  | [], _ :: _, h => h.elim
  | _ :: _, [], h => h.elim

omit [Base] in
theorem nextA_run {ι : Inj} {m m' : AMem} {w : World} (hm : MRel ι m w) {it it' v : Value} {str : Bool} {ty : TypeId} (hi : VRel ι it it') (h : nextA m it str = some (v, m')) :
    ∃ v' w', (Instr.next it' str ty).run P w = .ok v' w' ∧ VRel ι v v' ∧ MRel ι m' w' ∧ Ext ι m m' w w' ι := by
  unfold nextA at h
  split at h
  case h_2 => cases h
  case h_1 r =>
    cases hi with
    | ptr hj =>
      rename_i j
      split at h
      case h_1 s pos hb =>
        obtain ⟨cc, hcc, hor⟩ := hm.obj _ _ _ hb hj
        cases cc with
        | stringIter s' pos' =>
          obtain ⟨ho, rfl, rfl⟩ := hor
          rw [ho]
          unfold Instr.next
          simp only [Nat.add_zero]
          rw [Sem.run_bind, run_getObj hcc (by simp), Result.andThen_ok]
          simp only []
          split at h
          case isTrue hlt =>
            rw [if_pos hlt]
            cases h
            refine ⟨_, _, ?_, .tuple (.cons (.bool _) (.cons (.int _ _) (.cons (.int _ _) .nil))), hm.put hb hj (c := .stringIter s' (pos' + (Utf8.decode s' pos').2)) ⟨ho, rfl, rfl⟩, Ext.wr hm hb hj⟩
            rw [Sem.run_bind, run_setObj hcc (by simp), Result.andThen_ok]
            rfl
          case isFalse hlt =>
            rw [if_neg hlt]
            cases h
            exact ⟨_, w, rfl, .tuple (.cons (.bool _) .nil), hm, Ext.refl _ _ _⟩
        | _ => simp [ORel] at hor
      case h_2 since seen last hb =>
        obtain ⟨cc, hcc, hor⟩ := hm.obj _ _ _ hb hj
        cases h
        cases cc with
        | mapIter mo since' seen' last' =>
          obtain ⟨ho, rfl, _, rfl, hmo⟩ := hor
          cases mo with
          | some _ => exact hmo.elim
          | none =>
            refine ⟨.tuple #[.bool false], w, ?_, .tuple (.cons (.bool _) .nil), hm, Ext.refl _ _ _⟩
            rw [ho]
            unfold Instr.next
            simp only [Nat.add_zero]
            rw [Sem.run_bind, run_getObj hcc (by simp), Result.andThen_ok]
            rfl
        | _ => simp [ORel] at hor
      case h_3 b since seen last hb =>
        split at h
        case h_2 => cases h
        case h_1 es clock hes =>
          obtain ⟨cc, hcc, hor⟩ := hm.obj _ _ _ hb hj
          cases cc with
          | mapIter mo since' seen' last' =>
            obtain ⟨ho, rfl, hseen, rfl, hmo⟩ := hor
            cases mo with
            | none => exact hmo.elim
            | some b' =>
              obtain ⟨jb, hjb, hjo, rfl⟩ := hmo
              obtain ⟨c2, hc2, ho2⟩ := hm.obj _ _ _ hes hjb
              cases c2 with
              | map esC clkC =>
                obtain ⟨_, rfl, hrel⟩ := ho2
                cases hbad : (!seen.isEmpty && !es.isEmpty && es.all fun e => decide (e.born ≥ last')) with
                | true => rw [hbad] at h; cases h
                | false =>
                  rw [hbad, cond_false] at h
                  have hemp : esC.isEmpty = es.isEmpty := by
                    have := hrel.length
                    cases es with
                    | nil => simp at this; simp [this]
                    | cons a l => simp at this; simp; intro e; rw [e] at this; simp at this
                  have hsemp : seen'.isEmpty = seen.isEmpty := by rw [← hseen]; simp
                  have hbad' : (!seen'.isEmpty && !esC.isEmpty && esC.all fun e => decide (e.born ≥ last')) = false := by
                    rw [hemp, hsemp, ← Array.all_toList, all_born hrel, hbad]
                  have hcont : ∀ n, seen'.contains n = seen.contains n := by intro n; rw [← hseen]; simp
                  have hleft : EsRel ι (es.filter fun e => !seen.contains e.born) (esC.filter fun e => !seen'.contains e.born).toList := by
                    rw [Array.toList_filter]
                    have : (fun e : MapEntry => !seen'.contains e.born) = fun e => !seen.contains e.born := by funext e; rw [hcont]
                    rw [this]
                    exact hrel.filter fun e e' he => by rw [he]
                  rw [ho]
                  unfold Instr.next
                  simp only [Nat.add_zero]
                  rw [Sem.run_bind, run_getObj hcc (by simp), Result.andThen_ok]
                  simp only []
                  rw [Sem.run_bind, run_getObj hc2 (by simp), Result.andThen_ok]
                  simp only []
                  rw [if_neg (by rw [hbad']; simp)]
                  generalize hla : (esC.filter fun e => !seen'.contains e.born) = la at hleft
                  revert h
                  generalize (es.filter fun e => !seen.contains e.born) = l at hleft
                  intro h
                  have hlal : la = la.toList.toArray := by simp
                  revert hleft
                  generalize la.toList = lal at hlal
                  subst hlal
                  intro hleft
                  cases l with
                  | nil =>
                    cases lal with
                    | cons _ _ => exact hleft.elim
                    | nil =>
                      cases h
                      refine ⟨.tuple #[.bool false], w, ?_, .tuple (.cons (.bool _) .nil), hm, Ext.refl _ _ _⟩
                      simp [choose, Sem.run, Question.forced]
                  | cons e l =>
                    cases lal with
                    | nil => exact hleft.elim
                    | cons e' lal =>
                      obtain ⟨g1, g2, g3, g4, g5⟩ := hleft
                      cases l with
                      | cons _ _ => cases h
                      | nil =>
                        cases lal with
                        | cons _ _ => exact g5.elim
                        | nil =>
                          simp only at h
                          obtain ⟨hlt, h⟩ := cond_some h
                          cases h
                          have hlt : e.born < since' := by simpa using hlt
                          refine ⟨.tuple #[.bool true, e'.key, e'.val], wr w j.blk (.mapIter (some jb.blk) since' (seen'.push e'.born) clkC), ?_, .tuple (.cons (.bool _) (.cons (by rw [g2]; exact ground_rel ι g1) (.cons g4 .nil))),
                            hm.put hb hj ⟨ho, rfl, by rw [Array.toList_push, hseen, g3], rfl, jb, hjb, hjo, rfl⟩, Ext.wr hm hb hj⟩
                          have hse : (setObj j.blk (.mapIter (some jb.blk) since' (seen'.push e'.born) clkC)).run P w = .ok () (wr w j.blk (.mapIter (some jb.blk) since' (seen'.push e'.born) clkC)) := run_setObj hcc (by simp)
                          have hlt' : e'.born < since' := by omega
                          have hnge : ¬ (since' ≤ e'.born) := by omega
                          simp [choose, Sem.run, Question.forced, hlt', hnge, hse]
              | _ => simp [ORel] at ho2
          | _ => simp [ORel] at hor
      case h_4 => cases h
end Go.Ev
