import Derived.Test.YtdgkilbimampkaaGreatEvT11
namespace Go.Ev
open Go Go.RowKit
variable {P : Program}

/-! ## More that is told -/
def tellLen (P : Program) (h j : Nat) : Tell := fun op vs => match op, vs with
  | .call c, [.pointer (some ⟨b, _, some 0⟩)] => match c.callee with
    | .builtin .len => bif Nat.beq b (holeAt + h) && isSl P c then some (.pointer (some ⟨holeAt + j, 0, some 0⟩)) else none
    | _ => none
  | _, _ => none
theorem tellLen_sound {l : List Kept} {w0 : World} (hr : RowsOk l w0) {h j : Nat} {k : Kept} {a : Option Addr} {n c : Nat} (hk : l[h]? = some k) (hv : k.v = some (.slice a n c)) (hj : l[j]? = some { v := some (goInt n) }) : @TellSound (base hr) P (tellLen P h j) := by
  letI : Base := base hr
  intro op vals v he ι hι o ρ ρ' ho hvals hrel w
  replace he : tellLen P h j op vals = some v := he
  unfold tellLen at he
  split at he
  case h_2 => cases he
  case h_1 cl b off =>
    split at he
    case h_2 => cases he
    case h_1 hcl =>
      obtain ⟨hc, he⟩ := cond_some he
      cases he
      rw [Bool.and_eq_true] at hc
      have hb := Nat.eq_of_beq_eq_true hc.1
      subst hb
      have hsl := hc.2
      unfold isSl at hsl
      split at hsl
      case h_2 => cases hsl
      case h_1 el hu =>
        obtain ⟨dst, op', type, pos, after, guard⟩ := o
        simp only at ho
        subst ho
        obtain ⟨callee, args, argTypes⟩ := cl
        simp only at hcl hu
        subst hcl
        have hops : args.toList.map ρ = [.pointer (some ⟨holeAt + h, off, some 0⟩)] := by
          simpa [Op.operands, Call.operands] using hvals
        obtain ⟨x, hx⟩ : ∃ x, args.toList = [x] := by
          generalize args.toList = q at hops
          cases q with
          | nil => cases hops
          | cons x q => cases q with
            | nil => exact ⟨x, rfl⟩
            | cons y q => simp at hops
        have ha : args = #[x] := by apply Array.toList_inj.1; rw [hx]
        subst ha
        have hrx : VRel ι (ρ x) (ρ' x) := hrel x (by simp [Op.operands, Call.operands])
        have e1 : ρ x = .pointer (some ⟨holeAt + h, off, some 0⟩) := by simpa using hops
        rw [e1] at hrx
        have e2 : ρ' x = .slice a n c := by
          cases hrx with
          | hole hj' hkv _ _ _ =>
            have h0 : holes l (holeAt + h) = some (@J.mk 0 0 0 k) := by
              unfold holes
              rw [if_pos (Nat.le_add_right _ _), Nat.add_sub_cancel_left, hk]
            have := hι _ _ h0
            rw [hj'] at this
            cases this
            have hkv : k.v = some _ := hkv
            rw [hv] at hkv
            exact (Option.some.inj hkv).symm
        obtain ⟨t, ht, hut⟩ := Option.bind_eq_some_iff.1 hu
        refine ⟨goInt n, ?_, ?_⟩
        · simp only [execOp, resolve, invoke, builtin, Builtin.len_, Sem.run_bind, Sem.run_pure, Result.andThen_ok, ht, List.map_toArray, List.map_cons, List.map_nil, List.getElem?_toArray, List.getElem?_cons_zero, e2, run_underlying hut]
        · exact (holes_rel hj rfl rfl).mono hι

def orTell (s t : Tell) : Tell := fun op vs => match s op vs with
  | some r => some r
  | none => t op vs
theorem orTell_sound [Base] {s t : Tell} (hs : TellSound P s) (ht : TellSound P t) : TellSound P (orTell s t) := by
  intro op vals v h
  replace h : orTell s t op vals = some v := h
  unfold orTell at h
  split at h
  · rename_i r hr; cases h; exact hs op vals _ hr
  · exact ht op vals v h
end Go.Ev
