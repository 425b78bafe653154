/- The table of types: what it says is checked against the program's own. -/
import Derived.Test.YtmngcmfcbfkimaaAm27
namespace Go.Proofs.Ytmngcmfcbfkimaa.AM
open Go Go.RowKit

mutual
def PV.okB : PV → Bool
  | .i _ _ => true
  | .b _ => true
  | .str _ => true
  | .arr n s l => Nat.beq l.length n && (PV.okLB l && PV.allShB s l)
  | .st l => PV.okLB l
def PV.okLB : List PV → Bool
  | [] => true
  | x :: l => PV.okB x && PV.okLB l
def PV.allShB (s : Sh) : List PV → Bool
  | [] => true
  | x :: l => Sh.beq x.sh s && PV.allShB s l
end

mutual
theorem PV.okB_ok : ∀ x : PV, PV.okB x = true → x.ok
  | .i _ _, _ => trivial
  | .b _, _ => trivial
  | .str _, _ => trivial
  | .arr n s l, h => by
    simp only [PV.okB, Bool.and_eq_true] at h
    exact ⟨Nat.eq_of_beq_eq_true h.1, PV.okLB_ok l h.2.1, PV.allShB_ok s l h.2.2⟩
  | .st l, h => by
    simp only [PV.okB] at h
    exact PV.okLB_ok l h
theorem PV.okLB_ok : ∀ l : List PV, PV.okLB l = true → PV.okL l
  | [], _ => trivial
  | x :: l, h => by
    simp only [PV.okLB, Bool.and_eq_true] at h
    exact ⟨PV.okB_ok x h.1, PV.okLB_ok l h.2⟩
theorem PV.allShB_ok (s : Sh) : ∀ l : List PV, PV.allShB s l = true → PV.allSh s l
  | [], _ => trivial
  | x :: l, h => by
    simp only [PV.allShB, Bool.and_eq_true] at h
    exact ⟨Sh.eq_of_beq _ _ h.1, PV.allShB_ok s l h.2⟩
end

def avVal1 : AV → Option Value
  | .p x => match PV.okB x with
    | true => some x.val
    | false => none
  | .nil => some (.slice none 0 0)
  | .nilf => some .nilFunc
  | _ => none

def avValL : List AV → Option (List Value)
  | [] => some []
  | x :: l => match avVal1 x with
    | some v => match avValL l with
      | some vs => some (v :: vs)
      | none => none
    | none => none

def avVal : AV → Option Value
  | .st l => match avValL l with
    | some vs => some (.agg (vs.flatMap fun u => u.cells.toList).toArray)
    | none => none
  | x => avVal1 x

theorem avVal1_ok {x : AV} {v : Value} (h : avVal1 x = some v) : x.stays = true ∧ ∀ W φ H, Rel W φ H x v := by
  unfold avVal1 at h
  split at h
  · split at h
    · rename_i y hy
      cases h
      exact ⟨rfl, fun W φ H => Rel.plain (PV.okB_ok _ hy)⟩
    · cases h
  · cases h
    exact ⟨rfl, fun W φ H => by simp [Rel]⟩
  · cases h
    exact ⟨rfl, fun W φ H => by simp [Rel]⟩
  · cases h

theorem avValL_ok {l : List AV} {vs : List Value} (h : avValL l = some vs) : (∀ x ∈ l, x.stays = true) ∧ ∀ W φ H, RelL W φ H l vs := by
  induction l generalizing vs with
  | nil => simp only [avValL, Option.some.injEq] at h; subst h; exact ⟨by simp, fun W φ H => by simp [RelL]⟩
  | cons x l ih =>
    simp only [avValL] at h
    split at h
    · rename_i v hv
      split at h
      · rename_i us hus
        cases h
        obtain ⟨h1, h2⟩ := avVal1_ok hv
        obtain ⟨h3, h4⟩ := ih hus
        refine ⟨fun y hy => ?_, fun W φ H => ?_⟩
        · rcases List.mem_cons.1 hy with rfl | hy
          · exact h1
          · exact h3 y hy
        · simp only [RelL]; exact ⟨h2 W φ H, h4 W φ H⟩
      · cases h
    · cases h

theorem avVal_ok {x : AV} {v : Value} (h : avVal x = some v) : x.stays = true ∧ ∀ W φ H, Rel W φ H x v := by
  unfold avVal at h
  split at h
  · split at h
    · rename_i vs hvs
      cases h
      obtain ⟨h1, h2⟩ := avValL_ok hvs
      exact ⟨rfl, fun W φ H => by simp only [Rel]; exact ⟨vs, h2 W φ H, h1, rfl⟩⟩
    · cases h
  · exact avVal1_ok h

def cellB : Value → Value → Bool
  | .bool a, .bool b => a == b
  | .int k n, .int k' n' => kindBeq k k' && decide (n = n')
  | .string s, .string u => decide (s.data.toList = u.data.toList)
  | .slice none 0 0, .slice none 0 0 => true
  | .nilFunc, .nilFunc => true
  | _, _ => false

theorem cellB_eq {u v : Value} (h : cellB u v = true) : u = v := by
  unfold cellB at h
  split at h
  · simp at h; rw [h]
  · simp at h; rw [kind_of_beq h.1, h.2]
  · rename_i s u
    simp at h
    obtain ⟨s⟩ := s
    obtain ⟨u⟩ := u
    simp only at h
    rw [h]
  · rfl
  · rfl
  · cases h

def cellsB : List Value → List Value → Bool
  | [], [] => true
  | u :: l, v :: m => cellB u v && cellsB l m
  | _, _ => false

theorem cellsB_eq : ∀ {l m : List Value}, cellsB l m = true → l = m
  | [], [], _ => rfl
  | u :: l, v :: m, h => by
    simp only [cellsB, Bool.and_eq_true] at h
    rw [cellB_eq h.1, cellsB_eq h.2]
  | [], _ :: _, h => by simp [cellsB] at h
  | _ :: _, [], h => by simp [cellsB] at h

def valB : Value → Value → Bool
  | .agg a, .agg b => cellsB a.toList b.toList
  | u, v => cellB u v

theorem valB_eq {u v : Value} (h : valB u v = true) : u = v := by
  unfold valB at h
  split at h
  · rename_i a b
    have := cellsB_eq h
    rw [Array.toList_inj] at this
    rw [this]
  · exact cellB_eq h

def pairsB : List (Nat × Nat) → List (Nat × Nat) → Bool
  | [], [] => true
  | (a, b) :: l, (c, d) :: m => Nat.beq a c && (Nat.beq b d && pairsB l m)
  | _, _ => false

theorem pairsB_eq : ∀ {l m : List (Nat × Nat)}, pairsB l m = true → l = m
  | [], [], _ => rfl
  | (a, b) :: l, (c, d) :: m, h => by
    simp only [pairsB, Bool.and_eq_true] at h
    rw [Nat.eq_of_beq_eq_true h.1, Nat.eq_of_beq_eq_true h.2.1, pairsB_eq h.2.2]
  | [], _ :: _, h => by simp [pairsB] at h
  | _ :: _, [], h => by simp [pairsB] at h

def kindB (P : Program) (t : Nat) (k : TK) : Bool :=
  match k, P.underlying t with
  | .int k, some (.int k') => kindBeq k' k
  | .bool, some .bool => true
  | .str, some .string => true
  | .slice e, some (.slice e') => Nat.beq e' e
  | .arr n e, some (.array n' e') => Nat.beq n' n && (Nat.beq e' e && !P.eqGuardType P.depth t)
  | .st fs, some (.struct fields) => pairsB (fields.toList.map fun f => (f.offset, f.type)) fs && (!P.stoodInHeld t && (!P.eqGuardType P.depth t &&
      fields.toList.all fun f => !(f.name == "_") && (P.info? f.type).isSome))
  | .ptr e, some (.pointer e') => Nat.beq e' e
  | .other, _ => true
  | _, _ => false

theorem kindB_ok {P : Program} {t : Nat} {k : TK} (h : kindB P t k = true) : KindOK P t k := by
  unfold kindB at h
  split at h
  · rename_i k' hu
    rw [kind_of_beq h] at hu
    exact hu
  · rename_i hu; exact hu
  · rename_i hu; exact hu
  · rename_i e' hu
    rw [Nat.eq_of_beq_eq_true h] at hu
    exact hu
  · rename_i n' e' hu
    simp only [Bool.and_eq_true, Bool.not_eq_true'] at h
    rw [Nat.eq_of_beq_eq_true h.1, Nat.eq_of_beq_eq_true h.2.1] at hu
    exact ⟨hu, h.2.2⟩
  · rename_i fields hu
    simp only [Bool.and_eq_true, Bool.not_eq_true', List.all_eq_true, beq_eq_false_iff_ne, Option.isSome_iff_exists] at h
    exact ⟨fields, hu, pairsB_eq h.1, h.2.1, h.2.2.1, fun f hf => (h.2.2.2 f hf).1, fun f hf => (h.2.2.2 f hf).2⟩
  · rename_i e' hu
    rw [Nat.eq_of_beq_eq_true h] at hu
    exact hu
  · trivial
  · cases h

def aggB (P : Program) (t : Nat) (b : Bool) : Bool :=
  match P.underlying t with
  | some (.struct _) => b
  | some (.array _ _) => b
  | some _ => !b
  | none => false

theorem aggB_ok {P : Program} {t : Nat} {b : Bool} (h : aggB P t b = true) : (isAgg t).run P = fun w => .ok b w := by
  unfold aggB at h
  funext w
  cases hu : P.underlying t with
  | none => rw [hu] at h; cases h
  | some u =>
    rw [hu] at h
    simp only [isAgg, underlying]
    cases u <;> simp only at h <;> simp [hu] <;> cases b <;> simp_all

def zeroB (i : TypeInfo) (d : TD) : Bool :=
  match d.zero with
  | none => true
  | some z => match avVal z, i.zero with
    | some v, some zv => valB zv v && Nat.beq z.sh.size d.size
    | _, _ => false

def tdB (P : Program) (t : Nat) (d : TD) : Bool :=
  match P.info? t with
  | some i => Nat.beq i.size d.size && (Nat.beq i.bytes d.bytes && (zeroB i d && (kindB P t d.kind && aggB P t d.agg)))
  | none => false

theorem tdB_ok {P : Program} {t : Nat} {d : TD} (h : tdB P t d = true) : TDok P t d := by
  unfold tdB at h
  split at h
  · rename_i i hi
    simp only [Bool.and_eq_true] at h
    refine ⟨⟨i, hi, Nat.eq_of_beq_eq_true h.1, Nat.eq_of_beq_eq_true h.2.1, fun z hz => ?_⟩, kindB_ok h.2.2.2.1, aggB_ok h.2.2.2.2⟩
    have hb := h.2.2.1
    unfold zeroB at hb
    rw [hz] at hb
    simp only at hb
    split at hb
    · rename_i v zv hv hzv
      simp only [Bool.and_eq_true] at hb
      obtain ⟨h1, h2⟩ := avVal_ok hv
      rw [valB_eq hb.1] at hzv
      exact ⟨h1, Nat.eq_of_beq_eq_true hb.2, v, hzv, h2⟩
    · cases hb
  · cases h

def ttB (P : Program) : TT → Bool
  | [] => true
  | (t, d) :: r => tdB P t d && ttB P r

theorem ttB_ok {P : Program} {X : Ctx} (h : ttB P X.tt = true) : X.ok P := by
  intro t d ht
  have key : ∀ tt : TT, ttB P tt = true → tt.at t = some d → TDok P t d := by
    intro tt
    induction tt with
    | nil => intro _ h; simp [TT.at] at h
    | cons x r ih =>
      obtain ⟨u, e⟩ := x
      intro h ha
      simp only [ttB, Bool.and_eq_true] at h
      simp only [TT.at] at ha
      cases hb : Nat.beq u t with
      | true =>
        rw [hb] at ha
        have := Nat.eq_of_beq_eq_true hb
        subst this
        cases ha
        exact tdB_ok h.1
      | false =>
        rw [hb] at ha
        exact ih h.2 ha
  exact key X.tt h ht

end Go.Proofs.Ytmngcmfcbfkimaa.AM
