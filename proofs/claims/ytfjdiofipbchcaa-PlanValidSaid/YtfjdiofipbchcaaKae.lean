/-
AW, part Ze: regions as conditions and one state behind ('runP'), for simp.
-/
import Derived.Test.YtfjdiofipbchcaaKad
import Derived.IntWalk
import Derived.Test.YtfjdiofipbchcaaProg
import Derived.KernelRfl
namespace Go.AW
open Go
set_option linter.unusedSimpArgs false
set_option linter.unusedVariables false
def andR (r : SR) (K : St → Prop) : Prop := r.1 = true ∧ K r.2
def runP (P : Program) (n : Nat) (gd : List (Option Nat)) (tk : List Nat) : List Oper → (St → Prop) → St → Prop
  | [], K, s => K s
  | o :: r, K, s => andR (runO P n gd tk o s) (runP P n gd tk r K)
theorem runP_nil {P : Program} {n : Nat} {gd : List (Option Nat)} {tk : List Nat} {K : St → Prop} {s : St} : runP P n gd tk [] K s = K s := rfl
theorem runP_cons {P : Program} {n : Nat} {gd : List (Option Nat)} {tk : List Nat} {o : Oper} {r : List Oper} {K : St → Prop} {s : St} : runP P n gd tk (o :: r) K s = andR (runO P n gd tk o s) (runP P n gd tk r K) := rfl
theorem andR_mk (b : Bool) (s : St) (K : St → Prop) : andR (b, s) K = (b = true ∧ K s) := rfl
theorem andR_true (s : St) (K : St → Prop) : andR (true, s) K = K s := by simp [andR]
section
variable {P : Program} {n : Nat} {gd : List (Option Nat)} {Q : Exit → St → Prop} {s : St}
end
theorem opd_tmp (t : Nat → AV) (k : Nat) : opd t (.tmp k) = t k := rfl
theorem opd_const (t : Nat → AV) (v : Value) : opd t (.const v) = rdc v := rfl
theorem opd_func (t : Nat → AV) (f : FuncId) : opd t (.func f) = .fn f [] := rfl
theorem rdc_int (k : IntKind) (n : Int) : rdc (.int k n) = .i k n := rfl
theorem rdc_bool (b : Bool) : rdc (.bool b) = .b b := rfl
theorem rdc_str (s : ByteArray) : rdc (.string s) = .s s := rfl
theorem rdc_nilp : rdc (.pointer none) = .nilp := rfl
theorem rdc_nilm : rdc (.map none) = .nilm := rfl
theorem rdc_nilf : rdc .nilFunc = .nilf := rfl
theorem rdc_nili : rdc .nilIface = .nili := rfl
theorem rdc_nsl : rdc (.slice none 0 0) = .nsl := rfl
theorem upd_at {α : Type} (f : Nat → α) (k : Nat) (v : α) (j : Nat) : upd f k v j = if j = k then v else f j := rfl
theorem put_some (t : Nat → AV) (o : List Ob) (d : Nat) (v : AV) : St.put ⟨t, o⟩ (some d) v = ⟨upd t d v, o⟩ := rfl
theorem put_none (s : St) (v : AV) : s.put none v = s := rfl
theorem putS_eq (n : Nat) (d : Option Nat) (ok : Bool) (v : AV) (s : St) : putS n d ⟨ok, v⟩ s = (ok && dstOk n d, s.put d v) := rfl
theorem dstOk_some (n d : Nat) : dstOk n (some d) = decide (d < n) := rfl
theorem dstOk_none (n : Nat) : dstOk n none = true := rfl
end Go.AW
namespace Go.AW
open Go
theorem ACalls_of' {P : Program} {f : FuncId} {fn : Func} {c : Code} {ac : List AV} {oc : List Ob} {R : AV → List Ob → Prop} {n : Nat} {rs : List ResultVar} (hf : P.funcs[f]? = some fn) (hb : fn.body = some c) (hr : fn.results.toList = rs) (hn' : fn.ntmps = n) (hn : ac.length ≤ n) (hk : callOk P f = true)
    (h : W P n c (endQ P rs oc.length R) ⟨fun k => ac.getD k .any, oc⟩) : ACalls P f ac oc R := by
  subst hr hn'
  exact ACalls_of hf hb hn hk h
end Go.AW
namespace Go.AW
open Go
attribute [go_sem] runP_cons runP_nil andR_mk andR_true opd_tmp opd_const opd_func rdc_int rdc_bool rdc_str rdc_nilp rdc_nilm rdc_nilf rdc_nili rdc_nsl upd_at put_some put_none putS_eq dstOk_some dstOk_none
attribute [go_sem] runO step1 AV.dat AV.okPart AV.cellsOf newS upT elU ckU upCells upAV AV.isOwn elSz pureOp ung mvS storeS takeS binAV binInt binStr unAV convAV loadR fieldR idxR partR indexR bnd sliceR refSz rowsG appOS bslS lookR lookE lenR maxL minL slotR bslR partRows buildR fillA placeOf rowsOf zeroOk appS setRow loadOk loadAV rset AV.plain AV.ltk AV.ltks isNil keq keyOk mfind mset msetS mkMapS mkSliceS mapEs SR.no R1.no UK.agg topA resAV res1 resL
attribute [go_sem] Option.isSome_some List.getD_cons_zero List.getD_cons_succ List.length_cons List.length_nil List.all_cons List.all_nil List.map_cons List.map_nil Bool.not_false Bool.not_true Bool.and_true Bool.true_and Bool.and_false Bool.false_and decide_true decide_false if_true if_false Bool.or_true Bool.true_or Bool.or_false Bool.false_or cond_true cond_false beq_self_eq_true bne_self_eq_false List.nil_append true_and and_true
end Go.AW
namespace Go.AW
open Go
@[go_sem] theorem gv_b (x : Bool) : gv (.b x) = some (true, x) := rfl
@[go_sem] theorem gv_gd (g : Bool) (v : AV) : gv (.gd g v) = match gv v with | some (h, x) => some (g && h, x) | none => if g then none else some (false, false) := rfl
@[go_sem] theorem beq_t (x : Bool) : (x == true) = x := by cases x <;> rfl
@[go_sem] theorem beq_f (x : Bool) : (x == false) = !x := by cases x <;> rfl
@[go_sem] theorem nao1 (a : Bool) : (!a || a) = true := by cases a <;> rfl
@[go_sem] theorem nao2 (a b : Bool) : (!(a && b) || a) = true := by cases a <;> cases b <;> rfl
@[go_sem] theorem nao3 (a b : Bool) : (!(a && b) || b) = true := by cases a <;> cases b <;> rfl
@[go_sem] theorem nao4 (a b c : Bool) : (!(a && b && c) || a) = true := by cases a <;> cases b <;> cases c <;> rfl
@[go_sem] theorem nao5 (a b c : Bool) : (!(a && b && c) || b) = true := by cases a <;> cases b <;> cases c <;> rfl
@[go_sem] theorem nao6 (a b c : Bool) : (!(a && b && c) || (a && b)) = true := by cases a <;> cases b <;> cases c <;> rfl
attribute [go_sem] pickR ung AV.dat
@[go_sem] theorem ukne_bool : (UK.bool != UK.other) = true := rfl
@[go_sem] theorem ukne_int (k : IntKind) : (UK.int k != UK.other) = true := by cases k <;> rfl
@[go_sem] theorem ukne_str : (UK.str != UK.other) = true := rfl
@[go_sem] theorem ukne_slice (e : TypeId) : (UK.slice e != UK.other) = true := by simp
@[go_sem] theorem ukne_map (k e : TypeId) : (UK.map k e != UK.other) = true := by simp
@[go_sem] theorem ukne_ptr (e : TypeId) : (UK.ptr e != UK.other) = true := by simp
@[go_sem] theorem ukne_struct : (UK.struct != UK.other) = true := rfl
@[go_sem] theorem ukne_arr (n : Nat) (e : TypeId) : (UK.arr n e != UK.other) = true := by simp
@[go_sem] theorem ukne_func : (UK.func != UK.other) = true := rfl
@[go_sem] theorem ukne_iface : (UK.iface != UK.other) = true := rfl
@[go_sem] theorem ukeq_bool : (UK.bool == UK.bool) = true := rfl
@[go_sem] theorem ukeq_str : (UK.str == UK.str) = true := rfl
@[go_sem] theorem ukeq_slice (e : TypeId) : (UK.slice e == UK.slice e) = true := by simp
end Go.AW
namespace Go.AW
open Go
attribute [go_sem] List.contains_nil List.contains_cons Bool.false_eq_true ne_eq not_false_eq_true not_true_eq_false List.getElem?_cons_zero List.getElem?_cons_succ List.getElem?_nil Option.map_some Option.map_none Option.some.injEq Bool.not_or Bool.or_self Bool.and_self Bool.false_or AV.b.injEq reduceCtorEq ite_true ite_false
end Go.AW
namespace Go.AW
open Go
section
variable {P : Program} {n : Nat} {Q : Exit → St → Prop} {s : St}
def thenQ (M : St → Prop) (Q : Exit → St → Prop) : Exit → St → Prop
  | .normal, s => M s
  | e, s => Q e s
theorem thenQ_normal {M : St → Prop} (h : M s) : thenQ M Q .normal s := h
theorem thenQ_ret {M : St → Prop} (h : Q .ret s) : thenQ M Q .ret s := h
theorem thenQ_exit {M : St → Prop} {id : Nat} (h : Q (.exit id) s) : thenQ M Q (.exit id) s := h
def whileQ (I : Nat → St → Prop) (m : Nat) (Q : Exit → St → Prop) : Exit → St → Prop
  | .normal, s => ∃ m', m' < m ∧ I m' s
  | e, s => Q e s
theorem whileQ_ret {I : Nat → St → Prop} {m : Nat} (h : Q .ret s) : whileQ I m Q .ret s := h
theorem whileQ_exit {I : Nat → St → Prop} {m id : Nat} (h : Q (.exit id) s) : whileQ I m Q (.exit id) s := h
theorem endQ_data {rs : List ResultVar} {r r' : AV} (h1 : resAV P rs s = some r) (h2 : Le r r') (h6 : r'.ltk 0 = true) : endQ P rs ([] : List Ob).length (fun x o' => x = r' ∧ o' = []) .ret s :=
  ⟨r, r', 0, h1, h2, Nat.le_refl _, Nat.zero_le _, rfl, h6, rfl, rfl⟩
theorem W_while {c : Code} (I : Nat → St → Prop) (m : Nat) (h0 : I m s) (round : ∀ m s, I m s → W P n c (whileQ I m Q) s) : W P n (.loop c) Q s := by
  intro g a w hn hat b k cs
  have key : ∀ N s a w, I N s → At g s a w →
      ∃ e a' w', (∃ s', Q e s' ∧ At g s' a' w') ∧ Arrives P (lone (b.at a (.code c :: .inLoop c :: k)) cs w) b k cs e a' w' := by
    intro N
    induction N using Nat.strongRecOn with
    | _ N ih =>
      intro s a w hI hat
      obtain ⟨e, a₁, w₁, ⟨s', hq, hat'⟩, harr⟩ := round N s hI g a w hn hat b (.inLoop c :: k) cs
      cases e with
      | normal =>
        obtain ⟨m', hlt, hI₁⟩ := hq
        obtain ⟨e₂, a₂, w₂, hq₂, harr₂⟩ := ih m' hlt s' a₁ w₁ hI₁ hat'
        exact ⟨e₂, a₂, w₂, hq₂, .of_steps (Steps.trans harr (.one step_inLoop)) harr₂⟩
      | exit id => exact ⟨_, a₁, w₁, ⟨s', hq, hat'⟩, .pass (x := .inLoop c) rfl (fun _ _ => .inl (by simp)) harr⟩
      | goto l => exact ⟨_, a₁, w₁, ⟨s', hq, hat'⟩, .pass (x := .inLoop c) rfl (fun _ _ => .inl (by simp)) harr⟩
      | ret => exact ⟨_, a₁, w₁, ⟨s', hq, hat'⟩, .pass (x := .inLoop c) rfl (fun _ _ => .inl (by simp)) harr⟩
      | panic ch => exact ⟨_, a₁, w₁, ⟨s', hq, hat'⟩, .pass (x := .inLoop c) rfl (fun _ _ => .inl (by simp)) harr⟩
      | outgrown => exact ⟨_, a₁, w₁, ⟨s', hq, hat'⟩, .pass (x := .inLoop c) rfl (fun _ _ => .inl (by simp)) harr⟩
  obtain ⟨e, a', w', hq, harr⟩ := key m s a w h0 hat
  exact ⟨e, a', w', hq, .of_steps (.one step_loop) harr⟩
end
end Go.AW
namespace Go.AW
open Go
section
variable {P : Program} {n : Nat} {gd : List (Option Nat)} {Q : Exit → St → Prop} {s : St}
theorem RL_callF {d : Option Tmp} {f : FuncId} {xs : List Operand} {ats : Array TypeId} {ty : TypeId} {pos : String} {aft : Array Edge} {rest : List Oper} {ac : List AV} {r : AV} (h : ACallsD P f ac r)
    (hin : xs.all (opIn n) = true) (hd : dstOk n d = true) (hlen : xs.length = ac.length) (hle : LeA (argVals xs ac s.t) ac) (harg : ac.all (AV.ltk 0) = true) (hres : r.ltk 0 = true)
    (hK : RL P n gd rest Q ((⟨argDrop xs ac s.t, s.o⟩ : St).put d r)) : RL P n gd (⟨d, .call ⟨.value (.func f), xs.toArray, ats⟩, ty, pos, aft, none⟩ :: rest) Q s := by
  have ht : ac.take xs.toArray.size = ac := by rw [List.take_of_length_le]; simp [hlen]
  refine RL_call ac r rfl ⟨⟨_, .func f, false, f, [], [], [], rfl, rfl, rfl, hin, by simp [hlen], Hand.nil _, ?_, harg, h⟩, hd, hres⟩ ?_
  · rw [ht, map_ren_id _ harg]; simpa using hle
  · simpa only [dropA, ht] using hK
end
@[go_sem] theorem LeA_nil : LeA [] [] = True := rfl
@[go_sem] theorem LeA_cons (a b : AV) (l r : List AV) : LeA (a :: l) (b :: r) = (Le a b ∧ LeA l r) := rfl
@[go_sem] theorem Le_self (a : AV) : Le a a = True := eq_true (.refl a)
attribute [go_sem] argVals argA argT argDrop List.take_succ_cons List.take_zero List.drop_zero List.take_nil
end Go.AW
namespace Go.AW
open Go
set_option linter.unusedSimpArgs false
set_option linter.unusedVariables false
def fz {β : Type} (a : AV) (k : AV → β) : β :=
  match a with
  | .any => k .any
  | .b true => k (.b true)
  | .b false => k (.b false)
  | .i kd (.ofNat m) => k (.i kd (.ofNat m))
  | .i kd (.negSucc m) => k (.i kd (.negSucc m))
  | .s x => k (.s x)
  | .sl sz rows => k (.sl sz rows)
  | .own sz rows => k (.own sz rows)
  | .ref id off len => k (.ref id off len)
  | .ptr id idx off => k (.ptr id idx off)
  | .ep row off => k (.ep row off)
  | .nilp => k .nilp
  | .mp id => k (.mp id)
  | .nilm => k .nilm
  | .nsl => k .nsl
  | .esl => k .esl
  | .fn f caps => k (.fn f caps)
  | .nilf => k .nilf
  | .agg cs => k (.agg cs)
  | .tup vs => k (.tup vs)
  | .nili => k .nili
  | .ifc t v => k (.ifc t v)
  | .bm t v => k (.bm t v)
  | .gd g v => k (.gd g v)
theorem fz_eq {β : Type} (a : AV) (k : AV → β) : fz a k = k a := by
  unfold fz; split <;> rfl
mutual
theorem ren_self : ∀ (a : AV), (a.ren fun k => k) = a
  | .any | .b _ | .i _ _ | .s _ | .sl _ _ | .own _ _ | .ep _ _ | .nilp | .nilm | .nsl | .esl | .nilf | .nili | .ref _ _ _ | .ptr _ _ _ | .mp _ => rfl
  | .fn f l => by simp only [AV.ren, rens_self l]
  | .agg l => by simp only [AV.ren, rens_self l]
  | .tup l => by simp only [AV.ren, rens_self l]
  | .ifc t v => by simp only [AV.ren, ren_self v]
  | .bm t v => by simp only [AV.ren, ren_self v]
  | .gd g v => by simp only [AV.ren, ren_self v]
theorem rens_self : ∀ (l : List AV), AV.rens (fun k => k) l = l
  | [] => rfl
  | a :: l => by simp only [AV.rens, ren_self a, rens_self l]
end
theorem Ob.ren_self (x : Ob) : (x.ren fun k => k) = x := by
  have e : ∀ r : List AV, r.map (AV.ren fun k => k) = r := fun r => by rw [← rens_map]; exact rens_self r
  cases x with
  | cells sz rows =>
    simp only [Ob.ren, Ob.cells.injEq, true_and]
    conv => rhs; rw [← List.map_id rows]
    exact List.map_congr_left fun r _ => e r
  | mapo es =>
    simp only [Ob.ren, Ob.mapo.injEq]
    conv => rhs; rw [← List.map_id es]
    exact List.map_congr_left fun x _ => by rw [AW.ren_self, AW.ren_self]; rfl
  | _ => rfl
def fzL {β : Type} : List AV → (List AV → β) → β
  | [], k => k []
  | a :: r, k => fz a fun a => fzL r fun r => k (a :: r)
theorem fzL_eq {β : Type} : ∀ (l : List AV) (k : List AV → β), fzL l k = k l
  | [], k => rfl
  | a :: r, k => by simp only [fzL, fz_eq, fzL_eq r]
mutual
def eqA : AV → AV → Bool
  | .any, .any => true
  | .b x, .b y => x == y
  | .i k n, .i k' n' => decide (k = k') && decide (n = n')
  | .s x, .s y => decide (x = y)
  | .sl a r, .sl b t => decide (a = b) && eqAR r t
  | .own a r, .own b t => decide (a = b) && eqAR r t
  | .ref a b c, .ref a' b' c' => decide (a = a') && decide (b = b') && decide (c = c')
  | .ptr a b c, .ptr a' b' c' => decide (a = a') && decide (b = b') && decide (c = c')
  | .ep r a, .ep t b => decide (a = b) && eqAL r t
  | .nilp, .nilp => true
  | .mp a, .mp b => decide (a = b)
  | .nilm, .nilm => true
  | .nsl, .nsl => true
  | .esl, .esl => true
  | .fn f c, .fn f' c' => decide (f = f') && eqAL c c'
  | .nilf, .nilf => true
  | .agg r, .agg t => eqAL r t
  | .tup r, .tup t => eqAL r t
  | .nili, .nili => true
  | .ifc t v, .ifc t' v' => decide (t = t') && eqA v v'
  | .bm t v, .bm t' v' => decide (t = t') && eqA v v'
  | .gd g v, .gd g' v' => (g == g') && eqA v v'
  | _, _ => false
def eqAL : List AV → List AV → Bool
  | [], [] => true
  | a :: r, b :: t => eqA a b && eqAL r t
  | _, _ => false
def eqAR : List (List AV) → List (List AV) → Bool
  | [], [] => true
  | a :: r, b :: t => eqAL a b && eqAR r t
  | _, _ => false
end
mutual
theorem eqA_eq : ∀ (a b : AV), eqA a b = true → a = b
  | .any, b, h => by cases b <;> simp [eqA] at h ⊢
  | .b x, b, h => by cases b <;> simp [eqA] at h ⊢; exact h
  | .i k n, b, h => by cases b <;> simp [eqA] at h ⊢; exact h
  | .s x, b, h => by cases b <;> simp [eqA] at h ⊢; exact h
  | .sl a r, b, h => by cases b <;> simp [eqA] at h ⊢; exact ⟨h.1, eqAR_eq _ _ h.2⟩
  | .own a r, b, h => by cases b <;> simp [eqA] at h ⊢; exact ⟨h.1, eqAR_eq _ _ h.2⟩
  | .ref _ _ _, b, h => by cases b <;> simp [eqA] at h ⊢; exact ⟨h.1.1, h.1.2, h.2⟩
  | .ptr _ _ _, b, h => by cases b <;> simp [eqA] at h ⊢; exact ⟨h.1.1, h.1.2, h.2⟩
  | .ep r a, b, h => by cases b <;> simp [eqA] at h ⊢; exact ⟨eqAL_eq _ _ h.2, h.1⟩
  | .nilp, b, h => by cases b <;> simp [eqA] at h ⊢
  | .mp _, b, h => by cases b <;> simp [eqA] at h ⊢; exact h
  | .nilm, b, h => by cases b <;> simp [eqA] at h ⊢
  | .nsl, b, h => by cases b <;> simp [eqA] at h ⊢
  | .esl, b, h => by cases b <;> simp [eqA] at h ⊢
  | .fn f c, b, h => by cases b <;> simp [eqA] at h ⊢; exact ⟨h.1, eqAL_eq _ _ h.2⟩
  | .nilf, b, h => by cases b <;> simp [eqA] at h ⊢
  | .agg c, b, h => by cases b <;> simp [eqA] at h ⊢; exact eqAL_eq _ _ h
  | .tup c, b, h => by cases b <;> simp [eqA] at h ⊢; exact eqAL_eq _ _ h
  | .nili, b, h => by cases b <;> simp [eqA] at h ⊢
  | .ifc t v, b, h => by cases b <;> simp [eqA] at h ⊢; exact ⟨h.1, eqA_eq _ _ h.2⟩
  | .bm t v, b, h => by cases b <;> simp [eqA] at h ⊢; exact ⟨h.1, eqA_eq _ _ h.2⟩
  | .gd g v, b, h => by cases b <;> simp [eqA] at h ⊢; exact ⟨h.1, eqA_eq _ _ h.2⟩
theorem eqAL_eq : ∀ (a b : List AV), eqAL a b = true → a = b
  | [], b, h => by cases b <;> simp [eqAL] at h ⊢
  | a :: r, b, h => by
    cases b <;> simp [eqAL] at h ⊢
    exact ⟨eqA_eq _ _ h.1, eqAL_eq _ _ h.2⟩
theorem eqAR_eq : ∀ (a b : List (List AV)), eqAR a b = true → a = b
  | [], b, h => by cases b <;> simp [eqAR] at h ⊢
  | a :: r, b, h => by
    cases b <;> simp [eqAR] at h ⊢
    exact ⟨eqAL_eq _ _ h.1, eqAR_eq _ _ h.2⟩
end
def eqbM : List (AV × AV) → List (AV × AV) → Bool
  | [], [] => true
  | a :: r, b :: t => eqA a.1 b.1 && eqA a.2 b.2 && eqbM r t
  | _, _ => false
theorem eqbM_eq : ∀ (a b : List (AV × AV)), eqbM a b = true → a = b
  | [], b, h => by cases b <;> simp [eqbM] at h ⊢
  | (x, y) :: r, b, h => by
    cases b with
    | nil => simp [eqbM] at h
    | cons c t =>
      obtain ⟨u, v⟩ := c
      simp only [eqbM, Bool.and_eq_true] at h
      rw [eqA_eq _ _ h.1.1, eqA_eq _ _ h.1.2, eqbM_eq _ _ h.2]
def Ob.eqb : Ob → Ob → Bool
  | .cells a r, .cells b t => decide (a = b) && eqAR r t
  | .frz a r, .frz b t => decide (a = b) && eqAR r t
  | .mapo a, .mapo b => eqbM a b
  | .dead, .dead => true
  | _, _ => false
theorem Ob.eqb_eq (a b : Ob) (h : Ob.eqb a b = true) : a = b := by
  cases a <;> cases b <;> simp [Ob.eqb] at h ⊢
  · exact ⟨h.1, eqAR_eq _ _ h.2⟩
  · exact ⟨h.1, eqAR_eq _ _ h.2⟩
  · exact eqbM_eq _ _ h
def eqbO : List Ob → List Ob → Bool
  | [], [] => true
  | a :: r, b :: t => Ob.eqb a b && eqbO r t
  | _, _ => false
theorem eqbO_eq : ∀ (a b : List Ob), eqbO a b = true → a = b
  | [], b, h => by cases b <;> simp [eqbO] at h ⊢
  | a :: r, b, h => by
    cases b with
    | nil => simp [eqbO] at h
    | cons c t =>
      simp only [eqbO, Bool.and_eq_true] at h
      rw [Ob.eqb_eq _ _ h.1, eqbO_eq _ _ h.2]
theorem range_getD {n k : Nat} (h : k < n) : (List.range n).getD k 0 = k := by
  rw [List.getD_eq_getElem?_getD, List.getElem?_range h]; rfl
theorem ren_range {n : Nat} (a : AV) (h : a.ltk n = true) : (a.ren fun k => (List.range n).getD k 0) = a := by
  rw [ren_congr (ψ := fun k => k) (fun k hk => range_getD hk) a h]; exact ren_self a
theorem Hand.all {o : List Ob} (h : o.all (Ob.ltk o.length) = true) : Hand o (List.range o.length) o := by
  refine ⟨by simp, List.nodup_range, fun j i hj => ?_⟩
  have hlt : j < o.length := by have := (List.getElem?_eq_some_iff.1 hj).1; simpa using this
  rw [List.getElem?_range hlt] at hj
  obtain rfl := Option.some.inj hj
  simp only [List.all_eq_true] at h
  have hx := h o[j] (List.getElem_mem hlt)
  refine ⟨o[j], List.getElem?_eq_getElem hlt, ?_, by simpa using hx⟩
  rw [Ob.ren_congr (ψ := fun k => k) (fun k hk => range_getD hk) _ hx, Ob.ren_self]
  exact List.getElem?_eq_getElem hlt
theorem after_all {o o' : List Ob} (h : o.length ≤ o'.length) : after o (List.range o.length) o' = o' := by
  have hφ : phi (List.range o.length) o.length = fun k => k := by
    funext k
    unfold phi
    simp only [List.length_range]
    split
    · rename_i hk; exact range_getD hk
    · omega
  unfold after
  rw [hφ]
  have e : ∀ l : List Ob, l.map (Ob.ren fun k => k) = l := fun l => by
    conv => rhs; rw [← List.map_id l]
    exact List.map_congr_left fun x _ => Ob.ren_self x
  rw [e, e, List.length_range]
  apply List.ext_getElem?
  intro i
  by_cases hi : i < o.length
  · rw [List.getElem?_append_left (by rw [back_length]; exact hi)]
    rw [back_get _ _ _ i i List.nodup_range (by simp; omega) (List.getElem?_range hi) hi, List.getElem?_take, if_pos hi]
  · rw [List.getElem?_append_right (by rw [back_length]; omega), back_length, List.getElem?_drop]
    congr 1
    omega
end Go.AW
namespace Go.AW
open Go
set_option linter.unusedSimpArgs false
set_option linter.unusedVariables false
def sw (i j : Nat) : Nat → Nat := fun k => if k = i then j else if k = j then i else k
theorem sw_sw (i j k : Nat) : sw i j (sw i j k) = k := by
  unfold sw
  by_cases h1 : k = i
  · subst h1
    by_cases h2 : j = k
    · simp [h2]
    · simp [h2]
  · by_cases h2 : k = j
    · subst h2; simp [h1]
    · simp [h1, h2]
theorem sw_lt {i j n k : Nat} (hi : i < n) (hj : j < n) (hk : k < n) : sw i j k < n := by
  unfold sw
  split
  · exact hj
  · split
    · exact hi
    · exact hk
def swO (i j : Nat) (o : List Ob) : List Ob := (List.range o.length).map fun k => (o.getD (sw i j k) .dead).ren (sw i j)
def swM (i j : Nat) (m : List MB) : List MB := (List.range m.length).map fun k => m.getD (sw i j k) ⟨0, 0, 0, 0⟩
def regSw (reg : Pl → Option Reg) (i j n : Nat) : Pl → Option Reg
  | .o k r c => if k < n then reg (.o (sw i j k) r c) else none
  | .t k => reg (.t k)
def swS (i j : Nat) (s : St) : St := ⟨fun k => (s.t k).ren (sw i j), swO i j s.o⟩
section
variable {w : World} {Z : CS} {m : List MB} {reg : Pl → Option Reg} {t : Nat → AV} {u : Nat → Value} {o : List Ob} {i j : Nat}
theorem swM_get (hi : i < m.length) (hj : j < m.length) (k : Nat) : (swM i j m)[k]? = if k < m.length then m[sw i j k]? else none := by
  unfold swM
  rw [List.getElem?_map]
  by_cases hk : k < m.length
  · rw [List.getElem?_range hk, if_pos hk]
    have := sw_lt hi hj hk
    simp [List.getD_eq_getElem?_getD, List.getElem?_eq_getElem this]
  · rw [if_neg hk, List.getElem?_eq_none (by simpa using hk)]; rfl
theorem swO_get (hi : i < o.length) (hj : j < o.length) (k : Nat) : (swO i j o)[k]? = if k < o.length then (o[sw i j k]?).map (Ob.ren (sw i j)) else none := by
  unfold swO
  rw [List.getElem?_map]
  by_cases hk : k < o.length
  · rw [List.getElem?_range hk, if_pos hk]
    have := sw_lt hi hj hk
    simp [List.getD_eq_getElem?_getD, List.getElem?_eq_getElem this]
  · rw [if_neg hk, List.getElem?_eq_none (by simpa using hk)]; rfl
theorem Rel.swap (h : Rel w Z m reg t u o) (hi : i < o.length) (hj : j < o.length) :
    Rel w Z (swM i j m) (regSw reg i j o.length) (fun k => (t k).ren (sw i j)) u (swO i j o) ∧
    (∀ b x, XS (swM i j m) (regSw reg i j o.length) (swO i j o) b x → XS m reg o b x) := by
  have hl := h.len
  have hi' : i < m.length := by omega
  have hj' : j < m.length := by omega
  have mg : ∀ {k : Nat} {x : MB}, (swM i j m)[k]? = some x → k < o.length ∧ m[sw i j k]? = some x := by
    intro k x hk
    rw [swM_get hi' hj'] at hk
    split at hk
    · exact ⟨by omega, hk⟩
    · cases hk
  have og : ∀ {k : Nat} {x : Ob}, (swO i j o)[k]? = some x → k < o.length ∧ ∃ y, o[sw i j k]? = some y ∧ x = y.ren (sw i j) := by
    intro k x hk
    rw [swO_get hi hj] at hk
    split at hk
    · rename_i hlt
      cases hq : o[sw i j k]? with
      | none => rw [hq] at hk; cases hk
      | some y => rw [hq] at hk; exact ⟨hlt, y, rfl, (Option.some.inj hk).symm⟩
    · cases hk
  have fwd : ∀ (id : Nat) mb, m[id]? = some mb → (swM i j m)[sw i j id]? = some mb := by
    intro id mb hm
    have hlt : id < m.length := (List.getElem?_eq_some_iff.1 hm).1
    rw [swM_get hi' hj', if_pos (sw_lt hi' hj' hlt), sw_sw]; exact hm
  have hreg : ∀ p r, regSw reg i j o.length p = some r → ∃ q, reg q = some r ∧ (∀ k, p = .t k → q = .t k) ∧ ∀ k a c, p = .o k a c → q = .o (sw i j k) a c := by
    intro p r hp
    cases p with
    | t k => exact ⟨.t k, hp, fun _ h => h, fun _ _ _ h => (by cases h)⟩
    | o k a c =>
      simp only [regSw] at hp
      split at hp
      · exact ⟨_, hp, fun _ h => (by cases h), fun _ _ _ h => (by cases h; rfl)⟩
      · cases hp
  have hX : ∀ b x, XS (swM i j m) (regSw reg i j o.length) (swO i j o) b x → XS m reg o b x := by
    rintro b x (⟨k, ob, mb, h1, h2, h3, h4⟩ | ⟨p, r, h1, h2⟩)
    · obtain ⟨_, y, g1, rfl⟩ := og h1
      exact .inl ⟨_, y, mb, g1, (Ob.ren_live _ _).1 h2, (mg h3).2, h4⟩
    · obtain ⟨q, hq, _⟩ := hreg p r h1
      exact .inr ⟨q, r, hq, h2⟩
  have K0 : Keeps w (YS Z m reg o) m w (YS Z (swM i j m) (regSw reg i j o.length) (swO i j o)) m :=
    Keeps.sub m fun b y k => k.imp (hX b y) (fun h => h)
  refine ⟨?_, hX⟩
  refine ⟨by simp [swM, swO, hl], fun k => V.ren fwd _ _ (V.keep K0 _ _ (h.tv k)), ?_, ?_, ?_, ?_, ?_, ?_, fun b y hz hy => h.zx b y hz (hX b y hy), h.zs⟩
  · intro k ob mb ho hm
    obtain ⟨_, y, g1, rfl⟩ := og ho
    exact ObR.ren fwd y (Ob.keep K0 y (fun _ => rfl) (h.ob _ y mb g1 (mg hm).2))
  · intro a b x y ma mb ha hb lx ly hma hmb e
    obtain ⟨_, x', g1, rfl⟩ := og ha
    obtain ⟨_, y', g2, rfl⟩ := og hb
    have := h.inj _ _ x' y' ma mb g1 g2 ((Ob.ren_live _ _).1 lx) ((Ob.ren_live _ _).1 ly) (mg hma).2 (mg hmb).2 e
    rw [← sw_sw i j a, this, sw_sw]
  · intro p r hp
    obtain ⟨q, hq, _⟩ := hreg p r hp
    exact h.rok q r hq
  · intro p r id x mb hp ho hl hm
    obtain ⟨q, hq, _⟩ := hreg p r hp
    obtain ⟨_, y, g1, rfl⟩ := og ho
    exact h.rob q r _ y mb hq g1 ((Ob.ren_live _ _).1 hl) (mg hm).2
  · intro p q r s hpq hp hq
    obtain ⟨p', hp', t1, o1⟩ := hreg p r hp
    obtain ⟨q', hq', t2, o2⟩ := hreg q s hq
    refine h.rdj p' q' r s (fun e => hpq ?_) hp' hq'
    cases p with
    | t k =>
      have e1 := t1 k rfl
      cases q with
      | t k' => have e2 := t2 k' rfl; rw [e1, e2] at e; rw [e]
      | o k' a c => have e2 := o2 k' a c rfl; rw [e1, e2] at e; cases e
    | o k a c =>
      have e1 := o1 k a c rfl
      cases q with
      | t k' => have e2 := t2 k' rfl; rw [e1, e2] at e; cases e
      | o k' a' c' =>
        have e2 := o2 k' a' c' rfl
        rw [e1, e2] at e
        obtain ⟨h1, rfl, rfl⟩ := Pl.o.inj e
        rw [← sw_sw i j k, h1, sw_sw]
  · intro p sz rows v hlf hv
    cases p with
    | t k =>
      simp only [leaf, Option.some.injEq] at hlf
      exact h.own (.t k) sz rows v (by rw [leaf, ren_own hlf]) hv
    | o k a c =>
      simp only [leaf] at hlf
      by_cases hk : k < o.length
      · rw [swO_get hi hj, if_pos hk] at hlf
        simp only [regSw, hk, if_true]
        refine h.own (.o (sw i j k) a c) sz rows v ?_ ?_
        · simp only [leaf]
          cases hq : o[sw i j k]? with
          | none => rw [hq] at hlf; simp at hlf
          | some y =>
            rw [hq] at hlf
            cases y with
            | cells sz' rows' =>
              simp only [Option.map_some, Ob.ren, List.getElem?_map] at hlf ⊢
              cases hr : rows'[a]? with
              | none => rw [hr] at hlf; simp at hlf
              | some row =>
                rw [hr] at hlf
                simp only [Option.map_some, Option.bind_some, List.getElem?_map] at hlf ⊢
                cases hc : row[c]? with
                | none => rw [hc] at hlf; simp at hlf
                | some av => rw [hc] at hlf; simp only [Option.map_some, Option.some.injEq] at hlf; rw [ren_own hlf]
            | _ => simp [Ob.ren] at hlf
        · simp only [valAt] at hv ⊢
          rw [swM_get hi' hj', if_pos (by omega)] at hv
          exact hv
      · rw [swO_get hi hj, if_neg hk] at hlf
        simp at hlf
end
theorem At.swap {g : G} {s : St} {a : Act} {w : World} {i j : Nat} (h : At g s a w) (hi : i < s.o.length) (hj : j < s.o.length) (gi : g.m.length ≤ i) (gj : g.m.length ≤ j) : At g (swS i j s) a w := by
  obtain ⟨⟨m, reg, h1, h2, h3⟩, h4, h5, h6⟩ := h
  obtain ⟨r1, r2⟩ := h1.swap hi hj
  refine ⟨⟨_, _, r1, fun b x hx => h2 b x (r2 b x hx), fun id mb hm => ?_⟩, h4, h5, h6⟩
  have hlt : id < g.m.length := (List.getElem?_eq_some_iff.1 hm).1
  have hm' := h3 id mb hm
  have hml : id < m.length := (List.getElem?_eq_some_iff.1 hm').1
  rw [swM_get (by rw [h1.len]; exact hi) (by rw [h1.len]; exact hj), if_pos hml]
  have : sw i j id = id := by unfold sw; rw [if_neg (by omega), if_neg (by omega)]
  rw [this]; exact hm'
theorem At.glen {g : G} {s : St} {a : Act} {w : World} (h : At g s a w) : g.m.length ≤ s.o.length := by
  obtain ⟨⟨m, reg, h1, h2, h3⟩, h4, h5, h6⟩ := h
  rw [← h1.len]
  rcases Nat.lt_or_ge m.length g.m.length with hl | hl
  · have := h3 m.length _ (List.getElem?_eq_getElem hl)
    rw [List.getElem?_eq_none (Nat.le_refl _)] at this; cases this
  · exact hl
end Go.AW
namespace Go.AW
open Go
set_option linter.unusedSimpArgs false
set_option linter.unusedVariables false
def runD1 (P : Program) (n : Nat) (gd : List (Option Nat)) (tk : List Nat) (o : Oper) (s : St) : SR :=
  match o.guard with
  | none =>
    if isQ tk o = true then match slotR P tk o s true with | some r => putS n o.dst r s | none => SR.no s
    else if isCall o = true then SR.no s else step1 P n tk o s
  | some (j, want) =>
    if isQ tk o = true then
      match gd.getD j none with
      | none => SR.no s
      | some t =>
        match gv (s.t t) with
        | some (h, x) =>
          match slotR P tk o s (h && x == want) with
          | some r => ((!(h && x == want) || r.ok) && dstOk n o.dst, s.put o.dst (.gd (h && x == want) r.v))
          | none => SR.no s
        | none => SR.no s
    else SR.no s
def runDP (P : Program) (n : Nat) (gd : List (Option Nat)) (tk : List Nat) : List Oper → (St → Prop) → St → Prop
  | [], K, s => K s
  | o :: r, K, s => andR (runD1 P n gd tk o s) (runDP P n gd tk r K)
theorem runDP_nil {P : Program} {n : Nat} {gd : List (Option Nat)} {tk : List Nat} {K : St → Prop} {s : St} : runDP P n gd tk [] K s = K s := rfl
theorem runDP_cons {P : Program} {n : Nat} {gd : List (Option Nat)} {tk : List Nat} {o : Oper} {r : List Oper} {K : St → Prop} {s : St} : runDP P n gd tk (o :: r) K s = andR (runD1 P n gd tk o s) (runDP P n gd tk r K) := rfl
section
variable {P : Program} {n : Nat} {gd : List (Option Nat)} {tk : List Nat} {K : St → Prop} {s : St}
theorem D_runDP : ∀ (k : Nat) {rest : List Oper} {s : St}, runDP P n gd tk (rest.take k) (D P n gd tk (rest.drop k) K) s → D P n gd tk rest K s
  | 0, rest, s, h => by simpa [runDP] using h
  | k + 1, [], s, h => by simpa [runDP] using h
  | k + 1, o :: rest, s, h => by
    simp only [List.take_succ_cons, runDP, andR, List.drop_succ_cons] at h
    obtain ⟨h1, h2⟩ := h
    have h2 := D_runDP k h2
    unfold runD1 at h1 h2
    cases hg : o.guard with
    | none =>
      simp only [hg] at h1 h2
      by_cases hq : isQ tk o = true
      · rw [if_pos hq] at h1 h2
        simp only [D, hq, if_true]
        split at h1
        · rename_i r hr
          simp only [hr, putS, Bool.and_eq_true] at h1 h2
          refine ⟨r.v, ⟨h1.2, ?_⟩, h2⟩
          rw [hg]
          exact .inl ⟨r, hr, h1.1, rfl⟩
        · cases h1
      · rw [if_neg hq] at h1 h2
        have hq' : isQ tk o = false := by simpa using hq
        simp only [D, hq', Bool.false_eq_true, if_false]
        by_cases hc : isCall o = true
        · rw [if_pos hc] at h1; cases h1
        · rw [if_neg hc] at h1 h2
          rw [if_neg hc]
          exact ⟨hg, _, by rw [← h1], h2⟩
    | some jw =>
      obtain ⟨j, want⟩ := jw
      simp only [hg] at h1 h2
      by_cases hq : isQ tk o = true
      · rw [if_pos hq] at h1 h2
        simp only [D, hq, if_true]
        split at h1
        · cases h1
        · rename_i t ht
          simp only [ht] at h1 h2
          split at h1
          · rename_i h0 x hx
            simp only [hx] at h1 h2
            split at h1
            · rename_i r hr
              simp only [hr] at h1 h2
              rw [Bool.and_eq_true] at h1
              refine ⟨_, ⟨h1.2, ?_⟩, h2⟩
              rw [hg]
              refine ⟨t, h0, x, ht, hx, .inl ⟨r, hr, fun e => ?_, rfl⟩⟩
              rw [e] at h1
              simpa using h1.1
            · cases h1
          · cases h1
      · rw [if_neg hq] at h1; cases h1
end
attribute [go_sem] runDP_cons runDP_nil runD1 isQ isCall
end Go.AW
namespace Go.AW
open Go
set_option linter.unusedSimpArgs false
set_option linter.unusedVariables false
mutual
/-- A value in which an object's slices are read as data. -/
def AV.unref (id sz : Nat) (rows : List (List AV)) : AV → AV
  | .ref j off len => if j = id ∧ off + len ≤ rows.length then .sl sz ((rows.drop off).take len) else .ref j off len
  | .fn f cs => .fn f (AV.unrefs id sz rows cs)
  | .agg cs => .agg (AV.unrefs id sz rows cs)
  | .tup cs => .tup (AV.unrefs id sz rows cs)
  | .ifc t v => .ifc t (AV.unref id sz rows v)
  | .bm t v => .bm t (AV.unref id sz rows v)
  | .gd g v => .gd g (AV.unref id sz rows v)
  | a => a
def AV.unrefs (id sz : Nat) (rows : List (List AV)) : List AV → List AV
  | [] => []
  | a :: l => AV.unref id sz rows a :: AV.unrefs id sz rows l
end
def Ob.unref (id sz : Nat) (rows : List (List AV)) : Ob → Ob
  | .cells k rs => .cells k (rs.map fun r => r.map (AV.unref id sz rows))
  | .mapo es => .mapo (es.map fun e => (e.1.unref id sz rows, e.2.unref id sz rows))
  | o => o
section
variable {w : World} {Y : CS} {m : List MB} {id sz : Nat} {rows : List (List AV)}
mutual
theorem V.unref (h : ∀ off len v, off + len ≤ rows.length → V w Y m (.ref id off len) v → V w Y m (.sl sz ((rows.drop off).take len)) v) : ∀ (a : AV) (v : Value), V w Y m a v → V w Y m (a.unref id sz rows) v
  | .ref j off len, v, k => by
    simp only [AV.unref]
    split
    · rename_i e; rw [e.1] at k; exact h _ _ _ e.2 k
    · exact k
  | .fn f cs, _, k => by
    simp only [V, AV.unref] at k ⊢
    obtain ⟨us, h1, h2⟩ := k
    exact ⟨us, h1, Vs.unref h cs _ h2⟩
  | .agg cs, _, k => by
    simp only [V, AV.unref] at k ⊢
    obtain ⟨us, h1, h2⟩ := k
    exact ⟨us, h1, Vs.unref h cs _ h2⟩
  | .tup cs, _, k => by
    simp only [V, AV.unref] at k ⊢
    obtain ⟨us, h1, h2⟩ := k
    exact ⟨us, h1, Vs.unref h cs _ h2⟩
  | .ifc t x, _, k => by
    simp only [V, AV.unref] at k ⊢
    obtain ⟨y, h1, h2⟩ := k
    exact ⟨y, h1, V.unref h x y h2⟩
  | .bm t x, _, k => by
    simp only [V, AV.unref] at k ⊢
    obtain ⟨y, h1, h2⟩ := k
    exact ⟨y, h1, V.unref h x y h2⟩
  | .gd g x, v, k => by
    simp only [V, AV.unref] at k ⊢
    exact ⟨fun hg => V.unref h x v (k.1 hg), k.2⟩
  | .any, _, k | .b _, _, k | .i _ _, _, k | .s _, _, k | .sl _ _, _, k | .own _ _, _, k | .ptr _ _ _, _, k | .ep _ _, _, k | .nilp, _, k | .mp _, _, k | .nilm, _, k | .nsl, _, k | .esl, _, k | .nilf, _, k | .nili, _, k => by
    simpa only [AV.unref] using k
theorem Vs.unref (h : ∀ off len v, off + len ≤ rows.length → V w Y m (.ref id off len) v → V w Y m (.sl sz ((rows.drop off).take len)) v) : ∀ (l : List AV) (vs : List Value), Vs w Y m l vs → Vs w Y m (AV.unrefs id sz rows l) vs
  | [], _, k => by simpa only [Vs, AV.unrefs] using k
  | c :: r, _, k => by
    simp only [Vs, AV.unrefs] at k ⊢
    obtain ⟨v, t, h1, h2, h3⟩ := k
    exact ⟨v, t, h1, V.unref h c v h2, Vs.unref h r t h3⟩
end
theorem unref_own {a : AV} {k : Nat} {rs : List (List AV)} (h : a.unref id sz rows = .own k rs) : a = .own k rs := by
  cases a with
  | ref j off len => simp only [AV.unref] at h; split at h <;> cases h
  | _ => first | exact h | (simp only [AV.unref] at h; cases h)
theorem ObR.unref (h : ∀ off len v, off + len ≤ rows.length → V w Y m (.ref id off len) v → V w Y m (.sl sz ((rows.drop off).take len)) v) {mb : MB} (x : Ob) (hx : ObR w Y m mb x) : ObR w Y m mb (x.unref id sz rows) := by
  cases x with
  | cells k rs =>
    obtain ⟨h1, h2, h3, h4⟩ := hx
    refine ⟨h1, by simpa using h2, fun r row hr => ?_, fun r row c av hr hc => ?_⟩
    · simp only [List.getElem?_map] at hr
      cases hq : rs[r]? with
      | none => simp [hq] at hr
      | some q => simp only [hq, Option.map_some, Option.some.injEq] at hr; subst hr; simpa using h3 r q hq
    · simp only [List.getElem?_map] at hr
      cases hq : rs[r]? with
      | none => simp [hq] at hr
      | some q =>
        simp only [hq, Option.map_some, Option.some.injEq] at hr; subst hr
        simp only [List.getElem?_map] at hc
        cases hz : q[c]? with
        | none => simp [hz] at hc
        | some z =>
          simp only [hz, Option.map_some, Option.some.injEq] at hc; subst hc
          obtain ⟨v, e1, e2⟩ := h4 r q c z hq hz
          exact ⟨v, e1, V.unref h z v e2⟩
  | frz sz rows => exact hx
  | mapo es =>
    obtain ⟨c, e, h1, h2, h3⟩ := hx
    refine ⟨c, e, h1, ?_, h3⟩
    have key : ∀ (es : List (AV × AV)) (l : List MapEntry), MapR w Y m es l → MapR w Y m (es.map fun e => (e.1.unref id sz rows, e.2.unref id sz rows)) l := by
      intro es
      induction es with
      | nil => intro l hl; simpa only [List.map_nil, MapR] using hl
      | cons a es ih =>
        intro l hl
        obtain ⟨k, v⟩ := a
        simp only [List.map_cons, MapR] at hl ⊢
        obtain ⟨e, t, g1, g2, g3, g4⟩ := hl
        exact ⟨e, t, g1, V.unref h _ _ g2, V.unref h _ _ g3, ih t g4⟩
    exact key es _ h2
  | dead => trivial
theorem Ob.unref_live (x : Ob) : (x.unref id sz rows).live ↔ x.live := by cases x <;> exact Iff.rfl
end
section
variable {w : World} {Z : CS} {m : List MB} {reg : Pl → Option Reg} {t : Nat → AV} {u : Nat → Value} {o : List Ob}
theorem Rel.unown (h : Rel w Z m reg t u o) {id sz : Nat} {rows : List (List AV)} (ho : o[id]? = some (.cells sz rows)) :
    ∃ reg', Rel w Z m reg' t u (o.set id (.cells sz (rows.map fun r => r.map AV.dat))) ∧ ∀ b x, XS m reg' (o.set id (.cells sz (rows.map fun r => r.map AV.dat))) b x → XS m reg o b x := by
  let reg' : Pl → Option Reg := fun p => match p with | .o j _ _ => if j = id then none else reg p | .t _ => reg p
  have hsub : ∀ p rg, reg' p = some rg → reg p = some rg := by
    intro p rg hp
    cases p with
    | t k => exact hp
    | o j r c =>
      simp only [reg'] at hp
      split at hp
      · cases hp
      · exact hp
  have hX : ∀ b x, XS m reg' (o.set id (.cells sz (rows.map fun r => r.map AV.dat))) b x → XS m reg o b x := by
    rintro b x (⟨j, ob, mb, h1, h2, h3, h4⟩ | ⟨p, rg, h1, h2⟩)
    · rw [set_get ho] at h1
      split at h1
      · rename_i e; subst e; exact .inl ⟨j, _, mb, ho, trivial, h3, h4⟩
      · exact .inl ⟨j, ob, mb, h1, h2, h3, h4⟩
    · exact .inr ⟨p, rg, hsub p rg h1, h2⟩
  have K : Keeps w (YS Z m reg o) m w (YS Z m reg' (o.set id (.cells sz (rows.map fun r => r.map AV.dat)))) m := Keeps.sub m fun b y k => k.imp (hX b y) (fun h => h)
  refine ⟨reg', ?_, hX⟩
  refine ⟨by simp [h.len], fun k => V.keep K _ _ (h.tv k), ?_, ?_, fun p rg hp => h.rok p rg (hsub p rg hp), ?_, fun p q r s hpq hp hq => h.rdj p q r s hpq (hsub p r hp) (hsub q s hq), ?_, fun b y hz hy => h.zx b y hz (hX b y hy), h.zs⟩
  · intro j ob mb hoj hmj
    rw [set_get ho] at hoj
    split at hoj
    · rename_i e
      subst e
      obtain rfl := Option.some.inj hoj
      obtain ⟨h1, h2, h3, h4⟩ := h.ob j _ mb ho hmj
      refine ⟨h1, by simpa using h2, fun r row hr => ?_, fun r row c av hr hc => ?_⟩
      · simp only [List.getElem?_map] at hr
        cases hq : rows[r]? with
        | none => simp [hq] at hr
        | some q => simp only [hq, Option.map_some, Option.some.injEq] at hr; subst hr; simpa using h3 r q hq
      · simp only [List.getElem?_map] at hr
        cases hq : rows[r]? with
        | none => simp [hq] at hr
        | some q =>
          simp only [hq, Option.map_some, Option.some.injEq] at hr; subst hr
          simp only [List.getElem?_map] at hc
          cases hz : q[c]? with
          | none => simp [hz] at hc
          | some z =>
            simp only [hz, Option.map_some, Option.some.injEq] at hc; subst hc
            obtain ⟨v, e1, e2⟩ := h4 r q c z hq hz
            exact ⟨v, e1, V.keep K _ _ (V.dat _ _ e2)⟩
    · exact Ob.keep K ob (fun _ => rfl) (h.ob j ob mb hoj hmj)
  · intro i j x y a b hi hj lx ly ha hb e
    have f : ∀ {i : Nat} {x : Ob}, (o.set id (.cells sz (rows.map fun r => r.map AV.dat)))[i]? = some x → x.live → ∃ x' : Ob, o[i]? = some x' ∧ x'.live := by
      intro i x hi hl
      rw [set_get ho] at hi
      split at hi
      · rename_i e; subst e; exact ⟨_, ho, trivial⟩
      · exact ⟨x, hi, hl⟩
    obtain ⟨x', hx', lx'⟩ := f hi lx
    obtain ⟨y', hy', ly'⟩ := f hj ly
    exact h.inj i j x' y' a b hx' hy' lx' ly' ha hb e
  · intro p rg j x mb hp hj hl hmj
    have : ∃ x' : Ob, o[j]? = some x' ∧ x'.live := by
      rw [set_get ho] at hj
      split at hj
      · rename_i e; subst e; exact ⟨_, ho, trivial⟩
      · exact ⟨x, hj, hl⟩
    obtain ⟨x', hx', lx'⟩ := this
    exact h.rob p rg j x' mb (hsub p rg hp) hx' lx' hmj
  · intro p sz' rows' v hl hv
    cases p with
    | t k => exact h.own (.t k) sz' rows' v hl hv
    | o j r c =>
      simp only [leaf, set_get ho] at hl
      by_cases e : j = id
      · subst e
        simp only [if_true, List.getElem?_map] at hl
        cases hq : rows[r]? with
        | none => simp [hq] at hl
        | some q =>
          simp only [hq, Option.map_some, Option.bind_some, List.getElem?_map] at hl
          cases hz : q[c]? with
          | none => simp [hz] at hl
          | some z =>
            simp only [hz, Option.map_some, Option.some.injEq] at hl
            have := AV.dat_isOwn z
            rw [hl] at this; simp [AV.isOwn] at this
      · simp only [if_neg e, reg'] at hl ⊢
        exact h.own (.o j r c) sz' rows' v (by simpa [leaf] using hl) hv
theorem Rel.unref (h : Rel w Z m reg t u o) {id sz : Nat} {rows : List (List AV)} (ho : o[id]? = some (.frz sz rows)) :
    ∃ reg', Rel w Z m reg' (fun k => (t k).unref id sz rows) u (o.map (Ob.unref id sz rows)) ∧ ∀ b x, XS m reg' (o.map (Ob.unref id sz rows)) b x → XS m reg o b x := by
  have og : ∀ {j : Nat} {x : Ob}, (o.map (Ob.unref id sz rows))[j]? = some x → ∃ y, o[j]? = some y ∧ x = y.unref id sz rows := by
    intro j x hj
    rw [List.getElem?_map] at hj
    cases hq : o[j]? with
    | none => rw [hq] at hj; cases hj
    | some y => rw [hq] at hj; exact ⟨y, rfl, (Option.some.inj hj).symm⟩
  have hX : ∀ b x, XS m reg (o.map (Ob.unref id sz rows)) b x → XS m reg o b x := by
    rintro b x (⟨j, ob, mb, h1, h2, h3, h4⟩ | h1)
    · obtain ⟨y, hy, rfl⟩ := og h1
      exact .inl ⟨j, y, mb, hy, (Ob.unref_live _).1 h2, h3, h4⟩
    · exact .inr h1
  obtain ⟨mb, hmb⟩ := h.mget ho
  have hfr := h.ob id _ mb ho hmb
  have hu : ∀ off len v, off + len ≤ rows.length → V w (YS Z m reg o) m (.ref id off len) v → V w (YS Z m reg o) m (.sl sz ((rows.drop off).take len)) v := by
    intro off len v hle hv
    simp only [V] at hv ⊢
    obtain ⟨mb', a, cap, e1, rfl, e2, e3, e4⟩ := hv
    rw [hmb] at e1
    obtain rfl := Option.some.inj e1
    have hlen : ((rows.drop off).take len).length = len := by rw [List.length_take, List.length_drop]; omega
    refine ⟨a, cap, by rw [hlen], by rw [hlen]; exact e2, e3, ?_⟩
    by_cases h0 : len = 0
    · subst h0; exact .inl (by simp)
    · refine .inr ⟨mb.blk, mb.base + off * mb.sz, (e4.resolve_left (fun q => h0 q.1)).1, ?_⟩
      obtain ⟨s1, s2⟩ := hfr
      rcases s2 with s2 | s2
      · subst s2; simp at hle; omega
      · rw [s1]
        exact Rs.take _ (Rs.drop _ s2)
  have K : Keeps w (YS Z m reg o) m w (YS Z m reg (o.map (Ob.unref id sz rows))) m := Keeps.sub m fun b y k => k.imp (hX b y) (fun h => h)
  refine ⟨reg, ?_, hX⟩
  refine ⟨by simp [h.len], fun k => V.keep K _ _ (V.unref hu _ _ (h.tv k)), ?_, ?_, h.rok, ?_, h.rdj, ?_, fun b y hz hy => h.zx b y hz (hX b y hy), h.zs⟩
  · intro j ob mb' hoj hmj
    obtain ⟨y, hy, rfl⟩ := og hoj
    exact Ob.keep K _ (fun _ => rfl) (ObR.unref hu y (h.ob j y mb' hy hmj))
  · intro i j x y a b hi hj lx ly ha hb e
    obtain ⟨x', hx, rfl⟩ := og hi
    obtain ⟨y', hy, rfl⟩ := og hj
    exact h.inj i j x' y' a b hx hy ((Ob.unref_live _).1 lx) ((Ob.unref_live _).1 ly) ha hb e
  · intro p r j x mb' hp hj hl hm
    obtain ⟨y, hy, rfl⟩ := og hj
    exact h.rob p r j y mb' hp hy ((Ob.unref_live _).1 hl) hm
  · intro p sz' rows' v hl hv
    refine h.own p sz' rows' v ?_ hv
    cases p with
    | t k =>
      simp only [leaf, Option.some.injEq] at hl ⊢
      exact unref_own hl
    | o j r c =>
      simp only [leaf, List.getElem?_map] at hl ⊢
      cases hq : o[j]? with
      | none => rw [hq] at hl; simp at hl
      | some y =>
        rw [hq] at hl
        cases y with
        | cells k rs =>
          simp only [Option.map_some, Ob.unref, List.getElem?_map] at hl ⊢
          cases hr : rs[r]? with
          | none => rw [hr] at hl; simp at hl
          | some row =>
            rw [hr] at hl
            simp only [Option.map_some, Option.bind_some, List.getElem?_map] at hl ⊢
            cases hc : row[c]? with
            | none => rw [hc] at hl; simp at hl
            | some av => rw [hc] at hl; simp only [Option.map_some, Option.some.injEq] at hl; rw [unref_own hl]
        | _ => simp [Ob.unref] at hl
end
def frS (id sz : Nat) (rows : List (List AV)) (s : St) : St :=
  let rs := rows.map fun r => r.map AV.dat
  ⟨fun k => (s.t k).unref id sz rs, (s.o.set id (.frz sz rs)).map (Ob.unref id sz rs)⟩
theorem At.freeze {g : G} {s : St} {a : Act} {w : World} {id sz : Nat} {rows : List (List AV)} (h : At g s a w) (ho : s.o[id]? = some (.cells sz rows))
    (hr : (rows.all fun r => r.all fun c => c.dat.ltk 0 && c.dat.plain) = true) : At g (frS id sz rows s) a w := by
  obtain ⟨⟨m, reg, h1, h2, h3⟩, h4, h5, h6⟩ := h
  obtain ⟨reg1, r1, x1⟩ := h1.unown ho
  have ho1 : (s.o.set id (.cells sz (rows.map fun r => r.map AV.dat)))[id]? = some (.cells sz (rows.map fun r => r.map AV.dat)) := by rw [set_get ho, if_pos rfl]
  obtain ⟨r2, _, x2⟩ := r1.freeze ho1 (by
    intro r row c av e1 e2
    simp only [List.getElem?_map] at e1
    cases hq : rows[r]? with
    | none => rw [hq] at e1; cases e1
    | some q =>
      rw [hq] at e1
      simp only [Option.map_some, Option.some.injEq] at e1
      subst e1
      simp only [List.getElem?_map] at e2
      cases hz : q[c]? with
      | none => rw [hz] at e2; cases e2
      | some z =>
        rw [hz] at e2
        simp only [Option.map_some, Option.some.injEq] at e2
        subst e2
        simp only [List.all_eq_true, Bool.and_eq_true] at hr
        have := hr q (List.mem_of_getElem? hq) z (List.mem_of_getElem? hz)
        exact ⟨this.1, AV.dat_isOwn _, this.2⟩)
  rw [List.set_set] at r2 x2
  have ho2 : (s.o.set id (.frz sz (rows.map fun r => r.map AV.dat)))[id]? = some (.frz sz (rows.map fun r => r.map AV.dat)) := by rw [set_get ho, if_pos rfl]
  obtain ⟨reg3, r3, x3⟩ := r2.unref ho2
  exact ⟨⟨m, reg3, r3, fun b x hx => h2 b x (x1 b x (x2 b x (x3 b x hx))), h3⟩, h4, h5, h6⟩
section
variable {P : Program} {n : Nat} {Q : Exit → St → Prop} {s : St} {c : Code}
theorem W.at {s' : St} (hs : ∀ (g : G) (a : Act) (w : World), At g s a w → At g s' a w) (h : W P n c Q s') : W P n c Q s := fun g a w hn hat => h g a w hn (hs g a w hat)
theorem W_freeze (id : Nat) {sz : Nat} {rows : List (List AV)} (ho : s.o[id]? = some (.cells sz rows)) (hr : (rows.all fun r => r.all fun c => c.dat.ltk 0 && c.dat.plain) = true)
    (h : W P n c Q (frS id sz rows s)) : W P n c Q s := h.at fun _ _ _ hat => hat.freeze ho hr
theorem W_weak {s' : St} (ht : ∀ k, Le (s.t k) (s'.t k)) (ho : s'.o = s.o) (h : W P n c Q s') : W P n c Q s := h.at fun _ _ _ hat => hat.weak ht ho
end
end Go.AW
namespace Go.AW
open Go
set_option linter.unusedSimpArgs false
set_option linter.unusedVariables false
def inL (lo hi : Nat) (L : List Nat) (k : Nat) : Bool := decide (lo ≤ k) && decide (k < hi) || L.contains k
def mix (lo hi : Nat) (L : List Nat) (t t0 : Nat → AV) : Nat → AV := fun k => if inL lo hi L k = true then t k else t0 k
theorem mix_self (lo hi : Nat) (L : List Nat) (t : Nat → AV) : mix lo hi L t t = t := by
  funext k
  simp [mix]
theorem mix_upd {lo hi : Nat} {L : List Nat} {t t0 : Nat → AV} {k : Nat} {v : AV} (h : inL lo hi L k = true) : upd (mix lo hi L t t0) k v = mix lo hi L (upd t k v) t0 := by
  funext j
  simp only [upd, mix]
  by_cases hj : j = k
  · subst hj; simp [h]
  · simp [hj]
theorem mix_mix {lo hi lo' hi' : Nat} {L L' : List Nat} {t t1 t0 : Nat → AV} (h : (decide (lo' ≤ lo) && decide (hi ≤ hi') && L.all (inL lo' hi' L')) = true) : mix lo hi L t (mix lo' hi' L' t1 t0) = mix lo' hi' L' (mix lo hi L t t1) t0 := by
  simp only [Bool.and_eq_true, decide_eq_true_eq, List.all_eq_true] at h
  funext k
  simp only [mix]
  by_cases h1 : inL lo hi L k = true
  · have h2 : inL lo' hi' L' k = true := by
      simp only [inL, Bool.or_eq_true, Bool.and_eq_true, decide_eq_true_eq, List.contains_eq_mem] at h1 ⊢
      rcases h1 with h1 | h1
      · exact .inl ⟨by omega, by omega⟩
      · have := h.2 k h1
        simpa only [inL, Bool.or_eq_true, Bool.and_eq_true, decide_eq_true_eq, List.contains_eq_mem] using this
    simp [h1, h2]
  · simp [h1]
section
variable {P : Program} {n : Nat} {Q : Exit → St → Prop} {s : St}
def forQ (lo hi : Nat) (L : List Nat) (t0 : Nat → AV) (I : Nat → (Nat → AV) → List Ob → Prop) (m : Nat) (Q : Exit → St → Prop) : Exit → St → Prop
  | .normal, s => ∃ m' t', m' < m ∧ s.t = mix lo hi L t' t0 ∧ I m' t' s.o
  | e, s => Q e s
theorem forQ_normal {lo hi : Nat} {L : List Nat} {t0 : Nat → AV} {I : Nat → (Nat → AV) → List Ob → Prop} {m : Nat} (m' : Nat) {t' : Nat → AV} {o : List Ob} (h : m' < m) (hI : I m' t' o) :
    forQ lo hi L t0 I m Q .normal ⟨mix lo hi L t' t0, o⟩ := ⟨m', t', h, rfl, hI⟩
theorem forQ_ret {lo hi : Nat} {L : List Nat} {t0 : Nat → AV} {I : Nat → (Nat → AV) → List Ob → Prop} {m : Nat} (h : Q .ret s) : forQ lo hi L t0 I m Q .ret s := h
theorem forQ_exit {lo hi : Nat} {L : List Nat} {t0 : Nat → AV} {I : Nat → (Nat → AV) → List Ob → Prop} {m id : Nat} (h : Q (.exit id) s) : forQ lo hi L t0 I m Q (.exit id) s := h
theorem W_for {c : Code} (lo hi : Nat) (L : List Nat) (I : Nat → (Nat → AV) → List Ob → Prop) (m : Nat) {t0 : Nat → AV} {o0 : List Ob} (h0 : I m t0 o0)
    (round : ∀ m t o, I m t o → W P n c (forQ lo hi L t0 I m Q) ⟨mix lo hi L t t0, o⟩) : W P n (.loop c) Q ⟨t0, o0⟩ := by
  refine W_while (fun m s => ∃ t, s.t = mix lo hi L t t0 ∧ I m t s.o) m ⟨t0, (mix_self _ _ _ _).symm, h0⟩ ?_
  rintro m ⟨ts, o⟩ ⟨t, ht, hI⟩
  simp only at ht
  subst ht
  refine (round m t o hI).mono ?_
  intro e s h
  cases e with
  | normal =>
    obtain ⟨m', t', h1, h2, h3⟩ := h
    exact ⟨m', h1, t', h2, h3⟩
  | _ => exact h
def joinQ (lo hi : Nat) (L : List Nat) (t0 : Nat → AV) (I : (Nat → AV) → List Ob → Prop) (Q : Exit → St → Prop) : Exit → St → Prop
  | .normal, s => ∃ t', s.t = mix lo hi L t' t0 ∧ I t' s.o
  | e, s => Q e s
theorem joinQ_normal {lo hi : Nat} {L : List Nat} {t0 : Nat → AV} {I : (Nat → AV) → List Ob → Prop} {t' : Nat → AV} {o : List Ob} (hI : I t' o) : joinQ lo hi L t0 I Q .normal ⟨mix lo hi L t' t0, o⟩ := ⟨t', rfl, hI⟩
theorem joinQ_ret {lo hi : Nat} {L : List Nat} {t0 : Nat → AV} {I : (Nat → AV) → List Ob → Prop} (h : Q .ret s) : joinQ lo hi L t0 I Q .ret s := h
theorem joinQ_exit {lo hi : Nat} {L : List Nat} {t0 : Nat → AV} {I : (Nat → AV) → List Ob → Prop} {id : Nat} (h : Q (.exit id) s) : joinQ lo hi L t0 I Q (.exit id) s := h
theorem W_join {x y : Code} (lo hi : Nat) (L : List Nat) (I : (Nat → AV) → List Ob → Prop) {t0 : Nat → AV} {o0 : List Ob} (h : W P n x (joinQ lo hi L t0 I Q) ⟨mix lo hi L t0 t0, o0⟩)
    (h2 : ∀ t o, I t o → W P n y Q ⟨mix lo hi L t t0, o⟩) : W P n (.seq x y) Q ⟨t0, o0⟩ := by
  rw [mix_self] at h
  refine W_seq (h.mono ?_)
  intro e s k
  cases e with
  | normal =>
    obtain ⟨t', h1, h3⟩ := k
    have := h2 t' s.o h3
    rw [← h1] at this
    exact this
  | _ => exact k
end
section
variable {P : Program} {n : Nat} {gd : List (Option Nat)} {tk : List Nat} {Q : Exit → St → Prop} {s : St} {K : St → Prop}
def runR (P : Program) (n : Nat) (gd : List (Option Nat)) (tk : List Nat) (R : List Oper → St → Prop) : List Oper → (St → Prop) → St → Prop
  | [], K, s => K s
  | o :: r, K, s => if isCall o = true then R (o :: r) s else andR (runO P n gd tk o s) (runR P n gd tk R r K)
theorem runR_nil {R : List Oper → St → Prop} : runR P n gd tk R [] K s = K s := rfl
theorem runR_cons {R : List Oper → St → Prop} {o : Oper} {r : List Oper} : runR P n gd tk R (o :: r) K s = if isCall o = true then R (o :: r) s else andR (runO P n gd tk o s) (runR P n gd tk R r K) := rfl
theorem RL_runR : ∀ (l : List Oper) {s : St}, runR P n gd tk (fun l s => RL P n gd l Q s) l (fun s => Q .normal s) s → RL P n gd l Q s
  | [], s, h => RL_nil h
  | o :: r, s, h => by
    simp only [runR] at h
    split at h
    · exact h
    · exact RL_one (tk := tk) (s' := (runO P n gd tk o s).2) (by rw [← h.1]) (RL_runR r h.2)
theorem RL_reg (tk : List Nat) {l : List Oper} (h : ∀ (K : St → Prop) (R : List Oper → St → Prop), (∀ s, Q .normal s → K s) → (∀ l s, RL P n gd l Q s → R l s) → runR P n gd tk R l K s) : RL P n gd l Q s :=
  RL_runR (tk := tk) l (h _ _ (fun _ h => h) (fun _ _ h => h))
theorem W_reg {id : Nat} {l : List Oper} (tk : List Nat) (h : ∀ (K : St → Prop) (R : List Oper → St → Prop), (∀ s, Q .normal s → K s) → (∀ l' s, RL P n (l.map (·.dst)) l' Q s → R l' s) → runR P n (l.map (·.dst)) tk R l K s) : W P n (.region id l.toArray false) Q s :=
  W_region (RL_reg tk h)
def runDR (P : Program) (n : Nat) (gd : List (Option Nat)) (tk : List Nat) (R : List Oper → St → Prop) : List Oper → (St → Prop) → St → Prop
  | [], K, s => K s
  | o :: r, K, s => if isCall o = true then R (o :: r) s else andR (runD1 P n gd tk o s) (runDR P n gd tk R r K)
theorem runDR_nil {R : List Oper → St → Prop} : runDR P n gd tk R [] K s = K s := rfl
theorem runDR_cons {R : List Oper → St → Prop} {o : Oper} {r : List Oper} : runDR P n gd tk R (o :: r) K s = if isCall o = true then R (o :: r) s else andR (runD1 P n gd tk o s) (runDR P n gd tk R r K) := rfl
theorem D_runDR : ∀ (l : List Oper) {s : St}, runDR P n gd tk (fun l s => D P n gd tk l K s) l K s → D P n gd tk l K s
  | [], s, h => h
  | o :: r, s, h => by
    simp only [runDR] at h
    split at h
    · exact h
    · refine D_runDP 1 ?_
      simp only [List.take_succ_cons, List.take_zero, runDP, List.drop_succ_cons, List.drop_zero]
      exact ⟨h.1, D_runDR r h.2⟩
theorem D_reg {l : List Oper} (h : ∀ (K' : St → Prop) (R : List Oper → St → Prop), (∀ s, K s → K' s) → (∀ l s, D P n gd tk l K s → R l s) → runDR P n gd tk R l K' s) : D P n gd tk l K s :=
  D_runDR l (h _ _ (fun _ h => h) (fun _ _ h => h))
theorem W_dreg {id : Nat} {l : List Oper} (hm : P.follows .mixedOrders = true) (tk : List Nat) (ord : List Nat) (tp : List (List Nat)) (hok : drawOk l.toArray (l.map (·.dst)) tk ord tp = true) {l' : List Oper} (hl : ord.filterMap (l[·]?) = l')
    (h : ∀ (K' : St → Prop) (R : List Oper → St → Prop), (∀ s, Q .normal s → K' s) → (∀ r s, D P n (l.map (·.dst)) tk r (Q .normal) s → R r s) → runDR P n (l.map (·.dst)) tk R l' K' s) : W P n (.region id l.toArray true) Q s := by
  refine W_draw hm tk ord tp hok ?_
  rw [hl]
  exact D_reg h
theorem D_call {o : Oper} {rest : List Oper} (ac : List AV) (r : AV) (hg : o.guard = none) (hq : isQ tk o = true) (h : CallD P n o s ac r) (ho : ac.all (fun c => !c.isOwn) = true) (hK : D P n gd tk rest K (s.put o.dst r)) : D P n gd tk (o :: rest) K s := by
  simp only [D, hq, if_true]
  refine ⟨r, ⟨h.dst, ?_⟩, hK⟩
  rw [hg]
  exact .inr ⟨ac, h, ho⟩
theorem D_callg {o : Oper} {rest : List Oper} (ac : List AV) (r : AV) {j t : Nat} {want h0 x : Bool} (hg : o.guard = some (j, want)) (hj : gd.getD j none = some t) (hx : gv (s.t t) = some (h0, x)) (hd : dstOk n o.dst = true) (hq : isQ tk o = true)
    (h : (h0 && x == want) = true → CallD P n o s ac r) (ho : ac.all (fun c => !c.isOwn) = true) (hK : D P n gd tk rest K (s.put o.dst (.gd (h0 && x == want) r))) : D P n gd tk (o :: rest) K s := by
  simp only [D, hq, if_true]
  refine ⟨_, ⟨hd, ?_⟩, hK⟩
  rw [hg]
  exact ⟨t, h0, x, hj, hx, .inr ⟨ac, r, h, ho, rfl⟩⟩
end
attribute [go_sem] runR_cons runR_nil runDR_cons runDR_nil
@[go_sem] theorem mix_at' (lo hi : Nat) (L : List Nat) (t t0 : Nat → AV) (k : Nat) : mix lo hi L t t0 k = if inL lo hi L k = true then t k else t0 k := rfl
attribute [go_sem] mix_upd
@[go_sem] theorem inL_eq (lo hi : Nat) (L : List Nat) (k : Nat) : inL lo hi L k = (decide (lo ≤ k) && decide (k < hi) || L.contains k) := rfl
end Go.AW
namespace Go.AW.TyTry
open Go Go.Proofs
-- 149 types
@[go_sem] theorem uk1 : ukOf Try.prog 1 = .func := by kernel_rfl
@[go_sem] theorem sz1 : szOf Try.prog 1 = 1 := by kernel_rfl
@[go_sem] theorem ck1 : cellK Try.prog 8 1 = [none] := by kernel_rfl
@[go_sem] theorem by1 : Try.prog.bytesOf 1 = 8 := by kernel_rfl
@[go_sem] theorem zr1 : zeroAV Try.prog 1 = some (.nilf) := by kernel_rfl
@[go_sem] theorem uk2 : ukOf Try.prog 2 = .int .i64 := by kernel_rfl
@[go_sem] theorem sz2 : szOf Try.prog 2 = 1 := by kernel_rfl
@[go_sem] theorem ck2 : cellK Try.prog 8 2 = [none] := by kernel_rfl
@[go_sem] theorem by2 : Try.prog.bytesOf 2 = 8 := by kernel_rfl
@[go_sem] theorem zr2 : zeroAV Try.prog 2 = some (.i .i64 0) := by kernel_rfl
@[go_sem] theorem uk3 : ukOf Try.prog 3 = .int .i64 := by kernel_rfl
@[go_sem] theorem sz3 : szOf Try.prog 3 = 1 := by kernel_rfl
@[go_sem] theorem ck3 : cellK Try.prog 8 3 = [none] := by kernel_rfl
@[go_sem] theorem by3 : Try.prog.bytesOf 3 = 8 := by kernel_rfl
@[go_sem] theorem zr3 : zeroAV Try.prog 3 = some (.i .i64 0) := by kernel_rfl
@[go_sem] theorem uk4 : ukOf Try.prog 4 = .bool := by kernel_rfl
@[go_sem] theorem sz4 : szOf Try.prog 4 = 1 := by kernel_rfl
@[go_sem] theorem ck4 : cellK Try.prog 8 4 = [none] := by kernel_rfl
@[go_sem] theorem by4 : Try.prog.bytesOf 4 = 1 := by kernel_rfl
@[go_sem] theorem zr4 : zeroAV Try.prog 4 = some (.b false) := by kernel_rfl
@[go_sem] theorem uk5 : ukOf Try.prog 5 = .int .u8 := by kernel_rfl
@[go_sem] theorem sz5 : szOf Try.prog 5 = 1 := by kernel_rfl
@[go_sem] theorem ck5 : cellK Try.prog 8 5 = [none] := by kernel_rfl
@[go_sem] theorem by5 : Try.prog.bytesOf 5 = 1 := by kernel_rfl
@[go_sem] theorem zr5 : zeroAV Try.prog 5 = some (.i .u8 0) := by kernel_rfl
@[go_sem] theorem uk6 : ukOf Try.prog 6 = .int .u8 := by kernel_rfl
@[go_sem] theorem sz6 : szOf Try.prog 6 = 1 := by kernel_rfl
@[go_sem] theorem ck6 : cellK Try.prog 8 6 = [none] := by kernel_rfl
@[go_sem] theorem by6 : Try.prog.bytesOf 6 = 1 := by kernel_rfl
@[go_sem] theorem zr6 : zeroAV Try.prog 6 = some (.i .u8 0) := by kernel_rfl
@[go_sem] theorem uk7 : ukOf Try.prog 7 = .struct := by kernel_rfl
@[go_sem] theorem sz7 : szOf Try.prog 7 = 4 := by kernel_rfl
@[go_sem] theorem fd7_0 : fldOf Try.prog 7 0 = some (0, 2) := by kernel_rfl
@[go_sem] theorem fd7_1 : fldOf Try.prog 7 1 = some (1, 3) := by kernel_rfl
@[go_sem] theorem fd7_2 : fldOf Try.prog 7 2 = some (2, 4) := by kernel_rfl
@[go_sem] theorem fd7_3 : fldOf Try.prog 7 3 = some (3, 6) := by kernel_rfl
@[go_sem] theorem ck7 : cellK Try.prog 8 7 = [none, none, none, none] := by kernel_rfl
@[go_sem] theorem so7 : structOk Try.prog 7 = true := by kernel_rfl
@[go_sem] theorem by7 : Try.prog.bytesOf 7 = 24 := by kernel_rfl
@[go_sem] theorem zr7 : zeroAV Try.prog 7 = some (.agg [.i .i64 0, .i .i64 0, .b false, .i .u8 0]) := by kernel_rfl
@[go_sem] theorem uk8 : ukOf Try.prog 8 = .struct := by kernel_rfl
@[go_sem] theorem sz8 : szOf Try.prog 8 = 4 := by kernel_rfl
@[go_sem] theorem fd8_0 : fldOf Try.prog 8 0 = some (0, 2) := by kernel_rfl
@[go_sem] theorem fd8_1 : fldOf Try.prog 8 1 = some (1, 3) := by kernel_rfl
@[go_sem] theorem fd8_2 : fldOf Try.prog 8 2 = some (2, 4) := by kernel_rfl
@[go_sem] theorem fd8_3 : fldOf Try.prog 8 3 = some (3, 6) := by kernel_rfl
@[go_sem] theorem ck8 : cellK Try.prog 8 8 = [none, none, none, none] := by kernel_rfl
@[go_sem] theorem so8 : structOk Try.prog 8 = true := by kernel_rfl
@[go_sem] theorem by8 : Try.prog.bytesOf 8 = 24 := by kernel_rfl
@[go_sem] theorem zr8 : zeroAV Try.prog 8 = some (.agg [.i .i64 0, .i .i64 0, .b false, .i .u8 0]) := by kernel_rfl
@[go_sem] theorem uk9 : ukOf Try.prog 9 = .str := by kernel_rfl
@[go_sem] theorem sz9 : szOf Try.prog 9 = 1 := by kernel_rfl
@[go_sem] theorem ck9 : cellK Try.prog 8 9 = [none] := by kernel_rfl
@[go_sem] theorem by9 : Try.prog.bytesOf 9 = 16 := by kernel_rfl
@[go_sem] theorem zr9 : zeroAV Try.prog 9 = some (.s ByteArray.empty) := by kernel_rfl
@[go_sem] theorem uk10 : ukOf Try.prog 10 = .str := by kernel_rfl
@[go_sem] theorem sz10 : szOf Try.prog 10 = 1 := by kernel_rfl
@[go_sem] theorem ck10 : cellK Try.prog 8 10 = [none] := by kernel_rfl
@[go_sem] theorem by10 : Try.prog.bytesOf 10 = 16 := by kernel_rfl
@[go_sem] theorem zr10 : zeroAV Try.prog 10 = some (.s ByteArray.empty) := by kernel_rfl
@[go_sem] theorem uk11 : ukOf Try.prog 11 = .str := by kernel_rfl
@[go_sem] theorem sz11 : szOf Try.prog 11 = 1 := by kernel_rfl
@[go_sem] theorem ck11 : cellK Try.prog 8 11 = [none] := by kernel_rfl
@[go_sem] theorem by11 : Try.prog.bytesOf 11 = 16 := by kernel_rfl
@[go_sem] theorem zr11 : zeroAV Try.prog 11 = some (.s ByteArray.empty) := by kernel_rfl
@[go_sem] theorem uk12 : ukOf Try.prog 12 = .int .u64 := by kernel_rfl
@[go_sem] theorem sz12 : szOf Try.prog 12 = 1 := by kernel_rfl
@[go_sem] theorem ck12 : cellK Try.prog 8 12 = [none] := by kernel_rfl
@[go_sem] theorem by12 : Try.prog.bytesOf 12 = 8 := by kernel_rfl
@[go_sem] theorem zr12 : zeroAV Try.prog 12 = some (.i .u64 0) := by kernel_rfl
@[go_sem] theorem uk13 : ukOf Try.prog 13 = .struct := by kernel_rfl
@[go_sem] theorem sz13 : szOf Try.prog 13 = 2 := by kernel_rfl
@[go_sem] theorem fd13_0 : fldOf Try.prog 13 0 = some (0, 9) := by kernel_rfl
@[go_sem] theorem fd13_1 : fldOf Try.prog 13 1 = some (1, 12) := by kernel_rfl
@[go_sem] theorem ck13 : cellK Try.prog 8 13 = [none, none] := by kernel_rfl
@[go_sem] theorem so13 : structOk Try.prog 13 = true := by kernel_rfl
@[go_sem] theorem by13 : Try.prog.bytesOf 13 = 24 := by kernel_rfl
@[go_sem] theorem zr13 : zeroAV Try.prog 13 = some (.agg [.s ByteArray.empty, .i .u64 0]) := by kernel_rfl
@[go_sem] theorem uk14 : ukOf Try.prog 14 = .struct := by kernel_rfl
@[go_sem] theorem sz14 : szOf Try.prog 14 = 2 := by kernel_rfl
@[go_sem] theorem fd14_0 : fldOf Try.prog 14 0 = some (0, 9) := by kernel_rfl
@[go_sem] theorem fd14_1 : fldOf Try.prog 14 1 = some (1, 12) := by kernel_rfl
@[go_sem] theorem ck14 : cellK Try.prog 8 14 = [none, none] := by kernel_rfl
@[go_sem] theorem so14 : structOk Try.prog 14 = true := by kernel_rfl
@[go_sem] theorem by14 : Try.prog.bytesOf 14 = 24 := by kernel_rfl
@[go_sem] theorem zr14 : zeroAV Try.prog 14 = some (.agg [.s ByteArray.empty, .i .u64 0]) := by kernel_rfl
@[go_sem] theorem uk15 : ukOf Try.prog 15 = .ptr 135 := by kernel_rfl
@[go_sem] theorem sz15 : szOf Try.prog 15 = 1 := by kernel_rfl
@[go_sem] theorem ck15 : cellK Try.prog 8 15 = [none] := by kernel_rfl
@[go_sem] theorem by15 : Try.prog.bytesOf 15 = 8 := by kernel_rfl
@[go_sem] theorem zr15 : zeroAV Try.prog 15 = some (.nilp) := by kernel_rfl
@[go_sem] theorem uk16 : ukOf Try.prog 16 = .ptr 138 := by kernel_rfl
@[go_sem] theorem sz16 : szOf Try.prog 16 = 1 := by kernel_rfl
@[go_sem] theorem ck16 : cellK Try.prog 8 16 = [none] := by kernel_rfl
@[go_sem] theorem by16 : Try.prog.bytesOf 16 = 8 := by kernel_rfl
@[go_sem] theorem zr16 : zeroAV Try.prog 16 = some (.nilp) := by kernel_rfl
@[go_sem] theorem uk17 : ukOf Try.prog 17 = .ptr 147 := by kernel_rfl
@[go_sem] theorem sz17 : szOf Try.prog 17 = 1 := by kernel_rfl
@[go_sem] theorem ck17 : cellK Try.prog 8 17 = [none] := by kernel_rfl
@[go_sem] theorem by17 : Try.prog.bytesOf 17 = 8 := by kernel_rfl
@[go_sem] theorem zr17 : zeroAV Try.prog 17 = some (.nilp) := by kernel_rfl
@[go_sem] theorem uk18 : ukOf Try.prog 18 = .struct := by kernel_rfl
@[go_sem] theorem sz18 : szOf Try.prog 18 = 1 := by kernel_rfl
@[go_sem] theorem fd18_0 : fldOf Try.prog 18 0 = some (0, 17) := by kernel_rfl
@[go_sem] theorem ck18 : cellK Try.prog 8 18 = [none] := by kernel_rfl
@[go_sem] theorem so18 : structOk Try.prog 18 = true := by kernel_rfl
@[go_sem] theorem by18 : Try.prog.bytesOf 18 = 8 := by kernel_rfl
@[go_sem] theorem zr18 : zeroAV Try.prog 18 = some (.agg [.nilp]) := by kernel_rfl
@[go_sem] theorem uk19 : ukOf Try.prog 19 = .struct := by kernel_rfl
@[go_sem] theorem sz19 : szOf Try.prog 19 = 1 := by kernel_rfl
@[go_sem] theorem fd19_0 : fldOf Try.prog 19 0 = some (0, 17) := by kernel_rfl
@[go_sem] theorem ck19 : cellK Try.prog 8 19 = [none] := by kernel_rfl
@[go_sem] theorem so19 : structOk Try.prog 19 = true := by kernel_rfl
@[go_sem] theorem by19 : Try.prog.bytesOf 19 = 8 := by kernel_rfl
@[go_sem] theorem zr19 : zeroAV Try.prog 19 = some (.agg [.nilp]) := by kernel_rfl
@[go_sem] theorem uk20 : ukOf Try.prog 20 = .iface := by kernel_rfl
@[go_sem] theorem sz20 : szOf Try.prog 20 = 1 := by kernel_rfl
@[go_sem] theorem ck20 : cellK Try.prog 8 20 = [none] := by kernel_rfl
@[go_sem] theorem by20 : Try.prog.bytesOf 20 = 16 := by kernel_rfl
@[go_sem] theorem zr20 : zeroAV Try.prog 20 = some (.nili) := by kernel_rfl
@[go_sem] theorem uk21 : ukOf Try.prog 21 = .int .i32 := by kernel_rfl
@[go_sem] theorem sz21 : szOf Try.prog 21 = 1 := by kernel_rfl
@[go_sem] theorem ck21 : cellK Try.prog 8 21 = [none] := by kernel_rfl
@[go_sem] theorem by21 : Try.prog.bytesOf 21 = 4 := by kernel_rfl
@[go_sem] theorem zr21 : zeroAV Try.prog 21 = some (.i .i32 0) := by kernel_rfl
@[go_sem] theorem uk22 : ukOf Try.prog 22 = .slice 34 := by kernel_rfl
@[go_sem] theorem sz22 : szOf Try.prog 22 = 1 := by kernel_rfl
@[go_sem] theorem ck22 : cellK Try.prog 8 22 = [some 7] := by kernel_rfl
@[go_sem] theorem by22 : Try.prog.bytesOf 22 = 24 := by kernel_rfl
@[go_sem] theorem zr22 : zeroAV Try.prog 22 = some (.nsl) := by kernel_rfl
@[go_sem] theorem uk23 : ukOf Try.prog 23 = .slice 51 := by kernel_rfl
@[go_sem] theorem sz23 : szOf Try.prog 23 = 1 := by kernel_rfl
@[go_sem] theorem ck23 : cellK Try.prog 8 23 = [some 3] := by kernel_rfl
@[go_sem] theorem by23 : Try.prog.bytesOf 23 = 24 := by kernel_rfl
@[go_sem] theorem zr23 : zeroAV Try.prog 23 = some (.nsl) := by kernel_rfl
@[go_sem] theorem uk24 : ukOf Try.prog 24 = .struct := by kernel_rfl
@[go_sem] theorem sz24 : szOf Try.prog 24 = 2 := by kernel_rfl
@[go_sem] theorem fd24_0 : fldOf Try.prog 24 0 = some (0, 3) := by kernel_rfl
@[go_sem] theorem fd24_1 : fldOf Try.prog 24 1 = some (1, 23) := by kernel_rfl
@[go_sem] theorem ck24 : cellK Try.prog 8 24 = [none, some 3] := by kernel_rfl
@[go_sem] theorem so24 : structOk Try.prog 24 = true := by kernel_rfl
@[go_sem] theorem by24 : Try.prog.bytesOf 24 = 32 := by kernel_rfl
@[go_sem] theorem zr24 : zeroAV Try.prog 24 = some (.agg [.i .i64 0, .nsl]) := by kernel_rfl
@[go_sem] theorem uk25 : ukOf Try.prog 25 = .struct := by kernel_rfl
@[go_sem] theorem sz25 : szOf Try.prog 25 = 2 := by kernel_rfl
@[go_sem] theorem fd25_0 : fldOf Try.prog 25 0 = some (0, 3) := by kernel_rfl
@[go_sem] theorem fd25_1 : fldOf Try.prog 25 1 = some (1, 23) := by kernel_rfl
@[go_sem] theorem ck25 : cellK Try.prog 8 25 = [none, some 3] := by kernel_rfl
@[go_sem] theorem so25 : structOk Try.prog 25 = true := by kernel_rfl
@[go_sem] theorem by25 : Try.prog.bytesOf 25 = 32 := by kernel_rfl
@[go_sem] theorem zr25 : zeroAV Try.prog 25 = some (.agg [.i .i64 0, .nsl]) := by kernel_rfl
@[go_sem] theorem uk26 : ukOf Try.prog 26 = .struct := by kernel_rfl
@[go_sem] theorem sz26 : szOf Try.prog 26 = 4 := by kernel_rfl
@[go_sem] theorem fd26_0 : fldOf Try.prog 26 0 = some (0, 5) := by kernel_rfl
@[go_sem] theorem fd26_1 : fldOf Try.prog 26 1 = some (1, 5) := by kernel_rfl
@[go_sem] theorem fd26_2 : fldOf Try.prog 26 2 = some (2, 5) := by kernel_rfl
@[go_sem] theorem fd26_3 : fldOf Try.prog 26 3 = some (3, 5) := by kernel_rfl
@[go_sem] theorem ck26 : cellK Try.prog 8 26 = [none, none, none, none] := by kernel_rfl
@[go_sem] theorem so26 : structOk Try.prog 26 = true := by kernel_rfl
@[go_sem] theorem by26 : Try.prog.bytesOf 26 = 4 := by kernel_rfl
@[go_sem] theorem zr26 : zeroAV Try.prog 26 = some (.agg [.i .u8 0, .i .u8 0, .i .u8 0, .i .u8 0]) := by kernel_rfl
@[go_sem] theorem uk27 : ukOf Try.prog 27 = .struct := by kernel_rfl
@[go_sem] theorem sz27 : szOf Try.prog 27 = 4 := by kernel_rfl
@[go_sem] theorem fd27_0 : fldOf Try.prog 27 0 = some (0, 5) := by kernel_rfl
@[go_sem] theorem fd27_1 : fldOf Try.prog 27 1 = some (1, 5) := by kernel_rfl
@[go_sem] theorem fd27_2 : fldOf Try.prog 27 2 = some (2, 5) := by kernel_rfl
@[go_sem] theorem fd27_3 : fldOf Try.prog 27 3 = some (3, 5) := by kernel_rfl
@[go_sem] theorem ck27 : cellK Try.prog 8 27 = [none, none, none, none] := by kernel_rfl
@[go_sem] theorem so27 : structOk Try.prog 27 = true := by kernel_rfl
@[go_sem] theorem by27 : Try.prog.bytesOf 27 = 4 := by kernel_rfl
@[go_sem] theorem zr27 : zeroAV Try.prog 27 = some (.agg [.i .u8 0, .i .u8 0, .i .u8 0, .i .u8 0]) := by kernel_rfl
@[go_sem] theorem uk28 : ukOf Try.prog 28 = .func := by kernel_rfl
@[go_sem] theorem sz28 : szOf Try.prog 28 = 1 := by kernel_rfl
@[go_sem] theorem ck28 : cellK Try.prog 8 28 = [none] := by kernel_rfl
@[go_sem] theorem by28 : Try.prog.bytesOf 28 = 8 := by kernel_rfl
@[go_sem] theorem zr28 : zeroAV Try.prog 28 = some (.nilf) := by kernel_rfl
@[go_sem] theorem uk29 : ukOf Try.prog 29 = .func := by kernel_rfl
@[go_sem] theorem sz29 : szOf Try.prog 29 = 1 := by kernel_rfl
@[go_sem] theorem ck29 : cellK Try.prog 8 29 = [none] := by kernel_rfl
@[go_sem] theorem by29 : Try.prog.bytesOf 29 = 8 := by kernel_rfl
@[go_sem] theorem zr29 : zeroAV Try.prog 29 = some (.nilf) := by kernel_rfl
@[go_sem] theorem uk30 : ukOf Try.prog 30 = .func := by kernel_rfl
@[go_sem] theorem sz30 : szOf Try.prog 30 = 1 := by kernel_rfl
@[go_sem] theorem ck30 : cellK Try.prog 8 30 = [none] := by kernel_rfl
@[go_sem] theorem by30 : Try.prog.bytesOf 30 = 8 := by kernel_rfl
@[go_sem] theorem zr30 : zeroAV Try.prog 30 = some (.nilf) := by kernel_rfl
@[go_sem] theorem uk31 : ukOf Try.prog 31 = .func := by kernel_rfl
@[go_sem] theorem sz31 : szOf Try.prog 31 = 1 := by kernel_rfl
@[go_sem] theorem ck31 : cellK Try.prog 8 31 = [none] := by kernel_rfl
@[go_sem] theorem by31 : Try.prog.bytesOf 31 = 8 := by kernel_rfl
@[go_sem] theorem zr31 : zeroAV Try.prog 31 = some (.nilf) := by kernel_rfl
@[go_sem] theorem uk32 : ukOf Try.prog 32 = .slice 3 := by kernel_rfl
@[go_sem] theorem sz32 : szOf Try.prog 32 = 1 := by kernel_rfl
@[go_sem] theorem ck32 : cellK Try.prog 8 32 = [some 1] := by kernel_rfl
@[go_sem] theorem by32 : Try.prog.bytesOf 32 = 24 := by kernel_rfl
@[go_sem] theorem zr32 : zeroAV Try.prog 32 = some (.nsl) := by kernel_rfl
@[go_sem] theorem uk33 : ukOf Try.prog 33 = .struct := by kernel_rfl
@[go_sem] theorem sz33 : szOf Try.prog 33 = 7 := by kernel_rfl
@[go_sem] theorem fd33_0 : fldOf Try.prog 33 0 = some (0, 3) := by kernel_rfl
@[go_sem] theorem fd33_1 : fldOf Try.prog 33 1 = some (1, 3) := by kernel_rfl
@[go_sem] theorem fd33_2 : fldOf Try.prog 33 2 = some (2, 3) := by kernel_rfl
@[go_sem] theorem fd33_3 : fldOf Try.prog 33 3 = some (3, 3) := by kernel_rfl
@[go_sem] theorem fd33_4 : fldOf Try.prog 33 4 = some (4, 9) := by kernel_rfl
@[go_sem] theorem fd33_5 : fldOf Try.prog 33 5 = some (5, 32) := by kernel_rfl
@[go_sem] theorem fd33_6 : fldOf Try.prog 33 6 = some (6, 22) := by kernel_rfl
@[go_sem] theorem ck33 : cellK Try.prog 8 33 = [none, none, none, none, none, some 1, some 7] := by kernel_rfl
@[go_sem] theorem so33 : structOk Try.prog 33 = true := by kernel_rfl
@[go_sem] theorem by33 : Try.prog.bytesOf 33 = 96 := by kernel_rfl
@[go_sem] theorem zr33 : zeroAV Try.prog 33 = some (.agg [.i .i64 0, .i .i64 0, .i .i64 0, .i .i64 0, .s ByteArray.empty, .nsl, .nsl]) := by kernel_rfl
@[go_sem] theorem uk34 : ukOf Try.prog 34 = .struct := by kernel_rfl
@[go_sem] theorem sz34 : szOf Try.prog 34 = 7 := by kernel_rfl
@[go_sem] theorem fd34_0 : fldOf Try.prog 34 0 = some (0, 3) := by kernel_rfl
@[go_sem] theorem fd34_1 : fldOf Try.prog 34 1 = some (1, 3) := by kernel_rfl
@[go_sem] theorem fd34_2 : fldOf Try.prog 34 2 = some (2, 3) := by kernel_rfl
@[go_sem] theorem fd34_3 : fldOf Try.prog 34 3 = some (3, 3) := by kernel_rfl
@[go_sem] theorem fd34_4 : fldOf Try.prog 34 4 = some (4, 9) := by kernel_rfl
@[go_sem] theorem fd34_5 : fldOf Try.prog 34 5 = some (5, 32) := by kernel_rfl
@[go_sem] theorem fd34_6 : fldOf Try.prog 34 6 = some (6, 22) := by kernel_rfl
@[go_sem] theorem ck34 : cellK Try.prog 8 34 = [none, none, none, none, none, some 1, some 7] := by kernel_rfl
@[go_sem] theorem so34 : structOk Try.prog 34 = true := by kernel_rfl
@[go_sem] theorem by34 : Try.prog.bytesOf 34 = 96 := by kernel_rfl
@[go_sem] theorem zr34 : zeroAV Try.prog 34 = some (.agg [.i .i64 0, .i .i64 0, .i .i64 0, .i .i64 0, .s ByteArray.empty, .nsl, .nsl]) := by kernel_rfl
@[go_sem] theorem uk35 : ukOf Try.prog 35 = .func := by kernel_rfl
@[go_sem] theorem sz35 : szOf Try.prog 35 = 1 := by kernel_rfl
@[go_sem] theorem ck35 : cellK Try.prog 8 35 = [none] := by kernel_rfl
@[go_sem] theorem by35 : Try.prog.bytesOf 35 = 8 := by kernel_rfl
@[go_sem] theorem zr35 : zeroAV Try.prog 35 = some (.nilf) := by kernel_rfl
@[go_sem] theorem uk36 : ukOf Try.prog 36 = .func := by kernel_rfl
@[go_sem] theorem sz36 : szOf Try.prog 36 = 1 := by kernel_rfl
@[go_sem] theorem ck36 : cellK Try.prog 8 36 = [none] := by kernel_rfl
@[go_sem] theorem by36 : Try.prog.bytesOf 36 = 8 := by kernel_rfl
@[go_sem] theorem zr36 : zeroAV Try.prog 36 = some (.nilf) := by kernel_rfl
@[go_sem] theorem uk37 : ukOf Try.prog 37 = .int .i64 := by kernel_rfl
@[go_sem] theorem sz37 : szOf Try.prog 37 = 1 := by kernel_rfl
@[go_sem] theorem ck37 : cellK Try.prog 8 37 = [none] := by kernel_rfl
@[go_sem] theorem by37 : Try.prog.bytesOf 37 = 8 := by kernel_rfl
@[go_sem] theorem zr37 : zeroAV Try.prog 37 = some (.i .i64 0) := by kernel_rfl
@[go_sem] theorem uk38 : ukOf Try.prog 38 = .func := by kernel_rfl
@[go_sem] theorem sz38 : szOf Try.prog 38 = 1 := by kernel_rfl
@[go_sem] theorem ck38 : cellK Try.prog 8 38 = [none] := by kernel_rfl
@[go_sem] theorem by38 : Try.prog.bytesOf 38 = 8 := by kernel_rfl
@[go_sem] theorem zr38 : zeroAV Try.prog 38 = some (.nilf) := by kernel_rfl
@[go_sem] theorem uk39 : ukOf Try.prog 39 = .func := by kernel_rfl
@[go_sem] theorem sz39 : szOf Try.prog 39 = 1 := by kernel_rfl
@[go_sem] theorem ck39 : cellK Try.prog 8 39 = [none] := by kernel_rfl
@[go_sem] theorem by39 : Try.prog.bytesOf 39 = 8 := by kernel_rfl
@[go_sem] theorem zr39 : zeroAV Try.prog 39 = some (.nilf) := by kernel_rfl
@[go_sem] theorem uk40 : ukOf Try.prog 40 = .func := by kernel_rfl
@[go_sem] theorem sz40 : szOf Try.prog 40 = 1 := by kernel_rfl
@[go_sem] theorem ck40 : cellK Try.prog 8 40 = [none] := by kernel_rfl
@[go_sem] theorem by40 : Try.prog.bytesOf 40 = 8 := by kernel_rfl
@[go_sem] theorem zr40 : zeroAV Try.prog 40 = some (.nilf) := by kernel_rfl
@[go_sem] theorem uk41 : ukOf Try.prog 41 = .func := by kernel_rfl
@[go_sem] theorem sz41 : szOf Try.prog 41 = 1 := by kernel_rfl
@[go_sem] theorem ck41 : cellK Try.prog 8 41 = [none] := by kernel_rfl
@[go_sem] theorem by41 : Try.prog.bytesOf 41 = 8 := by kernel_rfl
@[go_sem] theorem zr41 : zeroAV Try.prog 41 = some (.nilf) := by kernel_rfl
@[go_sem] theorem uk42 : ukOf Try.prog 42 = .func := by kernel_rfl
@[go_sem] theorem sz42 : szOf Try.prog 42 = 1 := by kernel_rfl
@[go_sem] theorem ck42 : cellK Try.prog 8 42 = [none] := by kernel_rfl
@[go_sem] theorem by42 : Try.prog.bytesOf 42 = 8 := by kernel_rfl
@[go_sem] theorem zr42 : zeroAV Try.prog 42 = some (.nilf) := by kernel_rfl
@[go_sem] theorem uk43 : ukOf Try.prog 43 = .func := by kernel_rfl
@[go_sem] theorem sz43 : szOf Try.prog 43 = 1 := by kernel_rfl
@[go_sem] theorem ck43 : cellK Try.prog 8 43 = [none] := by kernel_rfl
@[go_sem] theorem by43 : Try.prog.bytesOf 43 = 8 := by kernel_rfl
@[go_sem] theorem zr43 : zeroAV Try.prog 43 = some (.nilf) := by kernel_rfl
@[go_sem] theorem uk44 : ukOf Try.prog 44 = .func := by kernel_rfl
@[go_sem] theorem sz44 : szOf Try.prog 44 = 1 := by kernel_rfl
@[go_sem] theorem ck44 : cellK Try.prog 8 44 = [none] := by kernel_rfl
@[go_sem] theorem by44 : Try.prog.bytesOf 44 = 8 := by kernel_rfl
@[go_sem] theorem zr44 : zeroAV Try.prog 44 = some (.nilf) := by kernel_rfl
@[go_sem] theorem uk46 : ukOf Try.prog 46 = .func := by kernel_rfl
@[go_sem] theorem sz46 : szOf Try.prog 46 = 1 := by kernel_rfl
@[go_sem] theorem ck46 : cellK Try.prog 8 46 = [none] := by kernel_rfl
@[go_sem] theorem by46 : Try.prog.bytesOf 46 = 8 := by kernel_rfl
@[go_sem] theorem zr46 : zeroAV Try.prog 46 = some (.nilf) := by kernel_rfl
@[go_sem] theorem uk47 : ukOf Try.prog 47 = .func := by kernel_rfl
@[go_sem] theorem sz47 : szOf Try.prog 47 = 1 := by kernel_rfl
@[go_sem] theorem ck47 : cellK Try.prog 8 47 = [none] := by kernel_rfl
@[go_sem] theorem by47 : Try.prog.bytesOf 47 = 8 := by kernel_rfl
@[go_sem] theorem zr47 : zeroAV Try.prog 47 = some (.nilf) := by kernel_rfl
@[go_sem] theorem uk48 : ukOf Try.prog 48 = .slice 25 := by kernel_rfl
@[go_sem] theorem sz48 : szOf Try.prog 48 = 1 := by kernel_rfl
@[go_sem] theorem ck48 : cellK Try.prog 8 48 = [some 2] := by kernel_rfl
@[go_sem] theorem by48 : Try.prog.bytesOf 48 = 24 := by kernel_rfl
@[go_sem] theorem zr48 : zeroAV Try.prog 48 = some (.nsl) := by kernel_rfl
@[go_sem] theorem uk49 : ukOf Try.prog 49 = .slice 32 := by kernel_rfl
@[go_sem] theorem sz49 : szOf Try.prog 49 = 1 := by kernel_rfl
@[go_sem] theorem ck49 : cellK Try.prog 8 49 = [some 1] := by kernel_rfl
@[go_sem] theorem by49 : Try.prog.bytesOf 49 = 24 := by kernel_rfl
@[go_sem] theorem zr49 : zeroAV Try.prog 49 = some (.nsl) := by kernel_rfl
@[go_sem] theorem uk50 : ukOf Try.prog 50 = .struct := by kernel_rfl
@[go_sem] theorem sz50 : szOf Try.prog 50 = 3 := by kernel_rfl
@[go_sem] theorem fd50_0 : fldOf Try.prog 50 0 = some (0, 9) := by kernel_rfl
@[go_sem] theorem fd50_1 : fldOf Try.prog 50 1 = some (1, 3) := by kernel_rfl
@[go_sem] theorem fd50_2 : fldOf Try.prog 50 2 = some (2, 49) := by kernel_rfl
@[go_sem] theorem ck50 : cellK Try.prog 8 50 = [none, none, some 1] := by kernel_rfl
@[go_sem] theorem so50 : structOk Try.prog 50 = true := by kernel_rfl
@[go_sem] theorem by50 : Try.prog.bytesOf 50 = 48 := by kernel_rfl
@[go_sem] theorem zr50 : zeroAV Try.prog 50 = some (.agg [.s ByteArray.empty, .i .i64 0, .nsl]) := by kernel_rfl
@[go_sem] theorem uk51 : ukOf Try.prog 51 = .struct := by kernel_rfl
@[go_sem] theorem sz51 : szOf Try.prog 51 = 3 := by kernel_rfl
@[go_sem] theorem fd51_0 : fldOf Try.prog 51 0 = some (0, 9) := by kernel_rfl
@[go_sem] theorem fd51_1 : fldOf Try.prog 51 1 = some (1, 3) := by kernel_rfl
@[go_sem] theorem fd51_2 : fldOf Try.prog 51 2 = some (2, 49) := by kernel_rfl
@[go_sem] theorem ck51 : cellK Try.prog 8 51 = [none, none, some 1] := by kernel_rfl
@[go_sem] theorem so51 : structOk Try.prog 51 = true := by kernel_rfl
@[go_sem] theorem by51 : Try.prog.bytesOf 51 = 48 := by kernel_rfl
@[go_sem] theorem zr51 : zeroAV Try.prog 51 = some (.agg [.s ByteArray.empty, .i .i64 0, .nsl]) := by kernel_rfl
@[go_sem] theorem uk52 : ukOf Try.prog 52 = .func := by kernel_rfl
@[go_sem] theorem sz52 : szOf Try.prog 52 = 1 := by kernel_rfl
@[go_sem] theorem ck52 : cellK Try.prog 8 52 = [none] := by kernel_rfl
@[go_sem] theorem by52 : Try.prog.bytesOf 52 = 8 := by kernel_rfl
@[go_sem] theorem zr52 : zeroAV Try.prog 52 = some (.nilf) := by kernel_rfl
@[go_sem] theorem uk54 : ukOf Try.prog 54 = .func := by kernel_rfl
@[go_sem] theorem sz54 : szOf Try.prog 54 = 1 := by kernel_rfl
@[go_sem] theorem ck54 : cellK Try.prog 8 54 = [none] := by kernel_rfl
@[go_sem] theorem by54 : Try.prog.bytesOf 54 = 8 := by kernel_rfl
@[go_sem] theorem zr54 : zeroAV Try.prog 54 = some (.nilf) := by kernel_rfl
@[go_sem] theorem uk55 : ukOf Try.prog 55 = .func := by kernel_rfl
@[go_sem] theorem sz55 : szOf Try.prog 55 = 1 := by kernel_rfl
@[go_sem] theorem ck55 : cellK Try.prog 8 55 = [none] := by kernel_rfl
@[go_sem] theorem by55 : Try.prog.bytesOf 55 = 8 := by kernel_rfl
@[go_sem] theorem zr55 : zeroAV Try.prog 55 = some (.nilf) := by kernel_rfl
@[go_sem] theorem uk56 : ukOf Try.prog 56 = .func := by kernel_rfl
@[go_sem] theorem sz56 : szOf Try.prog 56 = 1 := by kernel_rfl
@[go_sem] theorem ck56 : cellK Try.prog 8 56 = [none] := by kernel_rfl
@[go_sem] theorem by56 : Try.prog.bytesOf 56 = 8 := by kernel_rfl
@[go_sem] theorem zr56 : zeroAV Try.prog 56 = some (.nilf) := by kernel_rfl
@[go_sem] theorem uk57 : ukOf Try.prog 57 = .ptr 62 := by kernel_rfl
@[go_sem] theorem sz57 : szOf Try.prog 57 = 1 := by kernel_rfl
@[go_sem] theorem ck57 : cellK Try.prog 8 57 = [none] := by kernel_rfl
@[go_sem] theorem by57 : Try.prog.bytesOf 57 = 8 := by kernel_rfl
@[go_sem] theorem zr57 : zeroAV Try.prog 57 = some (.nilp) := by kernel_rfl
@[go_sem] theorem uk59 : ukOf Try.prog 59 = .func := by kernel_rfl
@[go_sem] theorem sz59 : szOf Try.prog 59 = 1 := by kernel_rfl
@[go_sem] theorem ck59 : cellK Try.prog 8 59 = [none] := by kernel_rfl
@[go_sem] theorem by59 : Try.prog.bytesOf 59 = 8 := by kernel_rfl
@[go_sem] theorem zr59 : zeroAV Try.prog 59 = some (.nilf) := by kernel_rfl
@[go_sem] theorem uk60 : ukOf Try.prog 60 = .map 9 3 := by kernel_rfl
@[go_sem] theorem sz60 : szOf Try.prog 60 = 1 := by kernel_rfl
@[go_sem] theorem ck60 : cellK Try.prog 8 60 = [none] := by kernel_rfl
@[go_sem] theorem by60 : Try.prog.bytesOf 60 = 8 := by kernel_rfl
@[go_sem] theorem zr60 : zeroAV Try.prog 60 = some (.nilm) := by kernel_rfl
@[go_sem] theorem uk61 : ukOf Try.prog 61 = .struct := by kernel_rfl
@[go_sem] theorem sz61 : szOf Try.prog 61 = 3 := by kernel_rfl
@[go_sem] theorem fd61_0 : fldOf Try.prog 61 0 = some (0, 3) := by kernel_rfl
@[go_sem] theorem fd61_1 : fldOf Try.prog 61 1 = some (1, 60) := by kernel_rfl
@[go_sem] theorem fd61_2 : fldOf Try.prog 61 2 = some (2, 4) := by kernel_rfl
@[go_sem] theorem ck61 : cellK Try.prog 8 61 = [none, none, none] := by kernel_rfl
@[go_sem] theorem so61 : structOk Try.prog 61 = true := by kernel_rfl
@[go_sem] theorem by61 : Try.prog.bytesOf 61 = 24 := by kernel_rfl
@[go_sem] theorem zr61 : zeroAV Try.prog 61 = some (.agg [.i .i64 0, .nilm, .b false]) := by kernel_rfl
@[go_sem] theorem uk62 : ukOf Try.prog 62 = .struct := by kernel_rfl
@[go_sem] theorem sz62 : szOf Try.prog 62 = 3 := by kernel_rfl
@[go_sem] theorem fd62_0 : fldOf Try.prog 62 0 = some (0, 3) := by kernel_rfl
@[go_sem] theorem fd62_1 : fldOf Try.prog 62 1 = some (1, 60) := by kernel_rfl
@[go_sem] theorem fd62_2 : fldOf Try.prog 62 2 = some (2, 4) := by kernel_rfl
@[go_sem] theorem ck62 : cellK Try.prog 8 62 = [none, none, none] := by kernel_rfl
@[go_sem] theorem so62 : structOk Try.prog 62 = true := by kernel_rfl
@[go_sem] theorem by62 : Try.prog.bytesOf 62 = 24 := by kernel_rfl
@[go_sem] theorem zr62 : zeroAV Try.prog 62 = some (.agg [.i .i64 0, .nilm, .b false]) := by kernel_rfl
@[go_sem] theorem uk63 : ukOf Try.prog 63 = .slice 66 := by kernel_rfl
@[go_sem] theorem sz63 : szOf Try.prog 63 = 1 := by kernel_rfl
@[go_sem] theorem ck63 : cellK Try.prog 8 63 = [some 2] := by kernel_rfl
@[go_sem] theorem by63 : Try.prog.bytesOf 63 = 24 := by kernel_rfl
@[go_sem] theorem zr63 : zeroAV Try.prog 63 = some (.nsl) := by kernel_rfl
@[go_sem] theorem uk64 : ukOf Try.prog 64 = .func := by kernel_rfl
@[go_sem] theorem sz64 : szOf Try.prog 64 = 1 := by kernel_rfl
@[go_sem] theorem ck64 : cellK Try.prog 8 64 = [none] := by kernel_rfl
@[go_sem] theorem by64 : Try.prog.bytesOf 64 = 8 := by kernel_rfl
@[go_sem] theorem zr64 : zeroAV Try.prog 64 = some (.nilf) := by kernel_rfl
@[go_sem] theorem uk65 : ukOf Try.prog 65 = .struct := by kernel_rfl
@[go_sem] theorem sz65 : szOf Try.prog 65 = 2 := by kernel_rfl
@[go_sem] theorem fd65_0 : fldOf Try.prog 65 0 = some (0, 9) := by kernel_rfl
@[go_sem] theorem fd65_1 : fldOf Try.prog 65 1 = some (1, 3) := by kernel_rfl
@[go_sem] theorem ck65 : cellK Try.prog 8 65 = [none, none] := by kernel_rfl
@[go_sem] theorem so65 : structOk Try.prog 65 = true := by kernel_rfl
@[go_sem] theorem by65 : Try.prog.bytesOf 65 = 24 := by kernel_rfl
@[go_sem] theorem zr65 : zeroAV Try.prog 65 = some (.agg [.s ByteArray.empty, .i .i64 0]) := by kernel_rfl
@[go_sem] theorem uk66 : ukOf Try.prog 66 = .struct := by kernel_rfl
@[go_sem] theorem sz66 : szOf Try.prog 66 = 2 := by kernel_rfl
@[go_sem] theorem fd66_0 : fldOf Try.prog 66 0 = some (0, 9) := by kernel_rfl
@[go_sem] theorem fd66_1 : fldOf Try.prog 66 1 = some (1, 3) := by kernel_rfl
@[go_sem] theorem ck66 : cellK Try.prog 8 66 = [none, none] := by kernel_rfl
@[go_sem] theorem so66 : structOk Try.prog 66 = true := by kernel_rfl
@[go_sem] theorem by66 : Try.prog.bytesOf 66 = 24 := by kernel_rfl
@[go_sem] theorem zr66 : zeroAV Try.prog 66 = some (.agg [.s ByteArray.empty, .i .i64 0]) := by kernel_rfl
@[go_sem] theorem uk67 : ukOf Try.prog 67 = .func := by kernel_rfl
@[go_sem] theorem sz67 : szOf Try.prog 67 = 1 := by kernel_rfl
@[go_sem] theorem ck67 : cellK Try.prog 8 67 = [none] := by kernel_rfl
@[go_sem] theorem by67 : Try.prog.bytesOf 67 = 8 := by kernel_rfl
@[go_sem] theorem zr67 : zeroAV Try.prog 67 = some (.nilf) := by kernel_rfl
@[go_sem] theorem uk68 : ukOf Try.prog 68 = .func := by kernel_rfl
@[go_sem] theorem sz68 : szOf Try.prog 68 = 1 := by kernel_rfl
@[go_sem] theorem ck68 : cellK Try.prog 8 68 = [none] := by kernel_rfl
@[go_sem] theorem by68 : Try.prog.bytesOf 68 = 8 := by kernel_rfl
@[go_sem] theorem zr68 : zeroAV Try.prog 68 = some (.nilf) := by kernel_rfl
@[go_sem] theorem uk69 : ukOf Try.prog 69 = .func := by kernel_rfl
@[go_sem] theorem sz69 : szOf Try.prog 69 = 1 := by kernel_rfl
@[go_sem] theorem ck69 : cellK Try.prog 8 69 = [none] := by kernel_rfl
@[go_sem] theorem by69 : Try.prog.bytesOf 69 = 8 := by kernel_rfl
@[go_sem] theorem zr69 : zeroAV Try.prog 69 = some (.nilf) := by kernel_rfl
@[go_sem] theorem uk70 : ukOf Try.prog 70 = .func := by kernel_rfl
@[go_sem] theorem sz70 : szOf Try.prog 70 = 1 := by kernel_rfl
@[go_sem] theorem ck70 : cellK Try.prog 8 70 = [none] := by kernel_rfl
@[go_sem] theorem by70 : Try.prog.bytesOf 70 = 8 := by kernel_rfl
@[go_sem] theorem zr70 : zeroAV Try.prog 70 = some (.nilf) := by kernel_rfl
@[go_sem] theorem uk71 : ukOf Try.prog 71 = .func := by kernel_rfl
@[go_sem] theorem sz71 : szOf Try.prog 71 = 1 := by kernel_rfl
@[go_sem] theorem ck71 : cellK Try.prog 8 71 = [none] := by kernel_rfl
@[go_sem] theorem by71 : Try.prog.bytesOf 71 = 8 := by kernel_rfl
@[go_sem] theorem zr71 : zeroAV Try.prog 71 = some (.nilf) := by kernel_rfl
@[go_sem] theorem uk72 : ukOf Try.prog 72 = .func := by kernel_rfl
@[go_sem] theorem sz72 : szOf Try.prog 72 = 1 := by kernel_rfl
@[go_sem] theorem ck72 : cellK Try.prog 8 72 = [none] := by kernel_rfl
@[go_sem] theorem by72 : Try.prog.bytesOf 72 = 8 := by kernel_rfl
@[go_sem] theorem zr72 : zeroAV Try.prog 72 = some (.nilf) := by kernel_rfl
@[go_sem] theorem uk73 : ukOf Try.prog 73 = .func := by kernel_rfl
@[go_sem] theorem sz73 : szOf Try.prog 73 = 1 := by kernel_rfl
@[go_sem] theorem ck73 : cellK Try.prog 8 73 = [none] := by kernel_rfl
@[go_sem] theorem by73 : Try.prog.bytesOf 73 = 8 := by kernel_rfl
@[go_sem] theorem zr73 : zeroAV Try.prog 73 = some (.nilf) := by kernel_rfl
@[go_sem] theorem uk74 : ukOf Try.prog 74 = .ptr 90 := by kernel_rfl
@[go_sem] theorem sz74 : szOf Try.prog 74 = 1 := by kernel_rfl
@[go_sem] theorem ck74 : cellK Try.prog 8 74 = [none] := by kernel_rfl
@[go_sem] theorem by74 : Try.prog.bytesOf 74 = 8 := by kernel_rfl
@[go_sem] theorem zr74 : zeroAV Try.prog 74 = some (.nilp) := by kernel_rfl
@[go_sem] theorem uk75 : ukOf Try.prog 75 = .func := by kernel_rfl
@[go_sem] theorem sz75 : szOf Try.prog 75 = 1 := by kernel_rfl
@[go_sem] theorem ck75 : cellK Try.prog 8 75 = [none] := by kernel_rfl
@[go_sem] theorem by75 : Try.prog.bytesOf 75 = 8 := by kernel_rfl
@[go_sem] theorem zr75 : zeroAV Try.prog 75 = some (.nilf) := by kernel_rfl
@[go_sem] theorem uk76 : ukOf Try.prog 76 = .func := by kernel_rfl
@[go_sem] theorem sz76 : szOf Try.prog 76 = 1 := by kernel_rfl
@[go_sem] theorem ck76 : cellK Try.prog 8 76 = [none] := by kernel_rfl
@[go_sem] theorem by76 : Try.prog.bytesOf 76 = 8 := by kernel_rfl
@[go_sem] theorem zr76 : zeroAV Try.prog 76 = some (.nilf) := by kernel_rfl
@[go_sem] theorem uk77 : ukOf Try.prog 77 = .func := by kernel_rfl
@[go_sem] theorem sz77 : szOf Try.prog 77 = 1 := by kernel_rfl
@[go_sem] theorem ck77 : cellK Try.prog 8 77 = [none] := by kernel_rfl
@[go_sem] theorem by77 : Try.prog.bytesOf 77 = 8 := by kernel_rfl
@[go_sem] theorem zr77 : zeroAV Try.prog 77 = some (.nilf) := by kernel_rfl
@[go_sem] theorem uk78 : ukOf Try.prog 78 = .func := by kernel_rfl
@[go_sem] theorem sz78 : szOf Try.prog 78 = 1 := by kernel_rfl
@[go_sem] theorem ck78 : cellK Try.prog 8 78 = [none] := by kernel_rfl
@[go_sem] theorem by78 : Try.prog.bytesOf 78 = 8 := by kernel_rfl
@[go_sem] theorem zr78 : zeroAV Try.prog 78 = some (.nilf) := by kernel_rfl
@[go_sem] theorem uk79 : ukOf Try.prog 79 = .func := by kernel_rfl
@[go_sem] theorem sz79 : szOf Try.prog 79 = 1 := by kernel_rfl
@[go_sem] theorem ck79 : cellK Try.prog 8 79 = [none] := by kernel_rfl
@[go_sem] theorem by79 : Try.prog.bytesOf 79 = 8 := by kernel_rfl
@[go_sem] theorem zr79 : zeroAV Try.prog 79 = some (.nilf) := by kernel_rfl
@[go_sem] theorem uk80 : ukOf Try.prog 80 = .func := by kernel_rfl
@[go_sem] theorem sz80 : szOf Try.prog 80 = 1 := by kernel_rfl
@[go_sem] theorem ck80 : cellK Try.prog 8 80 = [none] := by kernel_rfl
@[go_sem] theorem by80 : Try.prog.bytesOf 80 = 8 := by kernel_rfl
@[go_sem] theorem zr80 : zeroAV Try.prog 80 = some (.nilf) := by kernel_rfl
@[go_sem] theorem uk81 : ukOf Try.prog 81 = .func := by kernel_rfl
@[go_sem] theorem sz81 : szOf Try.prog 81 = 1 := by kernel_rfl
@[go_sem] theorem ck81 : cellK Try.prog 8 81 = [none] := by kernel_rfl
@[go_sem] theorem by81 : Try.prog.bytesOf 81 = 8 := by kernel_rfl
@[go_sem] theorem zr81 : zeroAV Try.prog 81 = some (.nilf) := by kernel_rfl
@[go_sem] theorem uk82 : ukOf Try.prog 82 = .func := by kernel_rfl
@[go_sem] theorem sz82 : szOf Try.prog 82 = 1 := by kernel_rfl
@[go_sem] theorem ck82 : cellK Try.prog 8 82 = [none] := by kernel_rfl
@[go_sem] theorem by82 : Try.prog.bytesOf 82 = 8 := by kernel_rfl
@[go_sem] theorem zr82 : zeroAV Try.prog 82 = some (.nilf) := by kernel_rfl
@[go_sem] theorem uk83 : ukOf Try.prog 83 = .func := by kernel_rfl
@[go_sem] theorem sz83 : szOf Try.prog 83 = 1 := by kernel_rfl
@[go_sem] theorem ck83 : cellK Try.prog 8 83 = [none] := by kernel_rfl
@[go_sem] theorem by83 : Try.prog.bytesOf 83 = 8 := by kernel_rfl
@[go_sem] theorem zr83 : zeroAV Try.prog 83 = some (.nilf) := by kernel_rfl
@[go_sem] theorem uk84 : ukOf Try.prog 84 = .func := by kernel_rfl
@[go_sem] theorem sz84 : szOf Try.prog 84 = 1 := by kernel_rfl
@[go_sem] theorem ck84 : cellK Try.prog 8 84 = [none] := by kernel_rfl
@[go_sem] theorem by84 : Try.prog.bytesOf 84 = 8 := by kernel_rfl
@[go_sem] theorem zr84 : zeroAV Try.prog 84 = some (.nilf) := by kernel_rfl
@[go_sem] theorem uk86 : ukOf Try.prog 86 = .func := by kernel_rfl
@[go_sem] theorem sz86 : szOf Try.prog 86 = 1 := by kernel_rfl
@[go_sem] theorem ck86 : cellK Try.prog 8 86 = [none] := by kernel_rfl
@[go_sem] theorem by86 : Try.prog.bytesOf 86 = 8 := by kernel_rfl
@[go_sem] theorem zr86 : zeroAV Try.prog 86 = some (.nilf) := by kernel_rfl
@[go_sem] theorem uk87 : ukOf Try.prog 87 = .func := by kernel_rfl
@[go_sem] theorem sz87 : szOf Try.prog 87 = 1 := by kernel_rfl
@[go_sem] theorem ck87 : cellK Try.prog 8 87 = [none] := by kernel_rfl
@[go_sem] theorem by87 : Try.prog.bytesOf 87 = 8 := by kernel_rfl
@[go_sem] theorem zr87 : zeroAV Try.prog 87 = some (.nilf) := by kernel_rfl
@[go_sem] theorem uk88 : ukOf Try.prog 88 = .map 3 91 := by kernel_rfl
@[go_sem] theorem sz88 : szOf Try.prog 88 = 1 := by kernel_rfl
@[go_sem] theorem ck88 : cellK Try.prog 8 88 = [none] := by kernel_rfl
@[go_sem] theorem by88 : Try.prog.bytesOf 88 = 8 := by kernel_rfl
@[go_sem] theorem zr88 : zeroAV Try.prog 88 = some (.nilm) := by kernel_rfl
@[go_sem] theorem uk89 : ukOf Try.prog 89 = .struct := by kernel_rfl
@[go_sem] theorem sz89 : szOf Try.prog 89 = 3 := by kernel_rfl
@[go_sem] theorem fd89_0 : fldOf Try.prog 89 0 = some (0, 25) := by kernel_rfl
@[go_sem] theorem fd89_1 : fldOf Try.prog 89 1 = some (2, 88) := by kernel_rfl
@[go_sem] theorem ck89 : cellK Try.prog 8 89 = [none, some 3, none] := by kernel_rfl
@[go_sem] theorem so89 : structOk Try.prog 89 = true := by kernel_rfl
@[go_sem] theorem by89 : Try.prog.bytesOf 89 = 40 := by kernel_rfl
@[go_sem] theorem zr89 : zeroAV Try.prog 89 = some (.agg [.i .i64 0, .nsl, .nilm]) := by kernel_rfl
@[go_sem] theorem uk90 : ukOf Try.prog 90 = .struct := by kernel_rfl
@[go_sem] theorem sz90 : szOf Try.prog 90 = 3 := by kernel_rfl
@[go_sem] theorem fd90_0 : fldOf Try.prog 90 0 = some (0, 25) := by kernel_rfl
@[go_sem] theorem fd90_1 : fldOf Try.prog 90 1 = some (2, 88) := by kernel_rfl
@[go_sem] theorem ck90 : cellK Try.prog 8 90 = [none, some 3, none] := by kernel_rfl
@[go_sem] theorem so90 : structOk Try.prog 90 = true := by kernel_rfl
@[go_sem] theorem by90 : Try.prog.bytesOf 90 = 40 := by kernel_rfl
@[go_sem] theorem zr90 : zeroAV Try.prog 90 = some (.agg [.i .i64 0, .nsl, .nilm]) := by kernel_rfl
@[go_sem] theorem uk91 : ukOf Try.prog 91 = .func := by kernel_rfl
@[go_sem] theorem sz91 : szOf Try.prog 91 = 1 := by kernel_rfl
@[go_sem] theorem ck91 : cellK Try.prog 8 91 = [none] := by kernel_rfl
@[go_sem] theorem by91 : Try.prog.bytesOf 91 = 8 := by kernel_rfl
@[go_sem] theorem zr91 : zeroAV Try.prog 91 = some (.nilf) := by kernel_rfl
@[go_sem] theorem uk92 : ukOf Try.prog 92 = .slice 49 := by kernel_rfl
@[go_sem] theorem sz92 : szOf Try.prog 92 = 1 := by kernel_rfl
@[go_sem] theorem ck92 : cellK Try.prog 8 92 = [some 1] := by kernel_rfl
@[go_sem] theorem by92 : Try.prog.bytesOf 92 = 24 := by kernel_rfl
@[go_sem] theorem zr92 : zeroAV Try.prog 92 = some (.nsl) := by kernel_rfl
@[go_sem] theorem uk93 : ukOf Try.prog 93 = .func := by kernel_rfl
@[go_sem] theorem sz93 : szOf Try.prog 93 = 1 := by kernel_rfl
@[go_sem] theorem ck93 : cellK Try.prog 8 93 = [none] := by kernel_rfl
@[go_sem] theorem by93 : Try.prog.bytesOf 93 = 8 := by kernel_rfl
@[go_sem] theorem zr93 : zeroAV Try.prog 93 = some (.nilf) := by kernel_rfl
@[go_sem] theorem uk95 : ukOf Try.prog 95 = .func := by kernel_rfl
@[go_sem] theorem sz95 : szOf Try.prog 95 = 1 := by kernel_rfl
@[go_sem] theorem ck95 : cellK Try.prog 8 95 = [none] := by kernel_rfl
@[go_sem] theorem by95 : Try.prog.bytesOf 95 = 8 := by kernel_rfl
@[go_sem] theorem zr95 : zeroAV Try.prog 95 = some (.nilf) := by kernel_rfl
@[go_sem] theorem uk96 : ukOf Try.prog 96 = .func := by kernel_rfl
@[go_sem] theorem sz96 : szOf Try.prog 96 = 1 := by kernel_rfl
@[go_sem] theorem ck96 : cellK Try.prog 8 96 = [none] := by kernel_rfl
@[go_sem] theorem by96 : Try.prog.bytesOf 96 = 8 := by kernel_rfl
@[go_sem] theorem zr96 : zeroAV Try.prog 96 = some (.nilf) := by kernel_rfl
@[go_sem] theorem uk97 : ukOf Try.prog 97 = .func := by kernel_rfl
@[go_sem] theorem sz97 : szOf Try.prog 97 = 1 := by kernel_rfl
@[go_sem] theorem ck97 : cellK Try.prog 8 97 = [none] := by kernel_rfl
@[go_sem] theorem by97 : Try.prog.bytesOf 97 = 8 := by kernel_rfl
@[go_sem] theorem zr97 : zeroAV Try.prog 97 = some (.nilf) := by kernel_rfl
@[go_sem] theorem uk99 : ukOf Try.prog 99 = .func := by kernel_rfl
@[go_sem] theorem sz99 : szOf Try.prog 99 = 1 := by kernel_rfl
@[go_sem] theorem ck99 : cellK Try.prog 8 99 = [none] := by kernel_rfl
@[go_sem] theorem by99 : Try.prog.bytesOf 99 = 8 := by kernel_rfl
@[go_sem] theorem zr99 : zeroAV Try.prog 99 = some (.nilf) := by kernel_rfl
@[go_sem] theorem uk100 : ukOf Try.prog 100 = .func := by kernel_rfl
@[go_sem] theorem sz100 : szOf Try.prog 100 = 1 := by kernel_rfl
@[go_sem] theorem ck100 : cellK Try.prog 8 100 = [none] := by kernel_rfl
@[go_sem] theorem by100 : Try.prog.bytesOf 100 = 8 := by kernel_rfl
@[go_sem] theorem zr100 : zeroAV Try.prog 100 = some (.nilf) := by kernel_rfl
@[go_sem] theorem uk101 : ukOf Try.prog 101 = .func := by kernel_rfl
@[go_sem] theorem sz101 : szOf Try.prog 101 = 1 := by kernel_rfl
@[go_sem] theorem ck101 : cellK Try.prog 8 101 = [none] := by kernel_rfl
@[go_sem] theorem by101 : Try.prog.bytesOf 101 = 8 := by kernel_rfl
@[go_sem] theorem zr101 : zeroAV Try.prog 101 = some (.nilf) := by kernel_rfl
@[go_sem] theorem uk102 : ukOf Try.prog 102 = .func := by kernel_rfl
@[go_sem] theorem sz102 : szOf Try.prog 102 = 1 := by kernel_rfl
@[go_sem] theorem ck102 : cellK Try.prog 8 102 = [none] := by kernel_rfl
@[go_sem] theorem by102 : Try.prog.bytesOf 102 = 8 := by kernel_rfl
@[go_sem] theorem zr102 : zeroAV Try.prog 102 = some (.nilf) := by kernel_rfl
@[go_sem] theorem uk103 : ukOf Try.prog 103 = .func := by kernel_rfl
@[go_sem] theorem sz103 : szOf Try.prog 103 = 1 := by kernel_rfl
@[go_sem] theorem ck103 : cellK Try.prog 8 103 = [none] := by kernel_rfl
@[go_sem] theorem by103 : Try.prog.bytesOf 103 = 8 := by kernel_rfl
@[go_sem] theorem zr103 : zeroAV Try.prog 103 = some (.nilf) := by kernel_rfl
@[go_sem] theorem uk104 : ukOf Try.prog 104 = .func := by kernel_rfl
@[go_sem] theorem sz104 : szOf Try.prog 104 = 1 := by kernel_rfl
@[go_sem] theorem ck104 : cellK Try.prog 8 104 = [none] := by kernel_rfl
@[go_sem] theorem by104 : Try.prog.bytesOf 104 = 8 := by kernel_rfl
@[go_sem] theorem zr104 : zeroAV Try.prog 104 = some (.nilf) := by kernel_rfl
@[go_sem] theorem uk105 : ukOf Try.prog 105 = .func := by kernel_rfl
@[go_sem] theorem sz105 : szOf Try.prog 105 = 1 := by kernel_rfl
@[go_sem] theorem ck105 : cellK Try.prog 8 105 = [none] := by kernel_rfl
@[go_sem] theorem by105 : Try.prog.bytesOf 105 = 8 := by kernel_rfl
@[go_sem] theorem zr105 : zeroAV Try.prog 105 = some (.nilf) := by kernel_rfl
@[go_sem] theorem uk106 : ukOf Try.prog 106 = .func := by kernel_rfl
@[go_sem] theorem sz106 : szOf Try.prog 106 = 1 := by kernel_rfl
@[go_sem] theorem ck106 : cellK Try.prog 8 106 = [none] := by kernel_rfl
@[go_sem] theorem by106 : Try.prog.bytesOf 106 = 8 := by kernel_rfl
@[go_sem] theorem zr106 : zeroAV Try.prog 106 = some (.nilf) := by kernel_rfl
@[go_sem] theorem uk107 : ukOf Try.prog 107 = .func := by kernel_rfl
@[go_sem] theorem sz107 : szOf Try.prog 107 = 1 := by kernel_rfl
@[go_sem] theorem ck107 : cellK Try.prog 8 107 = [none] := by kernel_rfl
@[go_sem] theorem by107 : Try.prog.bytesOf 107 = 8 := by kernel_rfl
@[go_sem] theorem zr107 : zeroAV Try.prog 107 = some (.nilf) := by kernel_rfl
@[go_sem] theorem uk108 : ukOf Try.prog 108 = .func := by kernel_rfl
@[go_sem] theorem sz108 : szOf Try.prog 108 = 1 := by kernel_rfl
@[go_sem] theorem ck108 : cellK Try.prog 8 108 = [none] := by kernel_rfl
@[go_sem] theorem by108 : Try.prog.bytesOf 108 = 8 := by kernel_rfl
@[go_sem] theorem zr108 : zeroAV Try.prog 108 = some (.nilf) := by kernel_rfl
@[go_sem] theorem uk109 : ukOf Try.prog 109 = .func := by kernel_rfl
@[go_sem] theorem sz109 : szOf Try.prog 109 = 1 := by kernel_rfl
@[go_sem] theorem ck109 : cellK Try.prog 8 109 = [none] := by kernel_rfl
@[go_sem] theorem by109 : Try.prog.bytesOf 109 = 8 := by kernel_rfl
@[go_sem] theorem zr109 : zeroAV Try.prog 109 = some (.nilf) := by kernel_rfl
@[go_sem] theorem uk110 : ukOf Try.prog 110 = .int .u64 := by kernel_rfl
@[go_sem] theorem sz110 : szOf Try.prog 110 = 1 := by kernel_rfl
@[go_sem] theorem ck110 : cellK Try.prog 8 110 = [none] := by kernel_rfl
@[go_sem] theorem by110 : Try.prog.bytesOf 110 = 8 := by kernel_rfl
@[go_sem] theorem zr110 : zeroAV Try.prog 110 = some (.i .u64 0) := by kernel_rfl
@[go_sem] theorem uk111 : ukOf Try.prog 111 = .func := by kernel_rfl
@[go_sem] theorem sz111 : szOf Try.prog 111 = 1 := by kernel_rfl
@[go_sem] theorem ck111 : cellK Try.prog 8 111 = [none] := by kernel_rfl
@[go_sem] theorem by111 : Try.prog.bytesOf 111 = 8 := by kernel_rfl
@[go_sem] theorem zr111 : zeroAV Try.prog 111 = some (.nilf) := by kernel_rfl
@[go_sem] theorem uk112 : ukOf Try.prog 112 = .func := by kernel_rfl
@[go_sem] theorem sz112 : szOf Try.prog 112 = 1 := by kernel_rfl
@[go_sem] theorem ck112 : cellK Try.prog 8 112 = [none] := by kernel_rfl
@[go_sem] theorem by112 : Try.prog.bytesOf 112 = 8 := by kernel_rfl
@[go_sem] theorem zr112 : zeroAV Try.prog 112 = some (.nilf) := by kernel_rfl
@[go_sem] theorem uk113 : ukOf Try.prog 113 = .func := by kernel_rfl
@[go_sem] theorem sz113 : szOf Try.prog 113 = 1 := by kernel_rfl
@[go_sem] theorem ck113 : cellK Try.prog 8 113 = [none] := by kernel_rfl
@[go_sem] theorem by113 : Try.prog.bytesOf 113 = 8 := by kernel_rfl
@[go_sem] theorem zr113 : zeroAV Try.prog 113 = some (.nilf) := by kernel_rfl
@[go_sem] theorem uk114 : ukOf Try.prog 114 = .func := by kernel_rfl
@[go_sem] theorem sz114 : szOf Try.prog 114 = 1 := by kernel_rfl
@[go_sem] theorem ck114 : cellK Try.prog 8 114 = [none] := by kernel_rfl
@[go_sem] theorem by114 : Try.prog.bytesOf 114 = 8 := by kernel_rfl
@[go_sem] theorem zr114 : zeroAV Try.prog 114 = some (.nilf) := by kernel_rfl
@[go_sem] theorem uk115 : ukOf Try.prog 115 = .int .i64 := by kernel_rfl
@[go_sem] theorem sz115 : szOf Try.prog 115 = 1 := by kernel_rfl
@[go_sem] theorem ck115 : cellK Try.prog 8 115 = [none] := by kernel_rfl
@[go_sem] theorem by115 : Try.prog.bytesOf 115 = 8 := by kernel_rfl
@[go_sem] theorem zr115 : zeroAV Try.prog 115 = some (.i .i64 0) := by kernel_rfl
@[go_sem] theorem uk117 : ukOf Try.prog 117 = .func := by kernel_rfl
@[go_sem] theorem sz117 : szOf Try.prog 117 = 1 := by kernel_rfl
@[go_sem] theorem ck117 : cellK Try.prog 8 117 = [none] := by kernel_rfl
@[go_sem] theorem by117 : Try.prog.bytesOf 117 = 8 := by kernel_rfl
@[go_sem] theorem zr117 : zeroAV Try.prog 117 = some (.nilf) := by kernel_rfl
@[go_sem] theorem uk118 : ukOf Try.prog 118 = .func := by kernel_rfl
@[go_sem] theorem sz118 : szOf Try.prog 118 = 1 := by kernel_rfl
@[go_sem] theorem ck118 : cellK Try.prog 8 118 = [none] := by kernel_rfl
@[go_sem] theorem by118 : Try.prog.bytesOf 118 = 8 := by kernel_rfl
@[go_sem] theorem zr118 : zeroAV Try.prog 118 = some (.nilf) := by kernel_rfl
@[go_sem] theorem uk119 : ukOf Try.prog 119 = .func := by kernel_rfl
@[go_sem] theorem sz119 : szOf Try.prog 119 = 1 := by kernel_rfl
@[go_sem] theorem ck119 : cellK Try.prog 8 119 = [none] := by kernel_rfl
@[go_sem] theorem by119 : Try.prog.bytesOf 119 = 8 := by kernel_rfl
@[go_sem] theorem zr119 : zeroAV Try.prog 119 = some (.nilf) := by kernel_rfl
@[go_sem] theorem uk120 : ukOf Try.prog 120 = .func := by kernel_rfl
@[go_sem] theorem sz120 : szOf Try.prog 120 = 1 := by kernel_rfl
@[go_sem] theorem ck120 : cellK Try.prog 8 120 = [none] := by kernel_rfl
@[go_sem] theorem by120 : Try.prog.bytesOf 120 = 8 := by kernel_rfl
@[go_sem] theorem zr120 : zeroAV Try.prog 120 = some (.nilf) := by kernel_rfl
@[go_sem] theorem uk121 : ukOf Try.prog 121 = .func := by kernel_rfl
@[go_sem] theorem sz121 : szOf Try.prog 121 = 1 := by kernel_rfl
@[go_sem] theorem ck121 : cellK Try.prog 8 121 = [none] := by kernel_rfl
@[go_sem] theorem by121 : Try.prog.bytesOf 121 = 8 := by kernel_rfl
@[go_sem] theorem zr121 : zeroAV Try.prog 121 = some (.nilf) := by kernel_rfl
@[go_sem] theorem uk122 : ukOf Try.prog 122 = .int .u32 := by kernel_rfl
@[go_sem] theorem sz122 : szOf Try.prog 122 = 1 := by kernel_rfl
@[go_sem] theorem ck122 : cellK Try.prog 8 122 = [none] := by kernel_rfl
@[go_sem] theorem by122 : Try.prog.bytesOf 122 = 4 := by kernel_rfl
@[go_sem] theorem zr122 : zeroAV Try.prog 122 = some (.i .u32 0) := by kernel_rfl
@[go_sem] theorem uk123 : ukOf Try.prog 123 = .func := by kernel_rfl
@[go_sem] theorem sz123 : szOf Try.prog 123 = 1 := by kernel_rfl
@[go_sem] theorem ck123 : cellK Try.prog 8 123 = [none] := by kernel_rfl
@[go_sem] theorem by123 : Try.prog.bytesOf 123 = 8 := by kernel_rfl
@[go_sem] theorem zr123 : zeroAV Try.prog 123 = some (.nilf) := by kernel_rfl
@[go_sem] theorem uk124 : ukOf Try.prog 124 = .int .u64 := by kernel_rfl
@[go_sem] theorem sz124 : szOf Try.prog 124 = 1 := by kernel_rfl
@[go_sem] theorem ck124 : cellK Try.prog 8 124 = [none] := by kernel_rfl
@[go_sem] theorem by124 : Try.prog.bytesOf 124 = 8 := by kernel_rfl
@[go_sem] theorem zr124 : zeroAV Try.prog 124 = some (.i .u64 0) := by kernel_rfl
@[go_sem] theorem uk125 : ukOf Try.prog 125 = .int .u64 := by kernel_rfl
@[go_sem] theorem sz125 : szOf Try.prog 125 = 1 := by kernel_rfl
@[go_sem] theorem ck125 : cellK Try.prog 8 125 = [none] := by kernel_rfl
@[go_sem] theorem by125 : Try.prog.bytesOf 125 = 8 := by kernel_rfl
@[go_sem] theorem zr125 : zeroAV Try.prog 125 = some (.i .u64 0) := by kernel_rfl
@[go_sem] theorem uk126 : ukOf Try.prog 126 = .func := by kernel_rfl
@[go_sem] theorem sz126 : szOf Try.prog 126 = 1 := by kernel_rfl
@[go_sem] theorem ck126 : cellK Try.prog 8 126 = [none] := by kernel_rfl
@[go_sem] theorem by126 : Try.prog.bytesOf 126 = 8 := by kernel_rfl
@[go_sem] theorem zr126 : zeroAV Try.prog 126 = some (.nilf) := by kernel_rfl
@[go_sem] theorem uk127 : ukOf Try.prog 127 = .func := by kernel_rfl
@[go_sem] theorem sz127 : szOf Try.prog 127 = 1 := by kernel_rfl
@[go_sem] theorem ck127 : cellK Try.prog 8 127 = [none] := by kernel_rfl
@[go_sem] theorem by127 : Try.prog.bytesOf 127 = 8 := by kernel_rfl
@[go_sem] theorem zr127 : zeroAV Try.prog 127 = some (.nilf) := by kernel_rfl
@[go_sem] theorem uk128 : ukOf Try.prog 128 = .func := by kernel_rfl
@[go_sem] theorem sz128 : szOf Try.prog 128 = 1 := by kernel_rfl
@[go_sem] theorem ck128 : cellK Try.prog 8 128 = [none] := by kernel_rfl
@[go_sem] theorem by128 : Try.prog.bytesOf 128 = 8 := by kernel_rfl
@[go_sem] theorem zr128 : zeroAV Try.prog 128 = some (.nilf) := by kernel_rfl
@[go_sem] theorem uk129 : ukOf Try.prog 129 = .ptr 3 := by kernel_rfl
@[go_sem] theorem sz129 : szOf Try.prog 129 = 1 := by kernel_rfl
@[go_sem] theorem ck129 : cellK Try.prog 8 129 = [none] := by kernel_rfl
@[go_sem] theorem by129 : Try.prog.bytesOf 129 = 8 := by kernel_rfl
@[go_sem] theorem zr129 : zeroAV Try.prog 129 = some (.nilp) := by kernel_rfl
@[go_sem] theorem uk130 : ukOf Try.prog 130 = .func := by kernel_rfl
@[go_sem] theorem sz130 : szOf Try.prog 130 = 1 := by kernel_rfl
@[go_sem] theorem ck130 : cellK Try.prog 8 130 = [none] := by kernel_rfl
@[go_sem] theorem by130 : Try.prog.bytesOf 130 = 8 := by kernel_rfl
@[go_sem] theorem zr130 : zeroAV Try.prog 130 = some (.nilf) := by kernel_rfl
@[go_sem] theorem uk131 : ukOf Try.prog 131 = .ptr 125 := by kernel_rfl
@[go_sem] theorem sz131 : szOf Try.prog 131 = 1 := by kernel_rfl
@[go_sem] theorem ck131 : cellK Try.prog 8 131 = [none] := by kernel_rfl
@[go_sem] theorem by131 : Try.prog.bytesOf 131 = 8 := by kernel_rfl
@[go_sem] theorem zr131 : zeroAV Try.prog 131 = some (.nilp) := by kernel_rfl
@[go_sem] theorem uk132 : ukOf Try.prog 132 = .func := by kernel_rfl
@[go_sem] theorem sz132 : szOf Try.prog 132 = 1 := by kernel_rfl
@[go_sem] theorem ck132 : cellK Try.prog 8 132 = [none] := by kernel_rfl
@[go_sem] theorem by132 : Try.prog.bytesOf 132 = 8 := by kernel_rfl
@[go_sem] theorem zr132 : zeroAV Try.prog 132 = some (.nilf) := by kernel_rfl
@[go_sem] theorem uk133 : ukOf Try.prog 133 = .func := by kernel_rfl
@[go_sem] theorem sz133 : szOf Try.prog 133 = 1 := by kernel_rfl
@[go_sem] theorem ck133 : cellK Try.prog 8 133 = [none] := by kernel_rfl
@[go_sem] theorem by133 : Try.prog.bytesOf 133 = 8 := by kernel_rfl
@[go_sem] theorem zr133 : zeroAV Try.prog 133 = some (.nilf) := by kernel_rfl
@[go_sem] theorem uk134 : ukOf Try.prog 134 = .struct := by kernel_rfl
@[go_sem] theorem sz134 : szOf Try.prog 134 = 4 := by kernel_rfl
@[go_sem] theorem fd134_0 : fldOf Try.prog 134 0 = some (0, 17) := by kernel_rfl
@[go_sem] theorem fd134_1 : fldOf Try.prog 134 1 = some (1, 17) := by kernel_rfl
@[go_sem] theorem fd134_2 : fldOf Try.prog 134 2 = some (2, 17) := by kernel_rfl
@[go_sem] theorem fd134_3 : fldOf Try.prog 134 3 = some (3, 9) := by kernel_rfl
@[go_sem] theorem ck134 : cellK Try.prog 8 134 = [none, none, none, none] := by kernel_rfl
@[go_sem] theorem so134 : structOk Try.prog 134 = true := by kernel_rfl
@[go_sem] theorem by134 : Try.prog.bytesOf 134 = 40 := by kernel_rfl
@[go_sem] theorem zr134 : zeroAV Try.prog 134 = some (.agg [.nilp, .nilp, .nilp, .s ByteArray.empty]) := by kernel_rfl
@[go_sem] theorem uk135 : ukOf Try.prog 135 = .struct := by kernel_rfl
@[go_sem] theorem sz135 : szOf Try.prog 135 = 4 := by kernel_rfl
@[go_sem] theorem fd135_0 : fldOf Try.prog 135 0 = some (0, 17) := by kernel_rfl
@[go_sem] theorem fd135_1 : fldOf Try.prog 135 1 = some (1, 17) := by kernel_rfl
@[go_sem] theorem fd135_2 : fldOf Try.prog 135 2 = some (2, 17) := by kernel_rfl
@[go_sem] theorem fd135_3 : fldOf Try.prog 135 3 = some (3, 9) := by kernel_rfl
@[go_sem] theorem ck135 : cellK Try.prog 8 135 = [none, none, none, none] := by kernel_rfl
@[go_sem] theorem so135 : structOk Try.prog 135 = true := by kernel_rfl
@[go_sem] theorem by135 : Try.prog.bytesOf 135 = 40 := by kernel_rfl
@[go_sem] theorem zr135 : zeroAV Try.prog 135 = some (.agg [.nilp, .nilp, .nilp, .s ByteArray.empty]) := by kernel_rfl
@[go_sem] theorem uk136 : ukOf Try.prog 136 = .arr 0 16 := by kernel_rfl
@[go_sem] theorem sz136 : szOf Try.prog 136 = 0 := by kernel_rfl
@[go_sem] theorem ck136 : cellK Try.prog 8 136 = [] := by kernel_rfl
@[go_sem] theorem so136 : structOk Try.prog 136 = true := by kernel_rfl
@[go_sem] theorem by136 : Try.prog.bytesOf 136 = 0 := by kernel_rfl
@[go_sem] theorem zr136 : zeroAV Try.prog 136 = some (.agg []) := by kernel_rfl
@[go_sem] theorem uk137 : ukOf Try.prog 137 = .struct := by kernel_rfl
@[go_sem] theorem sz137 : szOf Try.prog 137 = 0 := by kernel_rfl
@[go_sem] theorem fd137_0 : fldOf Try.prog 137 0 = some (0, 136) := by kernel_rfl
@[go_sem] theorem ck137 : cellK Try.prog 8 137 = [] := by kernel_rfl
@[go_sem] theorem so137 : structOk Try.prog 137 = true := by kernel_rfl
@[go_sem] theorem by137 : Try.prog.bytesOf 137 = 0 := by kernel_rfl
@[go_sem] theorem zr137 : zeroAV Try.prog 137 = some (.agg []) := by kernel_rfl
@[go_sem] theorem uk138 : ukOf Try.prog 138 = .struct := by kernel_rfl
@[go_sem] theorem sz138 : szOf Try.prog 138 = 0 := by kernel_rfl
@[go_sem] theorem fd138_0 : fldOf Try.prog 138 0 = some (0, 136) := by kernel_rfl
@[go_sem] theorem ck138 : cellK Try.prog 8 138 = [] := by kernel_rfl
@[go_sem] theorem so138 : structOk Try.prog 138 = true := by kernel_rfl
@[go_sem] theorem by138 : Try.prog.bytesOf 138 = 0 := by kernel_rfl
@[go_sem] theorem zr138 : zeroAV Try.prog 138 = some (.agg []) := by kernel_rfl
@[go_sem] theorem uk139 : ukOf Try.prog 139 = .func := by kernel_rfl
@[go_sem] theorem sz139 : szOf Try.prog 139 = 1 := by kernel_rfl
@[go_sem] theorem ck139 : cellK Try.prog 8 139 = [none] := by kernel_rfl
@[go_sem] theorem by139 : Try.prog.bytesOf 139 = 8 := by kernel_rfl
@[go_sem] theorem zr139 : zeroAV Try.prog 139 = some (.nilf) := by kernel_rfl
@[go_sem] theorem uk140 : ukOf Try.prog 140 = .int .u8 := by kernel_rfl
@[go_sem] theorem sz140 : szOf Try.prog 140 = 1 := by kernel_rfl
@[go_sem] theorem ck140 : cellK Try.prog 8 140 = [none] := by kernel_rfl
@[go_sem] theorem by140 : Try.prog.bytesOf 140 = 1 := by kernel_rfl
@[go_sem] theorem zr140 : zeroAV Try.prog 140 = some (.i .u8 0) := by kernel_rfl
@[go_sem] theorem uk141 : ukOf Try.prog 141 = .int .u8 := by kernel_rfl
@[go_sem] theorem sz141 : szOf Try.prog 141 = 1 := by kernel_rfl
@[go_sem] theorem ck141 : cellK Try.prog 8 141 = [none] := by kernel_rfl
@[go_sem] theorem by141 : Try.prog.bytesOf 141 = 1 := by kernel_rfl
@[go_sem] theorem zr141 : zeroAV Try.prog 141 = some (.i .u8 0) := by kernel_rfl
@[go_sem] theorem uk142 : ukOf Try.prog 142 = .func := by kernel_rfl
@[go_sem] theorem sz142 : szOf Try.prog 142 = 1 := by kernel_rfl
@[go_sem] theorem ck142 : cellK Try.prog 8 142 = [none] := by kernel_rfl
@[go_sem] theorem by142 : Try.prog.bytesOf 142 = 8 := by kernel_rfl
@[go_sem] theorem zr142 : zeroAV Try.prog 142 = some (.nilf) := by kernel_rfl
@[go_sem] theorem uk143 : ukOf Try.prog 143 = .ptr 5 := by kernel_rfl
@[go_sem] theorem sz143 : szOf Try.prog 143 = 1 := by kernel_rfl
@[go_sem] theorem ck143 : cellK Try.prog 8 143 = [none] := by kernel_rfl
@[go_sem] theorem by143 : Try.prog.bytesOf 143 = 8 := by kernel_rfl
@[go_sem] theorem zr143 : zeroAV Try.prog 143 = some (.nilp) := by kernel_rfl
@[go_sem] theorem uk144 : ukOf Try.prog 144 = .int .i32 := by kernel_rfl
@[go_sem] theorem sz144 : szOf Try.prog 144 = 1 := by kernel_rfl
@[go_sem] theorem ck144 : cellK Try.prog 8 144 = [none] := by kernel_rfl
@[go_sem] theorem by144 : Try.prog.bytesOf 144 = 4 := by kernel_rfl
@[go_sem] theorem zr144 : zeroAV Try.prog 144 = some (.i .i32 0) := by kernel_rfl
@[go_sem] theorem uk145 : ukOf Try.prog 145 = .int .i32 := by kernel_rfl
@[go_sem] theorem sz145 : szOf Try.prog 145 = 1 := by kernel_rfl
@[go_sem] theorem ck145 : cellK Try.prog 8 145 = [none] := by kernel_rfl
@[go_sem] theorem by145 : Try.prog.bytesOf 145 = 4 := by kernel_rfl
@[go_sem] theorem zr145 : zeroAV Try.prog 145 = some (.i .i32 0) := by kernel_rfl
@[go_sem] theorem uk146 : ukOf Try.prog 146 = .struct := by kernel_rfl
@[go_sem] theorem sz146 : szOf Try.prog 146 = 11 := by kernel_rfl
@[go_sem] theorem fd146_0 : fldOf Try.prog 146 0 = some (0, 12) := by kernel_rfl
@[go_sem] theorem fd146_1 : fldOf Try.prog 146 1 = some (1, 12) := by kernel_rfl
@[go_sem] theorem fd146_2 : fldOf Try.prog 146 2 = some (2, 122) := by kernel_rfl
@[go_sem] theorem fd146_3 : fldOf Try.prog 146 3 = some (3, 140) := by kernel_rfl
@[go_sem] theorem fd146_4 : fldOf Try.prog 146 4 = some (4, 5) := by kernel_rfl
@[go_sem] theorem fd146_5 : fldOf Try.prog 146 5 = some (5, 5) := by kernel_rfl
@[go_sem] theorem fd146_6 : fldOf Try.prog 146 6 = some (6, 141) := by kernel_rfl
@[go_sem] theorem fd146_7 : fldOf Try.prog 146 7 = some (7, 142) := by kernel_rfl
@[go_sem] theorem fd146_8 : fldOf Try.prog 146 8 = some (8, 143) := by kernel_rfl
@[go_sem] theorem fd146_9 : fldOf Try.prog 146 9 = some (9, 144) := by kernel_rfl
@[go_sem] theorem fd146_10 : fldOf Try.prog 146 10 = some (10, 145) := by kernel_rfl
@[go_sem] theorem ck146 : cellK Try.prog 8 146 = [none, none, none, none, none, none, none, none, none, none, none] := by kernel_rfl
@[go_sem] theorem so146 : structOk Try.prog 146 = true := by kernel_rfl
@[go_sem] theorem by146 : Try.prog.bytesOf 146 = 48 := by kernel_rfl
@[go_sem] theorem zr146 : zeroAV Try.prog 146 = some (.agg [.i .u64 0, .i .u64 0, .i .u32 0, .i .u8 0, .i .u8 0, .i .u8 0, .i .u8 0, .nilf, .nilp, .i .i32 0, .i .i32 0]) := by kernel_rfl
@[go_sem] theorem uk147 : ukOf Try.prog 147 = .struct := by kernel_rfl
@[go_sem] theorem sz147 : szOf Try.prog 147 = 11 := by kernel_rfl
@[go_sem] theorem fd147_0 : fldOf Try.prog 147 0 = some (0, 12) := by kernel_rfl
@[go_sem] theorem fd147_1 : fldOf Try.prog 147 1 = some (1, 12) := by kernel_rfl
@[go_sem] theorem fd147_2 : fldOf Try.prog 147 2 = some (2, 122) := by kernel_rfl
@[go_sem] theorem fd147_3 : fldOf Try.prog 147 3 = some (3, 140) := by kernel_rfl
@[go_sem] theorem fd147_4 : fldOf Try.prog 147 4 = some (4, 5) := by kernel_rfl
@[go_sem] theorem fd147_5 : fldOf Try.prog 147 5 = some (5, 5) := by kernel_rfl
@[go_sem] theorem fd147_6 : fldOf Try.prog 147 6 = some (6, 141) := by kernel_rfl
@[go_sem] theorem fd147_7 : fldOf Try.prog 147 7 = some (7, 142) := by kernel_rfl
@[go_sem] theorem fd147_8 : fldOf Try.prog 147 8 = some (8, 143) := by kernel_rfl
@[go_sem] theorem fd147_9 : fldOf Try.prog 147 9 = some (9, 144) := by kernel_rfl
@[go_sem] theorem fd147_10 : fldOf Try.prog 147 10 = some (10, 145) := by kernel_rfl
@[go_sem] theorem ck147 : cellK Try.prog 8 147 = [none, none, none, none, none, none, none, none, none, none, none] := by kernel_rfl
@[go_sem] theorem so147 : structOk Try.prog 147 = true := by kernel_rfl
@[go_sem] theorem by147 : Try.prog.bytesOf 147 = 48 := by kernel_rfl
@[go_sem] theorem zr147 : zeroAV Try.prog 147 = some (.agg [.i .u64 0, .i .u64 0, .i .u32 0, .i .u8 0, .i .u8 0, .i .u8 0, .i .u8 0, .nilf, .nilp, .i .i32 0, .i .i32 0]) := by kernel_rfl
end Go.AW.TyTry
namespace Go.AW
open Go
set_option linter.unusedSimpArgs false
set_option linter.unusedVariables false
mutual
theorem ltk_mono {k n : Nat} (h : k ≤ n) : ∀ (a : AV), a.ltk k = true → a.ltk n = true
  | .ref _ _ _, e | .ptr _ _ _, e | .mp _, e => by simp only [AV.ltk, decide_eq_true_eq] at e ⊢; omega
  | .fn _ l, e => by simp only [AV.ltk] at e ⊢; exact ltks_mono h l e
  | .agg l, e => by simp only [AV.ltk] at e ⊢; exact ltks_mono h l e
  | .tup l, e => by simp only [AV.ltk] at e ⊢; exact ltks_mono h l e
  | .ifc _ v, e => by simp only [AV.ltk] at e ⊢; exact ltk_mono h v e
  | .bm _ v, e => by simp only [AV.ltk] at e ⊢; exact ltk_mono h v e
  | .gd _ v, e => by simp only [AV.ltk] at e ⊢; exact ltk_mono h v e
  | .any, _ | .b _, _ | .i _ _, _ | .s _, _ | .sl _ _, _ | .own _ _, _ | .ep _ _, _ | .nilp, _ | .nilm, _ | .nsl, _ | .esl, _ | .nilf, _ | .nili, _ => rfl
theorem ltks_mono {k n : Nat} (h : k ≤ n) : ∀ (l : List AV), AV.ltks k l = true → AV.ltks n l = true
  | [], _ => rfl
  | a :: l, e => by
    simp only [AV.ltks, Bool.and_eq_true] at e ⊢
    exact ⟨ltk_mono h a e.1, ltks_mono h l e.2⟩
end
theorem Ob.ltk_mono {k n : Nat} (h : k ≤ n) (x : Ob) (e : x.ltk k = true) : x.ltk n = true := by
  cases x with
  | cells sz rows =>
    simp only [Ob.ltk, List.all_eq_true] at e ⊢
    exact fun r hr a ha => AW.ltk_mono h a (e r hr a ha)
  | mapo es =>
    simp only [Ob.ltk, List.all_eq_true, Bool.and_eq_true] at e ⊢
    exact fun x hx => ⟨AW.ltk_mono h _ (e x hx).1, AW.ltk_mono h _ (e x hx).2⟩
  | frz => rfl
  | dead => rfl
def okO (oc : List Ob) : Bool := oc.all (Ob.ltk oc.length)
theorem okO_app {oc ex : List Ob} (h : okO oc = true) (hx : ex.all (Ob.ltk (oc.length + ex.length)) = true) : okO (oc ++ ex) = true := by
  unfold okO at h ⊢
  rw [List.length_append, List.all_append, Bool.and_eq_true]
  refine ⟨?_, hx⟩
  rw [List.all_eq_true] at h ⊢
  exact fun x hx => Ob.ltk_mono (by omega) x (h x hx)
@[go_sem] theorem app_len (oc : List Ob) (x : Ob) (l : List Ob) : (oc ++ x :: l)[oc.length]? = some x := by simp
@[go_sem] theorem app_len1 (oc : List Ob) (x y : Ob) (l : List Ob) : (oc ++ x :: y :: l)[oc.length + 1]? = some y := by simp [List.getElem?_append_right]
@[go_sem] theorem app_len2 (oc : List Ob) (x y z : Ob) (l : List Ob) : (oc ++ x :: y :: z :: l)[oc.length + 2]? = some z := by simp [List.getElem?_append_right]
@[go_sem] theorem app_set (oc : List Ob) (x y : Ob) (l : List Ob) : (oc ++ x :: l).set oc.length y = oc ++ y :: l := by simp
@[go_sem] theorem app_set1 (oc : List Ob) (x z y : Ob) (l : List Ob) : (oc ++ x :: z :: l).set (oc.length + 1) y = oc ++ x :: y :: l := by simp [List.set_append]
@[go_sem] theorem app_set2 (oc : List Ob) (x z v y : Ob) (l : List Ob) : (oc ++ x :: z :: v :: l).set (oc.length + 2) y = oc ++ x :: z :: y :: l := by simp [List.set_append]
attribute [go_sem] List.set_cons_zero List.set_cons_succ
theorem app_get {oc : List Ob} {i : Nat} {x : Ob} (l : List Ob) (h : oc[i]? = some x) : (oc ++ l)[i]? = some x := getE_mono h
attribute [go_sem] List.append_assoc List.cons_append List.length_append
@[go_sem] theorem bif_or (a b : Bool) : (bif a then true else b) = (a || b) := by cases a <;> rfl
@[go_sem] theorem bif_and (a b : Bool) : (bif a then b else false) = (a && b) := by cases a <;> rfl
section
variable {P : Program} {n : Nat} {gd : List (Option Nat)} {tk : List Nat} {Q : Exit → St → Prop} {s : St} {K : St → Prop}
theorem map_ren_range {k : Nat} {ac : List AV} (h : ac.all (AV.ltk k) = true) : ac.map (AV.ren fun j => (List.range k).getD j 0) = ac := by
  conv => rhs; rw [← List.map_id ac]
  rw [List.all_eq_true] at h
  exact List.map_congr_left fun a ha => ren_range a (h a ha)
theorem CallD.all {o : Oper} {c : Call} {x : Operand} {f : FuncId} {caps ac : List AV} {r : AV} (ho : o.op = .call c) (hc : c.callee = .value x) (hx : ung true (opd s.t x) = .fn f caps) (h : ACallsQ P f ac s.o r)
    (hin : c.args.toList.all (opIn n) = true) (hd : dstOk n o.dst = true) (hl : c.args.size ≤ ac.length) (hle : LeA (argVals c.args.toList (ac.take c.args.size) s.t ++ caps.map AV.dat) ac)
    (hoc : okO s.o = true) (hac : ac.all (AV.ltk s.o.length) = true) (hr : r.ltk 0 = true) : CallD P n o s ac r :=
  ⟨⟨c, x, false, f, caps, List.range s.o.length, s.o, ho, hc, by rw [hx]; rfl, hin, hl, Hand.all hoc, by rw [map_ren_range hac]; exact hle, by rw [List.length_range]; exact hac, h⟩, hd, hr⟩
theorem RL_callQ {d : Option Tmp} {x : Operand} {xs : List Operand} {ats : Array TypeId} {ty : TypeId} {pos : String} {aft : Array Edge} {rest : List Oper} {f : FuncId} {caps ac : List AV} {r : AV} (h : ACallsQ P f ac s.o r)
    (hx : ung true (opd s.t x) = .fn f caps) (hin : xs.all (opIn n) = true) (hd : dstOk n d = true) (hl : xs.length ≤ ac.length) (hle : LeA (argVals xs (ac.take xs.length) s.t ++ caps.map AV.dat) ac)
    (hoc : okO s.o = true) (hac : ac.all (AV.ltk s.o.length) = true) (hr : r.ltk 0 = true) (hK : RL P n gd rest Q ((⟨argDrop xs (ac.take xs.length) s.t, s.o⟩ : St).put d r)) :
    RL P n gd (⟨d, .call ⟨.value x, xs.toArray, ats⟩, ty, pos, aft, none⟩ :: rest) Q s := by
  refine RL_call ac r rfl (CallD.all rfl rfl hx h hin hd (by simpa using hl) (by simpa using hle) hoc hac hr) ?_
  simpa only [dropA, List.size_toArray] using hK
theorem OpW_callE {o : Oper} {c : Call} {x : Operand} {f : FuncId} {caps ac : List AV} {R : AV → List Ob → Prop} (ho : o.op = .call c) (hc : c.callee = .value x) (hx : ung true (opd s.t x) = .fn f caps) (h : ACalls P f ac s.o R)
    (hlen : ∀ r o', R r o' → s.o.length ≤ o'.length ∧ r.ltk o'.length = true ∧ okO o' = true)
    (hin : c.args.toList.all (opIn n) = true) (hd : dstOk n o.dst = true) (hl : c.args.size ≤ ac.length) (hle : LeA (argVals c.args.toList (ac.take c.args.size) s.t ++ caps.map AV.dat) ac)
    (hoc : okO s.o = true) (hac : ac.all (AV.ltk s.o.length) = true) (hK : ∀ r o', R r o' → K ((⟨argDrop c.args.toList (ac.take c.args.size) s.t, o'⟩ : St).put o.dst r)) : OpW P n o s K := by
  refine OpW_call (R := R) ho hc hx hd hin (Hand.all hoc) hl (by rw [map_ren_range hac]; exact hle) (by rw [List.length_range]; exact hac) h ?_
  intro r o' hR
  obtain ⟨h1, h2, h3⟩ := hlen r o' hR
  rw [after_all h1]
  have : r.ren (phi (List.range s.o.length) s.o.length) = r := by
    conv => rhs; rw [← ren_self r]
    refine ren_congr (n := o'.length) (fun k hk => ?_) r h2
    unfold phi
    simp only [List.length_range]
    split
    · rename_i hlt; exact range_getD hlt
    · omega
  rw [this]
  exact hK r o' hR
theorem RL_callE {d : Option Tmp} {x : Operand} {xs : List Operand} {ats : Array TypeId} {ty : TypeId} {pos : String} {aft : Array Edge} {rest : List Oper} {f : FuncId} {caps ac : List AV} {R : AV → List Ob → Prop} (h : ACalls P f ac s.o R)
    (hlen : ∀ r o', R r o' → s.o.length ≤ o'.length ∧ r.ltk o'.length = true ∧ okO o' = true)
    (hx : ung true (opd s.t x) = .fn f caps) (hin : xs.all (opIn n) = true) (hd : dstOk n d = true) (hl : xs.length ≤ ac.length) (hle : LeA (argVals xs (ac.take xs.length) s.t ++ caps.map AV.dat) ac)
    (hoc : okO s.o = true) (hac : ac.all (AV.ltk s.o.length) = true) (hK : ∀ r o', R r o' → RL P n gd rest Q ((⟨argDrop xs (ac.take xs.length) s.t, o'⟩ : St).put d r)) :
    RL P n gd (⟨d, .call ⟨.value x, xs.toArray, ats⟩, ty, pos, aft, none⟩ :: rest) Q s := by
  refine RL_cons rfl (OpW_callE (R := R) rfl rfl hx h hlen hin hd (by simpa using hl) (by simpa using hle) hoc hac ?_)
  simpa only [List.size_toArray] using hK
theorem ACallsD.q {f : FuncId} {ac : List AV} {r : AV} (h : ACallsD P f ac r) (hr : r.ltk 0 = true) (hac : ac.all (AV.ltk 0) = true) : ∀ (o : Oper) (c : Call) (x : Operand) (caps : List AV), o.op = .call c → c.callee = .value x → ung true (opd s.t x) = .fn f caps →
    c.args.toList.all (opIn n) = true → dstOk n o.dst = true → c.args.size ≤ ac.length → LeA (argVals c.args.toList (ac.take c.args.size) s.t ++ caps.map AV.dat) ac → CallD P n o s ac r :=
  fun o c x caps ho hc hx hin hd hl hle => ⟨⟨c, x, false, f, caps, [], [], ho, hc, by rw [hx]; rfl, hin, hl, Hand.nil _, by rw [map_ren_id _ hac]; exact hle, hac, h⟩, hd, hr⟩
theorem RL_callDg {d : Option Tmp} {f : FuncId} {xs : List Operand} {ats : Array TypeId} {ty : TypeId} {pos : String} {aft : Array Edge} {rest : List Oper} {ac : List AV} {r : AV} {j t : Nat} {want h0 b : Bool}
    (hj : gd.getD j none = some t) (hg : gv (s.t t) = some (h0, b)) (h : (h0 && b == want) = true → ACallsD P f ac r)
    (hin : xs.all (opIn n) = true) (hd : dstOk n d = true) (hlen : xs.length = ac.length) (hle : (h0 && b == want) = true → LeA (argVals xs ac s.t) ac) (harg : ac.all (AV.ltk 0) = true) (hres : r.ltk 0 = true)
    (hK : RL P n gd rest Q ((⟨argDrop xs ac s.t, s.o⟩ : St).put d (.gd (h0 && b == want) r))) : RL P n gd (⟨d, .call ⟨.value (.func f), xs.toArray, ats⟩, ty, pos, aft, some (j, want)⟩ :: rest) Q s := by
  have ht : ac.take xs.toArray.size = ac := by rw [List.take_of_length_le]; simp [hlen]
  refine RL_callg ac r rfl hj hg hd (fun e => (h e).q hres harg _ _ _ [] rfl rfl rfl hin hd (by simp [hlen]) (by rw [ht]; simpa using hle e)) ?_
  simpa only [dropA, ht] using hK
theorem D_callD {d : Option Tmp} {f : FuncId} {xs : List Operand} {ats : Array TypeId} {ty : TypeId} {pos : String} {aft : Array Edge} {rest : List Oper} {ac : List AV} {r : AV} (h : ACallsD P f ac r)
    (hin : xs.all (opIn n) = true) (hd : dstOk n d = true) (hlen : xs.length = ac.length) (hle : LeA (argVals xs ac s.t) ac) (harg : ac.all (AV.ltk 0) = true) (hres : r.ltk 0 = true)
    (hq : isQ tk ⟨d, .call ⟨.value (.func f), xs.toArray, ats⟩, ty, pos, aft, none⟩ = true) (ho : ac.all (fun c => !c.isOwn) = true) (hK : D P n gd tk rest K (s.put d r)) :
    D P n gd tk (⟨d, .call ⟨.value (.func f), xs.toArray, ats⟩, ty, pos, aft, none⟩ :: rest) K s := by
  have ht : ac.take xs.toArray.size = ac := by rw [List.take_of_length_le]; simp [hlen]
  exact D_call ac r rfl hq (h.q hres harg _ _ _ [] rfl rfl rfl hin hd (by simp [hlen]) (by rw [ht]; simpa using hle)) ho hK
theorem D_callDg {d : Option Tmp} {f : FuncId} {xs : List Operand} {ats : Array TypeId} {ty : TypeId} {pos : String} {aft : Array Edge} {rest : List Oper} {ac : List AV} {r : AV} {j t : Nat} {want h0 b : Bool}
    (hj : gd.getD j none = some t) (hg : gv (s.t t) = some (h0, b)) (h : (h0 && b == want) = true → ACallsD P f ac r)
    (hin : xs.all (opIn n) = true) (hd : dstOk n d = true) (hlen : xs.length = ac.length) (hle : (h0 && b == want) = true → LeA (argVals xs ac s.t) ac) (harg : ac.all (AV.ltk 0) = true) (hres : r.ltk 0 = true)
    (hq : isQ tk ⟨d, .call ⟨.value (.func f), xs.toArray, ats⟩, ty, pos, aft, some (j, want)⟩ = true) (ho : ac.all (fun c => !c.isOwn) = true) (hK : D P n gd tk rest K (s.put d (.gd (h0 && b == want) r))) :
    D P n gd tk (⟨d, .call ⟨.value (.func f), xs.toArray, ats⟩, ty, pos, aft, some (j, want)⟩ :: rest) K s := by
  have ht : ac.take xs.toArray.size = ac := by rw [List.take_of_length_le]; simp [hlen]
  exact D_callg ac r rfl hj hg hd hq (fun e => (h e).q hres harg _ _ _ [] rfl rfl rfl hin hd (by simp [hlen]) (by rw [ht]; simpa using hle e)) ho hK
theorem endQ_quiet {rs : List ResultVar} {oc ex : List Ob} {t : Nat → AV} {r r' : AV} (h1 : resAV P rs ⟨t, oc ++ ex⟩ = some r) (h2 : Le r r') (hoc : okO oc = true) (h6 : r'.ltk 0 = true) : endQ P rs oc.length (fun x o' => x = r' ∧ o' = oc) .ret ⟨t, oc ++ ex⟩ :=
  ⟨r, r', oc.length, h1, h2, Nat.le_refl _, by simp, by rw [List.take_left]; exact hoc, ltk_mono (Nat.zero_le _) _ h6, rfl, by rw [List.take_left]⟩
theorem endQ_quiet0 {rs : List ResultVar} {oc : List Ob} {t : Nat → AV} {r r' : AV} (h1 : resAV P rs ⟨t, oc⟩ = some r) (h2 : Le r r') (hoc : okO oc = true) (h6 : r'.ltk 0 = true) : endQ P rs oc.length (fun x o' => x = r' ∧ o' = oc) .ret ⟨t, oc⟩ := by
  have := endQ_quiet (P := P) (ex := []) (by rw [List.append_nil]; exact h1) h2 hoc h6
  rwa [List.append_nil] at this
end
end Go.AW
