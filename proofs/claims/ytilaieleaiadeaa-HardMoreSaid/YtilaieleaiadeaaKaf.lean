/-
AW, part Zg: the run itself.
-/
import Derived.Test.YtilaieleaiadeaaKae
import GoSem.ClaimChange
import Derived.Below
import Derived.Laws.Strings
namespace Go.AW
open Go
set_option linter.unusedSimpArgs false
set_option linter.unusedVariables false
def stL (l : List AV) (ob : List Ob) : St := ⟨fun k => l.getD k .any, ob⟩
def setD (l : List AV) (d : Option Nat) (v : AV) : List AV := match d with | some d => l.set d v | none => l
inductive XE where
 | normal | exit (id : Nat) | ret
def XE.toExit : XE → Exit
 | .normal => .normal
 | .exit id => .exit id
 | .ret => .ret
def wantX (gd : List (Option Nat)) (l : List AV) (o : Oper) : Option Bool :=
 match o.guard with
 | none => some true
 | some (j, want) =>
  match gd.getD j none with
  | some t => match gv (l.getD t .any) with | some (h, x) => some (h && x == want) | none => none
  | none => none
def calleeX (n : Nat) (l : List AV) (ob : List Ob) (o : Oper) : Option (FuncId × List AV) :=
 match o.op with
 | .call c =>
  match c.callee with
  | .value x =>
   match ung true (opd (fun k => l.getD k .any) x) with
   | .fn f caps =>
    let ac := (c.args.toList.map fun x => (ung true (opd (fun k => l.getD k .any) x)).dat) ++ caps.map AV.dat
    if c.args.toList.all (opIn n) && ob.all (Ob.ltk ob.length) && ac.all (AV.ltk ob.length) && dstOk n o.dst then some (f, ac) else none
   | _ => none
  | _ => none
 | _ => none
def stepX (P : Program) (n : Nat) (tk : List Nat) (o : Oper) (l : List AV) (ob : List Ob) : Option (List AV × List Ob) :=
 if o.op.operands.toList.all (opIn n) && dstOk n o.dst && !isCall o then
  match step1 P n tk o (stL l ob) with
  | (true, s) => some ((List.range n).map s.t, s.o)
  | _ => none
 else none
def fastOk (l : List AV) (o : Oper) : Bool :=
 match o.op with
 | .assign x => !(opd (fun k => l.getD k .any) x).isOwn
 | .call c => (match c.callee with | .value _ => false | _ => true)
 | _ => true
def fastX (P : Program) (n : Nat) (tk : List Nat) (o : Oper) (l : List AV) (ob : List Ob) : Option AV :=
 if fastOk l o then
  match slotR P tk o (stL l ob) true with
  | some x => if x.ok && dstOk n o.dst then some x.v else none
  | none => none
 else none
theorem fastX_spec {P : Program} {n : Nat} {tk : List Nat} {o : Oper} {l : List AV} {ob : List Ob} {v : AV} (h : fastX P n tk o l ob = some v) : ∃ x, slotR P tk o (stL l ob) true = some x ∧ x.ok = true ∧ dstOk n o.dst = true ∧ v = x.v := by
 unfold fastX at h
 by_cases hf : fastOk l o = true
 ·rw [if_pos hf] at h
  cases hs : slotR P tk o (stL l ob) true with
  | none => rw [hs] at h; cases h
  | some x =>
   rw [hs] at h
   simp only at h
   by_cases hok : (x.ok && dstOk n o.dst) = true
   ·rw [if_pos hok] at h
    rw [Bool.and_eq_true] at hok
    exact ⟨x, rfl, hok.1, hok.2, (Option.some.inj h).symm⟩
   ·rw [if_neg hok] at h; cases h
 ·rw [if_neg hf] at h; cases h
structure Plan0 where
 ord : List Nat
 tp : List (List Nat)
def insN (l : List Nat) (x : Nat) : List Nat := if l.contains x then l else x :: l
def ordGo (n : Nat) (q : List Bool) (ds : List (List Nat)) : Nat → List Nat → List Nat
 | 0, acc => acc.reverse
 | k + 1, acc =>
  let ready := (List.range n).filter fun i => !acc.contains i && (ds.getD i []).all acc.contains
  match ready.find? (fun i => q.getD i false) with
  | some i => ordGo n q ds k (i :: acc)
  | none => match ready with | i :: _ => ordGo n q ds k (i :: acc) | [] => acc.reverse
def planOf (tk : List Nat) (ops : Array Oper) : Plan0 :=
 let ds := (List.range ops.size).map (dirs ops)
 let ord := ordGo ops.size (ops.toList.map (isQ tk)) ds ops.size []
 { ord, tp := (ord.foldl (fun (acc : List (List Nat)) i => acc.set i ((ds.getD i []).foldl (fun s d => (acc.getD d []).foldl insN (insN s d)) [])) (List.replicate ops.size [])) }
def permsN (ops : Array Oper) : Nat → List Nat → List (List Nat)
 | 0, A => if A = [] then [[]] else []
 | k + 1, A => if A = [] then [[]] else (A.filter fun i => !A.any fun j => (dirs ops i).contains j).flatMap fun i => (permsN ops k (A.erase i)).map (i :: ·)
def planA (ops : Array Oper) (gd : List (Option Nat)) (tk : List Nat) (p : Plan0) : List Nat × List Nat × List Nat :=
 let prs := p.ord.zipIdx.flatMap fun (a, i) => (p.ord.drop (i + 1)).filterMap fun b => if pairOk ops gd tk p.tp a b then none else some (a, b)
 let lo := p.ord.filter fun i => prs.any fun (a, b) => a == i || b == i
 let A := p.ord.filter fun i => lo.contains i || (lo.any (fun a => (p.tp.getD i []).contains a) && lo.any fun a => (p.tp.getD a []).contains i) || (match ops[i]? with | some o => !isQ tk o && lo.any (fun a => (p.tp.getD a []).contains i) | none => false)
 let post := p.ord.filter fun i => !A.contains i && A.any fun a => (p.tp.getD i []).contains a
 (p.ord.filter fun i => !A.contains i && !post.contains i, A, post)
def eqbS (a b : List AV × List Ob) : Bool := eqAL a.1 b.1 && eqbO a.2 b.2
theorem eqbS_eq {a b : List AV × List Ob} (h : eqbS a b = true) : a = b := by
 simp only [eqbS, Bool.and_eq_true] at h
 exact Prod.ext (eqAL_eq _ _ h.1) (eqbO_eq _ _ h.2)
def allSame : List (Option (List AV × List Ob)) → Option (List AV × List Ob)
 | [] => none
 | [x] => x
 | x :: y :: r => x.bind fun a => (allSame (y :: r)).bind fun b => if eqbS a b then some b else none
theorem allSame_spec : ∀ {l : List (Option (List AV × List Ob))} {r : List AV × List Ob}, allSame l = some r → ∀ x ∈ l, x = some r
 | [], _, h => by cases h
 | [x], r, h => by
  intro y hy
  simp only [List.mem_singleton] at hy
  subst hy
  exact h
 | x :: y :: l, r, h => by
  rw [allSame] at h
  obtain ⟨a, ha, h1⟩ := Option.bind_eq_some_iff.1 h
  obtain ⟨b, hb, h2⟩ := Option.bind_eq_some_iff.1 h1
  by_cases he : eqbS a b = true
  ·rw [if_pos he] at h2
   obtain rfl := Option.some.inj h2
   have := eqbS_eq he
   subst this
   intro z hz
   rcases List.mem_cons.1 hz with rfl | hz
   ·exact ha
   ·exact allSame_spec hb z hz
  ·rw [if_neg he] at h2; cases h2
def tkD (ops : List Oper) : List Nat :=
 tkOf ops ++ ops.filterMap fun o => match o.op with
  | .assign (.tmp k) => if ops.any fun p => p.dst == some k && (match p.op with | .call c => (match c.callee with | .builtin .append => true | _ => false) | _ => false) then o.dst else none
  | _ => none
def tkX (b draw : Bool) (ops : List Oper) : List Nat := if b then [1000000] else if draw then tkD ops else tkOf ops
mutual
def xCode (P : Program) (env : FuncId → List AV → List Ob → Option (AV × List Ob)) (fl : FuncId → Bool) : Nat → Bool → Nat → Code → List AV → List Ob → Option (XE × List AV × List Ob)
 | 0, _, _, _, _, _ => none
 | k + 1, b, n, c, l, ob =>
  match c with
  | .skip => some (.normal, l, ob)
  | .label _ => some (.normal, l, ob)
  | .ret => some (.ret, l, ob)
  | .exit id => some (.exit id, l, ob)
  | .seq a b₂ => match xCode P env fl k b n a l ob with | some (.normal, l', ob') => xCode P env fl k b n b₂ l' ob' | r => r
  | .block id a => match xCode P env fl k b n a l ob with | some (.exit id', l', ob') => some (if id' = id then .normal else .exit id', l', ob') | r => r
  | .cond c a b₂ => match ung true (opd (fun k => l.getD k .any) c) with | .b true => xCode P env fl k b n a l ob | .b false => xCode P env fl k b n b₂ l ob | _ => none
  | .loop a => match xCode P env fl k b n a l ob with | some (.normal, l', ob') => xCode P env fl k b n (.loop a) l' ob' | r => r
  | .region _ ops draw =>
   let gd := ops.toList.map (·.dst)
   let tk := tkX b draw ops.toList
   if draw then
    let p := planOf tk ops
    if drawOk ops gd tk p.ord p.tp then (xDraw P env fl k n gd tk (p.ord.filterMap (ops.toList[·]?)) l ob).map fun r => (.normal, r.1, r.2)
    else
     let q := planA ops gd tk p
     let T := permsN ops q.2.1.length q.2.1
     if drawOkA ops gd tk q.1 q.2.1 q.2.2 p.tp && cover ops q.2.1.length q.2.1 T && T.all (fun t => t.isPerm q.2.1) && !T.isEmpty then
      (allSame (T.map fun t => xDraw P env fl k n gd tk ((q.1 ++ t ++ q.2.2).filterMap (ops.toList[·]?)) l ob)).map fun r => (.normal, r.1, r.2)
     else none
   else (xOps P env fl k n gd tk ops.toList l ob).map fun r => (.normal, r.1, r.2)
  | _ => none
def xOps (P : Program) (env : FuncId → List AV → List Ob → Option (AV × List Ob)) (fl : FuncId → Bool) : Nat → Nat → List (Option Nat) → List Nat → List Oper → List AV → List Ob → Option (List AV × List Ob)
 | 0, _, _, _, _, _, _ => none
 | _ + 1, _, _, _, [], l, ob => some (l, ob)
 | k + 1, n, gd, tk, o :: r, l, ob =>
  match wantX gd l o with
  | none => none
  | some false => if dstOk n o.dst then xOps P env fl k n gd tk r (setD l o.dst (.gd false .any)) ob else none
  | some true =>
   if isCall o then
    match calleeX n l ob o with
    | some (f, ac) => match xCall P env fl k f ac ob with | some (v, ob') => fz v fun v => xOps P env fl k n gd tk r (setD l o.dst v) ob' | none => none
    | none => none
   else match fastX P n tk o l ob with
    | some v => fz v fun v => xOps P env fl k n gd tk r (setD l o.dst v) ob
    | none => match stepX P n tk o l ob with | some (l', ob') => fzL l' fun l' => xOps P env fl k n gd tk r l' ob' | none => none
def xDraw (P : Program) (env : FuncId → List AV → List Ob → Option (AV × List Ob)) (fl : FuncId → Bool) : Nat → Nat → List (Option Nat) → List Nat → List Oper → List AV → List Ob → Option (List AV × List Ob)
 | 0, _, _, _, _, _, _ => none
 | _ + 1, _, _, _, [], l, ob => some (l, ob)
 | k + 1, n, gd, tk, o :: r, l, ob =>
  if isQ tk o then
   match wantX gd l o with
   | none => none
   | some false => if dstOk n o.dst && o.guard.isSome then xDraw P env fl k n gd tk r (setD l o.dst (.gd false .any)) ob else none
   | some true =>
    if isCall o then
     match calleeX n l ob o with
     | some (f, ac) => match xCall P env fl k f ac ob with
      | some (v, ob') => if eqbO ob' ob && v.ltk 0 then fz v fun v => xDraw P env fl k n gd tk r (setD l o.dst (if o.guard.isSome then .gd true v else v)) ob else none
      | none => none
     | none => none
    else match slotR P tk o (stL l ob) true with
     | some x => if x.ok && dstOk n o.dst then fz x.v fun v => xDraw P env fl k n gd tk r (setD l o.dst (if o.guard.isSome then .gd true v else v)) ob else none
     | none => none
  else if o.guard.isSome then none
  else if isCall o then
   match calleeX n l ob o with
   | some (f, ac) => match xCall P env fl k f ac ob with | some (v, ob') => fz v fun v => xDraw P env fl k n gd tk r (setD l o.dst v) ob' | none => none
   | none => none
  else match stepX P n tk o l ob with | some (l', ob') => fzL l' fun l' => xDraw P env fl k n gd tk r l' ob' | none => none
def xCall (P : Program) (env : FuncId → List AV → List Ob → Option (AV × List Ob)) (fl : FuncId → Bool) : Nat → FuncId → List AV → List Ob → Option (AV × List Ob)
 | 0, _, _, _ => none
 | k + 1, f, ac, oc =>
  match env f ac oc with
  | some r => some r
  | none =>
   match P.funcs[f]? with
   | none => none
   | some fn =>
    match fn.body with
    | none => none
    | some c =>
     if decide (ac.length ≤ fn.ntmps) && callOk P f then
      match xCode P env fl k (fl f) fn.ntmps c (ac ++ List.replicate (fn.ntmps - ac.length) .any) oc with
      | some (e, l, o') =>
       match e with
       | .exit _ => none
       | _ =>
        match resAV P fn.results.toList (stL l o') with
        | none => none
        | some r =>
         if decide (oc.length ≤ o'.length) then
          if r.ltk oc.length && (o'.take oc.length).all (Ob.ltk oc.length) then some (r, o'.take oc.length)
          else if r.ltk o'.length && o'.all (Ob.ltk o'.length) then some (r, o') else none
         else none
      | none => none
     else none
end
end Go.AW
namespace Go.AW
open Go
set_option linter.unusedSimpArgs false
set_option linter.unusedVariables false
theorem stL_put {l : List AV} {ob : List Ob} {d : Option Nat} {v : AV} (h : dstOk l.length d = true) : (stL l ob).put d v = stL (setD l d v) ob := by
 cases d with
 | none => rfl
 | some d =>
  simp only [dstOk, decide_eq_true_eq] at h
  simp only [St.put, stL, setD, St.mk.injEq, and_true]
  funext k
  simp only [upd, List.getD_eq_getElem?_getD, List.getElem?_set]
  by_cases hk : k = d
  ·subst hk; simp [h]
  ·rw [if_neg hk, if_neg (fun e => hk e.symm)]
theorem setD_length (l : List AV) (d : Option Nat) (v : AV) : (setD l d v).length = l.length := by cases d <;> simp [setD]
theorem stepX_spec {P : Program} {n : Nat} {tk : List Nat} {o : Oper} {l l' : List AV} {ob ob' : List Ob} (h : stepX P n tk o l ob = some (l', ob')) (hl : l.length = n) :
  step1 P n tk o (stL l ob) = (true, stL l' ob') ∧ l'.length = n ∧ isCall o = false := by
 unfold stepX at h
 split at h
 ·rename_i hc
  simp only [Bool.and_eq_true, Bool.not_eq_true', List.all_eq_true] at hc
  obtain ⟨⟨h1, h2⟩, h3⟩ := hc
  split at h
  ·rename_i s hs
   simp only [Option.some.injEq, Prod.mk.injEq] at h
   obtain ⟨rfl, rfl⟩ := h
   refine ⟨?_, by simp, h3⟩
   rw [hs]
   congr 1
   obtain ⟨t, so⟩ := s
   simp only [stL, St.mk.injEq, and_true]
   funext k
   by_cases hk : k < n
   ·simp [List.getD_eq_getElem?_getD, hk]
   ·rw [List.getD_eq_getElem?_getD, List.getElem?_eq_none (by simp; omega)]
    have hself : (stL l ob).put (some k) .any = stL l ob := by
     simp only [St.put, stL, St.mk.injEq, and_true]
     funext j
     simp only [upd]
     split
     ·rename_i e; subst e; rw [List.getD_eq_getElem?_getD, List.getElem?_eq_none (by omega)]; rfl
     ·rfl
    have := step1_frame (P := P) (n := n) (tk := tk) (s := stL l ob) (o := o) (d := k) (v := .any) (fun x hx e => ?_) (fun e => ?_) h3
    ·rw [hself, hs] at this
     simp only [Prod.mk.injEq, true_and] at this
     have h4 := congrArg (fun st : St => st.t k) this
     simpa [St.put, upd] using h4
    ·have := h1 x (by simpa using hx)
     rw [e] at this
     simp only [opIn, decide_eq_true_eq] at this
     exact hk this
    ·rw [e] at h2
     simp only [dstOk, decide_eq_true_eq] at h2
     exact hk h2
  ·cases h
 ·cases h
theorem argVals_plain (t : Nat → AV) : ∀ (xs : List Operand), argVals xs (xs.map fun x => (ung true (opd t x)).dat) t = (xs.map fun x => (ung true (opd t x)).dat) ∧ argDrop xs (xs.map fun x => (ung true (opd t x)).dat) t = t
 | [] => ⟨rfl, rfl⟩
 | x :: xs => by
  have h := AV.dat_isOwn (ung true (opd t x))
  obtain ⟨h1, h2⟩ := argVals_plain t xs
  simp only [List.map_cons, argVals, argDrop, argA, argT, h, if_false, Bool.false_eq_true, h1, h2, and_self]
theorem LeA.refl : ∀ l : List AV, LeA l l
 | [] => trivial
 | a :: l => ⟨.refl a, LeA.refl l⟩
theorem calleeX_spec {n : Nat} {l : List AV} {ob : List Ob} {o : Oper} {f : FuncId} {ac : List AV} (h : calleeX n l ob o = some (f, ac)) :
  ∃ (c : Call) (x : Operand) (caps : List AV), o.op = .call c ∧ c.callee = .value x ∧ ung true (opd (stL l ob).t x) = .fn f caps ∧ c.args.toList.all (opIn n) = true ∧ ob.all (Ob.ltk ob.length) = true ∧
   ac.all (AV.ltk ob.length) = true ∧ dstOk n o.dst = true ∧ ac = (c.args.toList.map fun x => (ung true (opd (stL l ob).t x)).dat) ++ caps.map AV.dat := by
 unfold calleeX at h
 cases hop : o.op with
 | call c =>
  rw [hop] at h
  simp only at h
  cases hcal : c.callee with
  | value x =>
   rw [hcal] at h
   simp only at h
   split at h
   ·rename_i f' caps hf
    split at h
    ·rename_i hc
     simp only [Option.some.injEq, Prod.mk.injEq] at h
     obtain ⟨rfl, rfl⟩ := h
     simp only [Bool.and_eq_true] at hc
     exact ⟨c, x, caps, rfl, hcal, hf, hc.1.1.1, hc.1.1.2, hc.1.2, hc.2, rfl⟩
    ·cases h
   ·cases h
  | _ => rw [hcal] at h; simp at h
 | _ => rw [hop] at h; simp at h
section
variable {P : Program}
theorem calleeX_op {n : Nat} {l : List AV} {ob : List Ob} {o : Oper} {f : FuncId} {ac : List AV} {v : AV} {ob' : List Ob} {K : St → Prop} (h : calleeX n l ob o = some (f, ac)) (hl : l.length = n)
  (hcall : ACalls P f ac ob fun r' o'' => r' = v ∧ o'' = ob') (hlen : ob.length ≤ ob'.length) (hK : K (stL (setD l o.dst v) ob')) : OpW P n o (stL l ob) K := by
 obtain ⟨c, x, caps, h1, h2, h3, h4, h5, h6, h7, rfl⟩ := calleeX_spec h
 have ht : ((c.args.toList.map fun x => (ung true (opd (stL l ob).t x)).dat) ++ caps.map AV.dat).take c.args.size = c.args.toList.map fun x => (ung true (opd (stL l ob).t x)).dat := by
  rw [List.take_append_of_le_length (by simp), List.take_of_length_le (by simp)]
 obtain ⟨e1, e2⟩ := argVals_plain (stL l ob).t c.args.toList
 refine OpW_call h1 h2 h3 h7 h4 (Hand.all h5) (by simp) ?_ (by rw [List.length_range]; exact h6) hcall ?_
 ·rw [ht, e1]
  have : (((c.args.toList.map fun x => (ung true (opd (stL l ob).t x)).dat) ++ caps.map AV.dat).map (AV.ren fun j => (List.range ob.length).getD j 0)) = (c.args.toList.map fun x => (ung true (opd (stL l ob).t x)).dat) ++ caps.map AV.dat := by
   conv => rhs; rw [← List.map_id ((c.args.toList.map fun x => (ung true (opd (stL l ob).t x)).dat) ++ caps.map AV.dat)]
   rw [List.all_eq_true] at h6
   exact List.map_congr_left fun a ha => ren_range a (h6 a ha)
  show LeA _ (List.map (AV.ren fun j => (List.range ob.length).getD j 0) _)
  rw [this]
  exact LeA.refl _
 ·rintro r' o'' ⟨rfl, rfl⟩
  rw [ht, e2]
  show K ((⟨(stL l ob).t, after ob (List.range ob.length) o''⟩ : St).put o.dst (r'.ren (phi (List.range ob.length) ob.length)))
  rw [after_all hlen]
  have hφ : phi (List.range ob.length) ob.length = fun k => k := by
   funext k
   unfold phi
   simp only [List.length_range]
   split
   ·rename_i hk; exact range_getD hk
   ·omega
  rw [hφ, ren_self]
  have := stL_put (l := l) (ob := o'') (d := o.dst) (v := r') (by rw [hl]; exact h7)
  show K ((stL l o'').put o.dst r')
  rw [this]
  exact hK
theorem wantX_spec {gd : List (Option Nat)} {l : List AV} {ob : List Ob} {o : Oper} {c : Bool} (h : wantX gd l o = some c) :
  (o.guard = none ∧ c = true) ∨ ∃ j want t h0 x, o.guard = some (j, want) ∧ gd.getD j none = some t ∧ gv ((stL l ob).t t) = some (h0, x) ∧ (h0 && x == want) = c := by
 unfold wantX at h
 split at h
 ·rename_i hg; exact .inl ⟨hg, (Option.some.inj h).symm⟩
 ·rename_i j want hg
  split at h
  ·rename_i t ht
   split at h
   ·rename_i h0 x hx; exact .inr ⟨j, want, t, h0, x, hg, ht, hx, Option.some.inj h⟩
   ·cases h
  ·cases h
theorem RL_want {gd : List (Option Nat)} {n : Nat} {l : List AV} {ob : List Ob} {o : Oper} {r : List Oper} {Q : Exit → St → Prop} (hw : wantX gd l o = some true) (hd : dstOk n o.dst = true) (h : OpW P n o (stL l ob) (RL P n gd r Q)) :
  RL P n gd (o :: r) Q (stL l ob) := by
 rcases wantX_spec (ob := ob) hw with ⟨hg, _⟩ | ⟨j, want, t, h0, x, hg, hj, hx, hc⟩
 ·exact RL_cons hg h
 ·exact RL_gd hg hj hx hd (fun _ => h) (fun e => by rw [hc] at e; cases e)
theorem RL_pass {gd : List (Option Nat)} {n : Nat} {l : List AV} {ob : List Ob} {o : Oper} {r : List Oper} {Q : Exit → St → Prop} (hw : wantX gd l o = some false) (hl : l.length = n) (hd : dstOk n o.dst = true)
  (h : RL P n gd r Q (stL (setD l o.dst (.gd false .any)) ob)) : RL P n gd (o :: r) Q (stL l ob) := by
 rcases wantX_spec (ob := ob) hw with ⟨hg, h0⟩ | ⟨j, want, t, h0, x, hg, hj, hx, hc⟩
 ·cases h0
 ·refine RL_gd hg hj hx hd (fun e => by rw [hc] at e; cases e) (fun _ => ⟨.gd false .any, (gdF_undef _).1, (gdF_undef _).2, ?_⟩)
  rw [stL_put (by rw [hl]; exact hd)]
  exact h
def WIn (P : Program) (n : Nat) (c : Code) (Q : Exit → St → Prop) (s : St) : Prop :=
 ∀ (g : G) (a : Act) (w : World), g.n = n → At g s a w → ∀ (b : Frame) (k : List Item) (cs : List Frame), ∃ e a' w', (∃ s', Q e s' ∧ At g s' a' w') ∧ Arrives P (lone (b.at a (.code c :: .inLoop c :: k)) cs w) b k cs e a' w'
theorem WIn.loop {n : Nat} {c : Code} {Q : Exit → St → Prop} {s : St} (h : WIn P n c Q s) : W P n (.loop c) Q s := by
 intro g a w hn hat b k cs
 obtain ⟨e, a', w', hq, harr⟩ := h g a w hn hat b k cs
 exact ⟨e, a', w', hq, .of_steps (.one step_loop) harr⟩
def inQ (P : Program) (n : Nat) (c : Code) (Q : Exit → St → Prop) : Exit → St → Prop
 | .normal, s => WIn P n c Q s
 | e, s => Q e s
theorem WIn.step {n : Nat} {c : Code} {Q : Exit → St → Prop} {s : St} (h : W P n c (inQ P n c Q) s) : WIn P n c Q s := by
 intro g a w hn hat b k cs
 obtain ⟨e, a₁, w₁, ⟨s', hq, hat'⟩, harr⟩ := h g a w hn hat b (.inLoop c :: k) cs
 cases e with
 | normal =>
  obtain ⟨e₂, a₂, w₂, hq₂, harr₂⟩ := hq g a₁ w₁ hn hat' b k cs
  exact ⟨e₂, a₂, w₂, hq₂, .of_steps (Steps.trans harr (.one step_inLoop)) harr₂⟩
 | exit id => exact ⟨_, a₁, w₁, ⟨s', hq, hat'⟩, .pass (x := .inLoop c) rfl (fun _ _ => .inl (by simp)) harr⟩
 | goto l => exact ⟨_, a₁, w₁, ⟨s', hq, hat'⟩, .pass (x := .inLoop c) rfl (fun _ _ => .inl (by simp)) harr⟩
 | ret => exact ⟨_, a₁, w₁, ⟨s', hq, hat'⟩, .pass (x := .inLoop c) rfl (fun _ _ => .inl (by simp)) harr⟩
 | panic ch => exact ⟨_, a₁, w₁, ⟨s', hq, hat'⟩, .pass (x := .inLoop c) rfl (fun _ _ => .inl (by simp)) harr⟩
 | outgrown => exact ⟨_, a₁, w₁, ⟨s', hq, hat'⟩, .pass (x := .inLoop c) rfl (fun _ _ => .inl (by simp)) harr⟩
theorem x_sound (env : FuncId → List AV → List Ob → Option (AV × List Ob)) (fl : FuncId → Bool) (hm : P.follows .mixedOrders = true)
  (henv : ∀ f ac oc r o', env f ac oc = some (r, o') → ACalls P f ac oc (fun r' o'' => r' = r ∧ o'' = o') ∧ oc.length ≤ o'.length) : ∀ fuel : Nat,
  (∀ b n c l ob e l' ob', xCode P env fl fuel b n c l ob = some (e, l', ob') → l.length = n → l'.length = n ∧ ∀ Q : Exit → St → Prop, Q e.toExit (stL l' ob') → W P n c Q (stL l ob)) ∧
  (∀ n gd tk ops l ob l' ob', xOps P env fl fuel n gd tk ops l ob = some (l', ob') → l.length = n → l'.length = n ∧ ∀ Q : Exit → St → Prop, Q .normal (stL l' ob') → RL P n gd ops Q (stL l ob)) ∧
  (∀ n gd tk ops l ob l' ob', xDraw P env fl fuel n gd tk ops l ob = some (l', ob') → l.length = n → l'.length = n ∧ ∀ K : St → Prop, K (stL l' ob') → D P n gd tk ops K (stL l ob)) ∧
  (∀ f ac oc r o', xCall P env fl fuel f ac oc = some (r, o') → ACalls P f ac oc (fun r' o'' => r' = r ∧ o'' = o') ∧ oc.length ≤ o'.length) ∧
  (∀ b n c l ob e l' ob', xCode P env fl fuel b n (.loop c) l ob = some (e, l', ob') → l.length = n → l'.length = n ∧ ∀ Q : Exit → St → Prop, Q e.toExit (stL l' ob') → WIn P n c Q (stL l ob)) := by
 intro fuel
 induction fuel with
 | zero =>
  refine ⟨fun b n c l ob e l' ob' h => ?_, fun n gd tk ops l ob l' ob' h => ?_, fun n gd tk ops l ob l' ob' h => ?_, fun f ac oc r o' h => ?_, fun b n c l ob e l' ob' h => ?_⟩ <;> simp [xCode, xOps, xDraw, xCall] at h
 | succ k ih =>
  obtain ⟨ihC, ihO, ihD, ihK, ihL⟩ := ih
  have hloop : ∀ b n c l ob e l' ob', xCode P env fl (k + 1) b n (.loop c) l ob = some (e, l', ob') → l.length = n → l'.length = n ∧ ∀ Q : Exit → St → Prop, Q e.toExit (stL l' ob') → WIn P n c Q (stL l ob) := by
   intro b n c l ob e l' ob' h hl
   simp only [xCode] at h
   split at h
   ·rename_i l1 ob1 h1
    obtain ⟨g1, g2⟩ := ihC _ _ _ _ _ _ _ _ h1 hl
    obtain ⟨g3, g4⟩ := ihL _ _ _ _ _ _ _ _ h g1
    exact ⟨g3, fun Q hQ => WIn.step (g2 _ (g4 Q hQ))⟩
   ·rename_i r hne
    obtain ⟨g1, g2⟩ := ihC _ _ _ _ _ _ _ _ h hl
    refine ⟨g1, fun Q hQ => WIn.step (g2 _ ?_)⟩
    cases e with
    | normal => exact absurd h (hne _ _)
    | _ => exact hQ
  refine ⟨?_, ?_, ?_, ?_, hloop⟩
  ·intro b n c l ob e l' ob' h hl
   cases c with
   | skip => simp only [xCode, Option.some.injEq, Prod.mk.injEq] at h; obtain ⟨rfl, rfl, rfl⟩ := h; exact ⟨hl, fun Q hQ => W_skip hQ⟩
   | label => simp only [xCode, Option.some.injEq, Prod.mk.injEq] at h; obtain ⟨rfl, rfl, rfl⟩ := h; exact ⟨hl, fun Q hQ => W_label hQ⟩
   | ret => simp only [xCode, Option.some.injEq, Prod.mk.injEq] at h; obtain ⟨rfl, rfl, rfl⟩ := h; exact ⟨hl, fun Q hQ => W_ret hQ⟩
   | exit id => simp only [xCode, Option.some.injEq, Prod.mk.injEq] at h; obtain ⟨rfl, rfl, rfl⟩ := h; exact ⟨hl, fun Q hQ => W_exit hQ⟩
   | seq a b₂ =>
    simp only [xCode] at h
    split at h
    ·rename_i l1 ob1 h1
     obtain ⟨g1, g2⟩ := ihC _ _ _ _ _ _ _ _ h1 hl
     obtain ⟨g3, g4⟩ := ihC _ _ _ _ _ _ _ _ h g1
     exact ⟨g3, fun Q hQ => W_seq (g2 _ (g4 Q hQ))⟩
    ·rename_i r hne
     obtain ⟨g1, g2⟩ := ihC _ _ _ _ _ _ _ _ h hl
     refine ⟨g1, fun Q hQ => W_seq (g2 _ ?_)⟩
     cases e with
     | normal => exact absurd h (hne _ _)
     | _ => exact hQ
   | block id a =>
    simp only [xCode] at h
    split at h
    ·rename_i id' l1 ob1 h1
     simp only [Option.some.injEq, Prod.mk.injEq] at h
     obtain ⟨rfl, rfl, rfl⟩ := h
     obtain ⟨g1, g2⟩ := ihC _ _ _ _ _ _ _ _ h1 hl
     refine ⟨g1, fun Q hQ => W_block (g2 _ ?_)⟩
     by_cases hid : id' = id
     ·rw [if_pos hid] at hQ; subst hid; exact blockQ_same hQ
     ·rw [if_neg hid] at hQ; exact blockQ_other hid hQ
    ·rename_i r hne
     obtain ⟨g1, g2⟩ := ihC _ _ _ _ _ _ _ _ h hl
     refine ⟨g1, fun Q hQ => W_block (g2 _ ?_)⟩
     cases e with
     | exit id' => exact absurd h (hne _ _ _)
     | _ => exact hQ
   | cond c a b₂ =>
    simp only [xCode] at h
    split at h
    ·rename_i hc
     obtain ⟨g1, g2⟩ := ihC _ _ _ _ _ _ _ _ h hl
     exact ⟨g1, fun Q hQ => W_cond (b := true) hc (fun _ => g2 Q hQ) (fun e => by cases e)⟩
    ·rename_i hc
     obtain ⟨g1, g2⟩ := ihC _ _ _ _ _ _ _ _ h hl
     exact ⟨g1, fun Q hQ => W_cond (b := false) hc (fun e => by cases e) (fun _ => g2 Q hQ)⟩
    ·cases h
   | loop a =>
    obtain ⟨g1, g2⟩ := hloop _ _ _ _ _ _ _ _ h hl
    exact ⟨g1, fun Q hQ => (g2 Q hQ).loop⟩
   | region id ops draw =>
    simp only [xCode] at h
    split at h
    ·rename_i hdr
     split at h
     ·rename_i hok
      cases hx : xDraw P env fl k n (ops.toList.map (·.dst)) (tkX b draw ops.toList) ((planOf (tkX b draw ops.toList) ops).ord.filterMap (ops.toList[·]?)) l ob with
      | none => rw [hx] at h; cases h
      | some r =>
       rw [hx] at h
       simp only [Option.map_some, Option.some.injEq, Prod.mk.injEq] at h
       obtain ⟨rfl, rfl, rfl⟩ := h
       obtain ⟨g1, g2⟩ := ihD _ _ _ _ _ _ _ _ hx hl
       refine ⟨g1, fun Q hQ => ?_⟩
       subst hdr
       have := W_draw (P := P) (n := n) (id := id) (l := ops.toList) (Q := Q) (s := stL l ob) hm _ _ _ (by simpa using hok) (g2 (Q .normal) hQ)
       simpa using this
     ·split at h
      ·rename_i hok
       simp only [Bool.and_eq_true, List.all_eq_true, Bool.not_eq_true'] at hok
       obtain ⟨⟨⟨a1, a2⟩, a3⟩, a4⟩ := hok
       obtain ⟨r, hx, hr⟩ := Option.map_eq_some_iff.1 h
       simp only [Prod.mk.injEq] at hr
       obtain ⟨rfl, rfl, rfl⟩ := hr
       have hall : ∀ t ∈ permsN ops (planA ops (ops.toList.map (·.dst)) (tkX b draw ops.toList) (planOf (tkX b draw ops.toList) ops)).2.1.length (planA ops (ops.toList.map (·.dst)) (tkX b draw ops.toList) (planOf (tkX b draw ops.toList) ops)).2.1, _ = _ :=
        fun t ht => allSame_spec hx _ (List.mem_map_of_mem ht)
       have hne : ∃ t, t ∈ permsN ops (planA ops (ops.toList.map (·.dst)) (tkX b draw ops.toList) (planOf (tkX b draw ops.toList) ops)).2.1.length (planA ops (ops.toList.map (·.dst)) (tkX b draw ops.toList) (planOf (tkX b draw ops.toList) ops)).2.1 := by
        cases hT : permsN ops (planA ops (ops.toList.map (·.dst)) (tkX b draw ops.toList) (planOf (tkX b draw ops.toList) ops)).2.1.length (planA ops (ops.toList.map (·.dst)) (tkX b draw ops.toList) (planOf (tkX b draw ops.toList) ops)).2.1 with
        | nil => rw [hT] at a4; simp at a4
        | cons t T => exact ⟨t, by simp⟩
       obtain ⟨t0, ht0⟩ := hne
       obtain ⟨g1, _⟩ := ihD _ _ _ _ _ _ _ _ (hall t0 ht0) hl
       refine ⟨g1, fun Q hQ => ?_⟩
       subst hdr
       have := W_drawA (P := P) (n := n) (id := id) (l := ops.toList) (Q := Q) (s := stL l ob) hm _ _ _ _ _ _ (by simpa using a1) (by simpa using a2) (fun t ht => List.isPerm_iff.1 (a3 t ht)) fun t ht => (ihD _ _ _ _ _ _ _ _ (hall t ht) hl).2 _ (Fin.id hQ)
       simpa using this
      ·cases h
    ·rename_i hdr
     have hdr : draw = false := by simpa using hdr
     subst hdr
     cases hx : xOps P env fl k n (ops.toList.map (·.dst)) (tkX b false ops.toList) ops.toList l ob with
     | none => rw [hx] at h; cases h
     | some r =>
      rw [hx] at h
      simp only [Option.map_some, Option.some.injEq, Prod.mk.injEq] at h
      obtain ⟨rfl, rfl, rfl⟩ := h
      obtain ⟨g1, g2⟩ := ihO _ _ _ _ _ _ _ _ hx hl
      refine ⟨g1, fun Q hQ => ?_⟩
      have := W_region (P := P) (n := n) (id := id) (l := ops.toList) (g2 Q hQ)
      simpa using this
   | _ => simp [xCode] at h
  ·intro n gd tk ops l ob l' ob' h hl
   cases ops with
   | nil => simp only [xOps, Option.some.injEq, Prod.mk.injEq] at h; obtain ⟨rfl, rfl⟩ := h; exact ⟨hl, fun Q hQ => RL_nil hQ⟩
   | cons o r =>
    simp only [xOps] at h
    split at h
    ·cases h
    ·rename_i hw
     split at h
     ·rename_i hd
      obtain ⟨g1, g2⟩ := ihO _ _ _ _ _ _ _ _ h (by rw [setD_length]; exact hl)
      exact ⟨g1, fun Q hQ => RL_pass hw hl hd (g2 Q hQ)⟩
     ·cases h
    ·rename_i hw
     split at h
     ·split at h
      ·rename_i f ac hcal
       split at h
       ·rename_i v ob1 hk
        first | rw [fzL_eq] at h | rw [fz_eq] at h
        obtain ⟨q1, q2⟩ := ihK _ _ _ _ _ hk
        obtain ⟨g1, g2⟩ := ihO _ _ _ _ _ _ _ _ h (by rw [setD_length]; exact hl)
        obtain ⟨_, _, _, _, _, _, _, _, _, hd, _⟩ := calleeX_spec hcal
        exact ⟨g1, fun Q hQ => RL_want hw hd (calleeX_op hcal hl q1 q2 (g2 Q hQ))⟩
       ·cases h
      ·cases h
     ·split at h
      ·rename_i v hs
       rw [fz_eq] at h
       obtain ⟨x, hx, hok1, hok2, rfl⟩ := fastX_spec hs
       obtain ⟨g1, g2⟩ := ihO _ _ _ _ _ _ _ _ h (by rw [setD_length]; exact hl)
       exact ⟨g1, fun Q hQ => RL_want hw hok2 (OpW_slot hx hok1 hok2 (by rw [stL_put (by rw [hl]; exact hok2)]; exact g2 Q hQ))⟩
      ·split at h
       ·rename_i l1 ob1 hs
        first | rw [fzL_eq] at h | rw [fz_eq] at h
        have hd : dstOk n o.dst = true := by
         unfold stepX at hs
         split at hs
         ·rename_i hc; simp only [Bool.and_eq_true] at hc; exact hc.1.2
         ·cases hs
        obtain ⟨e1, e2, _⟩ := stepX_spec hs hl
        obtain ⟨g1, g2⟩ := ihO _ _ _ _ _ _ _ _ h e2
        exact ⟨g1, fun Q hQ => RL_want hw hd (OpW_step tk e1 (g2 Q hQ))⟩
       ·cases h
  ·intro n gd tk ops l ob l' ob' h hl
   cases ops with
   | nil => simp only [xDraw, Option.some.injEq, Prod.mk.injEq] at h; obtain ⟨rfl, rfl⟩ := h; exact ⟨hl, fun K hK => hK⟩
   | cons o r =>
    simp only [xDraw] at h
    split at h
    ·rename_i hq
     split at h
     ·cases h
     ·rename_i hw
      split at h
      ·rename_i hd
       simp only [Bool.and_eq_true] at hd
       obtain ⟨g1, g2⟩ := ihD _ _ _ _ _ _ _ _ h (by rw [setD_length]; exact hl)
       refine ⟨g1, fun K hK => ?_⟩
       simp only [D, hq, if_true]
       refine ⟨.gd false .any, ⟨hd.1, ?_⟩, by rw [stL_put (by rw [hl]; exact hd.1)]; exact g2 K hK⟩
       rcases wantX_spec (ob := ob) hw with ⟨hg, h0⟩ | ⟨j, want, t, h0, x, hg, hj, hx, hc⟩
       ·cases h0
       ·rw [hg]
        exact ⟨t, h0, x, hj, hx, .inr ⟨[], .any, (fun e => by rw [hc] at e; cases e), rfl, by rw [hc]⟩⟩
      ·cases h
     ·rename_i hw
      split at h
      ·split at h
       ·rename_i f ac hcal
        split at h
        ·rename_i v ob1 hk
         split at h
         ·rename_i hq2
          simp only [Bool.and_eq_true] at hq2
          first | rw [fzL_eq] at h | rw [fz_eq] at h
          obtain ⟨q1, q2⟩ := ihK _ _ _ _ _ hk
          have hob := eqbO_eq _ _ hq2.1
          subst hob
          obtain ⟨g1, g2⟩ := ihD _ _ _ _ _ _ _ _ h (by rw [setD_length]; exact hl)
          obtain ⟨c, x, caps, e1, e2, e3, e4, e5, e6, hd, rfl⟩ := calleeX_spec hcal
          have ht : ((c.args.toList.map fun x => (ung true (opd (stL l ob1).t x)).dat) ++ caps.map AV.dat).take c.args.size = c.args.toList.map fun x => (ung true (opd (stL l ob1).t x)).dat := by
           rw [List.take_append_of_le_length (by simp), List.take_of_length_le (by simp)]
          obtain ⟨a1, a2⟩ := argVals_plain (stL l ob1).t c.args.toList
          have hcd : CallD P n o (stL l ob1) ((c.args.toList.map fun x => (ung true (opd (stL l ob1).t x)).dat) ++ caps.map AV.dat) v := by
           refine ⟨⟨c, x, f, caps, List.range ob1.length, ob1, e1, e2, e3, e4, by simp, Hand.all e5, ?_, by rw [List.length_range]; exact e6, q1⟩, hd, hq2.2⟩
           rw [ht, a1]
           have : (((c.args.toList.map fun x => (ung true (opd (stL l ob1).t x)).dat) ++ caps.map AV.dat).map (AV.ren fun j => (List.range ob1.length).getD j 0)) = (c.args.toList.map fun x => (ung true (opd (stL l ob1).t x)).dat) ++ caps.map AV.dat := by
            conv => rhs; rw [← List.map_id ((c.args.toList.map fun x => (ung true (opd (stL l ob1).t x)).dat) ++ caps.map AV.dat)]
            rw [List.all_eq_true] at e6
            exact List.map_congr_left fun a ha => ren_range a (e6 a ha)
           rw [this]
           exact LeA.refl _
          have hown : ((c.args.toList.map fun x => (ung true (opd (stL l ob1).t x)).dat) ++ caps.map AV.dat).all (fun c => !c.isOwn) = true := by
           simp only [List.all_append, List.all_map, Bool.and_eq_true, List.all_eq_true, Function.comp, AV.dat_isOwn, Bool.not_false, implies_true, and_self]
          refine ⟨g1, fun K hK => ?_⟩
          simp only [D, hq, if_true]
          refine ⟨if o.guard.isSome then .gd true v else v, ⟨hd, ?_⟩, by rw [stL_put (by rw [hl]; exact hd)]; exact g2 K hK⟩
          rcases wantX_spec (ob := ob1) hw with ⟨hg, h0⟩ | ⟨j, want, t, h0, x, hg, hj, hx, hc⟩
          ·rw [hg]; exact .inr ⟨_, hcd, hown⟩
          ·rw [hg]
           exact ⟨t, h0, x, hj, hx, .inr ⟨_, v, fun _ => hcd, hown, by rw [hc]; rfl⟩⟩
         ·cases h
        ·cases h
       ·cases h
      ·split at h
       ·rename_i x hx
        split at h
        ·rename_i hok
         simp only [Bool.and_eq_true] at hok
         first | rw [fzL_eq] at h | rw [fz_eq] at h
         obtain ⟨g1, g2⟩ := ihD _ _ _ _ _ _ _ _ h (by rw [setD_length]; exact hl)
         refine ⟨g1, fun K hK => ?_⟩
         simp only [D, hq, if_true]
         refine ⟨if o.guard.isSome then .gd true x.v else x.v, ⟨hok.2, ?_⟩, by rw [stL_put (by rw [hl]; exact hok.2)]; exact g2 K hK⟩
         rcases wantX_spec (ob := ob) hw with ⟨hg, h0⟩ | ⟨j, want, t, h0, y, hg, hj, hy, hc⟩
         ·rw [hg]; exact .inl ⟨x, hx, hok.1, rfl⟩
         ·rw [hg]
          exact ⟨t, h0, y, hj, hy, .inl ⟨x, by rw [hc]; exact hx, fun _ => hok.1, by rw [hc]; rfl⟩⟩
        ·cases h
       ·cases h
    ·rename_i hq
     split at h
     ·cases h
     ·rename_i hgd
      have hg : o.guard = none := by cases hh : o.guard with | none => rfl | some _ => rw [hh] at hgd; simp at hgd
      split at h
      ·rename_i hic
       split at h
       ·rename_i f ac hcal
        split at h
        ·rename_i v ob1 hk
         first | rw [fzL_eq] at h | rw [fz_eq] at h
         obtain ⟨q1, q2⟩ := ihK _ _ _ _ _ hk
         obtain ⟨g1, g2⟩ := ihD _ _ _ _ _ _ _ _ h (by rw [setD_length]; exact hl)
         refine ⟨g1, fun K hK => ?_⟩
         simp only [D, hq, hic, if_true, if_false, Bool.false_eq_true]
         exact ⟨hg, calleeX_op hcal hl q1 q2 (g2 K hK)⟩
        ·cases h
       ·cases h
      ·rename_i hic
       split at h
       ·rename_i l1 ob1 hs
        first | rw [fzL_eq] at h | rw [fz_eq] at h
        obtain ⟨e1, e2, _⟩ := stepX_spec hs hl
        obtain ⟨g1, g2⟩ := ihD _ _ _ _ _ _ _ _ h e2
        refine ⟨g1, fun K hK => ?_⟩
        simp only [D, hq, hic, if_true, if_false, Bool.false_eq_true]
        exact ⟨hg, _, e1, g2 K hK⟩
       ·cases h
  ·intro f ac oc r o' h
   simp only [xCall] at h
   split at h
   ·rename_i x hx
    obtain rfl := Option.some.inj h
    exact henv _ _ _ _ _ hx
   ·split at h
    ·cases h
    ·rename_i fn hf
     split at h
     ·cases h
     ·rename_i c hb
      split at h
      ·rename_i hcond
       simp only [Bool.and_eq_true, decide_eq_true_eq] at hcond
       split at h
       ·rename_i e l o1 hx
        obtain ⟨g1, g2⟩ := ihC _ _ _ _ _ _ _ _ hx (by simp; omega)
        have hs0 : (⟨fun k => ac.getD k .any, oc⟩ : St) = stL (ac ++ List.replicate (fn.ntmps - ac.length) .any) oc := by
         simp only [stL, St.mk.injEq, and_true]
         funext k
         simp only [List.getD_eq_getElem?_getD, List.getElem?_append]
         split
         ·rfl
         ·rename_i hk
          rw [List.getElem?_eq_none (by omega), List.getElem?_replicate]
          split <;> rfl
        have fin : ∀ (r1 : AV) (k1 : Nat), e ≠ .exit 0 → (∀ id, e ≠ .exit id) → resAV P fn.results.toList (stL l o1) = some r1 → oc.length ≤ k1 → k1 ≤ o1.length → ((o1.take k1).all (Ob.ltk k1) = true) → r1.ltk k1 = true →
          ACalls P f ac oc (fun r' o'' => r' = r1 ∧ o'' = o1.take k1) := by
         intro r1 k1 _ hne h1 h2 h3 h4 h5
         refine ACalls_of hf hb hcond.1 hcond.2 ?_
         rw [hs0]
         refine g2 _ ?_
         cases e with
         | exit id => exact absurd rfl (hne id)
         | normal => exact ⟨r1, r1, k1, h1, .refl _, h2, h3, h4, h5, rfl, rfl⟩
         | ret => exact ⟨r1, r1, k1, h1, .refl _, h2, h3, h4, h5, rfl, rfl⟩
        split at h
        ·cases h
        ·rename_i hne
         have hne' : ∀ id, e ≠ .exit id := fun id he => hne id he
         split at h
         ·cases h
         ·rename_i r1 hr1
          split at h
          ·rename_i hlen
           simp only [decide_eq_true_eq] at hlen
           split at h
           ·rename_i hk
            simp only [Bool.and_eq_true] at hk
            simp only [Option.some.injEq, Prod.mk.injEq] at h
            obtain ⟨rfl, rfl⟩ := h
            exact ⟨fin _ _ (hne' 0) hne' hr1 (Nat.le_refl _) hlen hk.2 hk.1, by rw [List.length_take]; omega⟩
           ·split at h
            ·rename_i hk
             simp only [Bool.and_eq_true] at hk
             simp only [Option.some.injEq, Prod.mk.injEq] at h
             obtain ⟨rfl, rfl⟩ := h
             have := fin _ o1.length (hne' 0) hne' hr1 hlen (Nat.le_refl _) (by rw [List.take_length]; exact hk.2) hk.1
             rw [List.take_length] at this
             exact ⟨this, hlen⟩
            ·cases h
          ·cases h
       ·cases h
      ·cases h
end
end Go.AW
namespace Go.AW
open Go
set_option linter.unusedSimpArgs false
set_option linter.unusedVariables false
def cellsAV {H : Type} (P : Program) : Nat → TypeId → DataW H → List AV
 | 0, _, _ => []
 | k + 1, t, d =>
  match P.underlying t, d with
  | some .bool, .lit (.bool b) => [.b b]
  | some (.int kd), .lit (.int _ n) => [.i kd n]
  | some .string, .lit (.string l) => [.s ⟨l.toArray⟩]
  | some (.slice e), .nil => [.sl (szOf P e) []]
  | some (.slice e), .slice elems _ => [.sl (szOf P e) (elems.map fun x => cellsAV P k e x)]
  | some (.struct fs), .agg parts => (fs.toList.zip parts).flatMap fun x => cellsAV P k x.1.type x.2
  | _, _ => []
def laidF (P : Program) : Nat → List Field → Option Nat
 | off, [] => some off
 | off, f :: r => if f.offset = off then laidF P (off + P.cellsOf f.type) r else none
def plainT (P : Program) : Nat → TypeId → Bool
 | 0, _ => true
 | k + 1, t =>
  match P.underlying t with
  | some .bool | some (.int _) | some .string => decide (P.cellsOf t = 1)
  | some (.slice e) => decide (P.cellsOf t = 1) && decide (0 < P.cellsOf e) && plainT P k e
  | some (.struct fs) => fs.toList.all (fun f => plainT P k f.type) && decide (laidF P 0 fs.toList = some (P.cellsOf t))
  | _ => false
section
variable {H : Type} {P : Program} {w : World}
theorem mapM_some {α β : Type} {f : α → Option β} : ∀ {l : List α} {r : List β}, l.mapM f = some r → l.length = r.length ∧ ∀ (i : Nat) a, l[i]? = some a → ∃ b, r[i]? = some b ∧ f a = some b
 | [], r, h => by simp at h; subst h; exact ⟨rfl, fun i a h => by simp at h⟩
 | x :: l, r, h => by
  rw [List.mapM_cons] at h
  cases hx : f x with
  | none => rw [hx] at h; simp at h
  | some y =>
   cases hl : l.mapM f with
   | none => rw [hx, hl] at h; simp at h
   | some r' =>
    rw [hx, hl] at h
    simp at h
    subst h
    obtain ⟨h1, h2⟩ := mapM_some hl
    refine ⟨by simp [h1], fun i a ha => ?_⟩
    cases i with
    | zero => simp only [List.getElem?_cons_zero, Option.some.injEq] at ha; subst ha; exact ⟨y, rfl, hx⟩
    | succ i => simp only [List.getElem?_cons_succ] at ha ⊢; exact h2 i a ha
theorem Vs.append {Y : CS} {m : List MB} : ∀ {a b : List AV} {x y : List Value}, Vs w Y m a x → Vs w Y m b y → Vs w Y m (a ++ b) (x ++ y)
 | [], _, _, _, h, k => by simp only [Vs] at h; subst h; simpa using k
 | _ :: a, b, x, y, h, k => by
  simp only [Vs, List.cons_append] at h ⊢
  obtain ⟨v, t, rfl, h1, h2⟩ := h
  exact ⟨v, t ++ y, rfl, h1, Vs.append h2 k⟩
def YN : CS := fun _ _ => False
theorem Cs_of {blk : Nat} : ∀ {row : List AV} {vs : List Value} {off : Nat}, Vs w YN [] row vs → (∀ v ∈ vs, Value.flat v = true) → (∀ (i : Nat) v, vs[i]? = some v → w.cell? ⟨blk, off + i, none⟩ = some v) → Cs w YN blk off row
 | [], vs, off, _, _, _ => by simp only [Cs]
 | c :: row, vs, off, h, hf, hc => by
  simp only [Vs] at h
  obtain ⟨v, t, rfl, h1, h2⟩ := h
  simp only [Cs]
  refine ⟨⟨v, by simpa using hc 0 v rfl, fun h => h, hf v (by simp), h1⟩, Cs_of h2 (fun x hx => hf x (by simp [hx])) fun i x hx => ?_⟩
  have := hc (i + 1) x (by simpa using hx)
  rwa [show off + (i + 1) = off + 1 + i by omega] at this
theorem Rs_of {sz blk : Nat} : ∀ {rows : List (List AV)} {off : Nat}, (∀ (i : Nat) row, rows[i]? = some row → row.length = sz ∧ Cs w YN blk (off + i * sz) row) → Rs w YN sz blk off rows
 | [], _, _ => by simp only [Rs]
 | r :: rows, off, h => by
  simp only [Rs]
  obtain ⟨h1, h2⟩ := h 0 r rfl
  refine ⟨h1, by simpa using h2, Rs_of fun i row hr => ?_⟩
  have := h (i + 1) row (by simpa using hr)
  rwa [show off + (i + 1) * sz = off + sz + i * sz by rw [Nat.add_mul]; omega] at this
theorem cells_get {base n : Nat} {a : Addr} {cs : List Value} (h : w.cells? base a n = some cs) : cs.length = n ∧ ∀ (i : Nat) v, cs[i]? = some v → w.cell? (a.add i) = some v := by
 unfold World.cells? at h
 split at h
 ·obtain ⟨h1, h2⟩ := mapM_some h
  simp only [List.length_range] at h1
  refine ⟨h1.symm, fun i v hv => ?_⟩
  have hi : i < n := by rw [h1]; exact (List.getElem?_eq_some_iff.1 hv).1
  obtain ⟨b, e1, e2⟩ := h2 i i (List.getElem?_range hi)
  rw [hv] at e1
  obtain rfl := Option.some.inj e1
  exact e2
 ·cases h
theorem cell_spot {a : Addr} {v : Value} (h : w.cell? a = some v) : a.spot = none := by
 unfold World.cell? at h
 split at h
 ·cases hs : a.spot with
  | none => rfl
  | some x => rw [hs] at h; simp at h
 ·cases h
theorem addr_add' (a : Addr) (n : Nat) (h : a.spot = none) : a.add n = ⟨a.block, a.off + n, none⟩ := by
 obtain ⟨b, o, s⟩ := a
 simp only at h
 subst h
 exact addr_add b o n
theorem add_zero' (a : Addr) : a.add 0 = a := by
 unfold Addr.add
 split <;> first | rfl | simp_all
theorem trod_Vs (enc : TypeId × Value → H) {base : Nat} {spare : Nat → Bool} {held : Bool} : ∀ (k : Nat) (t : TypeId) (cs : List Value) (d : DataW H) (ps : List MemPlace), plainT P k t = true →
  DataW.trod enc P w base spare held k t cs = some (d, ps) → Vs w YN [] (cellsAV P k t d) cs ∧ ∀ v ∈ cs, Value.flat v = true
 | 0, t, cs, d, ps, _, h => by simp [DataW.trod] at h
 | k + 1, t, cs, d, ps, hp, h => by
  unfold plainT at hp
  unfold DataW.trod at h
  unfold cellsAV
  cases hu : P.underlying t with
  | none => rw [hu] at hp; simp at hp
  | some u =>
   rw [hu] at hp h
   cases u with
   | bool =>
    rcases cs with _ | ⟨v, _ | ⟨v2, r⟩⟩
    ·simp at h
    ·cases v <;> simp at h
     obtain ⟨rfl, _⟩ := h
     exact ⟨by simp [Vs, V], by simp [Value.flat]⟩
    ·simp at h
   | int kd =>
    rcases cs with _ | ⟨v, _ | ⟨v2, r⟩⟩
    ·simp at h
    ·cases v <;> simp at h
     obtain ⟨⟨rfl, _⟩, rfl, _⟩ := h
     exact ⟨by simp [Vs, V], by simp [Value.flat]⟩
    ·simp at h
   | string =>
    rcases cs with _ | ⟨v, _ | ⟨v2, r⟩⟩
    ·simp at h
    ·cases v <;> simp at h
     obtain ⟨_, rfl, _⟩ := h
     exact ⟨by simp [Vs, V], by simp [Value.flat]⟩
    ·simp at h
   | slice e =>
    simp only [Bool.and_eq_true, decide_eq_true_eq] at hp
    obtain ⟨⟨hp1, hp2⟩, hp3⟩ := hp
    rcases cs with _ | ⟨v, _ | ⟨v2, r⟩⟩
    ·simp at h
    ·cases v with
     | slice a len cap =>
      cases a with
      | none =>
       cases len <;> cases cap <;> simp at h
       obtain ⟨rfl, _⟩ := h
       refine ⟨?_, by simp [Value.flat]⟩
       simp only [Vs, V]
       exact ⟨_, [], rfl, ⟨none, 0, rfl, Nat.le_refl _, Nat.zero_le _, .inl trivial⟩, rfl⟩
      | some a =>
       simp only at h
       split at h
       ·rename_i hc
        obtain ⟨hc1, hc2, hc3⟩ := hc
        cases he : (List.range len).mapM (fun i => (w.cells? base (a.add (i * P.cellsOf e)) (P.cellsOf e)).bind (DataW.trod enc P w base spare held k e)) with
        | none => rw [he] at h; simp at h
        | some elems =>
         rw [he] at h
         simp only [Option.bind_some] at h
         obtain ⟨hl, hel⟩ := mapM_some he
         simp only [List.length_range] at hl
         have hd : ∃ sp, d = .slice (elems.map (·.1)) sp := by
          revert h
          split
          ·cases (List.range (cap - len)).mapM (fun j => (w.cells? base (a.add ((len + j) * P.cellsOf e)) (P.cellsOf e)).bind (DataW.trod enc P w base spare held k e)) with
           | none => intro h; simp at h
           | some rest => intro h; simp at h; exact ⟨_, h.1.symm⟩
          ·intro h; simp at h; exact ⟨_, h.1.symm⟩
         obtain ⟨sp, rfl⟩ := hd
         refine ⟨?_, by simp [Value.flat]⟩
         simp only [Vs, V]
         refine ⟨_, [], rfl, ⟨some a, cap, ?_, ?_, hc3, ?_⟩, rfl⟩
         ·simp [← hl]
         ·simpa [← hl] using hc2
         ·by_cases hz : len = 0
          ·left
           have : elems = [] := List.eq_nil_of_length_eq_zero (by omega)
           simp [this]
          ·right
           have hrow : ∀ (i : Nat) x, elems[i]? = some x → ∃ cells, w.cells? base (a.add (i * P.cellsOf e)) (P.cellsOf e) = some cells ∧ DataW.trod enc P w base spare held k e cells = some x := by
            intro i x hx
            have hi : i < len := by rw [hl]; exact (List.getElem?_eq_some_iff.1 hx).1
            obtain ⟨b, e1, e2⟩ := hel i i (List.getElem?_range hi)
            rw [hx] at e1
            obtain rfl := Option.some.inj e1
            cases hcl : w.cells? base (a.add (i * P.cellsOf e)) (P.cellsOf e) with
            | none => rw [hcl] at e2; simp at e2
            | some cells => rw [hcl] at e2; exact ⟨cells, rfl, by simpa using e2⟩
           have hsp : a.spot = none := by
            have h0 : 0 < elems.length := by omega
            obtain ⟨cells, c1, c2⟩ := hrow 0 elems[0] (List.getElem?_eq_getElem h0)
            obtain ⟨d1, d2⟩ := cells_get c1
            have h1 : 0 < cells.length := by omega
            have := cell_spot (d2 0 _ (List.getElem?_eq_getElem h1))
            rwa [Nat.zero_mul, add_zero', add_zero'] at this
           refine ⟨a.block, a.off, by obtain ⟨b, o, sp'⟩ := a; simp only at hsp; subst hsp; rfl, Rs_of fun i row hr => ?_⟩
           simp only [List.getElem?_map] at hr
           cases hx : elems[i]? with
           | none => rw [hx] at hr; simp at hr
           | some x =>
            rw [hx] at hr
            simp only [Option.map_some, Option.some.injEq] at hr
            subst hr
            obtain ⟨cells, c1, c2⟩ := hrow i x hx
            obtain ⟨d1, d2⟩ := cells_get c1
            obtain ⟨v1, v2⟩ := trod_Vs enc k e cells x.1 x.2 hp3 c2
            refine ⟨by rw [Vs.length v1, d1], Cs_of v1 v2 fun j y hy => ?_⟩
            have := d2 j y hy
            have hb : (a.add (i * P.cellsOf e)) = ⟨a.block, a.off + i * P.cellsOf e, none⟩ := addr_add' a _ hsp
            rw [hb, addr_add] at this
            exact this
       ·cases h
     | _ => simp at h
    ·simp at h
   | struct fs =>
    simp only [Bool.and_eq_true, decide_eq_true_eq, List.all_eq_true] at hp
    obtain ⟨hp1, hp2⟩ := hp
    simp only at h
    split at h
    ·rename_i hlen
     cases hm : fs.toList.mapM (fun f => DataW.trod enc P w base spare held k f.type ((cs.drop f.offset).take (P.cellsOf f.type))) with
     | none => rw [hm] at h; simp at h
     | some xs =>
      rw [hm] at h
      simp only [Option.map_some, Option.some.injEq, Prod.mk.injEq] at h
      obtain ⟨rfl, _⟩ := h
      simp only
      have key : ∀ (l : List Field) (off : Nat) (xs : List (DataW H × List MemPlace)), (∀ f ∈ l, plainT P k f.type = true) → laidF P off l = some cs.length →
        l.mapM (fun f => DataW.trod enc P w base spare held k f.type ((cs.drop f.offset).take (P.cellsOf f.type))) = some xs →
        Vs w YN [] ((l.zip (xs.map (·.1))).flatMap fun x => cellsAV P k x.1.type x.2) (cs.drop off) ∧ ∀ v ∈ cs.drop off, Value.flat v = true := by
       intro l
       induction l with
       | nil =>
        intro off xs _ h2 h3
        simp only [laidF, Option.some.injEq] at h2
        rw [List.drop_of_length_le (by omega)]
        exact ⟨by simp [Vs], by simp⟩
       | cons f l ih =>
        intro off xs h1 h2 h3
        simp only [laidF] at h2
        split at h2
        ·rename_i ho
         rw [List.mapM_cons] at h3
         cases hx : DataW.trod enc P w base spare held k f.type ((cs.drop f.offset).take (P.cellsOf f.type)) with
         | none => rw [hx] at h3; simp at h3
         | some x =>
          cases hr : l.mapM (fun f => DataW.trod enc P w base spare held k f.type ((cs.drop f.offset).take (P.cellsOf f.type))) with
          | none => rw [hx, hr] at h3; simp at h3
          | some xs' =>
           rw [hx, hr] at h3
           simp at h3
           subst h3
           obtain ⟨v1, v2⟩ := ih _ xs' (fun g hg => h1 g (by simp [hg])) h2 hr
           obtain ⟨u1, u2⟩ := trod_Vs enc k f.type _ x.1 x.2 (h1 f (by simp)) hx
           have hsplit : cs.drop off = (cs.drop f.offset).take (P.cellsOf f.type) ++ cs.drop (off + P.cellsOf f.type) := by
            rw [ho, ← List.drop_drop]; exact (List.take_append_drop _ _).symm
           rw [hsplit]
           refine ⟨?_, fun v hv => ?_⟩
           ·simp only [List.map_cons, List.zip_cons_cons, List.flatMap_cons]
            exact Vs.append u1 v1
           ·rcases List.mem_append.1 hv with hv | hv
            ·exact u2 v hv
            ·exact v2 v hv
        ·cases h2
      have := key fs.toList 0 xs hp1 (by rw [hlen]; exact hp2) hm
      simpa using this
    ·cases h
   | _ => simp at hp
end
end Go.AW
namespace Go.AW
open Go Go.RowKit
set_option linter.unusedSimpArgs false
set_option linter.unusedVariables false
theorem Rel.begin {w : World} {t : Nat → AV} {u : Nat → Value} (h : ∀ k, V w YN [] (t k) (u k)) (ho : ∀ k, (t k).isOwn = false) : Rel w YN [] (fun _ => none) t u [] := by
 have hX : ∀ b x, ¬ XS ([] : List MB) (fun _ => none) [] b x := by
  rintro b x (⟨id, ob, mb, h1, _⟩ | ⟨p, r, h1, _⟩)
  ·simp at h1
  ·cases h1
 have hY : ∀ b x, YS YN [] (fun _ => none) [] b x → YN b x := fun b x k => k.elim (fun k => (hX b x k).elim) (fun k => k)
 refine ⟨rfl, fun k => V.keep (Keeps.sub [] hY) _ _ (h k), fun id x mb h1 => by simp at h1, fun i j x y a b h1 => by simp at h1, fun p r h => (by cases h), fun p r id x mb h => (by cases h), fun p q r s _ h => (by cases h), ?_, fun b x h => h.elim, fun b x h => h.elim⟩
 intro p sz rows v hl hv
 cases p with
 | t k =>
  simp only [leaf, Option.some.injEq] at hl
  have := ho k
  rw [hl] at this; cases this
 | o id r c => simp [leaf] at hl
theorem calls_of_data {P : Program} {f : FuncId} {ac : List AV} {r : AV} (h : ACallsD P f ac r) (ho : ac.all (fun c => !c.isOwn) = true) {w : World} {vs : List Value} (hv : Vs w YN [] ac vs) :
  Calls P f vs.toArray w fun e w' => ∃ v, e = .returned v ∧ V w' YN [] r v ∧ Below w.heap.size w w' := by
 have hX : ∀ b x, ¬ XS ([] : List MB) (fun _ => none) [] b x := by
  rintro b x (⟨id, ob, mb, h1, _⟩ | ⟨p, r, h1, _⟩)
  ·simp at h1
  ·cases h1
 have hlen := Vs.length hv
 have hget : ∀ {l : List AV} {us : List Value}, Vs w YN [] l us → ∀ k, V w YN [] (l.getD k .any) (us.getD k undef) := by
  intro l
  induction l with
  | nil => intro us _ k; simp [V]
  | cons a l ih =>
   intro us hu k
   simp only [Vs] at hu
   obtain ⟨v, t, rfl, h1, h2⟩ := hu
   cases k with
   | zero => simpa using h1
   | succ k => simpa using ih h2 k
 have hrel := Rel.begin (w := w) (t := fun k => ac.getD k .any) (u := fun k => vs.getD k undef) (hget hv) (fun k => by
  rw [List.all_eq_true] at ho
  cases hk : ac[k]? with
  | none => simp [List.getD_eq_getElem?_getD, hk, AV.isOwn]
  | some a => simpa [List.getD_eq_getElem?_getD, hk] using ho a (List.mem_of_getElem? hk))
 refine Calls.mono (h.2 w YN [] (fun _ => none) vs hlen.symm hrel) ?_
 rintro e w' ⟨v, r', o', m', reg', rfl, ⟨rfl, rfl⟩, h1, h2, h3, h4⟩
 refine ⟨v, rfl, ?_, ⟨h2.os, h2.tape, h2.output, h2.size, fun k hk => h2.block k hk fun x hx => hX k x hx⟩⟩
 have := h1.tv 0
 simp only [if_true] at this
 have hm : m' = [] := List.eq_nil_of_length_eq_zero (by rw [h1.len]; rfl)
 subst hm
 exact V.keep (Keeps.sub [] fun b x k => (k : False).elim) _ _ this
end Go.AW
namespace Go.AW
open Go
set_option linter.unusedSimpArgs false
set_option linter.unusedVariables false
section
variable {H : Type} {P : Program} {w : World}
theorem read_slice {enc : TypeId × Value → H} {base : Nat} {spare : Nat → Bool} {held : Bool} {k : Nat} {t e : TypeId} {cs : List Value} {d : DataW H} {ps : List MemPlace} (hu : P.underlying t = some (.slice e))
  (h : DataW.trod enc P w base spare held (k + 1) t cs = some (d, ps)) :
  ∃ elems : List (DataW H), cellsAV P (k + 1) t d = [.sl (szOf P e) (elems.map fun x => cellsAV P k e x)] ∧ (d = .nil ∧ elems = [] ∨ ∃ sp, d = .slice elems sp) ∧
   ∀ x ∈ elems, ∃ cells q, DataW.trod enc P w base spare held k e cells = some (x, q) := by
 unfold DataW.trod at h
 rw [hu] at h
 rcases cs with _ | ⟨v, _ | ⟨v2, r⟩⟩
 ·simp at h
 ·cases v with
  | slice a len cap =>
   cases a with
   | none =>
    cases len <;> cases cap <;> simp at h
    obtain ⟨rfl, _⟩ := h
    exact ⟨[], by simp only [cellsAV, hu, List.map_nil], .inl ⟨rfl, rfl⟩, by simp⟩
   | some a =>
    simp only at h
    split at h
    ·cases he : (List.range len).mapM (fun i => (w.cells? base (a.add (i * P.cellsOf e)) (P.cellsOf e)).bind (DataW.trod enc P w base spare held k e)) with
     | none => rw [he] at h; simp at h
     | some elems =>
      rw [he] at h
      simp only [Option.bind_some] at h
      obtain ⟨hl, hel⟩ := mapM_some he
      simp only [List.length_range] at hl
      have hd : ∃ sp, d = .slice (elems.map (·.1)) sp := by
       revert h
       split
       ·cases (List.range (cap - len)).mapM (fun j => (w.cells? base (a.add ((len + j) * P.cellsOf e)) (P.cellsOf e)).bind (DataW.trod enc P w base spare held k e)) with
        | none => intro h; simp at h
        | some rest => intro h; simp at h; exact ⟨_, h.1.symm⟩
       ·intro h; simp at h; exact ⟨_, h.1.symm⟩
      obtain ⟨sp, rfl⟩ := hd
      refine ⟨elems.map (·.1), by simp only [cellsAV, hu], .inr ⟨sp, rfl⟩, fun x hx => ?_⟩
      obtain ⟨y, hy, rfl⟩ := List.mem_map.1 hx
      obtain ⟨i, hi⟩ := List.mem_iff_getElem?.1 hy
      have hi' : i < len := by rw [hl]; exact (List.getElem?_eq_some_iff.1 hi).1
      obtain ⟨b, e1, e2⟩ := hel i i (List.getElem?_range hi')
      rw [hi] at e1
      obtain rfl := Option.some.inj e1
      cases hcl : w.cells? base (a.add (i * P.cellsOf e)) (P.cellsOf e) with
      | none => rw [hcl] at e2; simp at e2
      | some cells => rw [hcl] at e2; exact ⟨cells, y.2, by simpa using e2⟩
    ·cases h
  | _ => simp at h
 ·simp at h
theorem read_struct {enc : TypeId × Value → H} {base : Nat} {spare : Nat → Bool} {held : Bool} {k : Nat} {t : TypeId} {fs : Array Field} {cs : List Value} {d : DataW H} {ps : List MemPlace} (hu : P.underlying t = some (.struct fs))
  (h : DataW.trod enc P w base spare held (k + 1) t cs = some (d, ps)) :
  ∃ parts : List (DataW H), d = .agg parts ∧ cellsAV P (k + 1) t d = (fs.toList.zip parts).flatMap (fun x => cellsAV P k x.1.type x.2) ∧ parts.length = fs.toList.length ∧
   ∀ (i : Nat) f x, fs.toList[i]? = some f → parts[i]? = some x → ∃ cells q, DataW.trod enc P w base spare held k f.type cells = some (x, q) := by
 unfold DataW.trod at h
 rw [hu] at h
 simp only at h
 split at h
 ·cases hm : fs.toList.mapM (fun f => DataW.trod enc P w base spare held k f.type ((cs.drop f.offset).take (P.cellsOf f.type))) with
  | none => rw [hm] at h; simp at h
  | some xs =>
   rw [hm] at h
   simp only [Option.map_some, Option.some.injEq, Prod.mk.injEq] at h
   obtain ⟨rfl, _⟩ := h
   obtain ⟨h1, h2⟩ := mapM_some hm
   refine ⟨_, rfl, by simp only [cellsAV, hu], by simp [h1], fun i f x hf hx => ?_⟩
   obtain ⟨b, e1, e2⟩ := h2 i f hf
   simp only [List.getElem?_map, e1, Option.map_some, Option.some.injEq] at hx
   subst hx
   exact ⟨_, b.2, e2⟩
 ·cases h
end
end Go.AW
namespace Go.AW
open Go
attribute [go_sem] Nat.reduceLT Nat.reduceLeDiff Nat.reduceEqDiff Nat.reduceAdd Nat.reduceMul Nat.reduceBEq Nat.reduceBNe Int.reduceLT Int.reduceLE Int.reduceToNat Int.reduceBNe Int.reduceNeg reduceIte Int.toNat_natCast decide_eq_true_eq Int.natCast_nonneg Nat.zero_add Nat.add_zero true_or or_true or_false false_or
class Nav (p : Prop) (q : outParam Prop) : Prop where
 of : q → p
theorem nav {p q : Prop} [h : Nav p q] (x : q) : p := h.of x
section
variable {P : Program} {n : Nat} {Q : Exit → St → Prop} {s : St} {x y c : Code} {id m lo hi : Nat} {M : St → Prop} {I : Nat → St → Prop} {L : List Nat} {t0 : Nat → AV} {J : Nat → (Nat → AV) → List Ob → Prop} {J1 : (Nat → AV) → List Ob → Prop}
instance : Nav (W P n (.seq x y) Q s) (W P n x (seqQ P n y Q) s) := ⟨W_seq⟩
instance : Nav (W P n (.block id c) Q s) (W P n c (blockQ id Q) s) := ⟨W_block⟩
instance : Nav (W P n .skip Q s) (Q .normal s) := ⟨W_skip⟩
instance : Nav (W P n (.label m) Q s) (Q .normal s) := ⟨W_label⟩
instance : Nav (W P n .ret Q s) (Q .ret s) := ⟨W_ret⟩
instance : Nav (W P n (.exit id) Q s) (Q (.exit id) s) := ⟨W_exit⟩
instance : Nav (seqQ P n c Q .normal s) (W P n c Q s) := ⟨seqQ_normal⟩
instance : Nav (seqQ P n c Q .ret s) (Q .ret s) := ⟨seqQ_ret⟩
instance : Nav (seqQ P n c Q (.exit id) s) (Q (.exit id) s) := ⟨seqQ_exit⟩
instance : Nav (blockQ id Q .normal s) (Q .normal s) := ⟨blockQ_normal⟩
instance : Nav (blockQ id Q .ret s) (Q .ret s) := ⟨blockQ_ret⟩
instance : Nav (blockQ id Q (.exit id) s) (Q .normal s) := ⟨blockQ_same⟩
instance : Nav (thenQ M Q .normal s) (M s) := ⟨thenQ_normal⟩
instance : Nav (thenQ M Q .ret s) (Q .ret s) := ⟨thenQ_ret⟩
instance : Nav (thenQ M Q (.exit id) s) (Q (.exit id) s) := ⟨thenQ_exit⟩
instance : Nav (whileQ I m Q .ret s) (Q .ret s) := ⟨whileQ_ret⟩
instance : Nav (whileQ I m Q (.exit id) s) (Q (.exit id) s) := ⟨whileQ_exit⟩
instance : Nav (forQ lo hi L t0 J m Q .ret s) (Q .ret s) := ⟨forQ_ret⟩
instance : Nav (forQ lo hi L t0 J m Q (.exit id) s) (Q (.exit id) s) := ⟨forQ_exit⟩
instance : Nav (joinQ lo hi L t0 J1 Q .ret s) (Q .ret s) := ⟨joinQ_ret⟩
instance : Nav (joinQ lo hi L t0 J1 Q (.exit id) s) (Q (.exit id) s) := ⟨joinQ_exit⟩
end
theorem side {p : Prop} (h : p := by first | omega | assumption | (simp; done) | (simp only [Bool.or_eq_true, Bool.and_eq_true, Bool.not_eq_true', Bool.not_eq_false', Bool.and_eq_false_iff, Bool.or_eq_false_iff, decide_eq_true_eq, decide_eq_false_iff_not, Bool.not_eq_eq_eq_not, Bool.not_true, Bool.not_false] <;> omega) | (simp <;> omega)) : p := h
theorem bo {Q : Exit → St → Prop} {s : St} {id id' : Nat} (q : Q (.exit id') s) (h : id' ≠ id := by decide) : blockQ id Q (.exit id') s := blockQ_other h q
theorem wr {P : Program} {n : Nat} {Q : Exit → St → Prop} {s : St} {id : Nat} {l : List Oper} (h : ∀ (K : St → Prop) (R : List Oper → St → Prop),
   (∀ (s : St), Q Exit.normal s → K s) → (∀ (l' : List Oper) (s : St), RL P n (List.map (fun x => x.dst) l) l' Q s → R l' s) → runR P n (List.map (fun x => x.dst) l) [] R l K s) :
  W P n (Code.region id l.toArray false) Q s := W_reg [] h
theorem rr {P : Program} {n : Nat} {gd : List (Option Nat)} {Q : Exit → St → Prop} {s : St} {l : List Oper} (h : ∀ (K : St → Prop) (R : List Oper → St → Prop),
   (∀ (s : St), Q Exit.normal s → K s) → (∀ (l : List Oper) (s : St), RL P n gd l Q s → R l s) → runR P n gd [] R l K s) : RL P n gd l Q s := RL_reg [] h
end Go.AW
namespace Go.AW
open Go Go.Proofs TyTry Go.IntWalk
set_option linter.unusedSimpArgs false
set_option linter.unusedVariables false
set_option maxRecDepth 10000
def ints (l : List Int) : List (List AV) := l.map fun x => [.i .i64 x]
theorem ints_len (l : List Int) : (ints l).length = l.length := by simp [ints]
theorem ints_get {l : List Int} {i : Nat} {x : Int} (h : l[i]? = some x) : (ints l).getD i [] = [.i .i64 x] := by simp [ints, h]
attribute [go_sem] ints_len
def tups (l : List (List Int)) : List (List AV) := l.map fun x => [.sl 1 (ints x)]
theorem tups_len (l : List (List Int)) : (tups l).length = l.length := by simp [tups]
theorem tups_get {l : List (List Int)} {i : Nat} {x : List Int} (h : l[i]? = some x) : (tups l).getD i [] = [.sl 1 (ints x)] := by simp [tups, h]
attribute [go_sem] tups_len
structure RelD where
 name : ByteArray
 arity : Int
 tuples : List (List Int)
def RelD.cells (r : RelD) : List AV := [.s r.name, .i .i64 r.arity, .sl 1 (tups r.tuples)]
def rels (l : List RelD) : List (List AV) := l.map RelD.cells
theorem rels_len (l : List RelD) : (rels l).length = l.length := by simp [rels]
theorem rels_get {l : List RelD} {i : Nat} {x : RelD} (h : l[i]? = some x) : (rels l).getD i [] = [.s x.name, .i .i64 x.arity, .sl 1 (tups x.tuples)] := by simp [rels, h, RelD.cells]
theorem rels_take (l : List RelD) (k : Nat) : (rels l).take k = rels (l.take k) := by simp [rels, List.map_take]
attribute [go_sem] rels_len
structure StrD where
 size : Int
 rels : List RelD
def StrD.cells (s : StrD) : List AV := [.i .i64 s.size, .sl 3 (AW.rels s.rels)]
theorem ltks_all (k : Nat) : ∀ l : List AV, AV.ltks k l = l.all (AV.ltk k)
 | [] => rfl
 | a :: l => by simp [AV.ltks, ltks_all k l]
theorem drop_cons {α : Type} {l : List α} {k : Nat} {x : α} (h : l[k]? = some x) : l.drop k = x :: l.drop (k + 1) := by
 obtain ⟨hb, rfl⟩ := List.getElem?_eq_some_iff.1 h
 exact List.drop_eq_getElem_cons hb
theorem elements1_spec {oc : List Ob} (ho : okO oc = true) {i : Nat} {n : Int} (hi : oc[i]? = some (.cells 1 [[.i .i64 n]])) (x : Int) :
  ACallsQ Try.prog 101 [.i .i64 x, .ptr i 0 0] oc (.b (decide (x < 0) || decide (x ≥ n))) := by
 refine ACalls_of' (n := 11) (rs := [.tmp 3]) (show Try.prog.funcs[101]? = some Try.f101 by kernel_rfl) rfl rfl rfl (by simp) (by decide +kernel) ?_
 repeat (first | refine nav ?_ | refine bo ?_)
 (refine wr fun K R hK hR => ?_; simp (maxSteps := 10000000) only [go_sem]; (try go_ints); (repeat refine And.intro side ?_); (first | refine hK _ ?_ | refine hR _ _ ?_); clear hK hR K R)
 repeat (first | refine nav ?_ | refine bo ?_)
 (refine wr fun K R hK hR => ?_; simp (maxSteps := 10000000) only [go_sem, hi]; (try go_ints); (try simp only [go_sem, hi]); (repeat refine And.intro side ?_); (first | refine hK _ ?_ | refine hR _ _ ?_); clear hK hR K R)
 repeat (first | refine nav ?_ | refine bo ?_)
 refine endQ_quiet0 (by simp only [go_sem] <;> exact rfl) (Le.of_eq ?_) (by assumption) rfl
 rfl
theorem isNaN_spec (x : Int) : ACallsD Try.prog 114 [.i .i64 x] (.b false) := by
 refine ACalls_of' (n := 6) (rs := [.tmp 2]) (show Try.prog.funcs[114]? = some Try.f114 by kernel_rfl) rfl rfl rfl (by simp) (by decide +kernel) ?_
 repeat' (first | refine nav ?_ | refine bo ?_ | (refine wr fun K R hK hR => ?_; simp (maxSteps := 10000000) only [go_sem]; (try go_ints); (repeat refine And.intro side ?_); (first | refine hK _ ?_ | refine hR _ _ ?_); clear hK hR K R) | ((refine W_cond (by simp only [go_sem, *] <;> exact rfl) (fun hb => ?_) (fun hb => ?_)) <;> (try exact Bool.noConfusion hb)))
 refine endQ_data (by simp only [go_sem] <;> exact rfl) (Le.of_eq ?_) rfl
 simp
def cmpF (x y : Int) : Int := if x < y then -1 else if x > y then 1 else 0
theorem cmpC_spec (x y : Int) : ACallsD Try.prog 102 [.i .i64 x, .i .i64 y] (.i .i64 (cmpF x y)) := by
 refine ACalls_of' (n := 20) (rs := [.tmp 4]) (show Try.prog.funcs[102]? = some Try.f102 by kernel_rfl) rfl rfl rfl (by simp) (by decide +kernel) ?_
 repeat (first | refine nav ?_ | refine bo ?_)
 (refine wr fun K R hK hR => ?_; simp (maxSteps := 10000000) only [go_sem]; (try go_ints); (repeat refine And.intro side ?_); (first | refine hK _ ?_ | refine hR _ _ ?_); clear hK hR K R)
 repeat (first | refine nav ?_ | refine bo ?_)
 (refine wr fun K R hK hR => ?_; simp (maxSteps := 10000000) only [go_sem]; (try go_ints); (repeat refine And.intro side ?_); (first | refine hK _ ?_ | refine hR _ _ ?_); clear hK hR K R)
 refine RL_callF (isNaN_spec x) rfl rfl rfl (by simp only [go_sem]) rfl rfl ?_
 (refine rr fun K R hK hR => ?_; simp (maxSteps := 10000000) only [go_sem]; (try go_ints); (repeat refine And.intro side ?_); (first | refine hK _ ?_ | refine hR _ _ ?_); clear hK hR K R)
 repeat (first | refine nav ?_ | refine bo ?_)
 (refine wr fun K R hK hR => ?_; simp (maxSteps := 10000000) only [go_sem]; (try go_ints); (repeat refine And.intro side ?_); (first | refine hK _ ?_ | refine hR _ _ ?_); clear hK hR K R)
 refine RL_callF (isNaN_spec y) rfl rfl rfl (by simp only [go_sem]) rfl rfl ?_
 (refine rr fun K R hK hR => ?_; simp (maxSteps := 10000000) only [go_sem]; (try go_ints); (repeat refine And.intro side ?_); (first | refine hK _ ?_ | refine hR _ _ ?_); clear hK hR K R)
 repeat' (first | refine nav ?_ | refine bo ?_ | (refine wr fun K R hK hR => ?_; simp (maxSteps := 10000000) only [go_sem]; (try go_ints); (repeat refine And.intro side ?_); (first | refine hK _ ?_ | refine hR _ _ ?_); clear hK hR K R) | ((refine W_cond (by simp only [go_sem, *] <;> exact rfl) (fun hb => ?_) (fun hb => ?_)) <;> (try exact Bool.noConfusion hb)))
 all_goals refine endQ_data (by simp only [go_sem] <;> exact rfl) (Le.of_eq ?_) rfl
 all_goals simp_all [cmpF]
 omega
def letterF (c : Int) : Bool := decide (c ≥ 97) && decide (c ≤ 122) || decide (c ≥ 65) && decide (c ≤ 90)
theorem letter_spec (c : Int) : ACallsD Try.prog 90 [.i .u8 c] (.b (letterF c)) := by
 refine ACalls_of' (n := 17) (rs := [.tmp 2]) (show Try.prog.funcs[90]? = some Try.f90 by kernel_rfl) rfl rfl rfl (by simp) (by decide +kernel) ?_
 repeat' (first | refine nav ?_ | refine bo ?_ | (refine wr fun K R hK hR => ?_; simp (maxSteps := 10000000) only [go_sem]; (try go_ints); (repeat refine And.intro side ?_); (first | refine hK _ ?_ | refine hR _ _ ?_); clear hK hR K R) | ((refine W_cond (by simp only [go_sem, *] <;> exact rfl) (fun hb => ?_) (fun hb => ?_)) <;> (try exact Bool.noConfusion hb)))
 refine endQ_data (by simp only [go_sem] <;> exact rfl) (Le.of_eq ?_) rfl
 try rfl
def digitF (c : Int) : Bool := decide (c ≥ 48) && decide (c ≤ 57)
theorem digit_spec (c : Int) : ACallsD Try.prog 92 [.i .u8 c] (.b (digitF c)) := by
 refine ACalls_of' (n := 9) (rs := [.tmp 2]) (show Try.prog.funcs[92]? = some Try.f92 by kernel_rfl) rfl rfl rfl (by simp) (by decide +kernel) ?_
 repeat' (first | refine nav ?_ | refine bo ?_ | (refine wr fun K R hK hR => ?_; simp (maxSteps := 10000000) only [go_sem]; (try go_ints); (repeat refine And.intro side ?_); (first | refine hK _ ?_ | refine hR _ _ ?_); clear hK hR K R) | ((refine W_cond (by simp only [go_sem, *] <;> exact rfl) (fun hb => ?_) (fun hb => ?_)) <;> (try exact Bool.noConfusion hb)))
 refine endQ_data (by simp only [go_sem] <;> exact rfl) (Le.of_eq ?_) rfl
 try rfl
def wordsL : List ByteArray := [⟨#[97, 110, 100]⟩, ⟨#[111, 114]⟩, ⟨#[110, 111, 116]⟩, ⟨#[115, 111, 109, 101]⟩, ⟨#[97, 108, 108]⟩, ⟨#[108, 102, 112]⟩, ⟨#[112, 102, 112]⟩, ⟨#[116, 99]⟩, ⟨#[101, 120, 105, 115, 116, 115]⟩, ⟨#[116, 114, 117, 101]⟩, ⟨#[102, 97, 108, 115, 101]⟩]
def wordF (x : ByteArray) : Bool := wordsL.any fun w => x.toList == w.toList
theorem word_spec (x : ByteArray) : ACallsD Try.prog 91 [.s x] (.b (wordF x)) := by
 refine ACalls_of' (n := 16) (rs := [.tmp 2]) (show Try.prog.funcs[91]? = some Try.f91 by kernel_rfl) rfl rfl rfl (by simp) (by decide +kernel) ?_
 repeat' (first | refine nav ?_ | refine bo ?_ | (refine wr fun K R hK hR => ?_; simp (maxSteps := 10000000) only [go_sem]; (try go_ints); (repeat refine And.intro side ?_); (first | refine hK _ ?_ | refine hR _ _ ?_); clear hK hR K R) | ((refine W_cond (by simp only [go_sem, *] <;> exact rfl) (fun hb => ?_) (fun hb => ?_)) <;> (try exact Bool.noConfusion hb)))
 all_goals refine endQ_data (by simp only [go_sem] <;> exact rfl) (Le.of_eq ?_) rfl
 all_goals simp only [wordF, wordsL, List.any_cons, List.any_nil, Bool.or_true, Bool.true_or, Bool.or_false, Bool.false_or, *]
def idxI {α : Type} (p : α → Bool) : List α → Int → Int
 | [], _ => -1
 | x :: r, k => if p x then k else idxI p r (k + 1)
theorem idxI_any {α : Type} (p : α → Bool) : ∀ (l : List α) (k : Int), 0 ≤ k → decide (idxI p l k ≥ 0) = l.any p
 | [], k, h => by simp [idxI]
 | x :: r, k, h => by
  simp only [idxI, List.any_cons]
  by_cases hp : p x = true
  ·simp [hp, h]
  ·simp only [hp, if_false, Bool.false_or, Bool.false_eq_true]
   exact idxI_any p r (k + 1) (by omega)
theorem idxI_get {α : Type} (p : α → Bool) : ∀ (l : List α) (k j : Nat), idxI p l k = j → k ≤ j ∧ ∃ x, l[j - k]? = some x ∧ p x = true
 | [], k, j, h => by simp [idxI] at h
 | x :: r, k, j, h => by
  simp only [idxI] at h
  split at h
  ·rename_i hp
   have : k = j := by omega
   subst this
   exact ⟨Nat.le_refl _, x, by simp, hp⟩
  ·have : (k : Int) + 1 = ((k + 1 : Nat) : Int) := by omega
   rw [this] at h
   obtain ⟨h1, y, h2, h3⟩ := idxI_get p r (k + 1) j h
   refine ⟨by omega, y, ?_, h3⟩
   rw [show j - k = (j - (k + 1)) + 1 by omega, List.getElem?_cons_succ]
   exact h2
theorem indexInt_spec {oc : List Ob} (ho : okO oc = true) {f : FuncId} {caps : List AV} (hc : caps.all (AV.ltk oc.length) = true) (hcd : caps.map AV.dat = caps) (p : Int → Bool) (l : List Int) (hl : l.length ≤ 1099511627776)
  (h : ∀ x ∈ l, ACallsQ Try.prog f (.i .i64 x :: caps) oc (.b (p x))) : ACallsQ Try.prog 38 [.sl 1 (ints l), .fn f caps] oc (.i .i64 (idxI p l 0)) := by
 refine ACalls_of' (n := 19) (rs := [.tmp 4]) (show Try.prog.funcs[38]? = some Try.f38 by kernel_rfl) rfl rfl rfl (by simp) (by decide +kernel) ?_
 repeat (first | refine nav ?_ | refine bo ?_)
 (refine wr fun K R hK hR => ?_; simp (maxSteps := 10000000) only [go_sem]; (try go_ints); (repeat refine And.intro side ?_); (first | refine hK _ ?_ | refine hR _ _ ?_); clear hK hR K R)
 repeat (first | refine nav ?_ | refine bo ?_)
 (refine wr fun K R hK hR => ?_; simp (maxSteps := 10000000) only [go_sem]; (try go_ints); (repeat refine And.intro side ?_); (first | refine hK _ ?_ | refine hR _ _ ?_); clear hK hR K R)
 repeat (first | refine nav ?_ | refine bo ?_)
 refine W_for 8 19 [5] (fun m t o => ∃ k : Nat, oc = o ∧ t 8 = .i .i64 k ∧ m = l.length - k ∧ k ≤ l.length ∧ idxI p (l.drop k) k = idxI p l 0) l.length ⟨0, rfl, by simp only [go_sem] <;> rfl, by omega, Nat.zero_le _, by simp⟩ ?_
 rintro m t o ⟨k, rfl, h8, rfl, hk, hi⟩
 repeat (first | refine nav ?_ | refine bo ?_)
 (refine wr fun K R hK hR => ?_; simp (maxSteps := 10000000) only [go_sem, h8]; (try go_ints); (try simp only [go_sem, h8]); (repeat refine And.intro side ?_); (first | refine hK _ ?_ | refine hR _ _ ?_); clear hK hR K R)
 repeat (first | refine nav ?_ | refine bo ?_)
 refine W_cond (by simp only [go_sem] <;> exact rfl) (fun hb => ?_) (fun hb => ?_)
 ·simp at hb
  obtain ⟨x, hx⟩ : ∃ x, l[k]? = some x := ⟨_, List.getElem?_eq_getElem hb⟩
  rw [drop_cons hx, idxI] at hi
  repeat (first | refine nav ?_ | refine bo ?_)
  (refine wr fun K R hK hR => ?_; simp (maxSteps := 10000000) only [go_sem, h8]; (try go_ints); (try simp only [go_sem, h8]); (repeat refine And.intro side ?_); (first | refine hK _ ?_ | refine hR _ _ ?_); clear hK hR K R)
  repeat (first | refine nav ?_ | refine bo ?_)
  (refine wr fun K R hK hR => ?_; simp (maxSteps := 10000000) only [go_sem, h8, ints_get hx]; (try go_ints); (try simp only [go_sem, h8, ints_get hx]); (repeat refine And.intro side ?_); (first | refine hK _ ?_ | refine hR _ _ ?_); clear hK hR K R)
  refine RL_callQ (h x (List.mem_of_getElem? hx)) (by simp only [go_sem] <;> exact rfl) rfl rfl (by simp) (by simp only [go_sem, hcd] <;> exact LeA.refl _) ho ?_ rfl ?_
  ·simpa [AV.ltk] using hc
  (refine rr fun K R hK hR => ?_; simp (maxSteps := 10000000) only [go_sem]; (try go_ints); (repeat refine And.intro side ?_); (first | refine hK _ ?_ | refine hR _ _ ?_); clear hK hR K R)
  repeat (first | refine nav ?_ | refine bo ?_)
  refine W_cond (by simp only [go_sem] <;> exact rfl) (fun hb => ?_) (fun hb => ?_)
  ·rw [if_pos hb] at hi
   repeat (first | refine nav ?_ | refine bo ?_)
   (refine wr fun K R hK hR => ?_; simp (maxSteps := 10000000) only [go_sem]; (try go_ints); (repeat refine And.intro side ?_); (first | refine hK _ ?_ | refine hR _ _ ?_); clear hK hR K R)
   repeat (first | refine nav ?_ | refine bo ?_)
   refine endQ_quiet0 (by simp only [go_sem] <;> exact rfl) (Le.of_eq ?_) (by assumption) rfl
   rw [hi]
  ·rw [if_neg (by simp [hb])] at hi
   repeat (first | refine nav ?_ | refine bo ?_)
   (refine wr fun K R hK hR => ?_; simp (maxSteps := 10000000) only [go_sem, h8]; (try go_ints); (try simp only [go_sem, h8]); (repeat refine And.intro side ?_); (first | refine hK _ ?_ | refine hR _ _ ?_); clear hK hR K R)
   refine forQ_normal (l.length - (k + 1)) (by omega) ⟨k + 1, ?_⟩
   ((try simp only [go_sem]); (repeat' refine And.intro ?_ ?_) <;> (try first | with_reducible rfl | omega | with_reducible assumption | (simp; done)))
   exact hi
 ·simp at hb
  have : k = l.length := by omega
  subst this
  simp [idxI] at hi
  repeat (first | refine nav ?_ | refine bo ?_)
  (refine wr fun K R hK hR => ?_; simp (maxSteps := 10000000) only [go_sem]; (try go_ints); (repeat refine And.intro side ?_); (first | refine hK _ ?_ | refine hR _ _ ?_); clear hK hR K R)
  repeat (first | refine nav ?_ | refine bo ?_)
  refine endQ_quiet0 (by simp only [go_sem] <;> exact rfl) (Le.of_eq ?_) (by assumption) rfl
  rw [hi]
theorem containsInt_spec {oc : List Ob} (ho : okO oc = true) {f : FuncId} {caps : List AV} (hc : caps.all (AV.ltk oc.length) = true) (hcd : caps.map AV.dat = caps) (p : Int → Bool) (l : List Int) (hl : l.length ≤ 1099511627776)
  (h : ∀ x ∈ l, ACallsQ Try.prog f (.i .i64 x :: caps) oc (.b (p x))) : ACallsQ Try.prog 36 [.sl 1 (ints l), .fn f caps] oc (.b (l.any p)) := by
 refine ACalls_of' (n := 9) (rs := [.tmp 4]) (show Try.prog.funcs[36]? = some Try.f36 by kernel_rfl) rfl rfl rfl (by simp) (by decide +kernel) ?_
 repeat (first | refine nav ?_ | refine bo ?_)
 (refine wr fun K R hK hR => ?_; simp (maxSteps := 10000000) only [go_sem]; (try go_ints); (repeat refine And.intro side ?_); (first | refine hK _ ?_ | refine hR _ _ ?_); clear hK hR K R)
 repeat (first | refine nav ?_ | refine bo ?_)
 (refine wr fun K R hK hR => ?_; simp (maxSteps := 10000000) only [go_sem]; (try go_ints); (repeat refine And.intro side ?_); (first | refine hK _ ?_ | refine hR _ _ ?_); clear hK hR K R)
 refine RL_callQ (indexInt_spec ho hc hcd p l hl h) (by simp only [go_sem] <;> exact rfl) rfl rfl (by simp) (by simp only [go_sem]) ho ?_ rfl ?_
 ·simpa [AV.ltk, ltks_all] using hc
 (refine rr fun K R hK hR => ?_; simp (maxSteps := 10000000) only [go_sem]; (try go_ints); (repeat refine And.intro side ?_); (first | refine hK _ ?_ | refine hR _ _ ?_); clear hK hR K R)
 repeat (first | refine nav ?_ | refine bo ?_)
 refine endQ_quiet0 (by simp only [go_sem] <;> exact rfl) (Le.of_eq ?_) (by assumption) rfl
 rw [idxI_any p l 0 (by omega)]
theorem elements_spec (n : Int) (l : List Int) (hl : l.length ≤ 1099511627776) : ACallsD Try.prog 93 [.i .i64 n, .sl 1 (ints l)] (.b (!l.any fun x => decide (x < 0) || decide (x ≥ n))) := by
 refine ACalls_of' (n := 9) (rs := [.tmp 4]) (show Try.prog.funcs[93]? = some Try.f93 by kernel_rfl) rfl rfl rfl (by simp) (by decide +kernel) ?_
 repeat (first | refine nav ?_ | refine bo ?_)
 (refine wr fun K R hK hR => ?_; simp (maxSteps := 10000000) only [go_sem]; (try go_ints); (repeat refine And.intro side ?_); (first | refine hK _ ?_ | refine hR _ _ ?_); clear hK hR K R)
 repeat (first | refine nav ?_ | refine bo ?_)
 (refine wr fun K R hK hR => ?_; simp (maxSteps := 10000000) only [go_sem]; (try go_ints); (repeat refine And.intro side ?_); (first | refine hK _ ?_ | refine hR _ _ ?_); clear hK hR K R)
 refine RL_callQ (containsInt_spec rfl rfl rfl _ l hl fun x _ => elements1_spec (i := 0) rfl rfl x) (by simp only [go_sem] <;> exact rfl) rfl rfl (by simp) (by simp only [go_sem]) rfl rfl rfl ?_
 (refine rr fun K R hK hR => ?_; simp (maxSteps := 10000000) only [go_sem]; (try go_ints); (repeat refine And.intro side ?_); (first | refine hK _ ?_ | refine hR _ _ ?_); clear hK hR K R)
 repeat (first | refine nav ?_ | refine bo ?_)
 refine endQ_data (by simp only [go_sem] <;> exact rfl) (Le.of_eq ?_) rfl
 rfl
def cmpL : List Int → List Int → Int
 | [], [] => 0
 | [], _ :: _ => -1
 | _ :: _, [] => 1
 | a :: l, b :: r => if cmpF a b ≠ 0 then cmpF a b else cmpL l r
theorem compare_spec (a b : List Int) (ha : a.length ≤ 1099511627776) (hbl : b.length ≤ 1099511627776) : ACallsD Try.prog 94 [.sl 1 (ints a), .sl 1 (ints b)] (.i .i64 (cmpL a b)) := by
 refine ACalls_of' (n := 36) (rs := [.tmp 4]) (show Try.prog.funcs[94]? = some Try.f94 by kernel_rfl) rfl rfl rfl (by simp) (by decide +kernel) ?_
 repeat (first | refine nav ?_ | refine bo ?_)
 (refine wr fun K R hK hR => ?_; simp (maxSteps := 10000000) only [go_sem]; (try go_ints); (repeat refine And.intro side ?_); (first | refine hK _ ?_ | refine hR _ _ ?_); clear hK hR K R)
 repeat (first | refine nav ?_ | refine bo ?_)
 (refine wr fun K R hK hR => ?_; simp (maxSteps := 10000000) only [go_sem]; (try go_ints); (repeat refine And.intro side ?_); (first | refine hK _ ?_ | refine hR _ _ ?_); clear hK hR K R)
 repeat (first | refine nav ?_ | refine bo ?_)
 refine W_for 11 31 [5, 6, 7, 8] (fun m t o => ∃ k : Nat, [] = o ∧ t 11 = .i .i64 k ∧ m = a.length - k ∧ k ≤ a.length ∧ k ≤ b.length ∧ cmpL (a.drop k) (b.drop k) = cmpL a b) a.length ⟨0, rfl, by simp only [go_sem] <;> rfl, by omega, Nat.zero_le _, Nat.zero_le _, by simp⟩ ?_
 rintro m t o ⟨k, rfl, h11, rfl, hk, hkb, hi⟩
 repeat (first | refine nav ?_ | refine bo ?_)
 (refine wr fun K R hK hR => ?_; simp (maxSteps := 10000000) only [go_sem, h11]; (try go_ints); (try simp only [go_sem, h11]); (repeat refine And.intro side ?_); (first | refine hK _ ?_ | refine hR _ _ ?_); clear hK hR K R)
 repeat (first | refine nav ?_ | refine bo ?_)
 refine W_cond (by simp only [go_sem] <;> exact rfl) (fun hb => ?_) (fun hb => ?_)
 ·simp at hb
  obtain ⟨x, hx⟩ : ∃ x, a[k]? = some x := ⟨_, List.getElem?_eq_getElem hb⟩
  rw [drop_cons hx] at hi
  repeat (first | refine nav ?_ | refine bo ?_)
  (refine wr fun K R hK hR => ?_; simp (maxSteps := 10000000) only [go_sem, h11, ints_get hx]; (try go_ints); (try simp only [go_sem, h11, ints_get hx]); (repeat refine And.intro side ?_); (first | refine hK _ ?_ | refine hR _ _ ?_); clear hK hR K R)
  repeat (first | refine nav ?_ | refine bo ?_)
  (refine wr fun K R hK hR => ?_; simp (maxSteps := 10000000) only [go_sem]; (try go_ints); (repeat refine And.intro side ?_); (first | refine hK _ ?_ | refine hR _ _ ?_); clear hK hR K R)
  repeat (first | refine nav ?_ | refine bo ?_)
  refine W_cond (by simp only [go_sem] <;> exact rfl) (fun hc => ?_) (fun hc => ?_)
  ·simp at hc
   rw [List.drop_eq_nil_of_le hc, cmpL] at hi
   repeat (first | refine nav ?_ | refine bo ?_)
   (refine wr fun K R hK hR => ?_; simp (maxSteps := 10000000) only [go_sem]; (try go_ints); (repeat refine And.intro side ?_); (first | refine hK _ ?_ | refine hR _ _ ?_); clear hK hR K R)
   repeat (first | refine nav ?_ | refine bo ?_)
   refine endQ_data (by simp only [go_sem] <;> exact rfl) (Le.of_eq ?_) rfl
   rw [hi]
  ·simp at hc
   obtain ⟨y, hy⟩ : ∃ y, b[k]? = some y := ⟨_, List.getElem?_eq_getElem hc⟩
   rw [drop_cons hy, cmpL] at hi
   repeat (first | refine nav ?_ | refine bo ?_)
   (refine wr fun K R hK hR => ?_; simp (maxSteps := 10000000) only [go_sem, ints_get hy]; (try go_ints); (try simp only [go_sem, ints_get hy]); (repeat refine And.intro side ?_); (first | refine hK _ ?_ | refine hR _ _ ?_); clear hK hR K R)
   repeat (first | refine nav ?_ | refine bo ?_)
   (refine wr fun K R hK hR => ?_; simp (maxSteps := 10000000) only [go_sem]; (try go_ints); (repeat refine And.intro side ?_); (first | refine hK _ ?_ | refine hR _ _ ?_); clear hK hR K R)
   refine RL_callF (cmpC_spec x y) rfl rfl rfl (by simp only [go_sem]) rfl rfl ?_
   (refine rr fun K R hK hR => ?_; simp (maxSteps := 10000000) only [go_sem]; (try go_ints); (repeat refine And.intro side ?_); (first | refine hK _ ?_ | refine hR _ _ ?_); clear hK hR K R)
   repeat (first | refine nav ?_ | refine bo ?_)
   (refine wr fun K R hK hR => ?_; simp (maxSteps := 10000000) only [go_sem]; (try go_ints); (repeat refine And.intro side ?_); (first | refine hK _ ?_ | refine hR _ _ ?_); clear hK hR K R)
   repeat (first | refine nav ?_ | refine bo ?_)
   refine W_cond (by simp only [go_sem] <;> exact rfl) (fun hd => ?_) (fun hd => ?_)
   ·rw [if_pos (by simpa using hd)] at hi
    repeat (first | refine nav ?_ | refine bo ?_)
    (refine wr fun K R hK hR => ?_; simp (maxSteps := 10000000) only [go_sem]; (try go_ints); (repeat refine And.intro side ?_); (first | refine hK _ ?_ | refine hR _ _ ?_); clear hK hR K R)
    repeat (first | refine nav ?_ | refine bo ?_)
    refine endQ_data (by simp only [go_sem] <;> exact rfl) (Le.of_eq ?_) rfl
    rw [hi]
   ·rw [if_neg (by simpa using hd)] at hi
    repeat (first | refine nav ?_ | refine bo ?_)
    (refine wr fun K R hK hR => ?_; simp (maxSteps := 10000000) only [go_sem, h11]; (try go_ints); (try simp only [go_sem, h11]); (repeat refine And.intro side ?_); (first | refine hK _ ?_ | refine hR _ _ ?_); clear hK hR K R)
    refine forQ_normal (a.length - (k + 1)) (by omega) ⟨k + 1, ?_⟩
    ((try simp only [go_sem]); (repeat' refine And.intro ?_ ?_) <;> (try first | with_reducible rfl | omega | with_reducible assumption | (simp; done)))
 ·simp at hb
  have : k = a.length := by omega
  subst this
  rw [List.drop_length] at hi
  repeat (first | refine nav ?_ | refine bo ?_)
  (refine wr fun K R hK hR => ?_; simp (maxSteps := 10000000) only [go_sem]; (try go_ints); (repeat refine And.intro side ?_); (first | refine hK _ ?_ | refine hR _ _ ?_); clear hK hR K R)
  repeat (first | refine nav ?_ | refine bo ?_)
  refine W_cond (by simp only [go_sem] <;> exact rfl) (fun hc => ?_) (fun hc => ?_)
  ·simp at hc
   obtain ⟨y, hy⟩ : ∃ y, b[a.length]? = some y := ⟨_, List.getElem?_eq_getElem hc⟩
   rw [drop_cons hy, cmpL] at hi
   repeat (first | refine nav ?_ | refine bo ?_)
   (refine wr fun K R hK hR => ?_; simp (maxSteps := 10000000) only [go_sem]; (try go_ints); (repeat refine And.intro side ?_); (first | refine hK _ ?_ | refine hR _ _ ?_); clear hK hR K R)
   repeat (first | refine nav ?_ | refine bo ?_)
   refine endQ_data (by simp only [go_sem] <;> exact rfl) (Le.of_eq ?_) rfl
   rw [hi]
  ·simp at hc
   rw [List.drop_eq_nil_of_le (by omega), cmpL] at hi
   repeat (first | refine nav ?_ | refine bo ?_)
   (refine wr fun K R hK hR => ?_; simp (maxSteps := 10000000) only [go_sem]; (try go_ints); (repeat refine And.intro side ?_); (first | refine hK _ ?_ | refine hR _ _ ?_); clear hK hR K R)
   repeat (first | refine nav ?_ | refine bo ?_)
   refine endQ_data (by simp only [go_sem] <;> exact rfl) (Le.of_eq ?_) rfl
   rw [hi]
end Go.AW
namespace Go.AW
open Go Go.Proofs TyTry Go.IntWalk
set_option linter.unusedSimpArgs false
set_option linter.unusedVariables false
set_option maxRecDepth 10000
def powL (n most : Int) : Nat → Int → Int
 | 0, p => p
 | k + 1, p => if p * n > most then -1 else powL n most k (p * n)
theorem power_spec (n k : Int) (hn : 1 ≤ n) (hn2 : n ≤ 64) (hk : 0 ≤ k) (hk2 : k ≤ 12) : ACallsD Try.prog 74 [.i .i64 n, .i .i64 k, .i .i64 4096] (.i .i64 (powL n 4096 k.toNat 1)) := by
 obtain ⟨k, rfl⟩ := Int.eq_ofNat_of_zero_le hk
 rw [Int.toNat_natCast]
 refine ACalls_of' (n := 19) (rs := [.tmp 6]) (show Try.prog.funcs[74]? = some Try.f74 by kernel_rfl) rfl rfl rfl (by simp) (by decide +kernel) ?_
 repeat (first | refine nav ?_ | refine bo ?_)
 (refine wr fun K R hK hR => ?_; simp (maxSteps := 10000000) only [go_sem]; (try go_ints); (repeat refine And.intro side ?_); (first | refine hK _ ?_ | refine hR _ _ ?_); clear hK hR K R)
 repeat (first | refine nav ?_ | refine bo ?_)
 (refine wr fun K R hK hR => ?_; simp (maxSteps := 10000000) only [go_sem]; (try go_ints); (repeat refine And.intro side ?_); (first | refine hK _ ?_ | refine hR _ _ ?_); clear hK hR K R)
 repeat (first | refine nav ?_ | refine bo ?_)
 (refine wr fun K R hK hR => ?_; simp (maxSteps := 10000000) only [go_sem]; (try go_ints); (repeat refine And.intro side ?_); (first | refine hK _ ?_ | refine hR _ _ ?_); clear hK hR K R)
 repeat (first | refine nav ?_ | refine bo ?_)
 refine W_for 9 19 [7] (fun m t o => ∃ (i : Nat) (p : Int), [] = o ∧ t 9 = .i .i64 i ∧ t 7 = .i .i64 p ∧ m = k - i ∧ i ≤ k ∧ 1 ≤ p ∧ p ≤ 4096 ∧ powL n 4096 (k - i) p = powL n 4096 k 1) k ⟨0, 1, rfl, by simp only [go_sem] <;> rfl, by simp only [go_sem] <;> rfl, by omega, Nat.zero_le _, by omega, by omega, by simp⟩ ?_
 rintro m t o ⟨i, p, rfl, h9, h7, rfl, hik, hp1, hp2, hi⟩
 repeat (first | refine nav ?_ | refine bo ?_)
 (refine wr fun K R hK hR => ?_; simp (maxSteps := 10000000) only [go_sem, h9]; (try go_ints); (try simp only [go_sem, h9]); (repeat refine And.intro side ?_); (first | refine hK _ ?_ | refine hR _ _ ?_); clear hK hR K R)
 repeat (first | refine nav ?_ | refine bo ?_)
 refine W_cond (by simp only [go_sem] <;> exact rfl) (fun hb => ?_) (fun hb => ?_)
 ·simp at hb
  have hpn : 1 ≤ p * n ∧ p * n ≤ 262144 := by
   constructor
   ·have := Int.mul_le_mul hp1 hn (by omega) (by omega); simpa using this
   ·have := Int.mul_le_mul hp2 hn2 (by omega) (by omega); simpa using this
  rw [show k - i = (k - (i + 1)) + 1 by omega, powL] at hi
  repeat (first | refine nav ?_ | refine bo ?_)
  (refine wr fun K R hK hR => ?_; simp (maxSteps := 10000000) only [go_sem, h7]; (try go_ints); (try simp only [go_sem, h7]); (repeat refine And.intro side ?_); (first | refine hK _ ?_ | refine hR _ _ ?_); clear hK hR K R)
  repeat (first | refine nav ?_ | refine bo ?_)
  (refine wr fun K R hK hR => ?_; simp (maxSteps := 10000000) only [go_sem]; (try go_ints); (repeat refine And.intro side ?_); (first | refine hK _ ?_ | refine hR _ _ ?_); clear hK hR K R)
  repeat (first | refine nav ?_ | refine bo ?_)
  refine W_cond (by simp only [go_sem] <;> exact rfl) (fun hc => ?_) (fun hc => ?_)
  ·rw [if_pos (by simpa using hc)] at hi
   repeat (first | refine nav ?_ | refine bo ?_)
   (refine wr fun K R hK hR => ?_; simp (maxSteps := 10000000) only [go_sem]; (try go_ints); (repeat refine And.intro side ?_); (first | refine hK _ ?_ | refine hR _ _ ?_); clear hK hR K R)
   repeat (first | refine nav ?_ | refine bo ?_)
   refine endQ_data (by simp only [go_sem] <;> exact rfl) (Le.of_eq ?_) rfl
   rw [hi]
  ·rw [if_neg (by simpa using hc)] at hi
   simp at hc
   repeat (first | refine nav ?_ | refine bo ?_)
   (refine wr fun K R hK hR => ?_; simp (maxSteps := 10000000) only [go_sem, h9]; (try go_ints); (try simp only [go_sem, h9]); (repeat refine And.intro side ?_); (first | refine hK _ ?_ | refine hR _ _ ?_); clear hK hR K R)
   refine forQ_normal (k - (i + 1)) (by omega) ⟨i + 1, p * n, ?_⟩
   ((try simp only [go_sem]); (repeat' refine And.intro ?_ ?_) <;> (try first | with_reducible rfl | omega | with_reducible assumption | (simp; done)))
 ·simp at hb
  have : i = k := by omega
  subst this
  rw [Nat.sub_self, powL] at hi
  repeat (first | refine nav ?_ | refine bo ?_)
  (refine wr fun K R hK hR => ?_; simp (maxSteps := 10000000) only [go_sem, h7]; (try go_ints); (try simp only [go_sem, h7]); (repeat refine And.intro side ?_); (first | refine hK _ ?_ | refine hR _ _ ?_); clear hK hR K R)
  repeat (first | refine nav ?_ | refine bo ?_)
  refine endQ_data (by simp only [go_sem] <;> exact rfl) (Le.of_eq ?_) rfl
  rw [hi]
def chF (x : ByteArray) (i : Nat) : Int := ((x.data.getD i 0).toNat : Int)
def nameF (x : ByteArray) : Bool := decide (1 ≤ x.size) && decide (x.size ≤ 12) && letterF (chF x 0) && !wordF x && (List.range x.size).all fun i => letterF (chF x i) || digitF (chF x i)
theorem size_zero (x : ByteArray) : (x.toList == (⟨#[]⟩ : ByteArray).toList) = decide (x.size = 0) := by
 rw [ByteArray.toList_eq, ByteArray.toList_eq]
 have : x.size = x.data.toList.length := by rw [Array.length_toList]; rfl
 rw [this]
 cases h : x.data.toList <;> simp
theorem name_spec (x : ByteArray) (hx : x.size ≤ 1099511627776) : ACallsD Try.prog 73 [.s x] (.b (nameF x)) := by
 refine ACalls_of' (n := 39) (rs := [.tmp 2]) (show Try.prog.funcs[73]? = some Try.f73 by kernel_rfl) rfl rfl rfl (by simp) (by decide +kernel) ?_
 repeat (first | refine nav ?_ | refine bo ?_)
 (refine wr fun K R hK hR => ?_; simp (maxSteps := 10000000) only [go_sem]; (try go_ints); (repeat refine And.intro side ?_); (first | refine hK _ ?_ | refine hR _ _ ?_); clear hK hR K R)
 repeat (first | refine nav ?_ | refine bo ?_)
 (refine wr fun K R hK hR => ?_; simp (maxSteps := 10000000) only [go_sem, size_zero]; (try go_ints); (try simp only [go_sem, size_zero]); (repeat refine And.intro side ?_); (first | refine hK _ ?_ | refine hR _ _ ?_); clear hK hR K R)
 refine RL_callDg rfl (by simp only [go_sem] <;> exact rfl) (fun e => letter_spec (chF x 0)) rfl rfl rfl (fun e => by (try simp only [go_sem] at e); simp only [go_sem, e] <;> (try simp only [go_sem, chF]) <;> first | exact LeA.refl _ | exact Le.refl _) rfl rfl ?_
 (refine rr fun K R hK hR => ?_; simp (maxSteps := 10000000) only [go_sem]; (try go_ints); (repeat refine And.intro side ?_); (first | refine hK _ ?_ | refine hR _ _ ?_); clear hK hR K R)
 refine RL_callDg rfl (by simp only [go_sem] <;> exact rfl) (fun e => word_spec x) rfl rfl rfl (fun e => by (try simp only [go_sem] at e); simp only [go_sem, e] <;> (try simp only [go_sem]) <;> first | exact LeA.refl _ | exact Le.refl _) rfl rfl ?_
 (refine rr fun K R hK hR => ?_; simp (maxSteps := 10000000) only [go_sem]; (try go_ints); (repeat refine And.intro side ?_); (first | refine hK _ ?_ | refine hR _ _ ?_); clear hK hR K R)
 repeat (first | refine nav ?_ | refine bo ?_)
 refine W_cond (by simp only [go_sem] <;> exact rfl) (fun hb => ?_) (fun hb => ?_)
 ·simp only [Bool.or_eq_true, decide_eq_true_eq, Bool.not_eq_true'] at hb
  repeat (first | refine nav ?_ | refine bo ?_)
  (refine wr fun K R hK hR => ?_; simp (maxSteps := 10000000) only [go_sem]; (try go_ints); (repeat refine And.intro side ?_); (first | refine hK _ ?_ | refine hR _ _ ?_); clear hK hR K R)
  repeat (first | refine nav ?_ | refine bo ?_)
  refine endQ_data (by simp only [go_sem] <;> exact rfl) (Le.of_eq ?_) rfl
  rcases hb with ((hb | hb) | hb) | hb <;> simp [nameF, hb]
  all_goals (intros; omega)
 ·simp only [Bool.or_eq_false_iff, decide_eq_false_iff_not, Bool.not_eq_false'] at hb
  obtain ⟨⟨⟨h1, h2⟩, h3⟩, h4⟩ := hb
  repeat (first | refine nav ?_ | refine bo ?_)
  (refine wr fun K R hK hR => ?_; simp (maxSteps := 10000000) only [go_sem]; (try go_ints); (repeat refine And.intro side ?_); (first | refine hK _ ?_ | refine hR _ _ ?_); clear hK hR K R)
  repeat (first | refine nav ?_ | refine bo ?_)
  refine W_for 23 39 [3] (fun m t o => ∃ k : Nat, [] = o ∧ t 23 = .i .i64 k ∧ m = x.size - k ∧ k ≤ x.size ∧ ∀ i < k, (letterF (chF x i) || digitF (chF x i)) = true) x.size ⟨0, rfl, by simp only [go_sem] <;> rfl, by omega, Nat.zero_le _, by simp⟩ ?_
  rintro m t o ⟨k, rfl, h23, rfl, hk, hi⟩
  repeat (first | refine nav ?_ | refine bo ?_)
  (refine wr fun K R hK hR => ?_; simp (maxSteps := 10000000) only [go_sem, h23]; (try go_ints); (try simp only [go_sem, h23]); (repeat refine And.intro side ?_); (first | refine hK _ ?_ | refine hR _ _ ?_); clear hK hR K R)
  repeat (first | refine nav ?_ | refine bo ?_)
  refine W_cond (by simp only [go_sem] <;> exact rfl) (fun hb => ?_) (fun hb => ?_)
  ·simp at hb
   repeat (first | refine nav ?_ | refine bo ?_)
   (refine wr fun K R hK hR => ?_; simp (maxSteps := 10000000) only [go_sem, h23]; (try go_ints); (try simp only [go_sem, h23]); (repeat refine And.intro side ?_); (first | refine hK _ ?_ | refine hR _ _ ?_); clear hK hR K R)
   repeat (first | refine nav ?_ | refine bo ?_)
   (refine wr fun K R hK hR => ?_; simp (maxSteps := 10000000) only [go_sem, h23]; (try go_ints); (try simp only [go_sem, h23]); (repeat refine And.intro side ?_); (first | refine hK _ ?_ | refine hR _ _ ?_); clear hK hR K R)
   refine RL_callF (letter_spec (chF x k)) rfl rfl rfl (by first | (simp only [go_sem, chF] <;> first | exact LeA.refl _ | exact Le.refl _) | exact LeA.refl _) rfl rfl ?_
   (refine rr fun K R hK hR => ?_; simp (maxSteps := 10000000) only [go_sem]; (try go_ints); (repeat refine And.intro side ?_); (first | refine hK _ ?_ | refine hR _ _ ?_); clear hK hR K R)
   refine RL_callDg rfl (by simp only [go_sem] <;> exact rfl) (fun e => digit_spec (chF x k)) rfl rfl rfl (fun e => by (try simp only [go_sem] at e); simp only [go_sem, e] <;> (try simp only [go_sem, chF]) <;> first | exact LeA.refl _ | exact Le.refl _) rfl rfl ?_
   (refine rr fun K R hK hR => ?_; simp (maxSteps := 10000000) only [go_sem]; (try go_ints); (repeat refine And.intro side ?_); (first | refine hK _ ?_ | refine hR _ _ ?_); clear hK hR K R)
   repeat (first | refine nav ?_ | refine bo ?_)
   refine W_cond (by simp only [go_sem] <;> exact rfl) (fun hc => ?_) (fun hc => ?_)
   ·simp at hc
    repeat (first | refine nav ?_ | refine bo ?_)
    (refine wr fun K R hK hR => ?_; simp (maxSteps := 10000000) only [go_sem]; (try go_ints); (repeat refine And.intro side ?_); (first | refine hK _ ?_ | refine hR _ _ ?_); clear hK hR K R)
    repeat (first | refine nav ?_ | refine bo ?_)
    refine endQ_data (by simp only [go_sem] <;> exact rfl) (Le.of_eq ?_) rfl
    simp [nameF]
    intros
    exact ⟨k, hb, by simp [hc]⟩
   ·repeat (first | refine nav ?_ | refine bo ?_)
    (refine wr fun K R hK hR => ?_; simp (maxSteps := 10000000) only [go_sem, h23]; (try go_ints); (try simp only [go_sem, h23]); (repeat refine And.intro side ?_); (first | refine hK _ ?_ | refine hR _ _ ?_); clear hK hR K R)
    refine forQ_normal (x.size - (k + 1)) (by omega) ⟨k + 1, ?_⟩
    ((try simp only [go_sem]); (repeat' refine And.intro ?_ ?_) <;> (try first | with_reducible rfl | omega | with_reducible assumption | (simp; done)))
    intro i hik
    rcases Nat.lt_succ_iff_lt_or_eq.1 hik with h | rfl
    ·exact hi i h
    ·simp at hc
     cases h : letterF (chF x i) <;> simp_all
  ·simp at hb
   have : k = x.size := by omega
   subst this
   repeat (first | refine nav ?_ | refine bo ?_)
   (refine wr fun K R hK hR => ?_; simp (maxSteps := 10000000) only [go_sem]; (try go_ints); (repeat refine And.intro side ?_); (first | refine hK _ ?_ | refine hR _ _ ?_); clear hK hR K R)
   repeat (first | refine nav ?_ | refine bo ?_)
   refine endQ_data (by simp only [go_sem] <;> exact rfl) (Le.of_eq ?_) rfl
   simp only [nameF, h3, h4, AV.b.injEq]
   have a1 : decide (1 ≤ x.size) = true := by simp; omega
   have a2 : decide (x.size ≤ 12) = true := by simp; omega
   rw [a1, a2]
   simp
   intro i hlt
   simpa using hi i hlt
end Go.AW
namespace Go.AW
open Go Go.Proofs TyTry Go.IntWalk
set_option linter.unusedSimpArgs false
set_option linter.unusedVariables false
set_option maxRecDepth 10000
theorem indexRel_spec {oc : List Ob} (ho : okO oc = true) {f : FuncId} {caps : List AV} (hc : caps.all (AV.ltk oc.length) = true) (hcd : caps.map AV.dat = caps) (p : RelD → Bool) (l : List RelD) (hl : l.length ≤ 1099511627776)
  (h : ∀ x ∈ l, ACallsQ Try.prog f (.agg [.s x.name, .i .i64 x.arity, .sl 1 (tups x.tuples)] :: caps) oc (.b (p x))) : ACallsQ Try.prog 95 [.sl 3 (rels l), .fn f caps] oc (.i .i64 (idxI p l 0)) := by
 refine ACalls_of' (n := 19) (rs := [.tmp 4]) (show Try.prog.funcs[95]? = some Try.f95 by kernel_rfl) rfl rfl rfl (by simp) (by decide +kernel) ?_
 repeat (first | refine nav ?_ | refine bo ?_)
 (refine wr fun K R hK hR => ?_; simp (maxSteps := 10000000) only [go_sem]; (try go_ints); (repeat refine And.intro side ?_); (first | refine hK _ ?_ | refine hR _ _ ?_); clear hK hR K R)
 repeat (first | refine nav ?_ | refine bo ?_)
 (refine wr fun K R hK hR => ?_; simp (maxSteps := 10000000) only [go_sem]; (try go_ints); (repeat refine And.intro side ?_); (first | refine hK _ ?_ | refine hR _ _ ?_); clear hK hR K R)
 repeat (first | refine nav ?_ | refine bo ?_)
 refine W_for 8 19 [5] (fun m t o => ∃ k : Nat, oc = o ∧ t 8 = .i .i64 k ∧ m = l.length - k ∧ k ≤ l.length ∧ idxI p (l.drop k) k = idxI p l 0) l.length ⟨0, rfl, by simp only [go_sem] <;> rfl, by omega, Nat.zero_le _, by simp⟩ ?_
 rintro m t o ⟨k, rfl, h8, rfl, hk, hi⟩
 repeat (first | refine nav ?_ | refine bo ?_)
 (refine wr fun K R hK hR => ?_; simp (maxSteps := 10000000) only [go_sem, h8]; (try go_ints); (try simp only [go_sem, h8]); (repeat refine And.intro side ?_); (first | refine hK _ ?_ | refine hR _ _ ?_); clear hK hR K R)
 repeat (first | refine nav ?_ | refine bo ?_)
 refine W_cond (by simp only [go_sem] <;> exact rfl) (fun hb => ?_) (fun hb => ?_)
 ·simp at hb
  obtain ⟨x, hx⟩ : ∃ x, l[k]? = some x := ⟨_, List.getElem?_eq_getElem hb⟩
  rw [drop_cons hx, idxI] at hi
  repeat (first | refine nav ?_ | refine bo ?_)
  (refine wr fun K R hK hR => ?_; simp (maxSteps := 10000000) only [go_sem, h8]; (try go_ints); (try simp only [go_sem, h8]); (repeat refine And.intro side ?_); (first | refine hK _ ?_ | refine hR _ _ ?_); clear hK hR K R)
  repeat (first | refine nav ?_ | refine bo ?_)
  (refine wr fun K R hK hR => ?_; simp (maxSteps := 10000000) only [go_sem, h8, rels_get hx]; (try go_ints); (try simp only [go_sem, h8, rels_get hx]); (repeat refine And.intro side ?_); (first | refine hK _ ?_ | refine hR _ _ ?_); clear hK hR K R)
  refine RL_callQ (h x (List.mem_of_getElem? hx)) (by simp only [go_sem] <;> exact rfl) rfl rfl (by simp) (by simp only [go_sem, hcd] <;> exact LeA.refl _) ho ?_ rfl ?_
  ·simpa [AV.ltk, AV.ltks] using hc
  (refine rr fun K R hK hR => ?_; simp (maxSteps := 10000000) only [go_sem]; (try go_ints); (repeat refine And.intro side ?_); (first | refine hK _ ?_ | refine hR _ _ ?_); clear hK hR K R)
  repeat (first | refine nav ?_ | refine bo ?_)
  refine W_cond (by simp only [go_sem] <;> exact rfl) (fun hb => ?_) (fun hb => ?_)
  ·rw [if_pos hb] at hi
   repeat (first | refine nav ?_ | refine bo ?_)
   (refine wr fun K R hK hR => ?_; simp (maxSteps := 10000000) only [go_sem]; (try go_ints); (repeat refine And.intro side ?_); (first | refine hK _ ?_ | refine hR _ _ ?_); clear hK hR K R)
   repeat (first | refine nav ?_ | refine bo ?_)
   refine endQ_quiet0 (by simp only [go_sem] <;> exact rfl) (Le.of_eq ?_) (by assumption) rfl
   rw [hi]
  ·rw [if_neg (by simp [hb])] at hi
   repeat (first | refine nav ?_ | refine bo ?_)
   (refine wr fun K R hK hR => ?_; simp (maxSteps := 10000000) only [go_sem, h8]; (try go_ints); (try simp only [go_sem, h8]); (repeat refine And.intro side ?_); (first | refine hK _ ?_ | refine hR _ _ ?_); clear hK hR K R)
   refine forQ_normal (l.length - (k + 1)) (by omega) ⟨k + 1, ?_⟩
   ((try simp only [go_sem]); (repeat' refine And.intro ?_ ?_) <;> (try first | with_reducible rfl | omega | with_reducible assumption | (simp; done)))
   exact hi
 ·simp at hb
  have : k = l.length := by omega
  subst this
  simp [idxI] at hi
  repeat (first | refine nav ?_ | refine bo ?_)
  (refine wr fun K R hK hR => ?_; simp (maxSteps := 10000000) only [go_sem]; (try go_ints); (repeat refine And.intro side ?_); (first | refine hK _ ?_ | refine hR _ _ ?_); clear hK hR K R)
  repeat (first | refine nav ?_ | refine bo ?_)
  refine endQ_quiet0 (by simp only [go_sem] <;> exact rfl) (Le.of_eq ?_) (by assumption) rfl
  rw [hi]
theorem containsRel_spec {oc : List Ob} (ho : okO oc = true) {f : FuncId} {caps : List AV} (hc : caps.all (AV.ltk oc.length) = true) (hcd : caps.map AV.dat = caps) (p : RelD → Bool) (l : List RelD) (hl : l.length ≤ 1099511627776)
  (h : ∀ x ∈ l, ACallsQ Try.prog f (.agg [.s x.name, .i .i64 x.arity, .sl 1 (tups x.tuples)] :: caps) oc (.b (p x))) : ACallsQ Try.prog 76 [.sl 3 (rels l), .fn f caps] oc (.b (l.any p)) := by
 refine ACalls_of' (n := 9) (rs := [.tmp 4]) (show Try.prog.funcs[76]? = some Try.f76 by kernel_rfl) rfl rfl rfl (by simp) (by decide +kernel) ?_
 repeat (first | refine nav ?_ | refine bo ?_)
 (refine wr fun K R hK hR => ?_; simp (maxSteps := 10000000) only [go_sem]; (try go_ints); (repeat refine And.intro side ?_); (first | refine hK _ ?_ | refine hR _ _ ?_); clear hK hR K R)
 repeat (first | refine nav ?_ | refine bo ?_)
 (refine wr fun K R hK hR => ?_; simp (maxSteps := 10000000) only [go_sem]; (try go_ints); (repeat refine And.intro side ?_); (first | refine hK _ ?_ | refine hR _ _ ?_); clear hK hR K R)
 refine RL_callQ (indexRel_spec ho hc hcd p l hl h) (by simp only [go_sem] <;> exact rfl) rfl rfl (by simp) (by simp only [go_sem]) ho ?_ rfl ?_
 ·simpa [AV.ltk, ltks_all] using hc
 (refine rr fun K R hK hR => ?_; simp (maxSteps := 10000000) only [go_sem]; (try go_ints); (repeat refine And.intro side ?_); (first | refine hK _ ?_ | refine hR _ _ ?_); clear hK hR K R)
 repeat (first | refine nav ?_ | refine bo ?_)
 refine endQ_quiet0 (by simp only [go_sem] <;> exact rfl) (Le.of_eq ?_) (by assumption) rfl
 rw [idxI_any p l 0 (by omega)]
theorem valid1_spec {oc : List Ob} (ho : okO oc = true) {i : Nat} {r : RelD} (hi : oc[i]? = some (.cells 3 [[.s r.name, .i .i64 r.arity, .sl 1 (tups r.tuples)]])) (q : RelD) :
  ACallsQ Try.prog 77 [.agg [.s q.name, .i .i64 q.arity, .sl 1 (tups q.tuples)], .ptr i 0 0] oc (.b (q.name.toList == r.name.toList)) := by
 have hi' := fun l => app_get l hi
 refine ACalls_of' (n := 9) (rs := [.tmp 3]) (show Try.prog.funcs[77]? = some Try.f77 by kernel_rfl) rfl rfl rfl (by simp) (by decide +kernel) ?_
 repeat (first | refine nav ?_ | refine bo ?_)
 (refine wr fun K R hK hR => ?_; simp (maxSteps := 10000000) only [go_sem]; (try go_ints); (repeat refine And.intro side ?_); (first | refine hK _ ?_ | refine hR _ _ ?_); clear hK hR K R)
 repeat (first | refine nav ?_ | refine bo ?_)
 (refine wr fun K R hK hR => ?_; simp (maxSteps := 10000000) only [go_sem, hi']; (try go_ints); (try simp only [go_sem, hi']); (repeat refine And.intro side ?_); (first | refine hK _ ?_ | refine hR _ _ ?_); clear hK hR K R)
 repeat (first | refine nav ?_ | refine bo ?_)
 refine endQ_quiet (by simp only [go_sem] <;> exact rfl) (Le.of_eq ?_) (by assumption) rfl
 rfl
theorem fits1_spec {oc : List Ob} (ho : okO oc = true) {i : Nat} {name : ByteArray} {arity : Int} (hi : oc[i]? = some (.cells 2 [[.s name, .i .i64 arity]])) (q : RelD) :
  ACallsQ Try.prog 78 [.agg [.s q.name, .i .i64 q.arity, .sl 1 (tups q.tuples)], .ptr i 0 0] oc (.b (q.name.toList == name.toList && (q.arity == arity))) := by
 have hi' := fun l => app_get l hi
 refine ACalls_of' (n := 16) (rs := [.tmp 3]) (show Try.prog.funcs[78]? = some Try.f78 by kernel_rfl) rfl rfl rfl (by simp) (by decide +kernel) ?_
 repeat (first | refine nav ?_ | refine bo ?_)
 (refine wr fun K R hK hR => ?_; simp (maxSteps := 10000000) only [go_sem]; (try go_ints); (repeat refine And.intro side ?_); (first | refine hK _ ?_ | refine hR _ _ ?_); clear hK hR K R)
 repeat (first | refine nav ?_ | refine bo ?_)
 (refine wr fun K R hK hR => ?_; simp (maxSteps := 10000000) only [go_sem, hi']; (try go_ints); (try simp only [go_sem, hi']); (repeat refine And.intro side ?_); (first | refine hK _ ?_ | refine hR _ _ ?_); clear hK hR K R)
 repeat (first | refine nav ?_ | refine bo ?_)
 refine endQ_quiet (by simp only [go_sem] <;> exact rfl) (Le.of_eq ?_) (by assumption) rfl
 rfl
def tupOk (n a : Int) (l : List (List Int)) (i : Nat) : Bool :=
 let t := l.getD i []
 ((t.length : Int) == a) && !(t.any fun x => decide (x < 0) || decide (x ≥ n)) && (decide (i = 0) || decide (cmpL (l.getD (i - 1) []) t < 0))
def tuplesF (n a : Int) (l : List (List Int)) : Bool := (List.range l.length).all (tupOk n a l)
structure RelD.Ok (r : RelD) : Prop where
 name : r.name.size ≤ 1099511627776
 len : r.tuples.length ≤ 1099511627776
 tup : ∀ t ∈ r.tuples, t.length ≤ 1099511627776
theorem tuples_spec (n : Int) (r : RelD) (hr : r.Ok) : ACallsD Try.prog 75 [.i .i64 n, .agg [.s r.name, .i .i64 r.arity, .sl 1 (tups r.tuples)]] (.b (tuplesF n r.arity r.tuples)) := by
 refine ACalls_of' (n := 42) (rs := [.tmp 4]) (show Try.prog.funcs[75]? = some Try.f75 by kernel_rfl) rfl rfl rfl (by simp) (by decide +kernel) ?_
 repeat (first | refine nav ?_ | refine bo ?_)
 (refine wr fun K R hK hR => ?_; simp (maxSteps := 10000000) only [go_sem]; (try go_ints); (repeat refine And.intro side ?_); (first | refine hK _ ?_ | refine hR _ _ ?_); clear hK hR K R)
 repeat (first | refine nav ?_ | refine bo ?_)
 (refine wr fun K R hK hR => ?_; simp (maxSteps := 10000000) only [go_sem]; (try go_ints); (repeat refine And.intro side ?_); (first | refine hK _ ?_ | refine hR _ _ ?_); clear hK hR K R)
 repeat (first | refine nav ?_ | refine bo ?_)
 refine W_for 10 42 [5, 6] (fun m t o => ∃ k : Nat, [Ob.cells 3 [[.s r.name, .i .i64 r.arity, .sl 1 (tups r.tuples)]]] = o ∧ t 10 = .i .i64 k ∧ m = r.tuples.length - k ∧ k ≤ r.tuples.length ∧ ∀ i < k, tupOk n r.arity r.tuples i = true) r.tuples.length ⟨0, rfl, by simp only [go_sem] <;> rfl, by omega, Nat.zero_le _, by simp⟩ ?_
 rintro m t o ⟨k, rfl, h10, rfl, hk, hi⟩
 have hlen := hr.len
 repeat (first | refine nav ?_ | refine bo ?_)
 (refine wr fun K R hK hR => ?_; simp (maxSteps := 10000000) only [go_sem, h10]; (try go_ints); (try simp only [go_sem, h10]); (repeat refine And.intro side ?_); (first | refine hK _ ?_ | refine hR _ _ ?_); clear hK hR K R)
 repeat (first | refine nav ?_ | refine bo ?_)
 refine W_cond (by simp only [go_sem] <;> exact rfl) (fun hb => ?_) (fun hb => ?_)
 ·simp at hb
  obtain ⟨x, hx⟩ : ∃ x, r.tuples[k]? = some x := ⟨_, List.getElem?_eq_getElem hb⟩
  have hxl := hr.tup x (List.mem_of_getElem? hx)
  repeat (first | refine nav ?_ | refine bo ?_)
  (refine wr fun K R hK hR => ?_; simp (maxSteps := 10000000) only [go_sem, h10, tups_get hx]; (try go_ints); (try simp only [go_sem, h10, tups_get hx]); (repeat refine And.intro side ?_); (first | refine hK _ ?_ | refine hR _ _ ?_); clear hK hR K R)
  repeat (first | refine nav ?_ | refine bo ?_)
  (refine wr fun K R hK hR => ?_; simp (maxSteps := 10000000) only [go_sem, h10]; (try go_ints); (try simp only [go_sem, h10]); (repeat refine And.intro side ?_); (first | refine hK _ ?_ | refine hR _ _ ?_); clear hK hR K R)
  have e1 : ((k : Int) - 1).toNat = k - 1 := by omega
  obtain ⟨y, hy⟩ : ∃ y, r.tuples[k - 1]? = some y := ⟨_, List.getElem?_eq_getElem (by omega)⟩
  have hyl := hr.tup y (List.mem_of_getElem? hy)
  refine RL_callDg rfl (by simp only [go_sem] <;> exact rfl) (fun e => elements_spec n x hxl) rfl rfl rfl (fun e => by (try simp only [go_sem] at e); simp only [go_sem, e] <;> (try simp only [go_sem]) <;> first | exact LeA.refl _ | exact Le.refl _) rfl rfl ?_
  (refine rr fun K R hK hR => ?_; simp (maxSteps := 10000000) only [go_sem, e1, tups_get hy]; (try go_ints); (try simp only [go_sem, e1, tups_get hy]); (repeat refine And.intro side ?_); (first | refine hK _ ?_ | refine hR _ _ ?_); clear hK hR K R)
  refine RL_callDg rfl (by simp only [go_sem] <;> exact rfl) (fun e => compare_spec y x hyl hxl) rfl rfl rfl (fun e => by (try simp only [go_sem] at e); simp only [go_sem, e] <;> (try simp only [go_sem]) <;> first | exact LeA.refl _ | exact Le.refl _) rfl rfl ?_
  (refine rr fun K R hK hR => ?_; simp (maxSteps := 10000000) only [go_sem]; (try go_ints); (repeat refine And.intro side ?_); (first | refine hK _ ?_ | refine hR _ _ ?_); clear hK hR K R)
  have hspec : tupOk n r.arity r.tuples k = (((x.length : Int) == r.arity) && !(x.any fun x => decide (x < 0) || decide (x ≥ n)) && (decide (k = 0) || decide (cmpL y x < 0))) := by
   simp only [tupOk, List.getD_eq_getElem?_getD, hx, hy, Option.getD_some]
  have hk0 : decide ((k : Int) > 0) = !decide (k = 0) := by
   by_cases h : k = 0
   ·simp [h]
   ·simp [h]; omega
  have hcm : decide (cmpL y x ≥ 0) = !decide (cmpL y x < 0) := by
   by_cases h : cmpL y x < 0
   ·simp [h]
   ·simp [h]; omega
  repeat (first | refine nav ?_ | refine bo ?_)
  refine W_cond (by simp only [go_sem] <;> exact rfl) (fun hc => ?_) (fun hc => ?_)
  ·rw [hk0, hcm] at hc
   have hno : tupOk n r.arity r.tuples k = false := by
    rw [hspec]
    revert hc
    simp only [bne]
    cases ((x.length : Int) == r.arity) <;> cases (x.any fun x => decide (x < 0) || decide (x ≥ n)) <;> cases decide (k = 0) <;> cases decide (cmpL y x < 0) <;> simp
   repeat (first | refine nav ?_ | refine bo ?_)
   (refine wr fun K R hK hR => ?_; simp (maxSteps := 10000000) only [go_sem]; (try go_ints); (repeat refine And.intro side ?_); (first | refine hK _ ?_ | refine hR _ _ ?_); clear hK hR K R)
   repeat (first | refine nav ?_ | refine bo ?_)
   refine endQ_data (by simp only [go_sem] <;> exact rfl) (Le.of_eq ?_) rfl
   rw [AV.b.injEq, eq_comm, tuplesF, List.all_eq_false]
   exact ⟨k, by simpa using hb, by simp [hno]⟩
  ·rw [hk0, hcm] at hc
   have hyes : tupOk n r.arity r.tuples k = true := by
    rw [hspec]
    revert hc
    simp only [bne]
    cases ((x.length : Int) == r.arity) <;> cases (x.any fun x => decide (x < 0) || decide (x ≥ n)) <;> cases decide (k = 0) <;> cases decide (cmpL y x < 0) <;> simp
   repeat (first | refine nav ?_ | refine bo ?_)
   (refine wr fun K R hK hR => ?_; simp (maxSteps := 10000000) only [go_sem, h10]; (try go_ints); (try simp only [go_sem, h10]); (repeat refine And.intro side ?_); (first | refine hK _ ?_ | refine hR _ _ ?_); clear hK hR K R)
   refine forQ_normal (r.tuples.length - (k + 1)) (by omega) ⟨k + 1, ?_⟩
   ((try simp only [go_sem]); (repeat' refine And.intro ?_ ?_) <;> (try first | with_reducible rfl | omega | with_reducible assumption | (simp; done)))
   intro i hik
   rcases Nat.lt_succ_iff_lt_or_eq.1 hik with h | rfl
   ·exact hi i h
   ·exact hyes
 ·simp at hb
  have : k = r.tuples.length := by omega
  subst this
  repeat (first | refine nav ?_ | refine bo ?_)
  (refine wr fun K R hK hR => ?_; simp (maxSteps := 10000000) only [go_sem]; (try go_ints); (repeat refine And.intro side ?_); (first | refine hK _ ?_ | refine hR _ _ ?_); clear hK hR K R)
  repeat (first | refine nav ?_ | refine bo ?_)
  refine endQ_data (by simp only [go_sem] <;> exact rfl) (Le.of_eq ?_) rfl
  rw [AV.b.injEq, eq_comm, tuplesF, List.all_eq_true]
  exact fun i hi' => hi i (by simpa using hi')
structure StrD.Ok (s : StrD) : Prop where
 len : s.rels.length ≤ 1099511627776
 rel : ∀ r ∈ s.rels, r.Ok
def relOk (n : Int) (r : RelD) : Bool := nameF r.name && decide (0 ≤ r.arity) && decide (r.arity ≤ 12) && decide (powL n 4096 r.arity.toNat 1 ≥ 0) && tuplesF n r.arity r.tuples
def validF (s : StrD) : Bool := decide (1 ≤ s.size) && decide (s.size ≤ 64) && decide (s.rels.length ≤ 8) && (List.range s.rels.length).all fun i =>
 match s.rels[i]? with
 | some r => relOk s.size r && !(s.rels.take i).any fun q => q.name.toList == r.name.toList
 | none => true
theorem valid_spec (s : StrD) (hs : s.Ok) : ACallsD Try.prog 59 [.agg [.i .i64 s.size, .sl 3 (rels s.rels)]] (.b (validF s)) := by
 refine ACalls_of' (n := 63) (rs := [.tmp 2]) (show Try.prog.funcs[59]? = some Try.f59 by kernel_rfl) rfl rfl rfl (by simp) (by decide +kernel) ?_
 repeat (first | refine nav ?_ | refine bo ?_)
 (refine wr fun K R hK hR => ?_; simp (maxSteps := 10000000) only [go_sem]; (try go_ints); (repeat refine And.intro side ?_); (first | refine hK _ ?_ | refine hR _ _ ?_); clear hK hR K R)
 repeat (first | refine nav ?_ | refine bo ?_)
 (refine wr fun K R hK hR => ?_; simp (maxSteps := 10000000) only [go_sem]; (try go_ints); (repeat refine And.intro side ?_); (first | refine hK _ ?_ | refine hR _ _ ?_); clear hK hR K R)
 repeat (first | refine nav ?_ | refine bo ?_)
 refine W_cond (by simp only [go_sem] <;> exact rfl) (fun hb => ?_) (fun hb => ?_)
 ·simp only [Bool.or_eq_true, Bool.and_eq_true, Bool.not_eq_true', Bool.not_eq_false', Bool.and_eq_false_iff, Bool.or_eq_false_iff, decide_eq_true_eq, decide_eq_false_iff_not, Bool.not_eq_eq_eq_not, Bool.not_true, Bool.not_false] at hb
  repeat (first | refine nav ?_ | refine bo ?_)
  (refine wr fun K R hK hR => ?_; simp (maxSteps := 10000000) only [go_sem]; (try go_ints); (repeat refine And.intro side ?_); (first | refine hK _ ?_ | refine hR _ _ ?_); clear hK hR K R)
  repeat (first | refine nav ?_ | refine bo ?_)
  refine endQ_data (by simp only [go_sem] <;> exact rfl) (Le.of_eq ?_) rfl
  rw [AV.b.injEq, eq_comm, validF]
  rcases hb with (hb | hb) | hb
  ·rw [decide_eq_false (show ¬ 1 ≤ s.size by omega)]; simp
  ·rw [decide_eq_false (show ¬ s.size ≤ 64 by omega)]; simp
  ·rw [decide_eq_false (show ¬ s.rels.length ≤ 8 by omega)]; simp
 ·simp only [Bool.or_eq_true, Bool.and_eq_true, Bool.not_eq_true', Bool.not_eq_false', Bool.and_eq_false_iff, Bool.or_eq_false_iff, decide_eq_true_eq, decide_eq_false_iff_not, Bool.not_eq_eq_eq_not, Bool.not_true, Bool.not_false] at hb
  obtain ⟨⟨hb1, hb2⟩, hb3⟩ := hb
  repeat (first | refine nav ?_ | refine bo ?_)
  (refine wr fun K R hK hR => ?_; simp (maxSteps := 10000000) only [go_sem]; (try go_ints); (repeat refine And.intro side ?_); (first | refine hK _ ?_ | refine hR _ _ ?_); clear hK hR K R)
  repeat (first | refine nav ?_ | refine bo ?_)
  refine W_for 22 63 [3, 4] (fun m t o => ∃ k : Nat, okO o = true ∧ o[0]? = some (.cells 2 [[.i .i64 s.size, .sl 3 (rels s.rels)]]) ∧ t 22 = .i .i64 k ∧ m = s.rels.length - k ∧ k ≤ s.rels.length ∧ ∀ i < k, ∀ r, s.rels[i]? = some r → (relOk s.size r && !(s.rels.take i).any fun q => q.name.toList == r.name.toList) = true) s.rels.length ⟨0, rfl, rfl, by simp only [go_sem] <;> rfl, by omega, Nat.zero_le _, by simp⟩ ?_
  rintro m t o ⟨k, hok, h0, h22, rfl, hk, hi⟩
  have h0' := fun l => app_get l h0
  repeat (first | refine nav ?_ | refine bo ?_)
  (refine wr fun K R hK hR => ?_; simp (maxSteps := 10000000) only [go_sem, h22]; (try go_ints); (try simp only [go_sem, h22]); (repeat refine And.intro side ?_); (first | refine hK _ ?_ | refine hR _ _ ?_); clear hK hR K R)
  repeat (first | refine nav ?_ | refine bo ?_)
  refine W_cond (by simp only [go_sem] <;> exact rfl) (fun hb => ?_) (fun hb => ?_)
  ·simp at hb
   obtain ⟨r, hr⟩ : ∃ r, s.rels[k]? = some r := ⟨_, List.getElem?_eq_getElem hb⟩
   have hro := hs.rel r (List.mem_of_getElem? hr)
   repeat (first | refine nav ?_ | refine bo ?_)
   (refine wr fun K R hK hR => ?_; simp (maxSteps := 10000000) only [go_sem, h22, rels_get hr]; (try go_ints); (try simp only [go_sem, h22, rels_get hr]); (repeat refine And.intro side ?_); (first | refine hK _ ?_ | refine hR _ _ ?_); clear hK hR K R)
   repeat (first | refine nav ?_ | refine bo ?_)
   (refine wr fun K R hK hR => ?_; simp (maxSteps := 10000000) only [go_sem]; (try go_ints); (repeat refine And.intro side ?_); (first | refine hK _ ?_ | refine hR _ _ ?_); clear hK hR K R)
   refine RL_callF (name_spec r.name hro.name) rfl rfl rfl (by first | (simp only [go_sem] <;> first | exact LeA.refl _ | exact Le.refl _) | exact LeA.refl _) rfl rfl ?_
   (refine rr fun K R hK hR => ?_; simp (maxSteps := 10000000) only [go_sem, h0']; (try go_ints); (try simp only [go_sem, h0']); (repeat refine And.intro side ?_); (first | refine hK _ ?_ | refine hR _ _ ?_); clear hK hR K R)
   refine RL_callDg rfl (by simp only [go_sem] <;> exact rfl) (fun e => power_spec s.size r.arity (by omega) (by omega) (by have := e; simp at this; omega) (by have := e; simp at this; omega)) rfl rfl rfl (fun e => by (try simp only [go_sem] at e); simp only [go_sem, e] <;> (try simp only [go_sem]) <;> first | exact LeA.refl _ | exact Le.refl _) rfl rfl ?_
   (refine rr fun K R hK hR => ?_; simp (maxSteps := 10000000) only [go_sem, h0']; (try go_ints); (try simp only [go_sem, h0']); (repeat refine And.intro side ?_); (first | refine hK _ ?_ | refine hR _ _ ?_); clear hK hR K R)
   refine RL_callDg rfl (by simp only [go_sem] <;> exact rfl) (fun e => tuples_spec s.size r hro) rfl rfl rfl (fun e => by (try simp only [go_sem] at e); simp only [go_sem, e] <;> (try simp only [go_sem]) <;> first | exact LeA.refl _ | exact Le.refl _) rfl rfl ?_
   (refine rr fun K R hK hR => ?_; simp (maxSteps := 10000000) only [go_sem]; (try go_ints); (repeat refine And.intro side ?_); (first | refine hK _ ?_ | refine hR _ _ ?_); clear hK hR K R)
   have hcm : decide (powL s.size 4096 r.arity.toNat 1 < 0) = !decide (powL s.size 4096 r.arity.toNat 1 ≥ 0) := by
    by_cases h : powL s.size 4096 r.arity.toNat 1 < 0
    ·simp [h]
    ·simp [h]; omega
   have hc1 : decide (r.arity < 0) = !decide (0 ≤ r.arity) := by
    by_cases h : r.arity < 0
    ·simp [h]
    ·simp [h]; omega
   have hc2 : decide (r.arity > 12) = !decide (r.arity ≤ 12) := by
    by_cases h : r.arity > 12
    ·simp [h]
    ·simp [h]; omega
   repeat (first | refine nav ?_ | refine bo ?_)
   refine W_cond (by simp only [go_sem, hcm, hc1, hc2] <;> exact rfl) (fun hc => ?_) (fun hc => ?_)
   ·have hno : relOk s.size r = false := by
     rw [relOk]
     revert hc
     cases nameF r.name <;> cases decide (0 ≤ r.arity) <;> cases decide (r.arity ≤ 12) <;> cases decide (powL s.size 4096 r.arity.toNat 1 ≥ 0) <;> cases tuplesF s.size r.arity r.tuples <;> simp
    repeat (first | refine nav ?_ | refine bo ?_)
    (refine wr fun K R hK hR => ?_; simp (maxSteps := 10000000) only [go_sem]; (try go_ints); (repeat refine And.intro side ?_); (first | refine hK _ ?_ | refine hR _ _ ?_); clear hK hR K R)
    repeat (first | refine nav ?_ | refine bo ?_)
    refine endQ_data (by simp only [go_sem] <;> exact rfl) (Le.of_eq ?_) rfl
    rw [AV.b.injEq, eq_comm, validF]
    simp only [Bool.and_eq_false_iff]
    right
    rw [List.all_eq_false]
    exact ⟨k, by simpa using hb, by simp [hr, hno]⟩
   ·have hyes : relOk s.size r = true := by
     rw [relOk]
     revert hc
     cases nameF r.name <;> cases decide (0 ≤ r.arity) <;> cases decide (r.arity ≤ 12) <;> cases decide (powL s.size 4096 r.arity.toNat 1 ≥ 0) <;> cases tuplesF s.size r.arity r.tuples <;> simp
    repeat (first | refine nav ?_ | refine bo ?_)
    (refine wr fun K R hK hR => ?_; simp (maxSteps := 10000000) only [go_sem, h0', rels_take]; (try go_ints); (try simp only [go_sem, h0', rels_take]); (repeat refine And.intro side ?_); (first | refine hK _ ?_ | refine hR _ _ ?_); clear hK hR K R)
    have hok2 : okO (o ++ [.cells 3 [[.s r.name, .i .i64 r.arity, .sl 1 (tups r.tuples)]]]) = true := okO_app hok rfl
    refine RL_callQ (containsRel_spec hok2 (by simp [AV.ltk]) rfl (fun q => q.name.toList == r.name.toList) (s.rels.take k) (by rw [List.length_take]; have := hs.len; omega) fun q _ => valid1_spec (i := o.length) hok2 (by simp) q) (by simp only [go_sem] <;> exact rfl) rfl rfl (by simp) (by simp only [go_sem]) hok2 (by simp [AV.ltk, AV.ltks]) rfl ?_
    (refine rr fun K R hK hR => ?_; simp (maxSteps := 10000000) only [go_sem]; (try go_ints); (repeat refine And.intro side ?_); (first | refine hK _ ?_ | refine hR _ _ ?_); clear hK hR K R)
    repeat (first | refine nav ?_ | refine bo ?_)
    refine W_cond (by simp only [go_sem] <;> exact rfl) (fun hd => ?_) (fun hd => ?_)
    ·repeat (first | refine nav ?_ | refine bo ?_)
     (refine wr fun K R hK hR => ?_; simp (maxSteps := 10000000) only [go_sem]; (try go_ints); (repeat refine And.intro side ?_); (first | refine hK _ ?_ | refine hR _ _ ?_); clear hK hR K R)
     repeat (first | refine nav ?_ | refine bo ?_)
     refine endQ_data (by simp only [go_sem] <;> exact rfl) (Le.of_eq ?_) rfl
     rw [AV.b.injEq, eq_comm, validF]
     simp only [Bool.and_eq_false_iff]
     right
     rw [List.all_eq_false]
     exact ⟨k, by simpa using hb, by simp only [hr, hd]; simp⟩
    ·repeat (first | refine nav ?_ | refine bo ?_)
     (refine wr fun K R hK hR => ?_; simp (maxSteps := 10000000) only [go_sem, h22]; (try go_ints); (try simp only [go_sem, h22]); (repeat refine And.intro side ?_); (first | refine hK _ ?_ | refine hR _ _ ?_); clear hK hR K R)
     refine forQ_normal (s.rels.length - (k + 1)) (by omega) ⟨k + 1, hok2, h0' _, ?_⟩
     ((try simp only [go_sem]); (repeat' refine And.intro ?_ ?_) <;> (try first | with_reducible rfl | omega | with_reducible assumption | (simp; done)))
     intro i hik r' hr'
     rcases Nat.lt_succ_iff_lt_or_eq.1 hik with h | rfl
     ·exact hi i h r' hr'
     ·rw [hr] at hr'
      obtain rfl := Option.some.inj hr'
      rw [hyes, hd]; rfl
  ·simp at hb
   have : k = s.rels.length := by omega
   subst this
   repeat (first | refine nav ?_ | refine bo ?_)
   (refine wr fun K R hK hR => ?_; simp (maxSteps := 10000000) only [go_sem]; (try go_ints); (repeat refine And.intro side ?_); (first | refine hK _ ?_ | refine hR _ _ ?_); clear hK hR K R)
   repeat (first | refine nav ?_ | refine bo ?_)
   refine endQ_data (by simp only [go_sem] <;> exact rfl) (Le.of_eq ?_) rfl
   rw [AV.b.injEq, eq_comm, validF, decide_eq_true (show 1 ≤ s.size by omega), decide_eq_true (show s.size ≤ 64 by omega), decide_eq_true (show s.rels.length ≤ 8 by omega)]
   simp only [Bool.true_and]
   rw [List.all_eq_true]
   intro i hi'
   have hlt : i < s.rels.length := by simpa using hi'
   rw [List.getElem?_eq_getElem hlt]
   exact hi i hlt _ (List.getElem?_eq_getElem hlt)
structure SymD where
 name : ByteArray
 arity : Int
def syms (l : List SymD) : List (List AV) := l.map fun x => [.s x.name, .i .i64 x.arity]
theorem syms_len (l : List SymD) : (syms l).length = l.length := by simp [syms]
theorem syms_get {l : List SymD} {i : Nat} {x : SymD} (h : l[i]? = some x) : (syms l).getD i [] = [.s x.name, .i .i64 x.arity] := by simp [syms, h]
attribute [go_sem] syms_len
def fitsF (l : List SymD) (s : StrD) : Bool := l.all fun x => s.rels.any fun q => q.name.toList == x.name.toList && (q.arity == x.arity)
theorem fits_spec (l : List SymD) (hl : l.length ≤ 1099511627776) (s : StrD) (hs : s.Ok) : ACallsD Try.prog 60 [.sl 2 (syms l), .agg [.i .i64 s.size, .sl 3 (rels s.rels)]] (.b (fitsF l s)) := by
 refine ACalls_of' (n := 19) (rs := [.tmp 4]) (show Try.prog.funcs[60]? = some Try.f60 by kernel_rfl) rfl rfl rfl (by simp) (by decide +kernel) ?_
 repeat (first | refine nav ?_ | refine bo ?_)
 (refine wr fun K R hK hR => ?_; simp (maxSteps := 10000000) only [go_sem]; (try go_ints); (repeat refine And.intro side ?_); (first | refine hK _ ?_ | refine hR _ _ ?_); clear hK hR K R)
 repeat (first | refine nav ?_ | refine bo ?_)
 (refine wr fun K R hK hR => ?_; simp (maxSteps := 10000000) only [go_sem]; (try go_ints); (repeat refine And.intro side ?_); (first | refine hK _ ?_ | refine hR _ _ ?_); clear hK hR K R)
 repeat (first | refine nav ?_ | refine bo ?_)
 refine W_for 9 19 [6] (fun m t o => ∃ k : Nat, okO o = true ∧ o[0]? = some (.cells 2 [[.i .i64 s.size, .sl 3 (rels s.rels)]]) ∧ t 9 = .i .i64 k ∧ m = l.length - k ∧ k ≤ l.length ∧ ∀ i < k, ∀ x, l[i]? = some x → (s.rels.any fun q => q.name.toList == x.name.toList && (q.arity == x.arity)) = true) l.length ⟨0, rfl, rfl, by simp only [go_sem] <;> rfl, by omega, Nat.zero_le _, by simp⟩ ?_
 rintro m t o ⟨k, hok, h0, h9, rfl, hk, hi⟩
 have h0' := fun l => app_get l h0
 repeat (first | refine nav ?_ | refine bo ?_)
 (refine wr fun K R hK hR => ?_; simp (maxSteps := 10000000) only [go_sem, h9]; (try go_ints); (try simp only [go_sem, h9]); (repeat refine And.intro side ?_); (first | refine hK _ ?_ | refine hR _ _ ?_); clear hK hR K R)
 repeat (first | refine nav ?_ | refine bo ?_)
 refine W_cond (by simp only [go_sem] <;> exact rfl) (fun hb => ?_) (fun hb => ?_)
 ·simp at hb
  obtain ⟨x, hx⟩ : ∃ x, l[k]? = some x := ⟨_, List.getElem?_eq_getElem hb⟩
  repeat (first | refine nav ?_ | refine bo ?_)
  (refine wr fun K R hK hR => ?_; simp (maxSteps := 10000000) only [go_sem, h9, syms_get hx]; (try go_ints); (try simp only [go_sem, h9, syms_get hx]); (repeat refine And.intro side ?_); (first | refine hK _ ?_ | refine hR _ _ ?_); clear hK hR K R)
  repeat (first | refine nav ?_ | refine bo ?_)
  (refine wr fun K R hK hR => ?_; simp (maxSteps := 10000000) only [go_sem, h0']; (try go_ints); (try simp only [go_sem, h0']); (repeat refine And.intro side ?_); (first | refine hK _ ?_ | refine hR _ _ ?_); clear hK hR K R)
  have hok2 : okO (o ++ [.cells 2 [[.s x.name, .i .i64 x.arity]]]) = true := okO_app hok rfl
  refine RL_callQ (containsRel_spec hok2 (by simp [AV.ltk]) rfl (fun q => q.name.toList == x.name.toList && (q.arity == x.arity)) s.rels hs.len fun q _ => fits1_spec (i := o.length) hok2 (by simp) q) (by simp only [go_sem] <;> exact rfl) rfl rfl (by simp) (by simp only [go_sem]) hok2 (by simp [AV.ltk, AV.ltks]) rfl ?_
  (refine rr fun K R hK hR => ?_; simp (maxSteps := 10000000) only [go_sem]; (try go_ints); (repeat refine And.intro side ?_); (first | refine hK _ ?_ | refine hR _ _ ?_); clear hK hR K R)
  repeat (first | refine nav ?_ | refine bo ?_)
  refine W_cond (by simp only [go_sem] <;> exact rfl) (fun hd => ?_) (fun hd => ?_)
  ·simp only [Bool.not_eq_true'] at hd
   repeat (first | refine nav ?_ | refine bo ?_)
   (refine wr fun K R hK hR => ?_; simp (maxSteps := 10000000) only [go_sem]; (try go_ints); (repeat refine And.intro side ?_); (first | refine hK _ ?_ | refine hR _ _ ?_); clear hK hR K R)
   repeat (first | refine nav ?_ | refine bo ?_)
   refine endQ_data (by simp only [go_sem] <;> exact rfl) (Le.of_eq ?_) rfl
   rw [AV.b.injEq, eq_comm, fitsF, List.all_eq_false]
   exact ⟨x, List.mem_of_getElem? hx, by rw [hd]; simp⟩
  ·simp only [Bool.not_eq_false'] at hd
   repeat (first | refine nav ?_ | refine bo ?_)
   (refine wr fun K R hK hR => ?_; simp (maxSteps := 10000000) only [go_sem, h9]; (try go_ints); (try simp only [go_sem, h9]); (repeat refine And.intro side ?_); (first | refine hK _ ?_ | refine hR _ _ ?_); clear hK hR K R)
   refine forQ_normal (l.length - (k + 1)) (by omega) ⟨k + 1, hok2, h0' _, ?_⟩
   ((try simp only [go_sem]); (repeat' refine And.intro ?_ ?_) <;> (try first | with_reducible rfl | omega | with_reducible assumption | (simp; done)))
   intro i hik y hy
   rcases Nat.lt_succ_iff_lt_or_eq.1 hik with h | rfl
   ·exact hi i h y hy
   ·rw [hx] at hy
    obtain rfl := Option.some.inj hy
    exact hd
 ·simp at hb
  have : k = l.length := by omega
  subst this
  repeat (first | refine nav ?_ | refine bo ?_)
  (refine wr fun K R hK hR => ?_; simp (maxSteps := 10000000) only [go_sem]; (try go_ints); (repeat refine And.intro side ?_); (first | refine hK _ ?_ | refine hR _ _ ?_); clear hK hR K R)
  repeat (first | refine nav ?_ | refine bo ?_)
  refine endQ_data (by simp only [go_sem] <;> exact rfl) (Le.of_eq ?_) rfl
  rw [AV.b.injEq, eq_comm, fitsF, List.all_eq_true]
  intro x hx
  obtain ⟨i, hi'⟩ := List.getElem?_of_mem hx
  exact hi i (List.getElem?_eq_some_iff.1 hi').1 x hi'
end Go.AW
