/-
The engine's methods: relations, joins, projections.
-/
import Derived.Test.YtfjdiofipbchcaaGreatKag
import Derived.Test.YtfjdiofipbchcaaGreatKaf
import Derived.Test.YtfjdiofipbchcaaGreatKae
import Derived.Shelf.SlSortCmp.Kit1
import Derived.Shelf.SlSortCmp.Whole1
import Derived.Shelf.SlCmpFuncs.BinarySearchFunc
import Derived.Test.YtfjdiofipbchcaaGreatProg
import Derived.KernelRfl
namespace Go.AW
open Go Go.Proofs TyTryz Go.IntWalk
set_option linter.unusedSimpArgs false
set_option linter.unusedVariables false
set_option maxRecDepth 10000
set_option maxHeartbeats 1000000
theorem LeA.len : ∀ {a b : List AV},LeA a b → a.length = b.length
 | [],[],_=>rfl
 | x :: a,y :: b,h=>by
  rw [LeA_cons] at h
  simp [h.2.len]
theorem LeA.getD : ∀ {a b : List AV},LeA a b → ∀ k,Le (a.getD k .any) (b.getD k .any)
 | [],[],_,k=>by simp;exact Le.refl _
 | x :: a,y :: b,h,0=>by rw [LeA_cons] at h;simpa using h.1
 | x :: a,y :: b,h,k + 1=>by rw [LeA_cons] at h;simpa using h.2.getD k
theorem ACalls.arg {P : Program} {f : FuncId} {ac ac' : List AV} {oc : List Ob} {R : AV → List Ob → Prop} (h : ACalls P f ac oc R) (hle : LeA ac' ac) : ACalls P f ac' oc R :=
 ⟨h.1,fun w Z m reg vs hl hr=>h.2 w Z m reg vs (hl.trans hle.len) (hr.weak fun k=>hle.getD k)⟩
theorem meth_any {s : StrD} {q : PlanD} {ks : List (List (List Int))} {out : List (List Int)} (h : ACallsD Tryz.prog (methF q.kind) [.any,.agg q.cells,.sl 1 (kid3 ks)] (.sl 1 (tups out))) : Meth s q ks out:=by
 intro oc E ho he
 have h1:=h.frame (by rw [q.cells_eq];rfl) rfl oc
 exact ACalls.arg h1 (by simp only [LeA_cons,LeA_nil];exact ⟨Le.any _,Le.refl _,Le.refl _,trivial⟩)
theorem rel_spec {s : StrD} {q : PlanD} {k : Nat} {r : RelD} (hs : s.rels.length ≤ 1000000) (hk : q.kind = 0) (hf : ACallsD Tryz.prog 31 [.agg s.cells,.s q.name,.i .i64 q.width] (.i .i64 k)) (hr : s.rels[k]? = some r) : Meth s q [] r.tuples:=by
 intro oc E ho he
 have hm : methF q.kind = 56:=by rw [hk];rfl
 have hel:=(List.getElem?_eq_some_iff.1 he.m).1
 have hkl:=(List.getElem?_eq_some_iff.1 hr).1
 rw [hm,q.cells_eq]
 unfold StrD.cells at hf
 have he':=fun l=>app_get l he.e
 have hrl : (rels s.rels).length = s.rels.length:=by simp [rels]
 have hrg : (rels s.rels).getD k [] = [.s r.name,.i .i64 r.arity,.sl 1 (tups r.tuples)]:=by simp [rels,hr,RelD.cells]
 refine ACalls_of' (n:=24) (rs:=[.tmp 6]) (show Tryz.prog.funcs[56]? = some Tryz.f56 by kernel_rfl) rfl rfl rfl (by simp) (by decide +kernel) ?_
 repeat (first | refine nav ?_ | refine bo ?_)
 (refine wr fun K R hK hR=>?_;simp only [go_sem];(try go_ints);(repeat refine And.intro side ?_);(first|refine hK _ ?_|refine hR _ _ ?_);clear hK hR K R)
 repeat (first | refine nav ?_ | refine bo ?_)
 (refine W_dreg (by decide +kernel) [] [0,1,2,3,4,5,6,7,8,9,10,11,12,13,14,15,16,17] [[],[0],[0,1],[1,0,2],[2,0,1,3],[],[5],[5,6],[6,5,7],[],[9],[],[11],[11,12,9,10,7,5,6,8],[8,6,5,7,10,9,12,11,13,3,1,0,2,4],[4,2,0,1,3,13,11,12,9,10,7,5,6,8,14],[14,8,6,5,7,10,9,12,11,13,3,1,0,2,4,15],[15,4,2,0,1,3,13,11,12,9,10,7,5,6,8,14,16]] (by decide +kernel) rfl fun K R hK hR=>?_;simp only [List.filterMap_cons,List.filterMap_nil,List.getElem?_cons_zero,List.getElem?_cons_succ,List.cons_append,List.nil_append];simp only [go_sem,he'];(try go_ints);(try simp only [go_sem,he']);(repeat refine And.intro side ?_);(first|refine hK _ ?_|refine hR _ _ ?_);clear hK hR K R)
 refine D_callD (hf) rfl rfl rfl (by first | (simp only [go_sem]<;>first | exact LeA.refl _ | exact Le.refl _) | exact LeA.refl _) rfl rfl rfl rfl ?_
 (refine D_reg fun K R hK hR=>?_;simp only [go_sem,hrl,hrg];(try go_ints);(try simp only [go_sem,hrl,hrg]);(repeat refine And.intro side ?_);(first|refine hK _ ?_|refine hR _ _ ?_);clear hK hR K R)
 repeat (first | refine nav ?_ | refine bo ?_)
 refine endQ_quiet (by simp only [go_sem]<;>exact rfl) (Le.of_eq rfl) ho rfl
theorem meth_join {s : StrD} {q : PlanD} (a b : List (List Int)) (hk : q.kind = 4) (ha : a.length ≤ 1000000) (hbb : b.length ≤ 1000000) (hab : a.length * b.length ≤ 1000000)
  (hal : ∀ t ∈ a,t.length ≤ 1000000) (hbl : ∀ t ∈ b,t.length ≤ 1000000) : Meth s q [a,b] (joinF a b) :=
 meth_any (by rw [hk];exact join_spec a b ha hbb hab hal hbl q)
theorem meth_project {s : StrD} {q : PlanD} (l r : List (List Int)) (hk : q.kind = 5) (hs : l ≠ [] → SortedP (l.map (placesF q.cols)) r) (hr : l = [] → r = [])
  (hl : l.length ≤ 1000000) (hc : q.cols.length ≤ 1000000) (hll : ∀ x ∈ l,x.length ≤ 1000000) (hin : ∀ x ∈ l,∀ c ∈ q.cols,0 ≤ c ∧ c < x.length) : Meth s q [l] r :=
 meth_any (by rw [hk];exact project_spec q l r sorted0_spec hs hr hl hc hll hin)
end Go.AW
namespace Go.AW
open Go Go.Proofs TyTryz Go.IntWalk
set_option linter.unusedSimpArgs false
set_option linter.unusedVariables false
set_option maxRecDepth 10000
set_option maxHeartbeats 4000000
theorem ints_push (l : List Int) (x : Int) : ints (l ++ [x]) = ints l ++ [[.i .i64 x]]:=by simp [ints]
def ents (l : Names) : List (AV × AV):=l.map fun x=>(.s x.1,.i .i64 x.2)
def lookN (nm : ByteArray) : Names → Option Int
 | []=>none
 | x :: r=>if nm == x.1 then some x.2 else lookN nm r
def setN (nm : ByteArray) (w : Int) : Names → Names
 | []=>[(nm,w)]
 | x :: r=>if nm == x.1 then (nm,w) :: r else x :: setN nm w r
theorem mfind_ents (nm : ByteArray) : ∀ l : Names,mfind (.s nm) (ents l) = some ((lookN nm l).map (.i .i64))
 | []=>rfl
 | x :: r=>by
  simp only [ents,List.map_cons,mfind,keq,lookN]
  cases h : (nm == x.1)
  ·exact mfind_ents nm r
  ·simp
theorem mset_ents (nm : ByteArray) (w : Int) : ∀ l : Names,mset (.s nm) (.i .i64 w) (ents l) = some (ents (setN nm w l))
 | []=>rfl
 | x :: r=>by
  simp only [ents,List.map_cons,mset,keq,setN]
  cases h : (nm == x.1)
  ·have:=mset_ents nm w r
   unfold ents at this
   simp only [this];rfl
  ·simp
def badF (p : PlanD) (lv n : Nat) : Bool:=decide (p.kind < 0) || decide (p.kind ≥ 8) || decide ((n : Int) > 4000) || decide ((lv : Int) > 1000) || !spareF p || ((p.kids.length : Int) != kidsF p.kind)
def finF (p : PlanD) (of : List Int) (ws : Names) : Option (Int × Names) :=
 let cap (bad : Bool) (w : Int) (ws : Names) : Option (Int × Names):=if (bad || decide (w < 0) || decide (w > 12)) = true then none else some (w,ws)
 if p.kind = 0 then cap (!nameF p.name || match lookN p.name ws with | some n=>n != p.width | none=>false) p.width (setN p.name p.width ws)
 else if p.kind = 2 ∨ p.kind = 3 then cap (!insideF (of.getD 0 0) [p.i,p.j]) (of.getD 0 0) ws
 else if p.kind = 4 then cap false (of.getD 0 0 + of.getD 1 0) ws
 else if p.kind = 5 then cap (!insideF (of.getD 0 0) p.cols) p.cols.length ws
 else if p.kind = 6 ∨ p.kind = 7 then cap (of.getD 0 0 != of.getD 1 0) (of.getD 0 0) ws
 else cap false p.width ws
mutual
/-- A plan's width,the number of nodes walked so far,the widths seen;nothing where the plan is bad. -/
def walkF : PlanD → Nat → Nat → Names → Option (Int × Nat × Names)
 | .mk k w i j nm cs ks,lv,n,ws =>
  if badF (.mk k w i j nm cs ks) lv (n + 1) = true then none
  else match walkL ks (lv + 1) (n + 1) ws with
   | none=>none
   | some (of,n',ws')=>match finF (.mk k w i j nm cs ks) of ws' with
    | none=>none
    | some (x,ws'')=>some (x,n',ws'')
def walkL : List PlanD → Nat → Nat → Names → Option (List Int × Nat × Names)
 | [],_,n,ws=>some ([],n,ws)
 | p :: r,lv,n,ws=>match walkF p lv n ws with
  | none=>none
  | some (x,n',ws')=>match walkL r lv n' ws' with
   | none=>none
   | some (l,n'',ws'')=>some (x :: l,n'',ws'')
end
theorem walkF_eq (p : PlanD) (lv n : Nat) (ws : Names) : walkF p lv n ws = if badF p lv (n + 1) = true then none
  else match walkL p.kids (lv + 1) (n + 1) ws with
   | none=>none
   | some (of,n',ws')=>match finF p of ws' with
    | none=>none
    | some (x,ws'')=>some (x,n',ws''):=by cases p;rfl
theorem walkL_snoc (p : PlanD) (lv : Nat) : ∀ (l : List PlanD) (n : Nat) (ws : Names),walkL (l ++ [p]) lv n ws = match walkL l lv n ws with
  | none=>none
  | some (of,n',ws')=>match walkF p lv n' ws' with
   | none=>none
   | some (x,n'',ws'')=>some (of ++ [x],n'',ws'')
 | [],n,ws=>by
  simp only [List.nil_append,walkL]
 | q :: r,n,ws=>by
  simp only [List.cons_append,walkL]
  cases walkF q lv n ws with
  | none=>rfl
  | some y =>
   obtain ⟨x,n',ws'⟩:=y
   simp only [walkL_snoc p lv r n' ws']
   cases walkL r lv n' ws' with
   | none=>rfl
   | some z =>
    obtain ⟨l,n2,ws2⟩:=z
    simp only
    cases walkF p lv n2 ws2 with
    | none=>rfl
    | some y2=>obtain ⟨x2,n3,ws3⟩:=y2;rfl
theorem walkL_stop {lv n : Nat} {ws : Names} : ∀ {l l' : List PlanD},walkL l lv n ws = none → walkL (l ++ l') lv n ws = none:=by
 intro l l'
 induction l generalizing n ws with
 | nil=>intro h;cases h
 | cons q r ih =>
  intro h
  simp only [List.cons_append,walkL] at h ⊢
  cases hq : walkF q lv n ws with
  | none=>rfl
  | some y =>
   obtain ⟨x,n',ws'⟩:=y
   rw [hq] at h
   simp only at h ⊢
   cases hr : walkL r lv n' ws' with
   | none=>rw [ih hr]
   | some z=>obtain ⟨l2,n2,ws2⟩:=z;rw [hr] at h;cases h
theorem finF_bd {p : PlanD} {of : List Int} {ws ws' : Names} {x : Int} (h : finF p of ws = some (x,ws')) : 0 ≤ x ∧ x ≤ 12:=by
 have key : ∀ (bad : Bool) (w : Int) (ws0 : Names),(if (bad || decide (w < 0) || decide (w > 12)) = true then none else some (w,ws0)) = some (x,ws') → 0 ≤ x ∧ x ≤ 12:=by
  intro bad w ws0 h
  split at h
  ·cases h
  ·rename_i hb
   simp only [Bool.or_eq_true,decide_eq_true_eq,not_or] at hb
   simp only [Option.some.injEq,Prod.mk.injEq] at h
   omega
 unfold finF at h
 simp only at h
 split at h
 ·exact key _ _ _ h
 ·split at h
  ·exact key _ _ _ h
  ·split at h
   ·exact key _ _ _ h
   ·split at h
    ·exact key _ _ _ h
    ·split at h
     ·exact key _ _ _ h
     ·exact key _ _ _ h
theorem walkL_bd {lv : Nat} : ∀ {l : List PlanD},(∀ p ∈ l,∀ (n : Nat) (ws : Names) x n' ws',walkF p lv n ws = some (x,n',ws') → n' ≤ 4000 ∧ 0 ≤ x ∧ x ≤ 12) → ∀ {n : Nat} {ws : Names} {of : List Int} {n' : Nat} {ws' : Names},n ≤ 4000 → walkL l lv n ws = some (of,n',ws') → n' ≤ 4000 ∧ of.length = l.length ∧ ∀ x ∈ of,0 ≤ x ∧ x ≤ 12
 | [],_,n,ws,of,n',ws',hn,h=>by
  simp only [walkL,Option.some.injEq,Prod.mk.injEq] at h
  obtain ⟨rfl,rfl,rfl⟩:=h
  exact ⟨hn,rfl,by simp⟩
 | p :: r,hp,n,ws,of,n',ws',hn,h=>by
  simp only [walkL] at h
  cases hq : walkF p lv n ws with
  | none=>rw [hq] at h;cases h
  | some y =>
   obtain ⟨x,n1,ws1⟩:=y
   rw [hq] at h
   simp only at h
   cases hr : walkL r lv n1 ws1 with
   | none=>rw [hr] at h;cases h
   | some z =>
    obtain ⟨l2,n2,ws2⟩:=z
    rw [hr] at h
    simp only [Option.some.injEq,Prod.mk.injEq] at h
    obtain ⟨rfl,rfl,rfl⟩:=h
    have h1:=hp p (by simp) n ws x n1 ws1 hq
    have h2:=walkL_bd (fun q hq=>hp q (by simp [hq])) h1.1 hr
    refine ⟨h2.1,by simp [h2.2.1],fun z hz=>?_⟩
    rcases List.mem_cons.1 hz with rfl | hz
    ·exact h1.2
    ·exact h2.2.2 z hz
theorem walkF_bd : ∀ (p : PlanD) (lv n : Nat) (ws : Names) (x : Int) (n' : Nat) (ws' : Names),walkF p lv n ws = some (x,n',ws') → n' ≤ 4000 ∧ 0 ≤ x ∧ x ≤ 12 :=
 PlanD.ind fun p ih lv n ws x n' ws' h=>by
  rw [walkF_eq] at h
  split at h
  ·cases h
  ·rename_i hb
   have hn : n + 1 ≤ 4000:=by
    have : ¬ ((n + 1 : Nat) : Int) > 4000:=fun hgt=>hb (by unfold badF;rw [decide_eq_true hgt];simp)
    omega
   cases hr : walkL p.kids (lv + 1) (n + 1) ws with
   | none=>rw [hr] at h;cases h
   | some z =>
    obtain ⟨of,n2,ws2⟩:=z
    rw [hr] at h
    simp only at h
    cases hf : finF p of ws2 with
    | none=>rw [hf] at h;cases h
    | some y =>
     obtain ⟨x2,ws3⟩:=y
     rw [hf] at h
     simp only [Option.some.injEq,Prod.mk.injEq] at h
     obtain ⟨rfl,rfl,rfl⟩:=h
     exact ⟨(walkL_bd (fun q hq n ws x n' ws' h=>ih q hq (lv + 1) n ws x n' ws' h) hn hr).1,finF_bd hf⟩
end Go.AW
namespace Go.AW
open Go Go.Proofs TyTryz Go.IntWalk
set_option linter.unusedSimpArgs false
set_option linter.unusedVariables false
set_option maxRecDepth 10000
set_option maxHeartbeats 4000000
attribute [go_sem] List.modify_zero_cons
structure WRep (o : List Ob) (K M : Nat) (n : Nat) (bad : Bool) (ws : Names) : Prop where
 k : o[K]? = some (.cells 3 [[.i .i64 n,.mp M,.b bad]])
 m : o[M]? = some (.mapo (ents ws))
 ok : okO o = true
theorem WRep.ne {o : List Ob} {K M n : Nat} {bad : Bool} {ws : Names} (h : WRep o K M n bad ws) : K ≠ M:=by
 rintro rfl
 have:=h.k.symm.trans h.m
 simp at this
structure Fr2 (o o' : List Ob) (K M : Nat) : Prop where
 len : o.length ≤ o'.length
 get : ∀ j,j ≠ K → j ≠ M → j < o.length → o'[j]? = o[j]?
theorem Fr2.refl (o : List Ob) (K M : Nat) : Fr2 o o K M:=⟨Nat.le_refl _,fun _ _ _ _=>rfl⟩
theorem Fr2.trans {o o1 o2 : List Ob} {K M : Nat} (h : Fr2 o o1 K M) (h' : Fr2 o1 o2 K M) : Fr2 o o2 K M :=
 ⟨Nat.le_trans h.len h'.len,fun j a b c=>(h'.get j a b (Nat.lt_of_lt_of_le c h.len)).trans (h.get j a b c)⟩
theorem Fr2.app (o l : List Ob) (K M : Nat) : Fr2 o (o ++ l) K M:=⟨by simp,fun j _ _ h=>by rw [List.getElem?_append_left h]⟩
theorem WRep.app {o : List Ob} {K M n : Nat} {bad : Bool} {ws : Names} (h : WRep o K M n bad ws) {l : List Ob} (hl : l.all (Ob.ltk (o.length + l.length)) = true) : WRep (o ++ l) K M n bad ws :=
 ⟨app_get l h.k,app_get l h.m,okO_app h.ok hl⟩
theorem okO_set {o : List Ob} {i : Nat} {x : Ob} (h : okO o = true) (hx : x.ltk o.length = true) : okO (o.set i x) = true:=by
 unfold okO at h ⊢
 rw [List.all_eq_true] at h ⊢
 rw [List.length_set]
 intro y hy
 rcases List.mem_or_eq_of_mem_set hy with hy | rfl
 ·exact h y hy
 ·exact hx
theorem ents_ltk (k : Nat) (ws : Names) : (Ob.mapo (ents ws)).ltk k = true:=by
 simp [Ob.ltk,ents,AV.ltk]
theorem WRep.set {o : List Ob} {K M n : Nat} {bad : Bool} {ws : Names} (h : WRep o K M n bad ws) (n' : Nat) (bad' : Bool) : WRep (o.set K (.cells 3 [[.i .i64 n',.mp M,.b bad']])) K M n' bad' ws ∧ Fr2 o (o.set K (.cells 3 [[.i .i64 n',.mp M,.b bad']])) K M:=by
 have hM:=(List.getElem?_eq_some_iff.1 h.m).1
 refine ⟨⟨by rw [set_get h.k,if_pos rfl],by rw [set_get h.k,if_neg (Ne.symm h.ne)];exact h.m,okO_set h.ok (by simp [Ob.ltk,AV.ltk,hM])⟩,by simp,fun j a b c=>by rw [set_get h.k,if_neg a]⟩
theorem WRep.setM {o : List Ob} {K M n : Nat} {bad : Bool} {ws : Names} (h : WRep o K M n bad ws) (ws' : Names) : WRep (o.set M (.mapo (ents ws'))) K M n bad ws' ∧ Fr2 o (o.set M (.mapo (ents ws'))) K M:=by
 refine ⟨⟨by rw [set_get h.m,if_neg h.ne];exact h.k,by rw [set_get h.m,if_pos rfl],okO_set h.ok (ents_ltk _ _)⟩,by simp,fun j a b c=>by rw [set_get h.m,if_neg b]⟩
def WalkP (o : List Ob) (K M : Nat) (res : Option (Int × Nat × Names)) (r : AV) (o' : List Ob) : Prop:=Fr2 o o' K M ∧ match res with
 | some (w,n,ws)=>r = .i .i64 w ∧ WRep o' K M n false ws
 | none=>∃ (w : Int) (n : Nat) (ws : Names),r = .i .i64 w ∧ WRep o' K M n true ws
theorem WalkP.shape {o : List Ob} {K M : Nat} {res : Option (Int × Nat × Names)} {r : AV} {o' : List Ob} (h : WalkP o K M res r o') : o.length ≤ o'.length ∧ r.ltk o'.length = true ∧ okO o' = true:=by
 obtain ⟨h1,h2⟩:=h
 refine ⟨h1.len,?_⟩
 cases res with
 | none=>obtain ⟨w,n,ws,rfl,h⟩:=h2;exact ⟨rfl,h.ok⟩
 | some y=>obtain ⟨w,n,ws⟩:=y;obtain ⟨rfl,h⟩:=h2;exact ⟨rfl,h.ok⟩
abbrev boxP (p : PlanD) : Ob:=.cells 7 [[.i .i64 p.kind,.i .i64 p.width,.i .i64 p.i,.i .i64 p.j,.s p.name,.sl 1 (ints p.cols),.sl 7 (plans p.kids)]]
theorem boxP_ltk (k : Nat) (p : PlanD) : (boxP p).ltk k = true:=by simp [Ob.ltk,AV.ltk]
theorem walk_spec : ∀ (p : PlanD),p.Sm → ∀ (lv n : Nat) (ws : Names) (o : List Ob) (K M : Nat),n ≤ 4000 → lv ≤ 1001 → WRep o K M n false ws →
  ACalls Tryz.prog 44 [.ptr K 0 0,.agg p.cells,.i .i64 lv] o (WalkP o K M (walkF p lv n ws)) :=
 PlanD.ind fun p ih hp lv n ws o K M hn hlv h=>by
  have h1:=hp.cols
  have h2:=hp.name
  have h3:=hp.len
  have hsp:=spare_spec p
  have hkd:=kids_spec p.kind
  rw [PlanD.cells_eq] at hsp ⊢
  refine ACalls_of' (n:=191) (rs:=[.tmp 6]) (show Tryz.prog.funcs[44]? = some Tryz.f44 by kernel_rfl) rfl rfl rfl (by simp) (by decide +kernel) ?_
  repeat (first | refine nav ?_ | refine bo ?_)
  (refine wr fun K R hK hR=>?_;simp only [go_sem];(try go_ints);(repeat refine And.intro side ?_);(first|refine hK _ ?_|refine hR _ _ ?_);clear hK hR K R)
  have hB : (boxP p).ltk (o.length + 1) = true:=boxP_ltk _ p
  have ha:=h.app (l:=[boxP p]) (by simpa using hB)
  have hfa:=Fr2.app o [boxP p] K M
  have hab : (o ++ [boxP p])[o.length]? = some (boxP p):=by simp
  have hBK : o.length ≠ K:=by have:=(List.getElem?_eq_some_iff.1 h.k).1;omega
  have hBM : o.length ≠ M:=by have:=(List.getElem?_eq_some_iff.1 h.m).1;omega
  generalize ho1 : o ++ [boxP p] = o1 at *
  have hlen1 : o.length < o1.length:=by rw [← ho1];simp
  generalize hoB : o.length = B at *
  repeat (first | refine nav ?_ | refine bo ?_)
  (refine wr fun K R hK hR=>?_;simp only [go_sem,ha.k];(try go_ints);(try simp only [go_sem,ha.k]);(repeat refine And.intro side ?_);(first|refine hK _ ?_|refine hR _ _ ?_);clear hK hR K R)
  rw [show (n : Int) + 1 = ((n + 1 : Nat) : Int) from rfl]
  obtain ⟨hs,hfs⟩:=ha.set (n + 1) false
  have hab2 : (o1.set K (.cells 3 [[.i .i64 ((n + 1 : Nat) : Int),.mp M,.b false]]))[B]? = some (boxP p):=(hfs.get B hBK hBM hlen1).trans hab
  have hf1:=hfa.trans hfs
  generalize hres : walkF p lv n ws = res
  rw [walkF_eq] at hres
  have hn1 : n + 1 ≤ 4001:=by omega
  generalize n + 1 = n1 at *
  generalize o1.set K (.cells 3 [[.i .i64 (n1 : Int),.mp M,.b false]]) = o2 at *
  clear hfa hfs hab ha ho1 hlen1 o1 hn
  repeat (first | refine nav ?_ | refine bo ?_)
  (refine W_dreg (by decide +kernel) [] [0,1,2,3,4,5,6,7,8,9,10,11,12,13,14,15,16,17,18,19,20,21,22,23,24,25,26,27,28,29,30,31,32] [[],[0],[0,1],[1,0,2],[2,0,1,3],[3,1,0,2,4],[4,2,0,1,3,5],[5,4,6,2,0,1,3],[3,1,0,2,6,4,5,7],[7,5,4,6,2,0,1,3,8],[8,3,1,0,2,6,4,5,7,9],[9,7,5,4,6,2,0,1,3,8,10],[10,8,3,1,0,2,6,4,5,7,9,11],[11,9,7,5,4,6,2,0,1,3,8,10,12],[12,10,9,11,13,7,5,4,6,2,0,1,3,8],[8,3,1,0,2,6,4,5,7,13,11,9,10,12,14],[14,12,10,9,11,13,7,5,4,6,2,0,1,3,8,15],[15,8,3,1,0,2,6,4,5,7,13,11,9,10,12,14,16],[16,17,14,12,10,9,11,13,7,5,4,6,2,0,1,3,8,15],[15,8,3,1,0,2,6,4,5,7,13,11,9,10,12,14,17,16,18],[18,16,17,14,12,10,9,11,13,7,5,4,6,2,0,1,3,8,15,19],[19,15,8,3,1,0,2,6,4,5,7,13,11,9,10,12,14,17,16,18,20],[20,18,16,17,14,12,10,9,11,13,7,5,4,6,2,0,1,3,8,15,19,21],[21,20,22,18,16,17,14,12,10,9,11,13,7,5,4,6,2,0,1,3,8,15,19],[19,15,8,3,1,0,2,6,4,5,7,13,11,9,10,12,14,17,16,18,22,20,21,23],[23,21,20,22,18,16,17,14,12,10,9,11,13,7,5,4,6,2,0,1,3,8,15,19,24],[24,19,15,8,3,1,0,2,6,4,5,7,13,11,9,10,12,14,17,16,18,22,20,21,23,25],[25,23,21,20,22,18,16,17,14,12,10,9,11,13,7,5,4,6,2,0,1,3,8,15,19,24,26],[23,21,20,22,18,16,17,14,12,10,9,11,13,7,5,4,6,2,0,1,3,8,15,19,24],[24,19,15,8,3,1,0,2,6,4,5,7,13,11,9,10,12,14,17,16,18,22,20,21,23,28],[28,23,21,20,22,18,16,17,14,12,10,9,11,13,7,5,4,6,2,0,1,3,8,15,19,24,29],[29,28,30,26,24,19,15,8,3,1,0,2,6,4,5,7,13,11,9,10,12,14,17,16,18,22,20,21,23,25,27],[27,25,26,30,28,29,31,23,21,20,22,18,16,17,14,12,10,9,11,13,7,5,4,6,2,0,1,3,8,15,19,24]] (by decide +kernel) rfl fun K R hK hR=>?_;simp only [List.filterMap_cons,List.filterMap_nil,List.getElem?_cons_zero,List.getElem?_cons_succ,List.cons_append,List.nil_append];simp only [go_sem,hs.k,hab2];(try go_ints);(try simp only [go_sem,hs.k,hab2]);(repeat refine And.intro side ?_);(first|refine hK _ ?_|refine hR _ _ ?_);clear hK hR K R)
  refine D_callDg rfl (by simp only [go_sem]<;>exact rfl) (fun e=>hsp) rfl rfl rfl (fun e=>by (try simp only [go_sem] at e);simp only [go_sem,e]<;>(try simp only [go_sem])<;>first | exact LeA.refl _ | exact Le.refl _) rfl rfl rfl rfl ?_
  (refine D_reg fun K R hK hR=>?_;simp only [go_sem,hs.k,hab2];(try go_ints);(try simp only [go_sem,hs.k,hab2]);(repeat refine And.intro side ?_);(first|refine hK _ ?_|refine hR _ _ ?_);clear hK hR K R)
  refine D_callDg rfl (by simp only [go_sem]<;>exact rfl) (fun e=>hkd) rfl rfl rfl (fun e=>by (try simp only [go_sem] at e);simp only [go_sem,e]<;>(try simp only [go_sem])<;>first | exact LeA.refl _ | exact Le.refl _) rfl rfl rfl rfl ?_
  (refine D_reg fun K R hK hR=>?_;simp only [go_sem];(try go_ints);(repeat refine And.intro side ?_);(first|refine hK _ ?_|refine hR _ _ ?_);clear hK hR K R)
  repeat (first | refine nav ?_ | refine bo ?_)
  refine W_cond (b:=badF p lv n1) (by simp only [go_sem]<;>exact rfl) (fun hb=>?_) (fun hb=>?_)
  ·rw [if_pos hb] at hres
   subst hres
   repeat (first | refine nav ?_ | refine bo ?_)
   (refine wr fun K R hK hR=>?_;simp only [go_sem,hs.k];(try go_ints);(try simp only [go_sem,hs.k]);(repeat refine And.intro side ?_);(first|refine hK _ ?_|refine hR _ _ ?_);clear hK hR K R)
   obtain ⟨hs2,hfs2⟩:=hs.set n1 true
   generalize o2.set K (.cells 3 [[.i .i64 (n1 : Int),.mp M,.b true]]) = o3 at *
   repeat (first | refine nav ?_ | refine bo ?_)
   (refine wr fun K R hK hR=>?_;simp only [go_sem,hs2.k];(try go_ints);(try simp only [go_sem,hs2.k]);(repeat refine And.intro side ?_);(first|refine hK _ ?_|refine hR _ _ ?_);clear hK hR K R)
   repeat (first | refine nav ?_ | refine bo ?_)
   refine W_cond (b:=true) (by simp only [go_sem]<;>exact rfl) (fun _=>?_) (fun hb=>by cases hb)
   repeat (first | refine nav ?_ | refine bo ?_)
   (refine wr fun K R hK hR=>?_;simp only [go_sem];(try go_ints);(repeat refine And.intro side ?_);(first|refine hK _ ?_|refine hR _ _ ?_);clear hK hR K R)
   repeat (first | refine nav ?_ | refine bo ?_)
   exact endQ_all (by simp only [go_sem]<;>exact rfl) (Le.refl _) (by have:=(hf1.trans hfs2).len;simp only;omega) hs2.ok rfl ⟨hf1.trans hfs2,0,n1,ws,rfl,hs2⟩
  rw [if_neg (by simp [hb])] at hres
  repeat (first | refine nav ?_ | refine bo ?_)
  (refine wr fun K R hK hR=>?_;simp only [go_sem,hs.k];(try go_ints);(try simp only [go_sem,hs.k]);(repeat refine And.intro side ?_);(first|refine hK _ ?_|refine hR _ _ ?_);clear hK hR K R)
  repeat (first | refine nav ?_ | refine bo ?_)
  refine W_cond (b:=false) (by simp only [go_sem]<;>exact rfl) (fun hb=>by cases hb) (fun _=>?_)
  have hb2 : (n1 : Int) ≤ 4000 ∧ (lv : Int) ≤ 1000 ∧ (p.kids.length : Int) = kidsF p.kind ∧ 0 ≤ p.kind ∧ p.kind < 8:=by
   unfold badF at hb
   simp only [Bool.or_eq_false_iff,decide_eq_false_iff_not,bne_eq_false_iff_eq] at hb
   omega
  have hkl : p.kids.length ≤ 2:=by
   have : kidsF p.kind ≤ 2:=by unfold kidsF;split<;>(try split)<;>omega
   omega
  repeat (first | refine nav ?_ | refine bo ?_)
  (refine wr fun K R hK hR=>?_;simp only [go_sem];(try go_ints);(repeat refine And.intro side ?_);(first|refine hK _ ?_|refine hR _ _ ?_);clear hK hR K R)
  repeat (first | refine nav ?_ | refine bo ?_)
  (refine wr fun K R hK hR=>?_;simp only [go_sem,hab2];(try go_ints);(try simp only [go_sem,hab2]);(repeat refine And.intro side ?_);(first|refine hK _ ?_|refine hR _ _ ?_);clear hK hR K R)
  refine seqQ_normal ?_
  have hls : ∀ {k : Nat} {l : List Int} {n' : Nat} {ws' : Names},walkL (p.kids.take k) (lv + 1) n1 ws = some (l,n',ws') → n' ≤ 4000 ∧ l.length = (p.kids.take k).length ∧ ∀ x ∈ l,0 ≤ x ∧ x ≤ 12 :=
   fun h=>walkL_bd (fun q _ n ws x n' ws' h=>walkF_bd q _ n ws x n' ws' h) (by omega) h
  repeat (first | refine nav ?_ | refine bo ?_)
  refine W_for 63 80 [7,9] (fun m t o'=>∃ (k : Nat) (of : List Int) (n' : Nat) (ws' : Names),WRep o' K M n' false ws' ∧ Fr2 o2 o' K M ∧ t 63 = .i .i64 k ∧ t 7 = .own 1 (ints of) ∧ m = p.kids.length - k ∧ k ≤ p.kids.length ∧ walkL (p.kids.take k) (lv + 1) n1 ws = some (of,n',ws')) p.kids.length
   ⟨0,[],n1,ws,hs,Fr2.refl _ _ _,by simp only [go_sem]<;>rfl,by simp only [go_sem]<;>rfl,by omega,by omega,rfl⟩ ?_
  rintro m t o' ⟨k,of,n',ws',hw,hfr,h63,h7,rfl,hk,hwl⟩
  have hbx : o'[B]? = some (boxP p):=(hfr.get B hBK hBM (List.getElem?_eq_some_iff.1 hab2).1).trans hab2
  obtain ⟨hn',hofl,hofb⟩:=hls hwl
  rw [List.length_take,Nat.min_eq_left hk] at hofl
  repeat (first | refine nav ?_ | refine bo ?_)
  (refine wr fun K R hK hR=>?_;simp only [go_sem,h63];(try go_ints);(try simp only [go_sem,h63]);(repeat refine And.intro side ?_);(first|refine hK _ ?_|refine hR _ _ ?_);clear hK hR K R)
  repeat (first | refine nav ?_ | refine bo ?_)
  refine W_cond (by simp only [go_sem]<;>exact rfl) (fun hb=>?_) (fun hb=>?_)
  ·have hb1 : k < p.kids.length:=by simpa using hb
   obtain ⟨x,hx⟩ : ∃ x,p.kids[k]? = some x:=⟨_,List.getElem?_eq_getElem hb1⟩
   have hxm:=List.mem_of_getElem? hx
   have htk : p.kids.take (k + 1) = p.kids.take k ++ [x]:=by rw [List.take_add_one,hx];rfl
   have hcx:=x.cells_eq
   repeat (first | refine nav ?_ | refine bo ?_)
   (refine wr fun K R hK hR=>?_;simp only [go_sem,h63,plans_get hx];(try go_ints);(try simp only [go_sem,h63,plans_get hx]);(repeat refine And.intro side ?_);(first|refine hK _ ?_|refine hR _ _ ?_);clear hK hR K R)
   have hw3:=hw.app (l:=[boxP x]) (by simpa using boxP_ltk (o'.length + 1) x)
   have hf3:=hfr.trans (Fr2.app o' [boxP x] K M)
   have hbx3 : (o' ++ [boxP x])[o'.length]? = some (boxP x):=by simp
   generalize o' ++ [boxP x] = o3 at *
   generalize o'.length = L at *
   have ihx:=ih x hxm (hp.kid x hxm) (lv + 1) n' ws' o3 K M hn' (by omega) hw3
   rw [hcx,show ((lv + 1 : Nat) : Int) = lv + 1 from rfl] at ihx
   have hK3:=(List.getElem?_eq_some_iff.1 hw3.k).1
   repeat (first | refine nav ?_ | refine bo ?_)
   (refine W_reg [67] fun K R hK hR=>?_;simp only [go_sem,h7,hbx3];(try go_ints);(try simp only [go_sem,h7,hbx3]);(repeat refine And.intro side ?_);(first|refine hK _ ?_|refine hR _ _ ?_);clear hK hR K R)
   refine RL_callE ihx (fun r o' h=>h.shape) (by simp only [go_sem]<;>exact rfl) rfl rfl (by simp) (by simp only [go_sem]<;>exact LeA.refl _) hw3.ok (by simp [AV.ltk,AV.ltks,hK3]) ?_
   rintro r o4 ⟨hf4,hpost⟩
   have hsn:=walkL_snoc x (lv + 1) (p.kids.take k) n1 ws
   rw [hwl,← htk] at hsn
   simp only at hsn
   cases hwx : walkF x (lv + 1) n' ws' with
   | none =>
    rw [hwx] at hpost hsn
    obtain ⟨w4,n4,ws4,rfl,hw4⟩:=hpost
    (refine rr fun K R hK hR=>?_;simp only [go_sem,ints_len,hofl];(try go_ints);(try simp only [go_sem,ints_len,hofl]);(repeat refine And.intro side ?_);(first|refine hK _ ?_|refine hR _ _ ?_);clear hK hR K R)
    repeat (first | refine nav ?_ | refine bo ?_)
    (refine wr fun K R hK hR=>?_;simp only [go_sem,hw4.k];(try go_ints);(try simp only [go_sem,hw4.k]);(repeat refine And.intro side ?_);(first|refine hK _ ?_|refine hR _ _ ?_);clear hK hR K R)
    repeat (first | refine nav ?_ | refine bo ?_)
    refine W_cond (b:=true) (by simp only [go_sem]<;>exact rfl) (fun _=>?_) (fun hb=>by cases hb)
    have hno : walkL p.kids (lv + 1) n1 ws = none:=by
     rw [← List.take_append_drop (k + 1) p.kids]
     exact walkL_stop hsn
    rw [hno] at hres
    subst hres
    repeat (first | refine nav ?_ | refine bo ?_)
    (refine wr fun K R hK hR=>?_;simp only [go_sem];(try go_ints);(repeat refine And.intro side ?_);(first|refine hK _ ?_|refine hR _ _ ?_);clear hK hR K R)
    repeat (first | refine nav ?_ | refine bo ?_)
    have hff:=(hf1.trans hf3).trans hf4
    exact endQ_all (by simp only [go_sem]<;>exact rfl) (Le.refl _) (by have:=hff.len;simp only;omega) hw4.ok rfl ⟨hff,0,n4,ws4,rfl,hw4⟩
   | some y =>
    obtain ⟨w4,n4,ws4⟩:=y
    rw [hwx] at hpost hsn
    obtain ⟨rfl,hw4⟩:=hpost
    (refine rr fun K R hK hR=>?_;simp only [go_sem,ints_len,hofl];(try go_ints);(try simp only [go_sem,ints_len,hofl]);(repeat refine And.intro side ?_);(first|refine hK _ ?_|refine hR _ _ ?_);clear hK hR K R)
    repeat (first | refine nav ?_ | refine bo ?_)
    (refine wr fun K R hK hR=>?_;simp only [go_sem,hw4.k];(try go_ints);(try simp only [go_sem,hw4.k]);(repeat refine And.intro side ?_);(first|refine hK _ ?_|refine hR _ _ ?_);clear hK hR K R)
    repeat (first | refine nav ?_ | refine bo ?_)
    refine W_cond (b:=false) (by simp only [go_sem]<;>exact rfl) (fun hb=>by cases hb) (fun _=>?_)
    repeat (first | refine nav ?_ | refine bo ?_)
    (refine wr fun K R hK hR=>?_;simp only [go_sem,h63];(try go_ints);(try simp only [go_sem,h63]);(repeat refine And.intro side ?_);(first|refine hK _ ?_|refine hR _ _ ?_);clear hK hR K R)
    refine forQ_normal (p.kids.length - (k + 1)) (by omega) ⟨k + 1,of ++ [w4],n4,ws4,hw4,hf3.trans hf4,by simp only [go_sem]<;>simp,by rw [ints_push];simp only [go_sem],rfl,by omega,hsn⟩
  ·have hk' : k = p.kids.length:=by
    have : ¬ k < p.kids.length:=by simpa using hb
    omega
   subst hk'
   rw [List.take_length] at hwl
   rw [hwl] at hres
   simp only at hres
   repeat (first | refine nav ?_ | refine bo ?_)
   (refine wr fun K R hK hR=>?_;simp only [go_sem,hbx];(try go_ints);(try simp only [go_sem,hbx]);(repeat refine And.intro side ?_);(first|refine hK _ ?_|refine hR _ _ ?_);clear hK hR K R)
   repeat (first | refine nav ?_ | refine bo ?_)
   (refine wr fun K R hK hR=>?_;simp only [go_sem,hbx];(try go_ints);(try simp only [go_sem,hbx]);(repeat refine And.intro side ?_);(first|refine hK _ ?_|refine hR _ _ ?_);clear hK hR K R)
   refine seqQ_normal ?_
   refine W_joinS 84 175 [10,11,12] (fun t o=>∃ (w : Int) (b1 : Bool) (ws5 : Names),t 10 = .i .i64 w ∧ WRep o K M n' b1 ws5 ∧ Fr2 o' o K M ∧ finF p of ws' = (if (b1 || decide (w < 0) || decide (w > 12)) = true then none else some (w,ws5))) ?_ ?_
   ·have hkk : p.kind = 0 ∨ p.kind = 1 ∨ p.kind = 2 ∨ p.kind = 3 ∨ p.kind = 4 ∨ p.kind = 5 ∨ p.kind = 6 ∨ p.kind = 7:=by omega
    have hnm:=name_spec p.name (by omega)
    rcases hkk with hk | hk | hk | hk | hk | hk | hk | hk
    ·rw [hk] at hb2
     repeat (first | refine nav ?_ | refine bo ?_)
     (refine wr fun K R hK hR=>?_;simp only [go_sem];(try go_ints);(repeat refine And.intro side ?_);(first|refine hK _ ?_|refine hR _ _ ?_);clear hK hR K R)
     repeat (first | refine nav ?_ | refine bo ?_)
     refine W_cond (b:=true) (by simp only [go_sem,hk]<;>rfl) (fun hb=>?_) (fun hb=>by cases hb)
     cases hln : lookN p.name ws' with
     | none =>
      have hmf:=mfind_ents p.name ws'
      rw [hln] at hmf
      simp only [Option.map_none,Option.map_some] at hmf
      repeat (first | refine nav ?_ | refine bo ?_)
      (refine W_dreg (by decide +kernel) [] [0,1,2,3,4,5,6,7,8,9,10,11] [[],[0],[0,1],[1,0,2],[],[4],[4,5,2,0,1,3],[3,1,0,2,5,4,6],[6,4,5,2,0,1,3,7],[6,4,5,2,0,1,3,7],[7,3,1,0,2,5,4,6,8],[8,10,7,3,1,0,2,5,4,6,9]] (by decide +kernel) rfl fun K R hK hR=>?_;simp only [List.filterMap_cons,List.filterMap_nil,List.getElem?_cons_zero,List.getElem?_cons_succ,List.cons_append,List.nil_append];simp only [go_sem,hw.k,hw.m,hbx,hmf];(try go_ints);(try simp only [go_sem,hw.k,hw.m,hbx,hmf]);(repeat refine And.intro side ?_);(first|refine hK _ ?_|refine hR _ _ ?_);clear hK hR K R)
      have hfinN : ∀ b1,(!nameF p.name || false) = b1 → finF p of ws' = (if (b1 || decide (p.width < 0) || decide (p.width > 12)) = true then none else some (p.width,setN p.name p.width ws')):=by
       rintro b1 rfl
       unfold finF
       simp only [hk,if_true,hln]
      cases hnf : nameF p.name
      ·rw [hnf] at hnm hfinN
       repeat (first | refine nav ?_ | refine bo ?_)
       (refine wr fun K R hK hR=>?_;simp only [go_sem,hbx];(try go_ints);(try simp only [go_sem,hbx]);(repeat refine And.intro side ?_);(first|refine hK _ ?_|refine hR _ _ ?_);clear hK hR K R)
       refine RL_callF (hnm) rfl rfl rfl (by first | (simp only [go_sem]<;>first | exact LeA.refl _ | exact Le.refl _) | exact LeA.refl _) rfl rfl ?_
       (refine rr fun K R hK hR=>?_;simp only [go_sem,hw.k];(try go_ints);(try simp only [go_sem,hw.k]);(repeat refine And.intro side ?_);(first|refine hK _ ?_|refine hR _ _ ?_);clear hK hR K R)
       obtain ⟨hs6,hf6⟩:=hw.set n' true
       have hbx6:=(hf6.get B hBK hBM (List.getElem?_eq_some_iff.1 hbx).1).trans hbx
       generalize o'.set K (.cells 3 [[.i .i64 (n' : Int),.mp M,.b true]]) = o6 at *
       have hms:=mset_ents p.name p.width ws'
       obtain ⟨hs7,hf7⟩:=hs6.setM (setN p.name p.width ws')
       repeat (first | refine nav ?_ | refine bo ?_)
       (refine W_dreg (by decide +kernel) [] [0,1,2,3,4,5,6,7] [[],[0],[0,1],[1,0,2],[],[4],[],[6,4,5,2,0,1,3]] (by decide +kernel) rfl fun K R hK hR=>?_;simp only [List.filterMap_cons,List.filterMap_nil,List.getElem?_cons_zero,List.getElem?_cons_succ,List.cons_append,List.nil_append];simp only [go_sem,hs6.k,hs6.m,hbx6,hms];(try go_ints);(try simp only [go_sem,hs6.k,hs6.m,hbx6,hms]);(repeat refine And.intro side ?_);(first|refine hK _ ?_|refine hR _ _ ?_);clear hK hR K R)
       repeat (first | refine nav ?_ | refine bo ?_)
       exact joinQ_normal ⟨p.width,true,_,by simp only [go_sem],hs7,hf6.trans hf7,hfinN _ (by simp)⟩
      ·rw [hnf] at hnm hfinN
       repeat (first | refine nav ?_ | refine bo ?_)
       (refine wr fun K R hK hR=>?_;simp only [go_sem,hbx];(try go_ints);(try simp only [go_sem,hbx]);(repeat refine And.intro side ?_);(first|refine hK _ ?_|refine hR _ _ ?_);clear hK hR K R)
       refine RL_callF (hnm) rfl rfl rfl (by first | (simp only [go_sem]<;>first | exact LeA.refl _ | exact Le.refl _) | exact LeA.refl _) rfl rfl ?_
       (refine rr fun K R hK hR=>?_;simp only [go_sem,hw.k];(try go_ints);(try simp only [go_sem,hw.k]);(repeat refine And.intro side ?_);(first|refine hK _ ?_|refine hR _ _ ?_);clear hK hR K R)
       obtain ⟨hs6,hf6⟩:=hw.set n' false
       have hbx6:=(hf6.get B hBK hBM (List.getElem?_eq_some_iff.1 hbx).1).trans hbx
       generalize o'.set K (.cells 3 [[.i .i64 (n' : Int),.mp M,.b false]]) = o6 at *
       have hms:=mset_ents p.name p.width ws'
       obtain ⟨hs7,hf7⟩:=hs6.setM (setN p.name p.width ws')
       repeat (first | refine nav ?_ | refine bo ?_)
       (refine W_dreg (by decide +kernel) [] [0,1,2,3,4,5,6,7] [[],[0],[0,1],[1,0,2],[],[4],[],[6,4,5,2,0,1,3]] (by decide +kernel) rfl fun K R hK hR=>?_;simp only [List.filterMap_cons,List.filterMap_nil,List.getElem?_cons_zero,List.getElem?_cons_succ,List.cons_append,List.nil_append];simp only [go_sem,hs6.k,hs6.m,hbx6,hms];(try go_ints);(try simp only [go_sem,hs6.k,hs6.m,hbx6,hms]);(repeat refine And.intro side ?_);(first|refine hK _ ?_|refine hR _ _ ?_);clear hK hR K R)
       repeat (first | refine nav ?_ | refine bo ?_)
       exact joinQ_normal ⟨p.width,false,_,by simp only [go_sem],hs7,hf6.trans hf7,hfinN _ (by simp)⟩
     | some nn =>
      have hmf:=mfind_ents p.name ws'
      rw [hln] at hmf
      simp only [Option.map_none,Option.map_some] at hmf
      repeat (first | refine nav ?_ | refine bo ?_)
      (refine W_dreg (by decide +kernel) [] [0,1,2,3,4,5,6,7,8,9,10,11] [[],[0],[0,1],[1,0,2],[],[4],[4,5,2,0,1,3],[3,1,0,2,5,4,6],[6,4,5,2,0,1,3,7],[6,4,5,2,0,1,3,7],[7,3,1,0,2,5,4,6,8],[8,10,7,3,1,0,2,5,4,6,9]] (by decide +kernel) rfl fun K R hK hR=>?_;simp only [List.filterMap_cons,List.filterMap_nil,List.getElem?_cons_zero,List.getElem?_cons_succ,List.cons_append,List.nil_append];simp only [go_sem,hw.k,hw.m,hbx,hmf];(try go_ints);(try simp only [go_sem,hw.k,hw.m,hbx,hmf]);(repeat refine And.intro side ?_);(first|refine hK _ ?_|refine hR _ _ ?_);clear hK hR K R)
      have hfinN : ∀ b1,(!nameF p.name || nn != p.width) = b1 → finF p of ws' = (if (b1 || decide (p.width < 0) || decide (p.width > 12)) = true then none else some (p.width,setN p.name p.width ws')):=by
       rintro b1 rfl
       unfold finF
       simp only [hk,if_true,hln]
      cases hnf : nameF p.name
      ·rw [hnf] at hnm hfinN
       repeat (first | refine nav ?_ | refine bo ?_)
       (refine wr fun K R hK hR=>?_;simp only [go_sem,hbx];(try go_ints);(try simp only [go_sem,hbx]);(repeat refine And.intro side ?_);(first|refine hK _ ?_|refine hR _ _ ?_);clear hK hR K R)
       refine RL_callF (hnm) rfl rfl rfl (by first | (simp only [go_sem]<;>first | exact LeA.refl _ | exact Le.refl _) | exact LeA.refl _) rfl rfl ?_
       (refine rr fun K R hK hR=>?_;simp only [go_sem,hw.k];(try go_ints);(try simp only [go_sem,hw.k]);(repeat refine And.intro side ?_);(first|refine hK _ ?_|refine hR _ _ ?_);clear hK hR K R)
       obtain ⟨hs6,hf6⟩:=hw.set n' true
       have hbx6:=(hf6.get B hBK hBM (List.getElem?_eq_some_iff.1 hbx).1).trans hbx
       generalize o'.set K (.cells 3 [[.i .i64 (n' : Int),.mp M,.b true]]) = o6 at *
       have hms:=mset_ents p.name p.width ws'
       obtain ⟨hs7,hf7⟩:=hs6.setM (setN p.name p.width ws')
       repeat (first | refine nav ?_ | refine bo ?_)
       (refine W_dreg (by decide +kernel) [] [0,1,2,3,4,5,6,7] [[],[0],[0,1],[1,0,2],[],[4],[],[6,4,5,2,0,1,3]] (by decide +kernel) rfl fun K R hK hR=>?_;simp only [List.filterMap_cons,List.filterMap_nil,List.getElem?_cons_zero,List.getElem?_cons_succ,List.cons_append,List.nil_append];simp only [go_sem,hs6.k,hs6.m,hbx6,hms];(try go_ints);(try simp only [go_sem,hs6.k,hs6.m,hbx6,hms]);(repeat refine And.intro side ?_);(first|refine hK _ ?_|refine hR _ _ ?_);clear hK hR K R)
       repeat (first | refine nav ?_ | refine bo ?_)
       exact joinQ_normal ⟨p.width,true,_,by simp only [go_sem],hs7,hf6.trans hf7,hfinN _ (by simp)⟩
      ·rw [hnf] at hnm hfinN
       repeat (first | refine nav ?_ | refine bo ?_)
       (refine wr fun K R hK hR=>?_;simp only [go_sem,hbx];(try go_ints);(try simp only [go_sem,hbx]);(repeat refine And.intro side ?_);(first|refine hK _ ?_|refine hR _ _ ?_);clear hK hR K R)
       refine RL_callF (hnm) rfl rfl rfl (by first | (simp only [go_sem]<;>first | exact LeA.refl _ | exact Le.refl _) | exact LeA.refl _) rfl rfl ?_
       (refine rr fun K R hK hR=>?_;simp only [go_sem,hw.k];(try go_ints);(try simp only [go_sem,hw.k]);(repeat refine And.intro side ?_);(first|refine hK _ ?_|refine hR _ _ ?_);clear hK hR K R)
       obtain ⟨hs6,hf6⟩:=hw.set n' (nn != p.width)
       have hbx6:=(hf6.get B hBK hBM (List.getElem?_eq_some_iff.1 hbx).1).trans hbx
       generalize o'.set K (.cells 3 [[.i .i64 (n' : Int),.mp M,.b (nn != p.width)]]) = o6 at *
       have hms:=mset_ents p.name p.width ws'
       obtain ⟨hs7,hf7⟩:=hs6.setM (setN p.name p.width ws')
       repeat (first | refine nav ?_ | refine bo ?_)
       (refine W_dreg (by decide +kernel) [] [0,1,2,3,4,5,6,7] [[],[0],[0,1],[1,0,2],[],[4],[],[6,4,5,2,0,1,3]] (by decide +kernel) rfl fun K R hK hR=>?_;simp only [List.filterMap_cons,List.filterMap_nil,List.getElem?_cons_zero,List.getElem?_cons_succ,List.cons_append,List.nil_append];simp only [go_sem,hs6.k,hs6.m,hbx6,hms];(try go_ints);(try simp only [go_sem,hs6.k,hs6.m,hbx6,hms]);(repeat refine And.intro side ?_);(first|refine hK _ ?_|refine hR _ _ ?_);clear hK hR K R)
       repeat (first | refine nav ?_ | refine bo ?_)
       exact joinQ_normal ⟨p.width,(nn != p.width),_,by simp only [go_sem],hs7,hf6.trans hf7,hfinN _ (by simp)⟩
    ·rw [hk] at hb2
     repeat (first | refine nav ?_ | refine bo ?_)
     (refine wr fun K R hK hR=>?_;simp only [go_sem];(try go_ints);(repeat refine And.intro side ?_);(first|refine hK _ ?_|refine hR _ _ ?_);clear hK hR K R)
     repeat (first | refine nav ?_ | refine bo ?_)
     refine W_cond (b:=false) (by simp only [go_sem,hk]<;>rfl) (fun hb=>by cases hb) (fun hb=>?_)
     repeat (first | refine nav ?_ | refine bo ?_)
     (refine wr fun K R hK hR=>?_;simp only [go_sem];(try go_ints);(repeat refine And.intro side ?_);(first|refine hK _ ?_|refine hR _ _ ?_);clear hK hR K R)
     repeat (first | refine nav ?_ | refine bo ?_)
     refine W_cond (b:=false) (by simp only [go_sem,hk]<;>rfl) (fun hb=>by cases hb) (fun hb=>?_)
     repeat (first | refine nav ?_ | refine bo ?_)
     (refine wr fun K R hK hR=>?_;simp only [go_sem];(try go_ints);(repeat refine And.intro side ?_);(first|refine hK _ ?_|refine hR _ _ ?_);clear hK hR K R)
     repeat (first | refine nav ?_ | refine bo ?_)
     refine W_cond (b:=false) (by simp only [go_sem,hk]<;>rfl) (fun hb=>by cases hb) (fun hb=>?_)
     repeat (first | refine nav ?_ | refine bo ?_)
     (refine wr fun K R hK hR=>?_;simp only [go_sem];(try go_ints);(repeat refine And.intro side ?_);(first|refine hK _ ?_|refine hR _ _ ?_);clear hK hR K R)
     repeat (first | refine nav ?_ | refine bo ?_)
     refine W_cond (b:=false) (by simp only [go_sem,hk]<;>rfl) (fun hb=>by cases hb) (fun hb=>?_)
     repeat (first | refine nav ?_ | refine bo ?_)
     (refine wr fun K R hK hR=>?_;simp only [go_sem];(try go_ints);(repeat refine And.intro side ?_);(first|refine hK _ ?_|refine hR _ _ ?_);clear hK hR K R)
     repeat (first | refine nav ?_ | refine bo ?_)
     refine W_cond (b:=false) (by simp only [go_sem,hk]<;>rfl) (fun hb=>by cases hb) (fun hb=>?_)
     repeat (first | refine nav ?_ | refine bo ?_)
     (refine wr fun K R hK hR=>?_;simp only [go_sem];(try go_ints);(repeat refine And.intro side ?_);(first|refine hK _ ?_|refine hR _ _ ?_);clear hK hR K R)
     repeat (first | refine nav ?_ | refine bo ?_)
     refine W_cond (b:=false) (by simp only [go_sem,hk]<;>rfl) (fun hb=>by cases hb) (fun hb=>?_)
     repeat (first | refine nav ?_ | refine bo ?_)
     (refine wr fun K R hK hR=>?_;simp only [go_sem];(try go_ints);(repeat refine And.intro side ?_);(first|refine hK _ ?_|refine hR _ _ ?_);clear hK hR K R)
     repeat (first | refine nav ?_ | refine bo ?_)
     refine W_cond (b:=false) (by simp only [go_sem,hk]<;>rfl) (fun hb=>by cases hb) (fun hb=>?_)
     repeat (first | refine nav ?_ | refine bo ?_)
     exact joinQ_normal ⟨p.width,false,ws',by simp only [go_sem],hw,Fr2.refl _ _ _,by unfold finF;simp [hk]⟩
    ·rw [hk] at hb2
     obtain ⟨a,rfl⟩ : ∃ a,of = [a]:=List.length_eq_one_iff.1 (by have h0 : kidsF 2 = 1:=rfl;omega)
     have hia : ints [a] = [[.i .i64 a]]:=rfl
     repeat (first | refine nav ?_ | refine bo ?_)
     (refine wr fun K R hK hR=>?_;simp only [go_sem];(try go_ints);(repeat refine And.intro side ?_);(first|refine hK _ ?_|refine hR _ _ ?_);clear hK hR K R)
     repeat (first | refine nav ?_ | refine bo ?_)
     refine W_cond (b:=false) (by simp only [go_sem,hk]<;>rfl) (fun hb=>by cases hb) (fun hb=>?_)
     repeat (first | refine nav ?_ | refine bo ?_)
     (refine wr fun K R hK hR=>?_;simp only [go_sem];(try go_ints);(repeat refine And.intro side ?_);(first|refine hK _ ?_|refine hR _ _ ?_);clear hK hR K R)
     repeat (first | refine nav ?_ | refine bo ?_)
     refine W_cond (b:=true) (by simp only [go_sem,hk]<;>rfl) (fun hb=>?_) (fun hb=>by cases hb)
     repeat (first | refine nav ?_ | refine bo ?_)
     refine W_cond (b:=true) (by simp only [go_sem,hk]<;>rfl) (fun hb=>?_) (fun hb=>by cases hb)
     have hin:=inside_spec a [p.i,p.j] (by simp)
     rw [show ints [p.i,p.j] = [[.i .i64 p.i],[.i .i64 p.j]] from rfl] at hin
     obtain ⟨hs6,hf6⟩:=hw.set n' (!insideF a [p.i,p.j])
     repeat (first | refine nav ?_ | refine bo ?_)
     (refine wr fun K R hK hR=>?_;simp only [go_sem,h7,hia];(try go_ints);(try simp only [go_sem,h7,hia]);(repeat refine And.intro side ?_);(first|refine hK _ ?_|refine hR _ _ ?_);clear hK hR K R)
     repeat (first | refine nav ?_ | refine bo ?_)
     (refine wr fun K R hK hR=>?_;simp only [go_sem,hbx];(try go_ints);(try simp only [go_sem,hbx]);(repeat refine And.intro side ?_);(first|refine hK _ ?_|refine hR _ _ ?_);clear hK hR K R)
     refine RL_callF (hin) rfl rfl rfl (by first | (simp only [go_sem]<;>first | exact LeA.refl _ | exact Le.refl _) | exact LeA.refl _) rfl rfl ?_
     (refine rr fun K R hK hR=>?_;simp only [go_sem,hw.k];(try go_ints);(try simp only [go_sem,hw.k]);(repeat refine And.intro side ?_);(first|refine hK _ ?_|refine hR _ _ ?_);clear hK hR K R)
     repeat (first | refine nav ?_ | refine bo ?_)
     exact joinQ_normal ⟨a,(!insideF a [p.i,p.j]),ws',by simp only [go_sem],hs6,hf6,by unfold finF;simp [hk]⟩
    ·rw [hk] at hb2
     obtain ⟨a,rfl⟩ : ∃ a,of = [a]:=List.length_eq_one_iff.1 (by have h0 : kidsF 3 = 1:=rfl;omega)
     have hia : ints [a] = [[.i .i64 a]]:=rfl
     repeat (first | refine nav ?_ | refine bo ?_)
     (refine wr fun K R hK hR=>?_;simp only [go_sem];(try go_ints);(repeat refine And.intro side ?_);(first|refine hK _ ?_|refine hR _ _ ?_);clear hK hR K R)
     repeat (first | refine nav ?_ | refine bo ?_)
     refine W_cond (b:=false) (by simp only [go_sem,hk]<;>rfl) (fun hb=>by cases hb) (fun hb=>?_)
     repeat (first | refine nav ?_ | refine bo ?_)
     (refine wr fun K R hK hR=>?_;simp only [go_sem];(try go_ints);(repeat refine And.intro side ?_);(first|refine hK _ ?_|refine hR _ _ ?_);clear hK hR K R)
     repeat (first | refine nav ?_ | refine bo ?_)
     refine W_cond (b:=false) (by simp only [go_sem,hk]<;>rfl) (fun hb=>by cases hb) (fun hb=>?_)
     repeat (first | refine nav ?_ | refine bo ?_)
     (refine wr fun K R hK hR=>?_;simp only [go_sem];(try go_ints);(repeat refine And.intro side ?_);(first|refine hK _ ?_|refine hR _ _ ?_);clear hK hR K R)
     repeat (first | refine nav ?_ | refine bo ?_)
     refine W_cond (b:=true) (by simp only [go_sem,hk]<;>rfl) (fun hb=>?_) (fun hb=>by cases hb)
     have hin:=inside_spec a [p.i,p.j] (by simp)
     rw [show ints [p.i,p.j] = [[.i .i64 p.i],[.i .i64 p.j]] from rfl] at hin
     obtain ⟨hs6,hf6⟩:=hw.set n' (!insideF a [p.i,p.j])
     repeat (first | refine nav ?_ | refine bo ?_)
     (refine wr fun K R hK hR=>?_;simp only [go_sem,h7,hia];(try go_ints);(try simp only [go_sem,h7,hia]);(repeat refine And.intro side ?_);(first|refine hK _ ?_|refine hR _ _ ?_);clear hK hR K R)
     repeat (first | refine nav ?_ | refine bo ?_)
     (refine wr fun K R hK hR=>?_;simp only [go_sem,hbx];(try go_ints);(try simp only [go_sem,hbx]);(repeat refine And.intro side ?_);(first|refine hK _ ?_|refine hR _ _ ?_);clear hK hR K R)
     refine RL_callF (hin) rfl rfl rfl (by first | (simp only [go_sem]<;>first | exact LeA.refl _ | exact Le.refl _) | exact LeA.refl _) rfl rfl ?_
     (refine rr fun K R hK hR=>?_;simp only [go_sem,hw.k];(try go_ints);(try simp only [go_sem,hw.k]);(repeat refine And.intro side ?_);(first|refine hK _ ?_|refine hR _ _ ?_);clear hK hR K R)
     repeat (first | refine nav ?_ | refine bo ?_)
     exact joinQ_normal ⟨a,(!insideF a [p.i,p.j]),ws',by simp only [go_sem],hs6,hf6,by unfold finF;simp [hk]⟩
    ·rw [hk] at hb2
     obtain ⟨a,b,rfl⟩ : ∃ a b,of = [a,b]:=by
      have h2 : of.length = 2:=by have h0 : kidsF 4 = 2:=rfl;omega
      match of,h2 with
      | [a,b],_=>exact ⟨a,b,rfl⟩
     have hia : ints [a,b] = [[.i .i64 a],[.i .i64 b]]:=rfl
     repeat (first | refine nav ?_ | refine bo ?_)
     (refine wr fun K R hK hR=>?_;simp only [go_sem];(try go_ints);(repeat refine And.intro side ?_);(first|refine hK _ ?_|refine hR _ _ ?_);clear hK hR K R)
     repeat (first | refine nav ?_ | refine bo ?_)
     refine W_cond (b:=false) (by simp only [go_sem,hk]<;>rfl) (fun hb=>by cases hb) (fun hb=>?_)
     repeat (first | refine nav ?_ | refine bo ?_)
     (refine wr fun K R hK hR=>?_;simp only [go_sem];(try go_ints);(repeat refine And.intro side ?_);(first|refine hK _ ?_|refine hR _ _ ?_);clear hK hR K R)
     repeat (first | refine nav ?_ | refine bo ?_)
     refine W_cond (b:=false) (by simp only [go_sem,hk]<;>rfl) (fun hb=>by cases hb) (fun hb=>?_)
     repeat (first | refine nav ?_ | refine bo ?_)
     (refine wr fun K R hK hR=>?_;simp only [go_sem];(try go_ints);(repeat refine And.intro side ?_);(first|refine hK _ ?_|refine hR _ _ ?_);clear hK hR K R)
     repeat (first | refine nav ?_ | refine bo ?_)
     refine W_cond (b:=false) (by simp only [go_sem,hk]<;>rfl) (fun hb=>by cases hb) (fun hb=>?_)
     repeat (first | refine nav ?_ | refine bo ?_)
     (refine wr fun K R hK hR=>?_;simp only [go_sem];(try go_ints);(repeat refine And.intro side ?_);(first|refine hK _ ?_|refine hR _ _ ?_);clear hK hR K R)
     repeat (first | refine nav ?_ | refine bo ?_)
     refine W_cond (b:=true) (by simp only [go_sem,hk]<;>rfl) (fun hb=>?_) (fun hb=>by cases hb)
     have ha4:=hofb a (by simp)
     have hb4:=hofb b (by simp)
     repeat (first | refine nav ?_ | refine bo ?_)
     (refine W_dreg (by decide +kernel) [] [0,1,2,3,4,5,6,7] [[],[0],[0,1],[],[3],[3,4],[4,3,5,1,0,2],[2,0,1,5,3,4,6]] (by decide +kernel) rfl fun K R hK hR=>?_;simp only [List.filterMap_cons,List.filterMap_nil,List.getElem?_cons_zero,List.getElem?_cons_succ,List.cons_append,List.nil_append];simp only [go_sem,h7,hia];(try go_ints);(try simp only [go_sem,h7,hia]);(repeat refine And.intro side ?_);(first|refine hK _ ?_|refine hR _ _ ?_);clear hK hR K R)
     repeat (first | refine nav ?_ | refine bo ?_)
     exact joinQ_normal ⟨(a + b),false,ws',by simp only [go_sem],hw,Fr2.refl _ _ _,by unfold finF;simp [hk]⟩
    ·rw [hk] at hb2
     obtain ⟨a,rfl⟩ : ∃ a,of = [a]:=List.length_eq_one_iff.1 (by have h0 : kidsF 5 = 1:=rfl;omega)
     have hia : ints [a] = [[.i .i64 a]]:=rfl
     repeat (first | refine nav ?_ | refine bo ?_)
     (refine wr fun K R hK hR=>?_;simp only [go_sem];(try go_ints);(repeat refine And.intro side ?_);(first|refine hK _ ?_|refine hR _ _ ?_);clear hK hR K R)
     repeat (first | refine nav ?_ | refine bo ?_)
     refine W_cond (b:=false) (by simp only [go_sem,hk]<;>rfl) (fun hb=>by cases hb) (fun hb=>?_)
     repeat (first | refine nav ?_ | refine bo ?_)
     (refine wr fun K R hK hR=>?_;simp only [go_sem];(try go_ints);(repeat refine And.intro side ?_);(first|refine hK _ ?_|refine hR _ _ ?_);clear hK hR K R)
     repeat (first | refine nav ?_ | refine bo ?_)
     refine W_cond (b:=false) (by simp only [go_sem,hk]<;>rfl) (fun hb=>by cases hb) (fun hb=>?_)
     repeat (first | refine nav ?_ | refine bo ?_)
     (refine wr fun K R hK hR=>?_;simp only [go_sem];(try go_ints);(repeat refine And.intro side ?_);(first|refine hK _ ?_|refine hR _ _ ?_);clear hK hR K R)
     repeat (first | refine nav ?_ | refine bo ?_)
     refine W_cond (b:=false) (by simp only [go_sem,hk]<;>rfl) (fun hb=>by cases hb) (fun hb=>?_)
     repeat (first | refine nav ?_ | refine bo ?_)
     (refine wr fun K R hK hR=>?_;simp only [go_sem];(try go_ints);(repeat refine And.intro side ?_);(first|refine hK _ ?_|refine hR _ _ ?_);clear hK hR K R)
     repeat (first | refine nav ?_ | refine bo ?_)
     refine W_cond (b:=false) (by simp only [go_sem,hk]<;>rfl) (fun hb=>by cases hb) (fun hb=>?_)
     repeat (first | refine nav ?_ | refine bo ?_)
     (refine wr fun K R hK hR=>?_;simp only [go_sem];(try go_ints);(repeat refine And.intro side ?_);(first|refine hK _ ?_|refine hR _ _ ?_);clear hK hR K R)
     repeat (first | refine nav ?_ | refine bo ?_)
     refine W_cond (b:=true) (by simp only [go_sem,hk]<;>rfl) (fun hb=>?_) (fun hb=>by cases hb)
     have hin:=inside_spec a p.cols (by omega)
     obtain ⟨hs6,hf6⟩:=hw.set n' (!insideF a p.cols)
     repeat (first | refine nav ?_ | refine bo ?_)
     (refine wr fun K R hK hR=>?_;simp only [go_sem,hbx];(try go_ints);(try simp only [go_sem,hbx]);(repeat refine And.intro side ?_);(first|refine hK _ ?_|refine hR _ _ ?_);clear hK hR K R)
     repeat (first | refine nav ?_ | refine bo ?_)
     (refine W_dreg (by decide +kernel) [] [0,1,2,3,4,5,6,7,8,9,10] [[],[],[1],[1,2],[],[4],[4,5,2,1,3],[3,1,2,5,4,6],[7,6,5,4,3,2,1,0],[0,1,2,3,4,5,6,7,8],[8,7,6,5,4,3,2,1,0,9]] (by decide +kernel) rfl fun K R hK hR=>?_;simp only [List.filterMap_cons,List.filterMap_nil,List.getElem?_cons_zero,List.getElem?_cons_succ,List.cons_append,List.nil_append];simp only [go_sem,h7,hia,hbx];(try go_ints);(try simp only [go_sem,h7,hia,hbx]);(repeat refine And.intro side ?_);(first|refine hK _ ?_|refine hR _ _ ?_);clear hK hR K R)
     refine D_callD (hin) rfl rfl rfl (by first | (simp only [go_sem]<;>first | exact LeA.refl _ | exact Le.refl _) | exact LeA.refl _) rfl rfl rfl rfl ?_
     (refine D_reg fun K R hK hR=>?_;simp only [go_sem,hw.k];(try go_ints);(try simp only [go_sem,hw.k]);(repeat refine And.intro side ?_);(first|refine hK _ ?_|refine hR _ _ ?_);clear hK hR K R)
     repeat (first | refine nav ?_ | refine bo ?_)
     exact joinQ_normal ⟨p.cols.length,(!insideF a p.cols),ws',by simp only [go_sem],hs6,hf6,by unfold finF;simp [hk]⟩
    ·rw [hk] at hb2
     obtain ⟨a,b,rfl⟩ : ∃ a b,of = [a,b]:=by
      have h2 : of.length = 2:=by have h0 : kidsF 6 = 2:=rfl;omega
      match of,h2 with
      | [a,b],_=>exact ⟨a,b,rfl⟩
     have hia : ints [a,b] = [[.i .i64 a],[.i .i64 b]]:=rfl
     repeat (first | refine nav ?_ | refine bo ?_)
     (refine wr fun K R hK hR=>?_;simp only [go_sem];(try go_ints);(repeat refine And.intro side ?_);(first|refine hK _ ?_|refine hR _ _ ?_);clear hK hR K R)
     repeat (first | refine nav ?_ | refine bo ?_)
     refine W_cond (b:=false) (by simp only [go_sem,hk]<;>rfl) (fun hb=>by cases hb) (fun hb=>?_)
     repeat (first | refine nav ?_ | refine bo ?_)
     (refine wr fun K R hK hR=>?_;simp only [go_sem];(try go_ints);(repeat refine And.intro side ?_);(first|refine hK _ ?_|refine hR _ _ ?_);clear hK hR K R)
     repeat (first | refine nav ?_ | refine bo ?_)
     refine W_cond (b:=false) (by simp only [go_sem,hk]<;>rfl) (fun hb=>by cases hb) (fun hb=>?_)
     repeat (first | refine nav ?_ | refine bo ?_)
     (refine wr fun K R hK hR=>?_;simp only [go_sem];(try go_ints);(repeat refine And.intro side ?_);(first|refine hK _ ?_|refine hR _ _ ?_);clear hK hR K R)
     repeat (first | refine nav ?_ | refine bo ?_)
     refine W_cond (b:=false) (by simp only [go_sem,hk]<;>rfl) (fun hb=>by cases hb) (fun hb=>?_)
     repeat (first | refine nav ?_ | refine bo ?_)
     (refine wr fun K R hK hR=>?_;simp only [go_sem];(try go_ints);(repeat refine And.intro side ?_);(first|refine hK _ ?_|refine hR _ _ ?_);clear hK hR K R)
     repeat (first | refine nav ?_ | refine bo ?_)
     refine W_cond (b:=false) (by simp only [go_sem,hk]<;>rfl) (fun hb=>by cases hb) (fun hb=>?_)
     repeat (first | refine nav ?_ | refine bo ?_)
     (refine wr fun K R hK hR=>?_;simp only [go_sem];(try go_ints);(repeat refine And.intro side ?_);(first|refine hK _ ?_|refine hR _ _ ?_);clear hK hR K R)
     repeat (first | refine nav ?_ | refine bo ?_)
     refine W_cond (b:=false) (by simp only [go_sem,hk]<;>rfl) (fun hb=>by cases hb) (fun hb=>?_)
     repeat (first | refine nav ?_ | refine bo ?_)
     (refine wr fun K R hK hR=>?_;simp only [go_sem];(try go_ints);(repeat refine And.intro side ?_);(first|refine hK _ ?_|refine hR _ _ ?_);clear hK hR K R)
     repeat (first | refine nav ?_ | refine bo ?_)
     refine W_cond (b:=true) (by simp only [go_sem,hk]<;>rfl) (fun hb=>?_) (fun hb=>by cases hb)
     repeat (first | refine nav ?_ | refine bo ?_)
     refine W_cond (b:=true) (by simp only [go_sem,hk]<;>rfl) (fun hb=>?_) (fun hb=>by cases hb)
     obtain ⟨hs6,hf6⟩:=hw.set n' (a != b)
     repeat (first | refine nav ?_ | refine bo ?_)
     (refine wr fun K R hK hR=>?_;simp only [go_sem,h7,hia];(try go_ints);(try simp only [go_sem,h7,hia]);(repeat refine And.intro side ?_);(first|refine hK _ ?_|refine hR _ _ ?_);clear hK hR K R)
     repeat (first | refine nav ?_ | refine bo ?_)
     (refine W_dreg (by decide +kernel) [] [0,1,2,3,4,5,6,7,8,9,10] [[],[],[1],[1,2],[],[4],[4,5],[5,4,6,2,1,3],[7,6,5,4,3,2,1,0],[0,1,2,3,4,5,6,7,8],[8,7,6,5,4,3,2,1,0,9]] (by decide +kernel) rfl fun K R hK hR=>?_;simp only [List.filterMap_cons,List.filterMap_nil,List.getElem?_cons_zero,List.getElem?_cons_succ,List.cons_append,List.nil_append];simp only [go_sem,h7,hia,hw.k];(try go_ints);(try simp only [go_sem,h7,hia,hw.k]);(repeat refine And.intro side ?_);(first|refine hK _ ?_|refine hR _ _ ?_);clear hK hR K R)
     repeat (first | refine nav ?_ | refine bo ?_)
     exact joinQ_normal ⟨a,(a != b),ws',by simp only [go_sem],hs6,hf6,by unfold finF;simp [hk]⟩
    ·rw [hk] at hb2
     obtain ⟨a,b,rfl⟩ : ∃ a b,of = [a,b]:=by
      have h2 : of.length = 2:=by have h0 : kidsF 7 = 2:=rfl;omega
      match of,h2 with
      | [a,b],_=>exact ⟨a,b,rfl⟩
     have hia : ints [a,b] = [[.i .i64 a],[.i .i64 b]]:=rfl
     repeat (first | refine nav ?_ | refine bo ?_)
     (refine wr fun K R hK hR=>?_;simp only [go_sem];(try go_ints);(repeat refine And.intro side ?_);(first|refine hK _ ?_|refine hR _ _ ?_);clear hK hR K R)
     repeat (first | refine nav ?_ | refine bo ?_)
     refine W_cond (b:=false) (by simp only [go_sem,hk]<;>rfl) (fun hb=>by cases hb) (fun hb=>?_)
     repeat (first | refine nav ?_ | refine bo ?_)
     (refine wr fun K R hK hR=>?_;simp only [go_sem];(try go_ints);(repeat refine And.intro side ?_);(first|refine hK _ ?_|refine hR _ _ ?_);clear hK hR K R)
     repeat (first | refine nav ?_ | refine bo ?_)
     refine W_cond (b:=false) (by simp only [go_sem,hk]<;>rfl) (fun hb=>by cases hb) (fun hb=>?_)
     repeat (first | refine nav ?_ | refine bo ?_)
     (refine wr fun K R hK hR=>?_;simp only [go_sem];(try go_ints);(repeat refine And.intro side ?_);(first|refine hK _ ?_|refine hR _ _ ?_);clear hK hR K R)
     repeat (first | refine nav ?_ | refine bo ?_)
     refine W_cond (b:=false) (by simp only [go_sem,hk]<;>rfl) (fun hb=>by cases hb) (fun hb=>?_)
     repeat (first | refine nav ?_ | refine bo ?_)
     (refine wr fun K R hK hR=>?_;simp only [go_sem];(try go_ints);(repeat refine And.intro side ?_);(first|refine hK _ ?_|refine hR _ _ ?_);clear hK hR K R)
     repeat (first | refine nav ?_ | refine bo ?_)
     refine W_cond (b:=false) (by simp only [go_sem,hk]<;>rfl) (fun hb=>by cases hb) (fun hb=>?_)
     repeat (first | refine nav ?_ | refine bo ?_)
     (refine wr fun K R hK hR=>?_;simp only [go_sem];(try go_ints);(repeat refine And.intro side ?_);(first|refine hK _ ?_|refine hR _ _ ?_);clear hK hR K R)
     repeat (first | refine nav ?_ | refine bo ?_)
     refine W_cond (b:=false) (by simp only [go_sem,hk]<;>rfl) (fun hb=>by cases hb) (fun hb=>?_)
     repeat (first | refine nav ?_ | refine bo ?_)
     (refine wr fun K R hK hR=>?_;simp only [go_sem];(try go_ints);(repeat refine And.intro side ?_);(first|refine hK _ ?_|refine hR _ _ ?_);clear hK hR K R)
     repeat (first | refine nav ?_ | refine bo ?_)
     refine W_cond (b:=false) (by simp only [go_sem,hk]<;>rfl) (fun hb=>by cases hb) (fun hb=>?_)
     repeat (first | refine nav ?_ | refine bo ?_)
     (refine wr fun K R hK hR=>?_;simp only [go_sem];(try go_ints);(repeat refine And.intro side ?_);(first|refine hK _ ?_|refine hR _ _ ?_);clear hK hR K R)
     repeat (first | refine nav ?_ | refine bo ?_)
     refine W_cond (b:=true) (by simp only [go_sem,hk]<;>rfl) (fun hb=>?_) (fun hb=>by cases hb)
     obtain ⟨hs6,hf6⟩:=hw.set n' (a != b)
     repeat (first | refine nav ?_ | refine bo ?_)
     (refine wr fun K R hK hR=>?_;simp only [go_sem,h7,hia];(try go_ints);(try simp only [go_sem,h7,hia]);(repeat refine And.intro side ?_);(first|refine hK _ ?_|refine hR _ _ ?_);clear hK hR K R)
     repeat (first | refine nav ?_ | refine bo ?_)
     (refine W_dreg (by decide +kernel) [] [0,1,2,3,4,5,6,7,8,9,10] [[],[],[1],[1,2],[],[4],[4,5],[5,4,6,2,1,3],[7,6,5,4,3,2,1,0],[0,1,2,3,4,5,6,7,8],[8,7,6,5,4,3,2,1,0,9]] (by decide +kernel) rfl fun K R hK hR=>?_;simp only [List.filterMap_cons,List.filterMap_nil,List.getElem?_cons_zero,List.getElem?_cons_succ,List.cons_append,List.nil_append];simp only [go_sem,h7,hia,hw.k];(try go_ints);(try simp only [go_sem,h7,hia,hw.k]);(repeat refine And.intro side ?_);(first|refine hK _ ?_|refine hR _ _ ?_);clear hK hR K R)
     repeat (first | refine nav ?_ | refine bo ?_)
     exact joinQ_normal ⟨a,(a != b),ws',by simp only [go_sem],hs6,hf6,by unfold finF;simp [hk]⟩
   ·rintro t2 o5 ⟨w,b1,ws5,h10,hw5,hf5,hfin⟩
    have hff:=(hf1.trans hfr).trans hf5
    rw [hfin] at hres
    obtain ⟨hs6,hf6⟩:=hw5.set n' (b1 || decide (w < 0) || decide (w > 12))
    repeat (first | refine nav ?_ | refine bo ?_)
    (refine wr fun K R hK hR=>?_;simp only [go_sem,h10,hw5.k];(try go_ints);(try simp only [go_sem,h10,hw5.k]);(repeat refine And.intro side ?_);(first|refine hK _ ?_|refine hR _ _ ?_);clear hK hR K R)
    generalize o5.set K (.cells 3 [[.i .i64 (n' : Int),.mp M,.b (b1 || decide (w < 0) || decide (w > 12))]]) = o6 at *
    repeat (first | refine nav ?_ | refine bo ?_)
    (refine wr fun K R hK hR=>?_;simp only [go_sem,h10];(try go_ints);(try simp only [go_sem,h10]);(repeat refine And.intro side ?_);(first|refine hK _ ?_|refine hR _ _ ?_);clear hK hR K R)
    repeat (first | refine nav ?_ | refine bo ?_)
    have hfg:=hff.trans hf6
    refine endQ_all (by simp only [go_sem]<;>exact rfl) (Le.refl _) (by have:=hfg.len;simp only;omega) hs6.ok rfl ⟨hfg,?_⟩
    cases hbb : (b1 || decide (w < 0) || decide (w > 12))
    ·rw [hbb] at hres hs6
     simp only [Bool.false_eq_true,if_false] at hres
     subst hres
     exact ⟨rfl,hs6⟩
    ·rw [hbb] at hres hs6
     simp only [if_true] at hres
     subst hres
     exact ⟨w,n',ws5,rfl,hs6⟩
end Go.AW
namespace Go.AW
open Go Go.Proofs TyTryz Go.IntWalk
set_option linter.unusedSimpArgs false
set_option linter.unusedVariables false
set_option maxRecDepth 10000
set_option maxHeartbeats 4000000
def WalkedP (p : PlanD) (o : List Ob) (r : AV) (o' : List Ob) : Prop:=∃ (K M : Nat) (x : Int),r = .tup [.ptr K 0 0,.i .i64 x] ∧ o.length ≤ o'.length ∧ (∀ j < o.length,o'[j]? = o[j]?) ∧ match walkF p 1 0 [] with
 | some (w,n,ws)=>x = w ∧ WRep o' K M n false ws
 | none=>∃ (n : Nat) (ws : Names),WRep o' K M n true ws
theorem WalkedP.shape {p : PlanD} {o : List Ob} {r : AV} {o' : List Ob} (h : WalkedP p o r o') : o.length ≤ o'.length ∧ r.ltk o'.length = true ∧ okO o' = true:=by
 obtain ⟨K,M,x,rfl,h1,h2,h3⟩:=h
 have key : ∀ {n : Nat} {b : Bool} {ws : Names},WRep o' K M n b ws → o.length ≤ o'.length ∧ (AV.tup [.ptr K 0 0,.i .i64 x]).ltk o'.length = true ∧ okO o' = true:=by
  intro n b ws h
  have:=(List.getElem?_eq_some_iff.1 h.k).1
  exact ⟨h1,by simp [AV.ltk,AV.ltks,this],h.ok⟩
 revert h3
 cases walkF p 1 0 [] with
 | none=>rintro ⟨n,ws,h⟩;exact key h
 | some y=>obtain ⟨w,n,ws⟩:=y;rintro ⟨_,h⟩;exact key h
theorem walked_spec (p : PlanD) (hp : p.Sm) (o : List Ob) (ho : okO o = true) : ACalls Tryz.prog 29 [.agg p.cells] o (WalkedP p o):=by
 have hcx:=p.cells_eq
 refine ACalls_of' (n:=14) (rs:=[.tmp 2,.tmp 3]) (show Tryz.prog.funcs[29]? = some Tryz.f29 by kernel_rfl) rfl rfl rfl (by simp) (by decide +kernel) ?_
 rw [hcx]
 repeat (first | refine nav ?_ | refine bo ?_)
 (refine wr fun K R hK hR=>?_;simp only [go_sem];(try go_ints);(repeat refine And.intro side ?_);(first|refine hK _ ?_|refine hR _ _ ?_);clear hK hR K R)
 repeat (first | refine nav ?_ | refine bo ?_)
 (refine wr fun K R hK hR=>?_;simp only [go_sem];(try go_ints);(repeat refine And.intro side ?_);(first|refine hK _ ?_|refine hR _ _ ?_);clear hK hR K R)
 have hs : WRep (o ++ [boxP p,.mapo [],.cells 3 [[.i .i64 0,.mp (o.length + 1),.b false]]]) (o.length + 2) (o.length + 1) 0 false []:=by
  refine ⟨?_,?_,okO_app ho ?_⟩
  ·simp [List.getElem?_append_right]
  ·simp [List.getElem?_append_right,ents]
  ·simp [Ob.ltk,AV.ltk]
 have hbx : (o ++ [boxP p,.mapo [],.cells 3 [[.i .i64 0,.mp (o.length + 1),.b false]]])[o.length]? = some (boxP p):=by simp
 have hpre : ∀ j < o.length,(o ++ [boxP p,.mapo [],.cells 3 [[.i .i64 0,.mp (o.length + 1),.b false]]])[j]? = o[j]?:=fun j hj=>List.getElem?_append_left hj
 generalize hoo : o ++ [boxP p,.mapo [],.cells 3 [[.i .i64 0,.mp (o.length + 1),.b false]]] = o1 at *
 have hl1 : o.length ≤ o1.length:=by rw [← hoo];simp
 repeat (first | refine nav ?_ | refine bo ?_)
 (refine wr fun K R hK hR=>?_;simp only [go_sem,hbx];(try go_ints);(try simp only [go_sem,hbx]);(repeat refine And.intro side ?_);(first|refine hK _ ?_|refine hR _ _ ?_);clear hK hR K R)
 have hlK : o.length + 2 < o1.length:=by rw [← hoo];simp
 have hw:=walk_spec p hp 1 0 [] o1 (o.length + 2) (o.length + 1) (by omega) (by omega) hs
 rw [hcx,show ((1 : Nat) : Int) = 1 from rfl] at hw
 refine RL_callE hw (fun r o' h=>h.shape) (by simp only [go_sem]<;>exact rfl) rfl rfl (by simp) (by simp only [go_sem]<;>exact LeA.refl _) hs.ok (by simp [AV.ltk,AV.ltks,hlK]) ?_
 rintro r o2 ⟨hf,hres⟩
 have hpre2 : ∀ j < o.length,o2[j]? = o[j]?:=fun j hj=>(hf.get j (by omega) (by omega) (by omega)).trans (hpre j hj)
 have hl2:=hf.len
 cases hwx : walkF p 1 0 [] with
 | none =>
  rw [hwx] at hres
  obtain ⟨w,n,ws,rfl,hw2⟩:=hres
  (refine rr fun K R hK hR=>?_;simp only [go_sem];(try go_ints);(repeat refine And.intro side ?_);(first|refine hK _ ?_|refine hR _ _ ?_);clear hK hR K R)
  repeat (first | refine nav ?_ | refine bo ?_)
  (refine wr fun K R hK hR=>?_;simp only [go_sem];(try go_ints);(repeat refine And.intro side ?_);(first|refine hK _ ?_|refine hR _ _ ?_);clear hK hR K R)
  repeat (first | refine nav ?_ | refine bo ?_)
  refine endQ_all (by simp only [go_sem]<;>exact rfl) (Le.refl _) (by simp only;omega) hw2.ok (by simp [AV.ltk,AV.ltks];omega) ⟨o.length + 2,o.length + 1,w,rfl,by simp only;omega,hpre2,by rw [hwx];exact ⟨n,ws,hw2⟩⟩
 | some y =>
  obtain ⟨w,n,ws⟩:=y
  rw [hwx] at hres
  obtain ⟨rfl,hw2⟩:=hres
  (refine rr fun K R hK hR=>?_;simp only [go_sem];(try go_ints);(repeat refine And.intro side ?_);(first|refine hK _ ?_|refine hR _ _ ?_);clear hK hR K R)
  repeat (first | refine nav ?_ | refine bo ?_)
  (refine wr fun K R hK hR=>?_;simp only [go_sem];(try go_ints);(repeat refine And.intro side ?_);(first|refine hK _ ?_|refine hR _ _ ?_);clear hK hR K R)
  repeat (first | refine nav ?_ | refine bo ?_)
  refine endQ_all (by simp only [go_sem]<;>exact rfl) (Le.refl _) (by simp only;omega) hw2.ok (by simp [AV.ltk,AV.ltks];omega) ⟨o.length + 2,o.length + 1,w,rfl,by simp only;omega,hpre2,by rw [hwx];exact ⟨rfl,hw2⟩⟩
theorem pvalid_spec (p : PlanD) (hp : p.Sm) : ACallsD Tryz.prog 38 [.agg p.cells] (.b (walkF p 1 0 []).isSome):=by
 have hcx:=p.cells_eq
 have hw:=walked_spec p hp [boxP p] rfl
 rw [hcx] at hw ⊢
 refine ACalls_of' (n:=15) (rs:=[.tmp 2]) (show Tryz.prog.funcs[38]? = some Tryz.f38 by kernel_rfl) rfl rfl rfl (by simp) (by decide +kernel) ?_
 repeat (first | refine nav ?_ | refine bo ?_)
 (refine wr fun K R hK hR=>?_;simp only [go_sem];(try go_ints);(repeat refine And.intro side ?_);(first|refine hK _ ?_|refine hR _ _ ?_);clear hK hR K R)
 repeat (first | refine nav ?_ | refine bo ?_)
 (refine wr fun K R hK hR=>?_;simp only [go_sem];(try go_ints);(repeat refine And.intro side ?_);(first|refine hK _ ?_|refine hR _ _ ?_);clear hK hR K R)
 refine RL_callE hw (fun r o' h=>h.shape) (by simp only [go_sem]<;>exact rfl) rfl rfl (by simp) (by simp only [go_sem]<;>exact LeA.refl _) rfl rfl ?_
 rintro r o2 ⟨K,M,x,rfl,hl,hpre,hres⟩
 cases hwx : walkF p 1 0 [] with
 | none =>
  rw [hwx] at hres
  obtain ⟨n,ws,hw2⟩:=hres
  (refine rr fun K R hK hR=>?_;simp only [go_sem];(try go_ints);(repeat refine And.intro side ?_);(first|refine hK _ ?_|refine hR _ _ ?_);clear hK hR K R)
  repeat (first | refine nav ?_ | refine bo ?_)
  (refine wr fun K R hK hR=>?_;simp only [go_sem,hw2.k];(try go_ints);(try simp only [go_sem,hw2.k]);(repeat refine And.intro side ?_);(first|refine hK _ ?_|refine hR _ _ ?_);clear hK hR K R)
  repeat (first | refine nav ?_ | refine bo ?_)
  refine endQ_data (by simp only [go_sem]<;>exact rfl) (Le.of_eq ?_) rfl
  rfl
 | some y =>
  obtain ⟨w,n,ws⟩:=y
  rw [hwx] at hres
  obtain ⟨rfl,hw2⟩:=hres
  (refine rr fun K R hK hR=>?_;simp only [go_sem];(try go_ints);(repeat refine And.intro side ?_);(first|refine hK _ ?_|refine hR _ _ ?_);clear hK hR K R)
  repeat (first | refine nav ?_ | refine bo ?_)
  (refine wr fun K R hK hR=>?_;simp only [go_sem,hw2.k];(try go_ints);(try simp only [go_sem,hw2.k]);(repeat refine And.intro side ?_);(first|refine hK _ ?_|refine hR _ _ ?_);clear hK hR K R)
  repeat (first | refine nav ?_ | refine bo ?_)
  refine endQ_data (by simp only [go_sem]<;>exact rfl) (Le.of_eq ?_) rfl
  rfl
end Go.AW
namespace Go.AW
open Go Go.Proofs TyTryz Go.IntWalk
set_option linter.unusedSimpArgs false
set_option linter.unusedVariables false
set_option maxRecDepth 10000
set_option maxHeartbeats 4000000
structure I12 (p : PlanD) (s : StrD) (out : List (List Int)) (o3 : List Ob) (d : Nat → Bool) (x : St) : Prop where
 t2 : x.t 2 = .ptr 0 0 0
 t3 : x.t 3 = .ptr 1 0 0
 t10 : x.t 10 = .own 1 []
 o : x.o = if d 1 = true then o3 ++ engObs s o3.length else o3
 k0 : d 0 = true → x.t 46 = .agg s.cells
 k1 : d 1 = true → x.t 47 = .ptr (o3.length + 1) 0 0
 k2 : d 2 = true → x.t 48 = .agg p.cells
 k3 : d 3 = true → x.t 49 = .sl 1 (tups out)
 k4 : d 4 = true → x.t 50 = .i .i64 out.length
 k5 : d 5 = true → x.t 51 = .i .i64 0
theorem engObs_ok {s : StrD} {o : List Ob} (h : okO o = true) : okO (o ++ engObs s o.length) = true:=okO_app h (by simp [engObs,StrD.cells,Ob.ltk,AV.ltk,AV.ltks,rels,engMap])
theorem engObs_eng (s : StrD) (o : List Ob) : Eng s (o.length + 1) (o ++ engObs s o.length) :=
 ⟨by rw [List.getElem?_append_right (by omega),show o.length + 1 - o.length = 1 by omega];rfl,by rw [List.getElem?_append_right (by omega),show o.length + 1 + 1 - o.length = 2 by omega];rfl⟩
def errA (k : Int) : AV:=.tup [.sl 1 [],.i .i64 k]
def runA (r : Option (Int × Nat × Names)) (bv : Bool) (ff : ByteArray → Int → Int) (lg : Bool) (out : List (List Int)) : AV :=
 match r with
 | none=>errA 1
 | some (_,_,ws)=>if bv = false then errA 1 else if (ws.any fun x=>decide (ff x.1 x.2 < 0)) = true then errA 4 else if lg = true then errA 5 else .tup [.sl 1 (tups out),.i .i64 0]
theorem prun_spec (p : PlanD) (hp : p.Sm) (s : StrD) (bv : Bool) (ff : ByteArray → Int → Int) (lg : Bool) (out : List (List Int)) (hv : ACallsD Tryz.prog 30 [.agg s.cells] (.b bv))
  (hf : bv = true → ∀ w n ws,walkF p 1 0 [] = some (w,n,ws) → ∀ x ∈ ws,ACallsD Tryz.prog 31 [.agg s.cells,.s x.1,.i .i64 x.2] (.i .i64 (ff x.1 x.2)))
  (hlg : bv = true → (walkF p 1 0 []).isSome = true → ACallsD Tryz.prog 32 [.agg p.cells,.i .i64 s.size] (.b lg))
  (hr : ∀ w n ws,walkF p 1 0 [] = some (w,n,ws) → bv = true → (ws.any fun x=>decide (ff x.1 x.2 < 0)) = false → lg = false → Runs s p out) (ho : out.length ≤ 1000000) (hcl : ∀ x ∈ out,ACallsD Tryz.prog 35 [.sl 1 (ints x)] (.sl 1 (ints x))) :
  ACallsD Tryz.prog 7 [.agg p.cells,.agg s.cells] (runA (walkF p 1 0 []) bv ff lg out):=by
 have hcx:=p.cells_eq
 have hsx : s.cells = [.i .i64 s.size,.sl 3 (rels s.rels)]:=rfl
 have hw:=walked_spec p hp [boxP p,.cells 2 [s.cells]] rfl
 rw [hcx] at hw ⊢
 rw [hsx] at hw ⊢ hv hf
 refine ACalls_of' (n:=62) (rs:=[.tmp 4,.tmp 5]) (show Tryz.prog.funcs[7]? = some Tryz.f7 by kernel_rfl) rfl rfl rfl (by simp) (by decide +kernel) ?_
 repeat (first | refine nav ?_ | refine bo ?_)
 (refine wr fun K R hK hR=>?_;simp only [go_sem];(try go_ints);(repeat refine And.intro side ?_);(first|refine hK _ ?_|refine hR _ _ ?_);clear hK hR K R)
 repeat (first | refine nav ?_ | refine bo ?_)
 (refine wr fun K R hK hR=>?_;simp only [go_sem];(try go_ints);(repeat refine And.intro side ?_);(first|refine hK _ ?_|refine hR _ _ ?_);clear hK hR K R)
 refine RL_callE hw (fun r o' h=>h.shape) (by simp only [go_sem]<;>exact rfl) rfl rfl (by simp) (by simp only [go_sem]<;>exact LeA.refl _) rfl (by rfl) ?_
 rintro r o2 h2
 have h2s:=h2.shape
 obtain ⟨K,M,x,rfl,hol,hpre,hres⟩:=h2
 have hK:=h2s.2.1
 have b0 : o2[0]? = some (boxP p):=(hpre 0 (by simp)).trans rfl
 have b1 : o2[1]? = some (.cells 2 [[.i .i64 s.size,.sl 3 (rels s.rels)]]):=(hpre 1 (by simp)).trans rfl
 have hok2:=h2s.2.2
 obtain ⟨bad,n,ws,hw2,hbad⟩ : ∃ bad n ws,WRep o2 K M n bad ws ∧ (bad = true ∧ walkF p 1 0 [] = none ∨ bad = false ∧ ∃ w,walkF p 1 0 [] = some (w,n,ws)):=by
  cases hwx : walkF p 1 0 [] with
  | none=>rw [hwx] at hres;obtain ⟨n,ws,h⟩:=hres;exact ⟨true,n,ws,h,.inl ⟨rfl,rfl⟩⟩
  | some y=>obtain ⟨w,n,ws⟩:=y;rw [hwx] at hres;exact ⟨false,n,ws,hres.2,.inr ⟨rfl,w,rfl⟩⟩
 clear hres
 (refine rr fun K R hK hR=>?_;simp only [go_sem];(try go_ints);(repeat refine And.intro side ?_);(first|refine hK _ ?_|refine hR _ _ ?_);clear hK hR K R)
 repeat (first | refine nav ?_ | refine bo ?_)
 (refine wr fun K R hK hR=>?_;simp only [go_sem,hw2.k,b1];(try go_ints);(try simp only [go_sem,hw2.k,b1]);(repeat refine And.intro side ?_);(first|refine hK _ ?_|refine hR _ _ ?_);clear hK hR K R)
 refine RL_callDg rfl (by simp only [go_sem]<;>exact rfl) (fun e=>hv) rfl rfl rfl (fun e=>by (try simp only [go_sem] at e);simp only [go_sem,e]<;>(try simp only [go_sem])<;>first | exact LeA.refl _ | exact Le.refl _) rfl rfl ?_
 (refine rr fun K R hK hR=>?_;simp only [go_sem];(try go_ints);(repeat refine And.intro side ?_);(first|refine hK _ ?_|refine hR _ _ ?_);clear hK hR K R)
 repeat (first | refine nav ?_ | refine bo ?_)
 refine W_cond (b:=bad || !bv) (by simp only [go_sem]<;>cases bad<;>cases bv<;>rfl) (fun hb=>?_) (fun hb=>?_)
 ·have hrr : runA (walkF p 1 0 []) bv ff lg out = errA 1:=by
   rcases hbad with ⟨rfl,h⟩ | ⟨rfl,w,h⟩
   ·rw [h];rfl
   ·rw [h]
    have : bv = false:=by simpa using hb
    simp [runA,this]
  rw [hrr]
  repeat (first | refine nav ?_ | refine bo ?_)
  (refine wr fun K R hK hR=>?_;simp only [go_sem];(try go_ints);(repeat refine And.intro side ?_);(first|refine hK _ ?_|refine hR _ _ ?_);clear hK hR K R)
  repeat (first | refine nav ?_ | refine bo ?_)
  refine endQ_data (by simp only [go_sem]<;>exact rfl) (Le.of_eq ?_) rfl
  rfl
 ·simp only [Bool.or_eq_false_iff,Bool.not_eq_eq_eq_not,Bool.not_false] at hb
  obtain ⟨hb1,rfl⟩:=hb
  obtain ⟨_,w,hwx⟩ : bad = false ∧ ∃ w,walkF p 1 0 [] = some (w,n,ws):=by
   rcases hbad with ⟨h,_⟩ | h
   ·rw [hb1] at h;cases h
   ·exact h
  subst hb1
  replace hf:=hf rfl w n ws hwx
  replace hlg:=hlg rfl (by rw [hwx];rfl)
  replace hr:=hr w n ws hwx rfl
  rw [hwx]
  refine nav ?_
  change W Tryz.prog 62 _ _ _
  refine W_seq ?_
  have hbM : M < o2.length:=(List.getElem?_eq_some_iff.1 hw2.m).1
  have hKM:=hw2.ne
  have hM2 : 2 ≤ M:=by
   rcases Nat.lt_or_ge M 2 with h | h
   ·have : M = 0 ∨ M = 1:=by omega
    rcases this with rfl | rfl
    ·have:=hw2.m.symm.trans b0;simp at this
    ·have:=hw2.m.symm.trans b1;simp at this
   ·exact h
  refine W_weak (s':=⟨tab [(2,.ptr 0 0 0),(3,.ptr 1 0 0),(6,.ptr K 0 0)],o2⟩) (tab_le fun y hy=>?_) rfl ?_
  ·simp only [List.mem_cons,List.not_mem_nil,or_false] at hy
   rcases hy with rfl | rfl | rfl<;>rfl
  have hd0 : (o2.set M Ob.dead ++ [Ob.dead]).set M (.mapo (ents ws)) = o2 ++ [Ob.dead]:=by
   rw [List.set_append_left _ _ (by simpa using hbM),List.set_set,set_of_get hw2.m]
  refine W_rangeMap (s1:=⟨upd (upd (upd (upd (tab [(2,.ptr 0 0 0),(3,.ptr 1 0 0),(6,.ptr K 0 0)]) 27 (.ptr K 0 0)) 28 (.ptr K 0 0)) 29 (.ptr K 0 1)) 30 (.mp M),o2⟩) (es:=ents ws) (im:=M) 4 rfl ?_ Tryz.underlying63 (by simp only [go_sem]<;>exact rfl) hw2.m ?_ (by decide)
   (fun l t o=>o = o2.set M .dead ++ [.dead] ∧ t 2 = .ptr 0 0 0 ∧ t 3 = .ptr 1 0 0 ∧ ∀ x ∈ ws,(AV.s x.1,AV.i .i64 x.2) ∈ l ∨ 0 ≤ ff x.1 x.2) ⟨rfl,by simp only [go_sem],by simp only [go_sem],fun x hx=>.inl (by unfold ents;exact List.mem_map.2 ⟨x,hx,rfl⟩)⟩ ?_ ?_
  ·(refine rr fun K R hK hR=>?_;simp only [go_sem,hw2.k];(try go_ints);(try simp only [go_sem,hw2.k]);(repeat refine And.intro side ?_);(first|refine hK _ ?_|refine hR _ _ ?_);clear hK hR K R)
   exact ⟨rfl,rfl⟩
  ·simp [litE,ents,AV.lit]
  ·rintro l l' k v t o ⟨rfl,h2,h3,hl⟩ h31 hperm hsub
   have hkv:=hsub (k,v) (hperm.mem_iff.2 (by simp))
   unfold ents at hkv
   obtain ⟨y,hy,e⟩:=List.mem_map.1 hkv
   simp only [Prod.mk.injEq] at e
   obtain ⟨rfl,rfl⟩:=e
   have b1' : (o2.set M Ob.dead ++ [Ob.dead])[1]? = some (.cells 2 [[.i .i64 s.size,.sl 3 (rels s.rels)]]):=app_get _ (by rw [List.getElem?_set_ne (by omega)];exact b1)
   (refine rr fun K R hK hR=>?_;simp only [go_sem];(try go_ints);(repeat refine And.intro side ?_);(first|refine hK _ ?_|refine hR _ _ ?_);clear hK hR K R)
   repeat (first | refine nav ?_ | refine bo ?_)
   (refine wr fun K R hK hR=>?_;simp only [go_sem,h3,b1'];(try go_ints);(try simp only [go_sem,h3,b1']);(repeat refine And.intro side ?_);(first|refine hK _ ?_|refine hR _ _ ?_);clear hK hR K R)
   refine RL_callF (hf y hy) rfl rfl rfl (by first | (simp only [go_sem]<;>first | exact LeA.refl _ | exact Le.refl _) | exact LeA.refl _) rfl rfl ?_
   (refine rr fun K R hK hR=>?_;simp only [go_sem];(try go_ints);(repeat refine And.intro side ?_);(first|refine hK _ ?_|refine hR _ _ ?_);clear hK hR K R)
   repeat (first | refine nav ?_ | refine bo ?_)
   refine W_cond (b:=decide (ff y.1 y.2 < 0)) (by simp only [go_sem]) (fun hc=>?_) (fun hc=>?_)
   ·have hrr : runA (some (w,n,ws)) true ff lg out = errA 4:=by
     have : (ws.any fun x=>decide (ff x.1 x.2 < 0)) = true:=List.any_eq_true.2 ⟨y,hy,hc⟩
     simp [runA,this]
    rw [hrr]
    repeat (first | refine nav ?_ | refine bo ?_)
    (refine wr fun K R hK hR=>?_;simp only [go_sem];(try go_ints);(repeat refine And.intro side ?_);(first|refine hK _ ?_|refine hR _ _ ?_);clear hK hR K R)
    repeat (first | refine nav ?_ | refine bo ?_)
    refine rangeQ_ret ?_
    trace_state
    refine endQ_data (by simp only [go_sem]<;>exact rfl) (Le.of_eq ?_) rfl
    rfl
   ·simp only [decide_eq_false_iff_not,Int.not_lt] at hc
    repeat (first | refine nav ?_ | refine bo ?_)
    refine rangeQ_normal ⟨⟨rfl,by simp only [go_sem,h2],by simp only [go_sem,h3],fun x hx=>?_⟩,by simp only [go_sem,h31]⟩
    rcases hl x hx with h | h
    ·rcases List.mem_cons.1 (hperm.mem_iff.1 h) with h | h
     ·simp only [Prod.mk.injEq,AV.s.injEq,AV.i.injEq,true_and] at h
      rw [h.1,h.2];exact .inr hc
     ·exact .inl h
    ·exact .inr h
  ·rintro t o ⟨rfl,h2,h3,hl⟩
   have hws : (ws.any fun x=>decide (ff x.1 x.2 < 0)) = false:=by
    rw [List.any_eq_false]
    intro x hx
    rcases hl x hx with h | h
    ·cases h
    ·simp;omega
   rw [hd0]
   change W Tryz.prog 62 _ _ _
   have hok3 : okO (o2 ++ [Ob.dead]) = true:=okO_app hok2 rfl
   replace hr:=hr hws
   have hrr : runA (some (w,n,ws)) true ff lg out = if lg = true then errA 5 else .tup [.sl 1 (tups out),.i .i64 0]:=by simp [runA,hws]
   rw [hrr]
   refine W_weak (s':=⟨tab [(2,.ptr 0 0 0),(3,.ptr 1 0 0)],o2 ++ [Ob.dead]⟩) (tab_le fun y hy=>?_) rfl ?_
   ·simp only [List.mem_cons,List.not_mem_nil,or_false] at hy
    rcases hy with rfl | rfl
    ·simp only [go_sem,h2]
    ·simp only [go_sem,h3]
   have b0':=fun l=>app_get l b0
   have b1':=fun l=>app_get l b1
   repeat (first | refine nav ?_ | refine bo ?_)
   (refine wr fun K R hK hR=>?_;simp only [go_sem,b0',b1'];(try go_ints);(try simp only [go_sem,b0',b1']);(repeat refine And.intro side ?_);(first|refine hK _ ?_|refine hR _ _ ?_);clear hK hR K R)
   rw [hcx] at hlg
   refine RL_callF (hlg) rfl rfl rfl (by first | (simp only [go_sem]<;>first | exact LeA.refl _ | exact Le.refl _) | exact LeA.refl _) rfl rfl ?_
   (refine rr fun K R hK hR=>?_;simp only [go_sem];(try go_ints);(repeat refine And.intro side ?_);(first|refine hK _ ?_|refine hR _ _ ?_);clear hK hR K R)
   repeat (first | refine nav ?_ | refine bo ?_)
   refine W_cond (b:=lg) (by simp only [go_sem]) (fun hc=>?_) (fun hc=>?_)
   ·rw [if_pos hc]
    repeat (first | refine nav ?_ | refine bo ?_)
    (refine wr fun K R hK hR=>?_;simp only [go_sem];(try go_ints);(repeat refine And.intro side ?_);(first|refine hK _ ?_|refine hR _ _ ?_);clear hK hR K R)
    repeat (first | refine nav ?_ | refine bo ?_)
    refine endQ_data (by simp only [go_sem]<;>exact rfl) (Le.of_eq ?_) rfl
    rfl
   rw [if_neg (by rw [hc];decide)]
   replace hr:=hr hc
   repeat (first | refine nav ?_ | refine bo ?_)
   (refine wr fun K R hK hR=>?_;simp only [go_sem];(try go_ints);(repeat refine And.intro side ?_);(first|refine hK _ ?_|refine hR _ _ ?_);clear hK hR K R)
   repeat (first | refine nav ?_ | refine bo ?_)
   generalize ho3 : o2 ++ [Ob.dead] = o3 at *
   have c0 : o3[0]? = some (boxP p):=by have:=b0' [Ob.dead];rwa [ho3] at this
   have c1 : o3[1]? = some (.cells 2 [[.i .i64 s.size,.sl 3 (rels s.rels)]]):=by have:=b1' [Ob.dead];rwa [ho3] at this
   refine W_drawInv (by decide +kernel) (fun d x=>I12 p s out o3 d x) (by decide +kernel) ?_ ?_ ?_
   ·exact ⟨by simp only [go_sem],by simp only [go_sem],by simp only [go_sem],by simp,fun h=>by simp at h,fun h=>by simp at h,fun h=>by simp at h,fun h=>by simp at h,fun h=>by simp at h,fun h=>by simp at h⟩
   ·intro d x i o ho hd hdep hI
    obtain ⟨t,ob⟩:=x
    obtain ⟨k2,k3,k10,ko,q0,q1,q2,q3,q4,q5⟩:=hI
    simp only at k2 k3 k10 ko q0 q1 q2 q3 q4 q5
    have up : ∀ (i : Nat) (y : Ob),o3[i]? = some y → ob[i]? = some y:=fun i y h=>by
     rw [ko];split
     ·exact app_get _ h
     ·exact h
    have hobok : okO ob = true:=by
     rw [ko];split
     ·exact engObs_ok hok3
     ·exact hok3
    have u0:=up _ _ c0
    have u1:=up _ _ c1
    have tl : (tups out).length = out.length:=by simp [tups]
    match i,ho with
    | 0,ho =>
     obtain rfl:=Option.some.inj ho
     refine ⟨rfl,OpW_run [] rfl rfl fun K' hK'=>?_⟩
     simp (maxSteps:=10000000) only [go_sem,k3,u1]
     (try go_ints)
     (repeat refine And.intro side ?_)
     refine hK' _ ?_
     clear hK' K' ho hdep
     refine ⟨by simpa [upd] using k2,by simpa [upd] using k3,by simpa [upd] using k10,by simpa using ko,fun h=>?_,fun h=>?_,fun h=>?_,fun h=>?_,fun h=>?_,fun h=>?_⟩
     all_goals first | (simp [upd];done) | (simp [upd,hsx,hcx];done) | (simp [upd];first | exact q0 (by simpa using h) | exact q1 (by simpa using h) | exact q2 (by simpa using h) | exact q3 (by simpa using h) | exact q4 (by simpa using h) | exact q5 (by simpa using h))
    | 1,ho =>
     obtain rfl:=Option.some.inj ho
     have h0:=q0 (hdep 0 (by decide +kernel))
     have e1 : ob = o3:=by rw [ko,hd];rfl
     subst e1
     refine ⟨rfl,OpW_callE (caps:=[]) rfl rfl rfl (newEngine_spec s hobok) (by rintro r o' ⟨rfl,rfl⟩;exact ⟨by simp,by simp [AV.ltk,engObs],engObs_ok hobok⟩) rfl rfl (Nat.le_refl _) (by show LeA (argVals [Operand.tmp 46] [AV.agg s.cells] t ++ []) [AV.agg s.cells];simp only [go_sem,h0]) hobok (by rfl) ?_⟩
     rintro r o' ⟨rfl,rfl⟩
     show I12 p s out ob _ ⟨upd (argDrop [Operand.tmp 46] [AV.agg s.cells] t) 47 (.ptr (ob.length + 1) 0 0),ob ++ engObs s ob.length⟩
     simp only [go_sem]
     clear ho hdep
     refine ⟨by simpa [upd] using k2,by simpa [upd] using k3,by simpa [upd] using k10,by simp,fun h=>?_,fun h=>?_,fun h=>?_,fun h=>?_,fun h=>?_,fun h=>?_⟩
     all_goals first | (simp [upd];done) | (simp [upd];first | exact q0 (by simpa using h) | exact q1 (by simpa using h) | exact q2 (by simpa using h) | exact q3 (by simpa using h) | exact q4 (by simpa using h) | exact q5 (by simpa using h))
    | 2,ho =>
     obtain rfl:=Option.some.inj ho
     refine ⟨rfl,OpW_run [] rfl rfl fun K' hK'=>?_⟩
     simp (maxSteps:=10000000) only [go_sem,k2,u0]
     (try go_ints)
     (repeat refine And.intro side ?_)
     refine hK' _ ?_
     clear hK' K' ho hdep
     refine ⟨by simpa [upd] using k2,by simpa [upd] using k3,by simpa [upd] using k10,by simpa using ko,fun h=>?_,fun h=>?_,fun h=>?_,fun h=>?_,fun h=>?_,fun h=>?_⟩
     all_goals first | (simp [upd];done) | (simp [upd,hsx,hcx];done) | (simp [upd];first | exact q0 (by simpa using h) | exact q1 (by simpa using h) | exact q2 (by simpa using h) | exact q3 (by simpa using h) | exact q4 (by simpa using h) | exact q5 (by simpa using h))
    | 3,ho =>
     obtain rfl:=Option.some.inj ho
     have h1:=q1 (hdep 1 (by decide +kernel))
     have h2:=q2 (hdep 2 (by decide +kernel))
     have e1 : ob = o3 ++ engObs s o3.length:=by rw [ko,if_pos (hdep 1 (by decide +kernel))]
     have hrun:=hr ob (o3.length + 1) hobok (by rw [e1];exact engObs_eng s o3)
     have hlt : o3.length + 1 < ob.length:=by rw [e1];simp [engObs]
     refine ⟨rfl,OpW_data (CallD.all rfl rfl rfl hrun rfl rfl (Nat.le_refl _) (by show LeA (argVals [Operand.tmp 47,Operand.tmp 48] [AV.ptr (o3.length + 1) 0 0,AV.agg p.cells] t ++ []) [AV.ptr (o3.length + 1) 0 0,AV.agg p.cells];simp only [go_sem,h1,h2]) hobok (by rw [hcx];simp [AV.ltk,AV.ltks,hlt]) rfl) ?_⟩
     show I12 p s out o3 _ ⟨upd (argDrop [Operand.tmp 47,Operand.tmp 48] [AV.ptr (o3.length + 1) 0 0,AV.agg p.cells] t) 49 _,ob⟩
     simp only [go_sem]
     clear ho hdep
     refine ⟨by simpa [upd] using k2,by simpa [upd] using k3,by simpa [upd] using k10,by simpa using ko,fun h=>?_,fun h=>?_,fun h=>?_,fun h=>?_,fun h=>?_,fun h=>?_⟩
     all_goals first | (simp [upd];done) | (simp [upd];first | exact q0 (by simpa using h) | exact q1 (by simpa using h) | exact q2 (by simpa using h) | exact q3 (by simpa using h) | exact q4 (by simpa using h) | exact q5 (by simpa using h))
    | 4,ho =>
     obtain rfl:=Option.some.inj ho
     refine ⟨rfl,OpW_run [] rfl rfl fun K' hK'=>?_⟩
     simp (maxSteps:=10000000) only [go_sem,q3 (hdep 3 (by decide +kernel)),tl]
     (try go_ints)
     (repeat refine And.intro side ?_)
     refine hK' _ ?_
     clear hK' K' ho hdep
     refine ⟨by simpa [upd] using k2,by simpa [upd] using k3,by simpa [upd] using k10,by simpa using ko,fun h=>?_,fun h=>?_,fun h=>?_,fun h=>?_,fun h=>?_,fun h=>?_⟩
     all_goals first | (simp [upd];done) | (simp [upd,hsx,hcx];done) | (simp [upd];first | exact q0 (by simpa using h) | exact q1 (by simpa using h) | exact q2 (by simpa using h) | exact q3 (by simpa using h) | exact q4 (by simpa using h) | exact q5 (by simpa using h))
    | 5,ho =>
     obtain rfl:=Option.some.inj ho
     refine ⟨rfl,OpW_run [] rfl rfl fun K' hK'=>?_⟩
     simp (maxSteps:=10000000) only [go_sem]
     (try go_ints)
     (repeat refine And.intro side ?_)
     refine hK' _ ?_
     clear hK' K' ho hdep
     refine ⟨by simpa [upd] using k2,by simpa [upd] using k3,by simpa [upd] using k10,by simpa using ko,fun h=>?_,fun h=>?_,fun h=>?_,fun h=>?_,fun h=>?_,fun h=>?_⟩
     all_goals first | (simp [upd];done) | (simp [upd,hsx,hcx];done) | (simp [upd];first | exact q0 (by simpa using h) | exact q1 (by simpa using h) | exact q2 (by simpa using h) | exact q3 (by simpa using h) | exact q4 (by simpa using h) | exact q5 (by simpa using h))
    | n + 6,ho=>simp at ho
   ·intro d x hd hI
    obtain ⟨t,ob⟩:=x
    obtain ⟨k2,k3,k10,ko,q0,q1,q2,q3,q4,q5⟩:=hI
    simp only at k10 ko q3 q4 q5
    replace q3:=q3 (hd 3 (by decide))
    replace q4:=q4 (hd 4 (by decide))
    replace q5:=q5 (hd 5 (by decide))
    rw [if_pos (hd 1 (by decide))] at ko
    have tl : (tups out).length = out.length:=by simp [tups]
    change W Tryz.prog 62 _ _ _
    refine W_weak (s':=⟨mix 51 61 [10,12] (tab [(10,.own 1 []),(51,.i .i64 0)]) (tab [(49,.sl 1 (tups out)),(50,.i .i64 out.length)]),ob⟩) (tab_mix (fun y hy=>?_) (fun y hy=>?_)) rfl ?_
    ·simp only [List.mem_cons,List.not_mem_nil,or_false] at hy
     rcases hy with rfl | rfl
     ·exact k10
     ·exact q5
    ·simp only [List.mem_cons,List.not_mem_nil,or_false] at hy
     rcases hy with rfl | rfl
     ·exact q3
     ·exact q4
    repeat (first | refine nav ?_ | refine bo ?_)
    refine W_forM 51 61 [10,12] (fun m t o=>∃ k : Nat,o = ob ∧ t 51 = .i .i64 k ∧ t 10 = .own 1 (tups (out.take k)) ∧ m = out.length - k ∧ k ≤ out.length) out.length ⟨0,rfl,by simp only [go_sem]<;>rfl,by simp only [go_sem]<;>rfl,by omega,by omega⟩ ?_
    rintro m t o ⟨k,rfl,h51,h10,rfl,hk⟩
    repeat (first | refine nav ?_ | refine bo ?_)
    (refine wr fun K R hK hR=>?_;simp only [go_sem,h51];(try go_ints);(try simp only [go_sem,h51]);(repeat refine And.intro side ?_);(first|refine hK _ ?_|refine hR _ _ ?_);clear hK hR K R)
    repeat (first | refine nav ?_ | refine bo ?_)
    refine W_cond (by simp only [go_sem]<;>exact rfl) (fun hb=>?_) (fun hb=>?_)
    ·simp at hb
     have hb0 : k + 1 ≤ out.length:=hb
     obtain ⟨x,hx⟩ : ∃ x,out[k]? = some x:=⟨_,List.getElem?_eq_getElem hb⟩
     have hcx2:=hcl x (List.mem_of_getElem? hx)
     obtain ⟨acc,hacc⟩ : ∃ acc,acc = out.take k:=⟨_,rfl⟩
     have hal : (tups acc).length = k:=by rw [hacc];simp [tups];omega
     rw [← hacc] at h10
     repeat (first | refine nav ?_ | refine bo ?_)
     (refine wr fun K R hK hR=>?_;simp only [go_sem,h51,tups_get hx,tl];(try go_ints);(try simp only [go_sem,h51,tups_get hx,tl]);(repeat refine And.intro side ?_);(first|refine hK _ ?_|refine hR _ _ ?_);clear hK hR K R)
     repeat (first | refine nav ?_ | refine bo ?_)
     (refine W_reg [55] fun K R hK hR=>?_;simp only [go_sem,h10];(try go_ints);(try simp only [go_sem,h10]);(repeat refine And.intro side ?_);(first|refine hK _ ?_|refine hR _ _ ?_);clear hK hR K R)
     refine RL_callF (hcx2) rfl rfl rfl (by first | (simp only [go_sem]<;>first | exact LeA.refl _ | exact Le.refl _) | exact LeA.refl _) rfl rfl ?_
     (refine RL_reg [55] fun K R hK hR=>?_;simp only [go_sem,hal];(try go_ints);(repeat refine And.intro (by first|exact side|(omega)) ?_);(first|refine hK _ ?_|refine hR _ _ ?_);clear hK hR K R)
     repeat (first | refine nav ?_ | refine bo ?_)
     (refine wr fun K R hK hR=>?_;simp only [go_sem,h51];(try go_ints);(try simp only [go_sem,h51]);(repeat refine And.intro side ?_);(first|refine hK _ ?_|refine hR _ _ ?_);clear hK hR K R)
     refine forQ_normal (out.length - (k + 1)) (by omega) ⟨k + 1,rfl,by simp only [go_sem]<;>rfl,?_,rfl,hb0⟩
     simp only [go_sem,List.take_add_one,hx,← hacc]
     simp [tups]
    ·simp at hb
     obtain rfl : k = out.length:=by omega
     rw [List.take_length] at h10
     repeat (first | refine nav ?_ | refine bo ?_)
     (refine wr fun K R hK hR=>?_;simp only [go_sem,h10];(try go_ints);(try simp only [go_sem,h10]);(repeat refine And.intro side ?_);(first|refine hK _ ?_|refine hR _ _ ?_);clear hK hR K R)
     repeat (first | refine nav ?_ | refine bo ?_)
     refine endQ_data (by simp only [go_sem]<;>exact rfl) (Le.of_eq ?_) rfl
     rfl
end Go.AW
namespace Go.AW
open Go
set_option linter.unusedSimpArgs false
set_option linter.unusedVariables false
end Go.AW
namespace Go.AW
open Go Go.Proofs TyTryz Go.IntWalk
set_option linter.unusedSimpArgs false
set_option linter.unusedVariables false
set_option maxRecDepth 10000
set_option maxHeartbeats 1000000
theorem equalI_spec (a b : List Int) (ha : a.length ≤ 1099511627776) (hbl : b.length ≤ 1099511627776) : ACallsD Tryz.prog 91 [.sl 1 (ints a),.sl 1 (ints b)] (.b (decide (a = b))):=by
 have il : ∀ l : List Int,(ints l).length = l.length:=fun l=>by simp [ints]
 refine ACalls_of' (n:=26) (rs:=[.tmp 4]) (show Tryz.prog.funcs[91]? = some Tryz.f91 by kernel_rfl) rfl rfl rfl (by simp) (by decide +kernel) ?_
 repeat (first | refine nav ?_ | refine bo ?_)
 (refine wr fun K R hK hR=>?_;simp only [go_sem];(try go_ints);(repeat refine And.intro side ?_);(first|refine hK _ ?_|refine hR _ _ ?_);clear hK hR K R)
 repeat (first | refine nav ?_ | refine bo ?_)
 (refine wr fun K R hK hR=>?_;simp only [go_sem,il];(try go_ints);(try simp only [go_sem,il]);(repeat refine And.intro side ?_);(first|refine hK _ ?_|refine hR _ _ ?_);clear hK hR K R)
 repeat (first | refine nav ?_ | refine bo ?_)
 by_cases hl : a.length = b.length
 ·have hl' : ((a.length : Int) != (b.length : Int)) = false:=by simp [hl]
  refine W_cond (b:=false) (by simp only [go_sem,il];exact hl') (fun hb=>by cases hb) (fun _=>?_)
  repeat (first | refine nav ?_ | refine bo ?_)
  (refine wr fun K R hK hR=>?_;simp only [go_sem,il];(try go_ints);(try simp only [go_sem,il]);(repeat refine And.intro side ?_);(first|refine hK _ ?_|refine hR _ _ ?_);clear hK hR K R)
  repeat (first | refine nav ?_ | refine bo ?_)
  refine W_for 13 26 [5] (fun m t o=>∃ k : Nat,[] = o ∧ t 13 = .i .i64 k ∧ m = a.length - k ∧ k ≤ a.length ∧ a.take k = b.take k) a.length ⟨0,rfl,by simp only [go_sem]<;>rfl,by omega,by omega,by simp⟩ ?_
  rintro m t o ⟨k,rfl,h13,rfl,hk,hi⟩
  repeat (first | refine nav ?_ | refine bo ?_)
  (refine wr fun K R hK hR=>?_;simp only [go_sem,h13];(try go_ints);(try simp only [go_sem,h13]);(repeat refine And.intro side ?_);(first|refine hK _ ?_|refine hR _ _ ?_);clear hK hR K R)
  repeat (first | refine nav ?_ | refine bo ?_)
  refine W_cond (by simp only [go_sem]<;>exact rfl) (fun hb=>?_) (fun hb=>?_)
  ·simp at hb
   have hb0 : k + 1 ≤ a.length:=hb
   obtain ⟨x,hx⟩ : ∃ x,a[k]? = some x:=⟨_,List.getElem?_eq_getElem hb⟩
   obtain ⟨y,hy⟩ : ∃ y,b[k]? = some y:=⟨_,List.getElem?_eq_getElem (by omega)⟩
   repeat (first | refine nav ?_ | refine bo ?_)
   (refine wr fun K R hK hR=>?_;simp only [go_sem,h13];(try go_ints);(try simp only [go_sem,h13]);(repeat refine And.intro side ?_);(first|refine hK _ ?_|refine hR _ _ ?_);clear hK hR K R)
   repeat (first | refine nav ?_ | refine bo ?_)
   (refine W_dreg (by decide +kernel) [] [0,1,2,3,4,5,6,7,8] [[],[],[1,0],[0,1,2],[],[],[5,4],[4,5,6],[6,5,4,7,2,1,0,3]] (by decide +kernel) rfl fun K R hK hR=>?_;simp only [List.filterMap_cons,List.filterMap_nil,List.getElem?_cons_zero,List.getElem?_cons_succ,List.cons_append,List.nil_append];simp only [go_sem,il,ints_get hx,ints_get hy];(try go_ints);(try simp only [go_sem,il,ints_get hx,ints_get hy]);(repeat refine And.intro side ?_);(first|refine hK _ ?_|refine hR _ _ ?_);clear hK hR K R)
   repeat (first | refine nav ?_ | refine bo ?_)
   refine W_cond (b:=x != y) (by simp only [go_sem]) (fun hc=>?_) (fun hc=>?_)
   ·have : decide (a = b) = false:=by
     simp only [decide_eq_false_iff_not]
     rintro rfl
     rw [hx] at hy
     simp only [Option.some.injEq] at hy
     simp [hy] at hc
    rw [this]
    repeat (first | refine nav ?_ | refine bo ?_)
    (refine wr fun K R hK hR=>?_;simp only [go_sem];(try go_ints);(repeat refine And.intro side ?_);(first|refine hK _ ?_|refine hR _ _ ?_);clear hK hR K R)
    repeat (first | refine nav ?_ | refine bo ?_)
    refine endQ_data (by simp only [go_sem]<;>exact rfl) (Le.of_eq ?_) rfl
    rfl
   ·have hxy : x = y:=by simpa using hc
    repeat (first | refine nav ?_ | refine bo ?_)
    (refine wr fun K R hK hR=>?_;simp only [go_sem,h13];(try go_ints);(try simp only [go_sem,h13]);(repeat refine And.intro side ?_);(first|refine hK _ ?_|refine hR _ _ ?_);clear hK hR K R)
    refine forQ_normal (a.length - (k + 1)) (by omega) ⟨k + 1,rfl,by simp only [go_sem]<;>rfl,rfl,hb0,?_⟩
    rw [List.take_add_one,List.take_add_one,hi,hx,hy,hxy]
  ·simp at hb
   obtain rfl : k = a.length:=by omega
   have : decide (a = b) = true:=by
    rw [List.take_length,List.take_of_length_le (by omega)] at hi
    simp [hi]
   rw [this]
   repeat (first | refine nav ?_ | refine bo ?_)
   (refine wr fun K R hK hR=>?_;simp only [go_sem];(try go_ints);(repeat refine And.intro side ?_);(first|refine hK _ ?_|refine hR _ _ ?_);clear hK hR K R)
   repeat (first | refine nav ?_ | refine bo ?_)
   refine endQ_data (by simp only [go_sem]<;>exact rfl) (Le.of_eq ?_) rfl
   rfl
 ·have hl' : ((a.length : Int) != (b.length : Int)) = true:=by simp;omega
  refine W_cond (b:=true) (by simp only [go_sem,il];exact hl') (fun _=>?_) (fun hb=>by cases hb)
  have : decide (a = b) = false:=by simp;intro e;exact hl (by rw [e])
  rw [this]
  repeat (first | refine nav ?_ | refine bo ?_)
  (refine wr fun K R hK hR=>?_;simp only [go_sem];(try go_ints);(repeat refine And.intro side ?_);(first|refine hK _ ?_|refine hR _ _ ?_);clear hK hR K R)
  repeat (first | refine nav ?_ | refine bo ?_)
  refine endQ_data (by simp only [go_sem]<;>exact rfl) (Le.of_eq ?_) rfl
  rfl
def ddN (l : List (List Int)) : Nat → List (List Int)
 | 0=>[]
 | m + 1=>if 0 < m ∧ l.getD m [] = l.getD (m - 1) [] then ddN l m else ddN l m ++ [l.getD m []]
theorem tups_len' (l : List (List Int)) : (tups l).length = l.length:=by simp [tups]
end Go.AW
namespace Go.Proofs
open Go.Shelf
end Go.Proofs
namespace Go.AW
open Go Go.Proofs TyTryz Go.IntWalk
set_option linter.unusedSimpArgs false
set_option linter.unusedVariables false
set_option maxRecDepth 10000
set_option maxHeartbeats 1000000
theorem cmpF_swap (a b : Int) : cmpF b a = - cmpF a b:=by
 unfold cmpF
 split<;>split<;>(try split)<;>(try split)<;>omega
theorem cmpF_zero {a b : Int} (h : cmpF a b = 0) : a = b:=by
 unfold cmpF at h
 split at h
 ·omega
 ·split at h<;>omega
theorem cmpL_swap : ∀ (a b : List Int),cmpL b a = - cmpL a b
 | [],[]=>rfl
 | [],_ :: _=>rfl
 | _ :: _,[]=>rfl
 | a :: l,b :: r=>by
  have h:=cmpF_swap a b
  simp only [cmpL]
  by_cases h0 : cmpF a b = 0
  ·rw [if_neg (by omega),if_neg (by omega)];exact cmpL_swap l r
  ·rw [if_pos (by omega),if_pos (by omega)];exact h
theorem cmpL_self : ∀ (a : List Int),cmpL a a = 0
 | []=>rfl
 | a :: l=>by simp only [cmpL];rw [if_neg (by unfold cmpF;simp)];exact cmpL_self l
theorem cmpL_zero : ∀ {a b : List Int},cmpL a b = 0 → a = b
 | [],[],_=>rfl
 | [],_ :: _,h=>by cases h
 | _ :: _,[],h=>by cases h
 | a :: l,b :: r,h=>by
  simp only [cmpL] at h
  by_cases h0 : cmpF a b = 0
  ·rw [if_neg (by omega)] at h
   rw [cmpF_zero h0,cmpL_zero h]
  ·rw [if_pos h0] at h;exact absurd h h0
theorem cmpL_trans : ∀ {a b c : List Int},cmpL a b < 0 → cmpL b c < 0 → cmpL a c < 0
 | [],[],_,h,_=>by cases h
 | [],_ :: _,[],_,h=>by cases h
 | [],_ :: _,_ :: _,_,_=>by simp [cmpL]
 | _ :: _,[],_,h,_=>by simp [cmpL] at h
 | _ :: _,_ :: _,[],_,h=>by simp [cmpL] at h
 | a :: l,b :: r,c :: q,h,k=>by
  simp only [cmpL] at h k ⊢
  unfold cmpF at h k ⊢
  by_cases h1 : a < b
  ·by_cases h2 : b < c
   ·have : a < c:=by omega
    simp [this]
   ·by_cases h3 : c < b
    ·simp [h2,h3] at k
    ·have : b = c:=by omega
     subst this
     simp [h1]
  ·by_cases h1' : b < a
   ·simp [h1,h1'] at h
   ·have : a = b:=by omega
    subst this
    by_cases h2 : a < c
    ·simp [h2]
    ·by_cases h3 : c < a
     ·simp [h2,h3] at k
     ·have : a = c:=by omega
      subst this
      simp at h k ⊢
      exact cmpL_trans h k
theorem cmpL_le_trans {a b c : List Int} (h : cmpL a b ≤ 0) (k : cmpL b c ≤ 0) : cmpL a c ≤ 0:=by
 rcases Int.lt_or_eq_of_le h with h | h
 ·rcases Int.lt_or_eq_of_le k with k | k
  ·exact Int.le_of_lt (cmpL_trans h k)
  ·rw [← cmpL_zero k];exact Int.le_of_lt h
 ·rw [cmpL_zero h];exact k
def leL (a b : List Int) : Bool:=decide (cmpL a b ≤ 0)
def sortL (l : List (List Int)) : List (List Int):=l.mergeSort leL
def sortT (l : List (List Int)) : List (List Int):=ddN (sortL l) (sortL l).length
theorem sortL_pw (l : List (List Int)) : (sortL l).Pairwise fun a b=>cmpL a b ≤ 0:=by
 have:=List.pairwise_mergeSort (le:=leL) (fun a b c h k=>by unfold leL at *;simp only [decide_eq_true_eq] at *;exact cmpL_le_trans h k)
  (fun a b=>by
   unfold leL
   have:=cmpL_swap a b
   simp only [Bool.or_eq_true,decide_eq_true_eq];omega) l
 unfold sortL
 exact this.imp fun h=>by simpa [leL] using h
theorem sortL_perm (l : List (List Int)) : (sortL l).Perm l:=List.mergeSort_perm l leL
end Go.AW
namespace Go.AW
open Go Go.Proofs TyTryz Go.IntWalk
set_option linter.unusedSimpArgs false
set_option linter.unusedVariables false
set_option maxRecDepth 10000
set_option maxHeartbeats 2000000
def pickF (q : PlanD) (t : List Int) : Bool:=if q.kind = 2 then t.getD q.i.toNat 0 == t.getD q.j.toNat 0 else decide (t.getD q.i.toNat 0 < t.getD q.j.toNat 0)
end Go.AW
namespace Go.AW
open Go Go.Proofs TyTryz Go.IntWalk
set_option linter.unusedSimpArgs false
set_option linter.unusedVariables false
set_option maxRecDepth 10000
set_option maxHeartbeats 2000000
def Rise (b : List (List Int)) : Prop:=b.Pairwise fun x y=>cmpL x y ≤ 0
theorem Rise.get {b : List (List Int)} (h : Rise b) {i j : Nat} {x y : List Int} (hij : i ≤ j) (hx : b[i]? = some x) (hy : b[j]? = some y) : cmpL x y ≤ 0:=by
 obtain ⟨h1,rfl⟩:=List.getElem?_eq_some_iff.1 hx
 obtain ⟨h2,rfl⟩:=List.getElem?_eq_some_iff.1 hy
 rcases Nat.lt_or_eq_of_le hij with hlt | rfl
 ·exact (List.pairwise_iff_getElem.1 h) i j h1 h2 hlt
 ·rw [cmpL_self];exact Int.le_refl _
theorem mem_take_ex {α : Type} {b : List α} {i : Nat} {x : α} (h : x ∈ b.take i) : ∃ m,m < i ∧ b[m]? = some x:=by
 obtain ⟨m,hm⟩:=List.mem_iff_getElem?.1 h
 rw [List.getElem?_take] at hm
 split at hm
 ·exact ⟨m,by assumption,hm⟩
 ·cases hm
def minusF (a b : List (List Int)) : List (List Int):=a.filter fun t=>!decide (t ∈ b)
end Go.AW
namespace Go.AW
open Go Go.Proofs TyTryz Go.IntWalk
set_option linter.unusedSimpArgs false
set_option linter.unusedVariables false
set_option maxRecDepth 10000
set_option maxHeartbeats 2000000
def unionF (a b : List (List Int)) : List (List Int):=sortT (a ++ b)
end Go.AW
namespace Go.AW
open Go Go.Proofs TyTryz Go.IntWalk
set_option linter.unusedSimpArgs false
set_option linter.unusedVariables false
set_option maxRecDepth 10000
set_option maxHeartbeats 4000000
theorem ints_snoc (l : List Int) (x : Int) : ints (l ++ [x]) = ints l ++ [[.i .i64 x]]:=by simp [ints]
def outF (p : PlanD) (w : List Int) : Int :=
 if (p.kind == 0 && (w.length : Int) == 0 && !decide ((p.cols.length : Int) > 0) && !(p.i != 0 || p.j != 0) && nameF p.name) = true then p.width
 else if (p.kind == 1 && (w.length : Int) == 0 && !decide ((p.cols.length : Int) > 0) && !(p.i != 0 || p.j != 0) && !!decide (p.name.size = 0)) = true then p.width
 else if ((p.kind == 2 || p.kind == 3) && (w.length : Int) == 1 && !decide ((p.cols.length : Int) > 0) && !!decide (p.name.size = 0) && p.width == 0) = true then (if insideF (w.getD 0 0) [p.i,p.j] = true then w.getD 0 0 else -1)
 else if (p.kind == 4 && (w.length : Int) == 2 && !decide ((p.cols.length : Int) > 0) && !(p.i != 0 || p.j != 0) && !!decide (p.name.size = 0) && p.width == 0) = true then w.getD 0 0 + w.getD 1 0
 else if (p.kind == 5 && (w.length : Int) == 1 && !(p.i != 0 || p.j != 0) && !!decide (p.name.size = 0) && p.width == 0) = true then (if insideF (w.getD 0 0) p.cols = true then p.cols.length else -1)
 else if ((p.kind == 6 || p.kind == 7) && (w.length : Int) == 2 && !decide ((p.cols.length : Int) > 0) && !(p.i != 0 || p.j != 0) && !!decide (p.name.size = 0) && p.width == 0) = true then (if w.getD 0 0 = w.getD 1 0 then w.getD 0 0 else -1)
 else -1
def capW (x : Int) : Int:=if x < 0 ∨ x > 12 then -1 else x
mutual
/-- A plan's width,or -1. -/
def widthR : PlanD → Int
 | .mk k w i j nm cs ks=>match widthsR ks with
  | none=>-1
  | some l=>capW (outF (.mk k w i j nm cs ks) l)
def widthsR : List PlanD → Option (List Int)
 | []=>some []
 | p :: r=>if widthR p < 0 then none else match widthsR r with
  | none=>none
  | some l=>some (widthR p :: l)
end
theorem widthR_eq (p : PlanD) : widthR p = match widthsR p.kids with
  | none=>-1
  | some l=>capW (outF p l):=by cases p;rfl
theorem widthR_le (p : PlanD) : -1 ≤ widthR p ∧ widthR p ≤ 12:=by
 rw [widthR_eq]
 split
 ·omega
 ·unfold capW;split<;>omega
theorem widthsR_some : ∀ {l : List PlanD},(∀ p ∈ l,¬ widthR p < 0) → widthsR l = some (l.map widthR)
 | [],_=>rfl
 | p :: r,h=>by
  simp only [widthsR]
  rw [if_neg (h p (by simp)),widthsR_some fun q hq=>h q (by simp [hq])]
  rfl
theorem widthsR_none : ∀ {l : List PlanD} {p : PlanD},p ∈ l → widthR p < 0 → widthsR l = none
 | q :: r,p,h,hw=>by
  simp only [widthsR]
  split
  ·rfl
  ·rename_i hq
   rcases List.mem_cons.1 h with rfl | h
   ·exact absurd hw hq
   ·rw [widthsR_none h hw]
theorem rwidth_spec : ∀ (p : PlanD),p.Ok → cntF p ≤ 100000 → ACallsD Tryz.prog 14 [.agg p.cells] (.i .i64 (widthR p)) :=
 PlanD.ind fun p ih hp hc=>by
  have h3:=hp.len
  have hkl : p.kids.length ≤ 100000:=by
   have:=kids_cnt p.kids
   rw [cntF_eq] at hc;omega
  rw [PlanD.cells_eq]
  refine ACalls_of' (n:=242) (rs:=[.tmp 2]) (show Tryz.prog.funcs[14]? = some Tryz.f14 by kernel_rfl) rfl rfl rfl (by simp) (by decide +kernel) ?_
  repeat (first | refine nav ?_ | refine bo ?_)
  (refine wr fun K R hK hR=>?_;simp only [go_sem];(try go_ints);(repeat refine And.intro side ?_);(first|refine hK _ ?_|refine hR _ _ ?_);clear hK hR K R)
  repeat (first | refine nav ?_ | refine bo ?_)
  (refine wr fun K R hK hR=>?_;simp only [go_sem];(try go_ints);(repeat refine And.intro side ?_);(first|refine hK _ ?_|refine hR _ _ ?_);clear hK hR K R)
  repeat (first | refine nav ?_ | refine bo ?_)
  (refine wr fun K R hK hR=>?_;simp only [go_sem];(try go_ints);(repeat refine And.intro side ?_);(first|refine hK _ ?_|refine hR _ _ ?_);clear hK hR K R)
  repeat (first | refine nav ?_ | refine bo ?_)
  refine W_for 10 29 [3,4,5] (fun m t o=>∃ (k : Nat),[Ob.cells 7 [[AV.i .i64 p.kind,.i .i64 p.width,.i .i64 p.i,.i .i64 p.j,.s p.name,.sl 1 (ints p.cols),.sl 7 (plans p.kids)]]] = o ∧ t 4 = .i .i64 k ∧ t 3 = .own 1 (ints ((p.kids.take k).map widthR)) ∧ m = p.kids.length - k ∧ k ≤ p.kids.length ∧ ∀ q ∈ p.kids.take k,¬ widthR q < 0) p.kids.length
   ⟨0,rfl,by simp only [go_sem]<;>rfl,by simp only [go_sem]<;>rfl,by omega,by omega,by simp⟩ ?_
  rintro m t o ⟨k,rfl,h4,h3',rfl,hk,hi⟩
  repeat (first | refine nav ?_ | refine bo ?_)
  (refine wr fun K R hK hR=>?_;simp only [go_sem,h4];(try go_ints);(try simp only [go_sem,h4]);(repeat refine And.intro side ?_);(first|refine hK _ ?_|refine hR _ _ ?_);clear hK hR K R)
  repeat (first | refine nav ?_ | refine bo ?_)
  refine W_cond (by simp only [go_sem]<;>exact rfl) (fun hb=>?_) (fun hb=>?_)
  ·have hb1 : k < p.kids.length:=by simpa using hb
   obtain ⟨x,hx⟩ : ∃ x,p.kids[k]? = some x:=⟨_,List.getElem?_eq_getElem hb1⟩
   have hxm:=List.mem_of_getElem? hx
   have htk : p.kids.take (k + 1) = p.kids.take k ++ [x]:=by rw [List.take_add_one,hx];rfl
   have hwx:=widthR_le x
   have hcx:=x.cells_eq
   have ihx:=ih x hxm (hp.kid x hxm) (by have:=cnt_mem hxm;rw [cntF_eq] at hc;omega)
   rw [hcx] at ihx
   repeat (first | refine nav ?_ | refine bo ?_)
   (refine wr fun K R hK hR=>?_;simp only [go_sem,h4,plans_get hx];(try go_ints);(try simp only [go_sem,h4,plans_get hx]);(repeat refine And.intro side ?_);(first|refine hK _ ?_|refine hR _ _ ?_);clear hK hR K R)
   refine RL_callF (ihx) rfl rfl rfl (by first | (simp only [go_sem]<;>first | exact LeA.refl _ | exact Le.refl _) | exact LeA.refl _) rfl rfl ?_
   (refine rr fun K R hK hR=>?_;simp only [go_sem];(try go_ints);(repeat refine And.intro side ?_);(first|refine hK _ ?_|refine hR _ _ ?_);clear hK hR K R)
   repeat (first | refine nav ?_ | refine bo ?_)
   (refine wr fun K R hK hR=>?_;simp only [go_sem];(try go_ints);(repeat refine And.intro side ?_);(first|refine hK _ ?_|refine hR _ _ ?_);clear hK hR K R)
   repeat (first | refine nav ?_ | refine bo ?_)
   refine W_cond (b:=decide (widthR x < 0)) (by simp only [go_sem]) (fun hc=>?_) (fun hc=>?_)
   ·repeat (first | refine nav ?_ | refine bo ?_)
    (refine wr fun K R hK hR=>?_;simp only [go_sem];(try go_ints);(repeat refine And.intro side ?_);(first|refine hK _ ?_|refine hR _ _ ?_);clear hK hR K R)
    repeat (first | refine nav ?_ | refine bo ?_)
    refine endQ_data (by simp only [go_sem]<;>exact rfl) (Le.of_eq ?_) rfl
    rw [widthR_eq,widthsR_none hxm (by simpa using hc)]
   ·have hlen : (ints ((p.kids.take k).map widthR)).length = k:=by simp [ints];omega
    repeat (first | refine nav ?_ | refine bo ?_)
    (refine W_reg [25] fun K R hK hR=>?_;simp only [go_sem,h3',hlen];(try go_ints);(try simp only [go_sem,h3',hlen]);(repeat refine And.intro side ?_);(first|refine hK _ ?_|refine hR _ _ ?_);clear hK hR K R)
    repeat (first | refine nav ?_ | refine bo ?_)
    (refine wr fun K R hK hR=>?_;simp only [go_sem,h4];(try go_ints);(try simp only [go_sem,h4]);(repeat refine And.intro side ?_);(first|refine hK _ ?_|refine hR _ _ ?_);clear hK hR K R)
    refine forQ_normal (p.kids.length - (k + 1)) (by omega) ⟨k + 1,?_⟩
    rw [htk,List.map_append,List.map_cons,List.map_nil,ints_snoc]
    ((try simp only [go_sem]);(repeat' refine And.intro ?_ ?_)<;>(try first | with_reducible rfl | omega | with_reducible assumption | (simp;done)))
    intro q hq
    rcases List.mem_append.1 hq with hq | hq
    ·exact hi q hq
    ·rw [List.mem_singleton.1 hq];simpa using hc
  ·have hb' : k = p.kids.length:=by have : ¬ k < p.kids.length:=(by simpa using hb);omega
   subst hb'
   rw [List.take_length] at hi h3'
   have hws:=widthsR_some hi
   generalize hgw : p.kids.map widthR = ws at hws h3'
   have hwl : ∀ x ∈ ws,0 ≤ x ∧ x ≤ 12:=by
    intro x hx
    rw [← hgw] at hx
    obtain ⟨q,hq,rfl⟩:=List.mem_map.1 hx
    have:=widthR_le q
    have:=hi q hq
    omega
   have hwd : widthR p = capW (outF p ws):=by rw [widthR_eq,hws]
   generalize hout : outF p ws = out at hwd
   have hwn : ws.length ≤ 100000:=by rw [← hgw,List.length_map];exact hkl
   repeat (first | refine nav ?_ | refine bo ?_)
   (refine W_dreg (by decide +kernel) [] [0,1,2,3,4,5,6,7,8,9,10,11,12,13,14,15,16,17] [[],[0],[0,1],[],[3],[3,4],[4,3,5],[],[7],[7,8],[8,7,9],[9,7,8,10],[10,8,7,9,11],[11,9,7,8,10,12],[12,11,13,9,7,8,10],[9,7,8,10,1,0,2],[2,0,1,10,8,7,9,15,5,3,4,6],[6,4,3,5,15,1,0,2,16,10,8,7,9,13,11,12,14]] (by decide +kernel) rfl fun K R hK hR=>?_;simp only [List.filterMap_cons,List.filterMap_nil,List.getElem?_cons_zero,List.getElem?_cons_succ,List.cons_append,List.nil_append];simp only [go_sem,h3',size_zero];(try go_ints);(try simp only [go_sem,h3',size_zero]);(repeat refine And.intro side ?_);(first|refine hK _ ?_|refine hR _ _ ?_);clear hK hR K R)
   repeat (first | refine nav ?_ | refine bo ?_)
   (refine wr fun K R hK hR=>?_;simp only [go_sem];(try go_ints);(repeat refine And.intro side ?_);(first|refine hK _ ?_|refine hR _ _ ?_);clear hK hR K R)
   refine seqQ_normal ?_
   unfold outF at hout
   generalize hNZ : decide (p.name.size = 0) = NZ at hout
   generalize hCL : decide ((p.cols.length : Int) > 0) = CL at hout
   generalize hIJ : (p.i != 0 || p.j != 0) = IJ at hout
   have hlw : (ints ws).length = ws.length:=ints_len ws
   refine W_join 44 235 [9] (fun t o=>t 9 = .i .i64 out ∧ o = [Ob.cells 7 [[AV.i .i64 p.kind,.i .i64 p.width,.i .i64 p.i,.i .i64 p.j,.s p.name,.sl 1 (ints p.cols),.sl 7 (plans p.kids)]]]) ?_ ?_
   ·repeat (first | refine nav ?_ | refine bo ?_)
    (refine wr fun K R hK hR=>?_;simp only [go_sem,h3',hlw];(try go_ints);(try simp only [go_sem,h3',hlw]);(repeat refine And.intro side ?_);(first|refine hK _ ?_|refine hR _ _ ?_);clear hK hR K R)
    refine RL_callDg rfl (by simp only [go_sem]<;>exact rfl) (fun e=>rname_spec p.name hp.name) rfl rfl rfl (fun e=>by (try simp only [go_sem] at e);simp only [go_sem,e]<;>(try simp only [go_sem])<;>first | exact LeA.refl _ | exact Le.refl _) rfl rfl ?_
    (refine rr fun K R hK hR=>?_;simp only [go_sem];(try go_ints);(repeat refine And.intro side ?_);(first|refine hK _ ?_|refine hR _ _ ?_);clear hK hR K R)
    repeat (first | refine nav ?_ | refine bo ?_)
    refine W_cond (by simp only [go_sem]<;>exact rfl) (fun hb=>?_) (fun hb=>?_)
    ·rw [if_pos (by simpa only [Bool.and_assoc] using hb)] at hout
     subst hout
     repeat (first | refine nav ?_ | refine bo ?_)
     (refine wr fun K R hK hR=>?_;simp only [go_sem];(try go_ints);(repeat refine And.intro side ?_);(first|refine hK _ ?_|refine hR _ _ ?_);clear hK hR K R)
     repeat (first | refine nav ?_ | refine bo ?_)
     exact joinQ_normal ⟨by simp only [go_sem],rfl⟩
    rw [if_neg (by rw [Bool.not_eq_true];simpa only [Bool.and_assoc] using hb)] at hout
    clear hb
    repeat (first | refine nav ?_ | refine bo ?_)
    (refine wr fun K R hK hR=>?_;simp only [go_sem,h3',hlw];(try go_ints);(try simp only [go_sem,h3',hlw]);(repeat refine And.intro side ?_);(first|refine hK _ ?_|refine hR _ _ ?_);clear hK hR K R)
    repeat (first | refine nav ?_ | refine bo ?_)
    refine W_cond (by simp only [go_sem]<;>exact rfl) (fun hb=>?_) (fun hb=>?_)
    ·rw [if_pos (by simpa only [Bool.and_assoc] using hb)] at hout
     subst hout
     repeat (first | refine nav ?_ | refine bo ?_)
     (refine wr fun K R hK hR=>?_;simp only [go_sem];(try go_ints);(repeat refine And.intro side ?_);(first|refine hK _ ?_|refine hR _ _ ?_);clear hK hR K R)
     repeat (first | refine nav ?_ | refine bo ?_)
     exact joinQ_normal ⟨by simp only [go_sem],rfl⟩
    rw [if_neg (by rw [Bool.not_eq_true];simpa only [Bool.and_assoc] using hb)] at hout
    clear hb
    repeat (first | refine nav ?_ | refine bo ?_)
    (refine W_part [] 9 fun R hR=>?_;simp only [go_sem,h3'];(try go_ints);(try simp only [go_sem,h3']);(repeat refine And.intro side ?_);refine hR _ _ ?_;clear hR R)
    generalize (p.kind == 2 || p.kind == 3) = KK at hout ⊢
    (refine rr fun K R hK hR=>?_;simp only [go_sem,h3',hlw];(try go_ints);(try simp only [go_sem,h3',hlw]);(repeat refine And.intro side ?_);(first|refine hK _ ?_|refine hR _ _ ?_);clear hK hR K R)
    repeat (first | refine nav ?_ | refine bo ?_)
    refine W_cond (by simp only [go_sem]<;>exact rfl) (fun hb=>?_) (fun hb=>?_)
    ·rw [if_pos (by simpa only [Bool.and_assoc] using hb)] at hout
     have hl : ws.length = 1:=by
      simp only [Bool.and_eq_true,beq_iff_eq] at hb;omega
     obtain ⟨a,rfl⟩:=List.length_eq_one_iff.1 hl
     have hpl:=places_spec a [p.i,p.j] (by simp)
     rw [show ints [p.i,p.j] = [[.i .i64 p.i],[.i .i64 p.j]] from rfl] at hpl
     have hia : ints [a] = [[.i .i64 a]]:=rfl
     simp only [List.getD_cons_zero] at hout
     repeat (first | refine nav ?_ | refine bo ?_)
     (refine W_dreg (by decide +kernel) [] [0,1,2,3,4,5,6,7,8] [[],[0],[],[2],[2,3,0,1],[],[5],[5,6],[6,5,7,1,0,3,2,4]] (by decide +kernel) rfl fun K R hK hR=>?_;simp only [List.filterMap_cons,List.filterMap_nil,List.getElem?_cons_zero,List.getElem?_cons_succ,List.cons_append,List.nil_append];simp only [go_sem,h3',hia];(try go_ints);(try simp only [go_sem,h3',hia]);(repeat refine And.intro side ?_);(first|refine hK _ ?_|refine hR _ _ ?_);clear hK hR K R)
     refine D_callD (hpl) rfl rfl rfl (by first | (simp only [go_sem]<;>first | exact LeA.refl _ | exact Le.refl _) | exact LeA.refl _) rfl rfl rfl rfl ?_
     (refine D_reg fun K R hK hR=>?_;simp only [go_sem];(try go_ints);(repeat refine And.intro side ?_);(first|refine hK _ ?_|refine hR _ _ ?_);clear hK hR K R)
     repeat (first | refine nav ?_ | refine bo ?_)
     refine W_cond (by simp only [go_sem]<;>exact rfl) (fun hc=>?_) (fun hc=>?_)
     ·rw [if_pos hc] at hout
      subst hout
      repeat (first | refine nav ?_ | refine bo ?_)
      (refine wr fun K R hK hR=>?_;simp only [go_sem,h3',hia];(try go_ints);(try simp only [go_sem,h3',hia]);(repeat refine And.intro side ?_);(first|refine hK _ ?_|refine hR _ _ ?_);clear hK hR K R)
      repeat (first | refine nav ?_ | refine bo ?_)
      exact joinQ_normal ⟨by simp only [go_sem],rfl⟩
     ·rw [if_neg (by simp [hc])] at hout
      subst hout
      repeat (first | refine nav ?_ | refine bo ?_)
      exact joinQ_normal ⟨by simp only [go_sem],rfl⟩
    rw [if_neg (by rw [Bool.not_eq_true];simpa only [Bool.and_assoc] using hb)] at hout
    clear hb
    repeat (first | refine nav ?_ | refine bo ?_)
    (refine wr fun K R hK hR=>?_;simp only [go_sem,h3',hlw];(try go_ints);(try simp only [go_sem,h3',hlw]);(repeat refine And.intro side ?_);(first|refine hK _ ?_|refine hR _ _ ?_);clear hK hR K R)
    repeat (first | refine nav ?_ | refine bo ?_)
    refine W_cond (by simp only [go_sem]<;>exact rfl) (fun hb=>?_) (fun hb=>?_)
    ·rw [if_pos (by simpa only [Bool.and_assoc] using hb)] at hout
     have hl : ws.length = 2:=by
      simp only [Bool.and_eq_true,beq_iff_eq] at hb;omega
     obtain ⟨a,b,rfl⟩ : ∃ a b,ws = [a,b]:=by
      match ws,hl with
      | [a,b],_=>exact ⟨a,b,rfl⟩
     have hia : ints [a,b] = [[.i .i64 a],[.i .i64 b]]:=rfl
     have ha:=hwl a (by simp)
     have hb:=hwl b (by simp)
     simp only [List.getD_cons_zero,List.getD_cons_succ] at hout
     subst hout
     repeat (first | refine nav ?_ | refine bo ?_)
     (refine W_dreg (by decide +kernel) [] [0,1,2,3,4,5,6,7] [[],[0],[0,1],[],[3],[3,4],[4,3,5,1,0,2],[2,0,1,5,3,4,6]] (by decide +kernel) rfl fun K R hK hR=>?_;simp only [List.filterMap_cons,List.filterMap_nil,List.getElem?_cons_zero,List.getElem?_cons_succ,List.cons_append,List.nil_append];simp only [go_sem,h3',hia];(try go_ints);(try simp only [go_sem,h3',hia]);(repeat refine And.intro side ?_);(first|refine hK _ ?_|refine hR _ _ ?_);clear hK hR K R)
     repeat (first | refine nav ?_ | refine bo ?_)
     exact joinQ_normal ⟨by simp only [go_sem],rfl⟩
    rw [if_neg (by rw [Bool.not_eq_true];simpa only [Bool.and_assoc] using hb)] at hout
    clear hb
    repeat (first | refine nav ?_ | refine bo ?_)
    (refine wr fun K R hK hR=>?_;simp only [go_sem,h3',hlw];(try go_ints);(try simp only [go_sem,h3',hlw]);(repeat refine And.intro side ?_);(first|refine hK _ ?_|refine hR _ _ ?_);clear hK hR K R)
    repeat (first | refine nav ?_ | refine bo ?_)
    refine W_cond (by simp only [go_sem]<;>exact rfl) (fun hb=>?_) (fun hb=>?_)
    ·rw [if_pos (by simpa only [Bool.and_assoc] using hb)] at hout
     have hl : ws.length = 1:=by
      simp only [Bool.and_eq_true,beq_iff_eq] at hb;omega
     obtain ⟨a,rfl⟩:=List.length_eq_one_iff.1 hl
     have hpl:=places_spec a p.cols hp.cols
     have hia : ints [a] = [[.i .i64 a]]:=rfl
     have hcl:=hp.cols
     simp only [List.getD_cons_zero] at hout
     repeat (first | refine nav ?_ | refine bo ?_)
     (refine W_dreg (by decide +kernel) [] [0,1,2,3,4,5] [[],[0],[],[2],[2,3],[3,2,4,0,1]] (by decide +kernel) rfl fun K R hK hR=>?_;simp only [List.filterMap_cons,List.filterMap_nil,List.getElem?_cons_zero,List.getElem?_cons_succ,List.cons_append,List.nil_append];simp only [go_sem,h3',hia];(try go_ints);(try simp only [go_sem,h3',hia]);(repeat refine And.intro side ?_);(first|refine hK _ ?_|refine hR _ _ ?_);clear hK hR K R)
     refine D_callD (hpl) rfl rfl rfl (by first | (simp only [go_sem]<;>first | exact LeA.refl _ | exact Le.refl _) | exact LeA.refl _) rfl rfl rfl rfl ?_
     (refine D_reg fun K R hK hR=>?_;simp only [go_sem];(try go_ints);(repeat refine And.intro side ?_);(first|refine hK _ ?_|refine hR _ _ ?_);clear hK hR K R)
     repeat (first | refine nav ?_ | refine bo ?_)
     refine W_cond (by simp only [go_sem]<;>exact rfl) (fun hc=>?_) (fun hc=>?_)
     ·rw [if_pos hc] at hout
      subst hout
      repeat (first | refine nav ?_ | refine bo ?_)
      (refine wr fun K R hK hR=>?_;simp only [go_sem,h3',hia];(try go_ints);(try simp only [go_sem,h3',hia]);(repeat refine And.intro side ?_);(first|refine hK _ ?_|refine hR _ _ ?_);clear hK hR K R)
      repeat (first | refine nav ?_ | refine bo ?_)
      exact joinQ_normal ⟨by simp only [go_sem],rfl⟩
     ·rw [if_neg (by simp [hc])] at hout
      subst hout
      repeat (first | refine nav ?_ | refine bo ?_)
      exact joinQ_normal ⟨by simp only [go_sem],rfl⟩
    rw [if_neg (by rw [Bool.not_eq_true];simpa only [Bool.and_assoc] using hb)] at hout
    clear hb
    repeat (first | refine nav ?_ | refine bo ?_)
    (refine W_part [] 9 fun R hR=>?_;simp only [go_sem,h3'];(try go_ints);(try simp only [go_sem,h3']);(repeat refine And.intro side ?_);refine hR _ _ ?_;clear hR R)
    generalize (p.kind == 6 || p.kind == 7) = KK at hout ⊢
    (refine rr fun K R hK hR=>?_;simp only [go_sem,h3',hlw];(try go_ints);(try simp only [go_sem,h3',hlw]);(repeat refine And.intro side ?_);(first|refine hK _ ?_|refine hR _ _ ?_);clear hK hR K R)
    repeat (first | refine nav ?_ | refine bo ?_)
    refine W_cond (by simp only [go_sem]<;>exact rfl) (fun hb=>?_) (fun hb=>?_)
    ·rw [if_pos (by simpa only [Bool.and_assoc] using hb)] at hout
     have hl : ws.length = 2:=by
      simp only [Bool.and_eq_true,beq_iff_eq] at hb;omega
     obtain ⟨a,b,rfl⟩ : ∃ a b,ws = [a,b]:=by
      match ws,hl with
      | [a,b],_=>exact ⟨a,b,rfl⟩
     have hia : ints [a,b] = [[.i .i64 a],[.i .i64 b]]:=rfl
     simp only [List.getD_cons_zero,List.getD_cons_succ] at hout
     repeat (first | refine nav ?_ | refine bo ?_)
     (refine W_dreg (by decide +kernel) [] [0,1,2,3,4,5,6] [[],[0],[0,1],[],[3],[3,4],[4,3,5,1,0,2]] (by decide +kernel) rfl fun K R hK hR=>?_;simp only [List.filterMap_cons,List.filterMap_nil,List.getElem?_cons_zero,List.getElem?_cons_succ,List.cons_append,List.nil_append];simp only [go_sem,h3',hia];(try go_ints);(try simp only [go_sem,h3',hia]);(repeat refine And.intro side ?_);(first|refine hK _ ?_|refine hR _ _ ?_);clear hK hR K R)
     repeat (first | refine nav ?_ | refine bo ?_)
     refine W_cond (by simp only [go_sem]<;>exact rfl) (fun hc=>?_) (fun hc=>?_)
     ·rw [if_pos (by simpa using hc)] at hout
      subst hout
      repeat (first | refine nav ?_ | refine bo ?_)
      (refine wr fun K R hK hR=>?_;simp only [go_sem,h3',hia];(try go_ints);(try simp only [go_sem,h3',hia]);(repeat refine And.intro side ?_);(first|refine hK _ ?_|refine hR _ _ ?_);clear hK hR K R)
      repeat (first | refine nav ?_ | refine bo ?_)
      exact joinQ_normal ⟨by simp only [go_sem],rfl⟩
     ·rw [if_neg (by simpa using hc)] at hout
      subst hout
      repeat (first | refine nav ?_ | refine bo ?_)
      exact joinQ_normal ⟨by simp only [go_sem],rfl⟩
    rw [if_neg (by rw [Bool.not_eq_true];simpa only [Bool.and_assoc] using hb)] at hout
    subst hout
    repeat (first | refine nav ?_ | refine bo ?_)
    exact joinQ_normal ⟨by simp only [go_sem],rfl⟩
   ·rintro t2 o2 ⟨h9,rfl⟩
    repeat (first | refine nav ?_ | refine bo ?_)
    (refine wr fun K R hK hR=>?_;simp only [go_sem,h9];(try go_ints);(try simp only [go_sem,h9]);(repeat refine And.intro side ?_);(first|refine hK _ ?_|refine hR _ _ ?_);clear hK hR K R)
    repeat (first | refine nav ?_ | refine bo ?_)
    refine W_cond (b:=decide (out < 0) || decide (out > 12)) (by simp only [go_sem]<;>exact rfl) (fun hb=>?_) (fun hb=>?_)
    ·repeat (first | refine nav ?_ | refine bo ?_)
     (refine wr fun K R hK hR=>?_;simp only [go_sem];(try go_ints);(repeat refine And.intro side ?_);(first|refine hK _ ?_|refine hR _ _ ?_);clear hK hR K R)
     repeat (first | refine nav ?_ | refine bo ?_)
     refine endQ_data (by simp only [go_sem]<;>exact rfl) (Le.of_eq ?_) rfl
     rw [hwd,capW,if_pos (by simpa using hb)]
    ·repeat (first | refine nav ?_ | refine bo ?_)
     (refine wr fun K R hK hR=>?_;simp only [go_sem,h9];(try go_ints);(try simp only [go_sem,h9]);(repeat refine And.intro side ?_);(first|refine hK _ ?_|refine hR _ _ ?_);clear hK hR K R)
     repeat (first | refine nav ?_ | refine bo ?_)
     refine endQ_data (by simp only [go_sem]<;>exact rfl) (Le.of_eq ?_) rfl
     rw [hwd,capW,if_neg (by simpa using hb)]
end Go.AW
namespace Go.AW
open Go Go.Proofs TyTryz Go.IntWalk
set_option linter.unusedSimpArgs false
set_option linter.unusedVariables false
set_option maxRecDepth 10000
set_option maxHeartbeats 1000000
def validR (p : PlanD) : Bool:=decide (cntF p ≤ 4000) && decide (deepF p ≤ 1000) && decide (0 ≤ widthR p) && oneW (symsF p)
theorem rvalid_spec (p : PlanD) (hp : p.Ok) (hc : cntF p ≤ 50000) : ACallsD Tryz.prog 12 [.agg p.cells] (.b (validR p)):=by
 have hcs:=count_spec p hp (by omega)
 have hws:=rwidth_spec p hp (by omega)
 have hss:=rsyms_spec p hp [] .nsl (.inl ⟨rfl,rfl⟩) (by simp;omega)
 have hwl:=widthR_le p
 have hdl:=deepF_le p
 have hsl:=symsF_len p
 rw [List.nil_append] at hss
 rw [PlanD.cells_eq] at hcs hws hss ⊢
 refine ACalls_of' (n:=61) (rs:=[.tmp 2]) (show Tryz.prog.funcs[12]? = some Tryz.f12 by kernel_rfl) rfl rfl rfl (by simp) (by decide +kernel) ?_
 repeat (first | refine nav ?_ | refine bo ?_)
 (refine wr fun K R hK hR=>?_;simp only [go_sem];(try go_ints);(repeat refine And.intro side ?_);(first|refine hK _ ?_|refine hR _ _ ?_);clear hK hR K R)
 repeat (first | refine nav ?_ | refine bo ?_)
 (refine wr fun K R hK hR=>?_;simp only [go_sem];(try go_ints);(repeat refine And.intro side ?_);(first|refine hK _ ?_|refine hR _ _ ?_);clear hK hR K R)
 refine RL_callF (hcs) rfl rfl rfl (by first | (simp only [go_sem]<;>first | exact LeA.refl _ | exact Le.refl _) | exact LeA.refl _) rfl rfl ?_
 (refine rr fun K R hK hR=>?_;simp only [go_sem];(try go_ints);(repeat refine And.intro side ?_);(first|refine hK _ ?_|refine hR _ _ ?_);clear hK hR K R)
 repeat (first | refine nav ?_ | refine bo ?_)
 (refine wr fun K R hK hR=>?_;simp only [go_sem];(try go_ints);(repeat refine And.intro side ?_);(first|refine hK _ ?_|refine hR _ _ ?_);clear hK hR K R)
 refine RL_callDg rfl (by simp only [go_sem]<;>exact rfl) (fun e=>hws) rfl rfl rfl (fun e=>by (try simp only [go_sem] at e);simp only [go_sem,e]<;>(try simp only [go_sem])<;>first | exact LeA.refl _ | exact Le.refl _) rfl rfl ?_
 (refine rr fun K R hK hR=>?_;simp only [go_sem];(try go_ints);(repeat refine And.intro side ?_);(first|refine hK _ ?_|refine hR _ _ ?_);clear hK hR K R)
 repeat (first | refine nav ?_ | refine bo ?_)
 refine W_cond (by simp only [go_sem]<;>exact rfl) (fun hb=>?_) (fun hb=>?_)
 ·repeat (first | refine nav ?_ | refine bo ?_)
  (refine wr fun K R hK hR=>?_;simp only [go_sem];(try go_ints);(repeat refine And.intro side ?_);(first|refine hK _ ?_|refine hR _ _ ?_);clear hK hR K R)
  repeat (first | refine nav ?_ | refine bo ?_)
  refine endQ_data (by simp only [go_sem]<;>exact rfl) (Le.of_eq ?_) rfl
  unfold validR
  have : ¬ (cntF p ≤ 4000 ∧ deepF p ≤ 1000 ∧ 0 ≤ widthR p):=by
   simp only [Bool.or_eq_true,decide_eq_true_eq] at hb;omega
  simp only [AV.b.injEq]
  symm
  simp only [Bool.and_eq_false_iff,decide_eq_false_iff_not]
  omega
 ·have hh : cntF p ≤ 4000 ∧ deepF p ≤ 1000 ∧ 0 ≤ widthR p:=by
   simp only [Bool.or_eq_false_iff,decide_eq_false_iff_not] at hb;omega
  have hv : validR p = oneW (symsF p):=by unfold validR;simp [hh]
  rw [hv]
  repeat (first | refine nav ?_ | refine bo ?_)
  (refine wr fun K R hK hR=>?_;simp only [go_sem];(try go_ints);(repeat refine And.intro side ?_);(first|refine hK _ ?_|refine hR _ _ ?_);clear hK hR K R)
  refine RL_callF (hss) rfl rfl rfl (by first | (simp only [go_sem]<;>first | exact LeA.refl _ | exact Le.refl _) | exact LeA.refl _) rfl rfl ?_
  (refine rr fun K R hK hR=>?_;simp only [go_sem];(try go_ints);(repeat refine And.intro side ?_);(first|refine hK _ ?_|refine hR _ _ ?_);clear hK hR K R)
  repeat (first | refine nav ?_ | refine bo ?_)
  (refine wr fun K R hK hR=>?_;simp only [go_sem];(try go_ints);(repeat refine And.intro side ?_);(first|refine hK _ ?_|refine hR _ _ ?_);clear hK hR K R)
  generalize symsF p = l at *
  repeat (first | refine nav ?_ | refine bo ?_)
  refine W_for 26 61 [6,7] (fun m t o=>∃ (i : Nat),[Ob.cells 7 [[AV.i .i64 p.kind,.i .i64 p.width,.i .i64 p.i,.i .i64 p.j,.s p.name,.sl 1 (ints p.cols),.sl 7 (plans p.kids)]]] = o ∧ t 6 = .i .i64 i ∧ m = l.length - i ∧ i ≤ l.length ∧ ∀ i' < i,∀ k < i',clash l i' k = false) l.length
   ⟨0,rfl,by simp only [go_sem]<;>rfl,by omega,by omega,by simp⟩ ?_
  rintro m t o ⟨i,rfl,h6,rfl,hil,hi⟩
  repeat (first | refine nav ?_ | refine bo ?_)
  (refine wr fun K R hK hR=>?_;simp only [go_sem,h6];(try go_ints);(try simp only [go_sem,h6]);(repeat refine And.intro side ?_);(first|refine hK _ ?_|refine hR _ _ ?_);clear hK hR K R)
  repeat (first | refine nav ?_ | refine bo ?_)
  refine W_cond (by simp only [go_sem]<;>exact rfl) (fun hb=>?_) (fun hb=>?_)
  ·have hil2 : i < l.length:=by simpa using hb
   obtain ⟨x,hx⟩ : ∃ x,l[i]? = some x:=⟨_,List.getElem?_eq_getElem hil2⟩
   repeat (first | refine nav ?_ | refine bo ?_)
   (refine wr fun K R hK hR=>?_;simp only [go_sem];(try go_ints);(repeat refine And.intro side ?_);(first|refine hK _ ?_|refine hR _ _ ?_);clear hK hR K R)
   repeat (first | refine nav ?_ | refine bo ?_)
   refine W_for 32 61 [7] (fun m t o=>∃ (k : Nat),[Ob.cells 7 [[AV.i .i64 p.kind,.i .i64 p.width,.i .i64 p.i,.i .i64 p.j,.s p.name,.sl 1 (ints p.cols),.sl 7 (plans p.kids)]]] = o ∧ t 7 = .i .i64 k ∧ m = i - k ∧ k ≤ i ∧ ∀ k' < k,clash l i k' = false) i
    ⟨0,rfl,by simp only [go_sem]<;>rfl,by omega,by omega,by simp⟩ ?_
   rintro m t1 o ⟨k,rfl,h7,rfl,hk,hkk⟩
   repeat (first | refine nav ?_ | refine bo ?_)
   (refine wr fun K R hK hR=>?_;simp only [go_sem,h6,h7];(try go_ints);(try simp only [go_sem,h6,h7]);(repeat refine And.intro side ?_);(first|refine hK _ ?_|refine hR _ _ ?_);clear hK hR K R)
   repeat (first | refine nav ?_ | refine bo ?_)
   refine W_cond (by simp only [go_sem]<;>exact rfl) (fun hb=>?_) (fun hb=>?_)
   ·have hki : k < i:=by simpa using hb
    obtain ⟨y,hy⟩ : ∃ y,l[k]? = some y:=⟨_,List.getElem?_eq_getElem (by omega)⟩
    have hcl : clash l i k = (y.1.toList == x.1.toList && y.2 != x.2):=by unfold clash;simp [hx,hy]
    repeat (first | refine nav ?_ | refine bo ?_)
    (refine W_dreg (by decide +kernel) [] [0,1,2,3,4,5,6,7,8,9,10,11,12,13,14,15,16,17,18,19,20,21,22,23] [[],[],[1,0],[0,1,2],[2,1,0,3],[],[],[6,5],[5,6,7],[7,6,5,8],[8,5,6,7,9,3,0,1,2,4],[4,2,1,0,3,9,7,6,5,8,10],[10,8,5,6,7,9,3,0,1,2,4,11],[10,8,5,6,7,9,3,0,1,2,4,11],[13,11,4,2,1,0,3,9,7,6,5,8,10,12],[12,10,8,5,6,7,9,3,0,1,2,4,11,13,14],[14,13,11,4,2,1,0,3,9,7,6,5,8,10,12,15],[10,8,5,6,7,9,3,0,1,2,4,11],[10,8,5,6,7,9,3,0,1,2,4,11],[18,11,4,2,1,0,3,9,7,6,5,8,10,17],[17,10,8,5,6,7,9,3,0,1,2,4,11,18,19],[19,18,11,4,2,1,0,3,9,7,6,5,8,10,17,20],[20,17,18,19,21,15,12,10,8,5,6,7,9,3,0,1,2,4,11,13,14,16],[16,14,13,12,15,21,19,18,17,20,22,10,8,5,6,7,9,3,0,1,2,4,11]] (by decide +kernel) rfl fun K R hK hR=>?_;simp only [List.filterMap_cons,List.filterMap_nil,List.getElem?_cons_zero,List.getElem?_cons_succ,List.cons_append,List.nil_append];simp only [go_sem,h6,h7,nsyms_get hx,nsyms_get hy];(try go_ints);(try simp only [go_sem,h6,h7,nsyms_get hx,nsyms_get hy]);(repeat refine And.intro side ?_);(first|refine hK _ ?_|refine hR _ _ ?_);clear hK hR K R)
    repeat (first | refine nav ?_ | refine bo ?_)
    refine W_cond (by simp only [go_sem]<;>exact rfl) (fun hc=>?_) (fun hc=>?_)
    ·repeat (first | refine nav ?_ | refine bo ?_)
     (refine wr fun K R hK hR=>?_;simp only [go_sem];(try go_ints);(repeat refine And.intro side ?_);(first|refine hK _ ?_|refine hR _ _ ?_);clear hK hR K R)
     repeat (first | refine nav ?_ | refine bo ?_)
     refine endQ_data (by simp only [go_sem]<;>exact rfl) (Le.of_eq ?_) rfl
     rw [oneW_false hil2 hki (by rw [hcl];exact hc)]
    ·repeat (first | refine nav ?_ | refine bo ?_)
     (refine wr fun K R hK hR=>?_;simp only [go_sem,h7];(try go_ints);(try simp only [go_sem,h7]);(repeat refine And.intro side ?_);(first|refine hK _ ?_|refine hR _ _ ?_);clear hK hR K R)
     refine forQ_normal (i - (k + 1)) (by omega) ⟨k + 1,?_⟩
     ((try simp only [go_sem]);(repeat' refine And.intro ?_ ?_)<;>(try first | with_reducible rfl | omega | with_reducible assumption | (simp;done)))
     intro k' hk'
     rcases Nat.lt_succ_iff_lt_or_eq.1 hk' with h | rfl
     ·exact hkk k' h
     ·rw [hcl];exact hc
   ·have hki : k = i:=by
     have : ¬ k < i:=by simpa using hb
     omega
    subst hki
    repeat (first | refine nav ?_ | refine bo ?_)
    rw [mix_mix rfl]
    (refine wr fun K R hK hR=>?_;simp only [go_sem,h6];(try go_ints);(try simp only [go_sem,h6]);(repeat refine And.intro side ?_);(first|refine hK _ ?_|refine hR _ _ ?_);clear hK hR K R)
    repeat (first | refine nav ?_ | refine bo ?_)
    refine forQ_normal (l.length - (k + 1)) (by omega) ⟨k + 1,?_⟩
    ((try simp only [go_sem]);(repeat' refine And.intro ?_ ?_)<;>(try first | with_reducible rfl | omega | with_reducible assumption | (simp;done)))
    intro i' hi'
    rcases Nat.lt_succ_iff_lt_or_eq.1 hi' with h | rfl
    ·exact hi i' h
    ·exact hkk
  ·have hil2 : i = l.length:=by
    have : ¬ i < l.length:=by simpa using hb
    omega
   subst hil2
   repeat (first | refine nav ?_ | refine bo ?_)
   (refine wr fun K R hK hR=>?_;simp only [go_sem];(try go_ints);(repeat refine And.intro side ?_);(first|refine hK _ ?_|refine hR _ _ ?_);clear hK hR K R)
   repeat (first | refine nav ?_ | refine bo ?_)
   refine endQ_data (by simp only [go_sem]<;>exact rfl) (Le.of_eq ?_) rfl
   rw [oneW_true hi]
end Go.AW
namespace Go.AW
open Go Go.Proofs TyTryz Go.IntWalk
set_option linter.unusedSimpArgs false
set_option linter.unusedVariables false
set_option maxRecDepth 10000
set_option maxHeartbeats 1000000
def allT (n k : Nat) : List (List Int):=(List.range (n ^ k)).map (digs n k)
end Go.AW
