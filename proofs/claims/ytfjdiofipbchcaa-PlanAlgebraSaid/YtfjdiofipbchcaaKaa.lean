/-
AW, part A: abstract values, the relation to the model's world, and its growth laws. A library of ours: nothing of the program stands in it.
-/
import Derived.Calls
import Derived.Below
import Derived.Orders
import Derived.Laws.Entries
namespace Go.AW
open Go
set_option linter.unusedSimpArgs false
set_option linter.unusedVariables false
inductive AV where
 | any
 | b (x : Bool)
 | i (k : IntKind) (n : Int)
 | s (x : ByteArray)
 | sl (sz : Nat) (rows : List (List AV))
 | own (sz : Nat) (rows : List (List AV))
 | ref (id off len : Nat)
 | ptr (id idx off : Nat)
 | ep (row : List AV) (off : Nat)
 | nilp
 | mp (id : Nat)
 | nilm
 | nsl
 | esl
 | fn (f : FuncId) (caps : List AV)
 | nilf
 | agg (cs : List AV)
 | tup (vs : List AV)
 | nili
 | ifc (t : TypeId) (v : AV)
 | bm (f : FuncId) (v : AV)
 | gd (g : Bool) (v : AV)
 deriving Inhabited
structure MB where
 blk : Nat
 base : Nat
 sz : Nat
 lim : Nat
abbrev CS:=Nat → Nat → Prop
def Value.flat : Value → Bool
 | .agg _ | .tuple _=>false
 | _=>true
mutual
/-- A concrete value bears an abstract one. Y: the cells that may still be written (no reading leads there). m: where the local objects lie;inside data there are none. -/
def V (w : World) (Y : CS) : List MB → AV → Value → Prop
 | _,.any,_=>True
 | _,.b x,v=>v = .bool x
 | _,.i k n,v=>v = .int k n
 | _,.s x,v=>v = .string x
 | _,.sl sz rows,v=>∃ a cap,v = .slice a rows.length cap ∧ rows.length ≤ cap ∧ cap ≤ maxLen ∧
   (rows = [] ∨ ∃ blk off,a = some ⟨blk,off,none⟩ ∧ Rs w Y sz blk off rows)
 | _,.own sz rows,v=>∃ a cap,v = .slice a rows.length cap ∧ rows.length ≤ cap ∧ cap ≤ maxLen ∧
   (rows = [] ∨ ∃ blk off,a = some ⟨blk,off,none⟩ ∧ Rs w Y sz blk off rows)
 | m,.ref id off len,v=>∃ mb a cap,m[id]? = some mb ∧ v = .slice a len cap ∧ len ≤ cap ∧ cap ≤ maxLen ∧ (len = 0 ∧ cap = 0 ∨ a = some ⟨mb.blk,mb.base + off * mb.sz,none⟩ ∧ off + cap ≤ mb.lim)
 | m,.ptr id idx off,v=>∃ mb,m[id]? = some mb ∧ v = .pointer (some ⟨mb.blk,mb.base + idx * mb.sz + off,none⟩)
 | _,.ep row off,v=>∃ blk base,v = .pointer (some ⟨blk,base + off,none⟩) ∧ Cs w Y blk base row
 | _,.nilp,v=>v = .pointer none
 | m,.mp id,v=>∃ mb,m[id]? = some mb ∧ v = .map (some mb.blk)
 | _,.nilm,v=>v = .map none
 | _,.nsl,v=>v = .slice none 0 0
 | _,.esl,v=>∃ ad,v = .slice (some ad) 0 0
 | m,.fn f caps,v=>∃ cs,v = .func (.func f) #[] cs ∧ Vs w Y m caps cs.toList
 | _,.nilf,v=>v = .nilFunc
 | m,.agg cs,v=>∃ vs,v = .agg vs ∧ Vs w Y m cs vs.toList
 | m,.tup cs,v=>∃ vs,v = .tuple vs ∧ Vs w Y m cs vs.toList
 | _,.nili,v=>v = .nilIface
 | m,.ifc t x,v=>∃ y,v = .iface t y ∧ V w Y m x y
 | m,.bm f x,v=>∃ y,v = .func (.func f) #[y] #[] ∧ V w Y m x y
 | m,.gd g x,v=>(g = true → V w Y m x v) ∧ (g = false → v = undef)
def Vs (w : World) (Y : CS) : List MB → List AV → List Value → Prop
 | _,[],vs=>vs = []
 | m,c :: r,vs=>∃ v t,vs = v :: t ∧ V w Y m c v ∧ Vs w Y m r t
def Cs (w : World) (Y : CS) : Nat → Nat → List AV → Prop
 | _,_,[]=>True
 | blk,off,c :: r=>(∃ v,w.cell? ⟨blk,off,none⟩ = some v ∧ ¬ Y blk off ∧ Value.flat v = true ∧ V w Y [] c v) ∧ Cs w Y blk (off + 1) r
def Rs (w : World) (Y : CS) (sz : Nat) : Nat → Nat → List (List AV) → Prop
 | _,_,[]=>True
 | blk,off,r :: t=>r.length = sz ∧ Cs w Y blk off r ∧ Rs w Y sz blk (off + sz) t
end
theorem nil_obj {m' : List MB} : ∀ (id : Nat) (mb : MB),([] : List MB)[id]? = some mb → m'[id]? = some mb:=fun _ _ h=>by simp at h
structure Keeps (w : World) (Y : CS) (m : List MB) (w' : World) (Y' : CS) (m' : List MB) : Prop where
 cell : ∀ b x v,w.cell? ⟨b,x,none⟩ = some v → ¬ Y b x → w'.cell? ⟨b,x,none⟩ = some v ∧ ¬ Y' b x
 obj : ∀ (id : Nat) (mb : MB),m[id]? = some mb → m'[id]? = some mb
theorem Keeps.bare {w w' : World} {Y Y' : CS} {m m' : List MB} (h : Keeps w Y m w' Y' m') : Keeps w Y [] w' Y' []:=⟨h.cell,nil_obj⟩
section
variable {w w' : World} {Y Y' : CS}
mutual
theorem V.keep {m m' : List MB} (h : Keeps w Y m w' Y' m') : ∀ (a : AV) (v : Value),V w Y m a v → V w' Y' m' a v
 | .any,_,_=>by simp only [V]
 | .b _,_,k=>by simpa only [V] using k
 | .i _ _,_,k=>by simpa only [V] using k
 | .s _,_,k=>by simpa only [V] using k
 | .sl sz rows,v,k=>by
  simp only [V] at k ⊢
  obtain ⟨a,cap,h1,h2,h3,h4⟩:=k
  refine ⟨a,cap,h1,h2,h3,?_⟩
  rcases h4 with h4 | ⟨blk,off,h5,h6⟩
  ·exact .inl h4
  ·exact .inr ⟨blk,off,h5,Rs.keep h.bare sz blk off rows h6⟩
 | .own sz rows,v,k=>by
  simp only [V] at k ⊢
  obtain ⟨a,cap,h1,h2,h3,h4⟩:=k
  refine ⟨a,cap,h1,h2,h3,?_⟩
  rcases h4 with h4 | ⟨blk,off,h5,h6⟩
  ·exact .inl h4
  ·exact .inr ⟨blk,off,h5,Rs.keep h.bare sz blk off rows h6⟩
 | .ref _ _ _,_,k=>by
  simp only [V] at k ⊢
  obtain ⟨mb,a,cap,h1,h2⟩:=k
  exact ⟨mb,a,cap,h.obj _ _ h1,h2⟩
 | .ptr _ _ _,_,k=>by
  simp only [V] at k ⊢
  obtain ⟨mb,h1,h2⟩:=k
  exact ⟨mb,h.obj _ _ h1,h2⟩
 | .ep row off,_,k=>by
  simp only [V] at k ⊢
  obtain ⟨blk,base,h1,h2⟩:=k
  exact ⟨blk,base,h1,Cs.keep h.bare blk base row h2⟩
 | .nilp,_,k=>by simpa only [V] using k
 | .mp _,_,k=>by
  simp only [V] at k ⊢
  obtain ⟨mb,h1,h2⟩:=k
  exact ⟨mb,h.obj _ _ h1,h2⟩
 | .nilm,_,k=>by simpa only [V] using k
 | .nsl,_,k=>by simpa only [V] using k
 | .esl,_,k=>by simpa only [V] using k
 | .fn f caps,_,k=>by
  simp only [V] at k ⊢
  obtain ⟨cs,h1,h2⟩:=k
  exact ⟨cs,h1,Vs.keep h caps _ h2⟩
 | .nilf,_,k=>by simpa only [V] using k
 | .agg cs,_,k=>by
  simp only [V] at k ⊢
  obtain ⟨vs,h1,h2⟩:=k
  exact ⟨vs,h1,Vs.keep h cs _ h2⟩
 | .tup cs,_,k=>by
  simp only [V] at k ⊢
  obtain ⟨vs,h1,h2⟩:=k
  exact ⟨vs,h1,Vs.keep h cs _ h2⟩
 | .nili,_,k=>by simpa only [V] using k
 | .ifc t x,_,k=>by
  simp only [V] at k ⊢
  obtain ⟨y,h1,h2⟩:=k
  exact ⟨y,h1,V.keep h x y h2⟩
 | .bm t x,_,k=>by
  simp only [V] at k ⊢
  obtain ⟨y,h1,h2⟩:=k
  exact ⟨y,h1,V.keep h x y h2⟩
 | .gd g x,v,k=>by
  simp only [V] at k ⊢
  exact ⟨fun hg=>V.keep h x v (k.1 hg),k.2⟩
theorem Vs.keep {m m' : List MB} (h : Keeps w Y m w' Y' m') : ∀ (l : List AV) (vs : List Value),Vs w Y m l vs → Vs w' Y' m' l vs
 | [],_,k=>by simpa only [Vs] using k
 | c :: r,_,k=>by
  simp only [Vs] at k ⊢
  obtain ⟨v,t,h1,h2,h3⟩:=k
  exact ⟨v,t,h1,V.keep h c v h2,Vs.keep h r t h3⟩
theorem Cs.keep (h : Keeps w Y [] w' Y' []) : ∀ (blk off : Nat) (l : List AV),Cs w Y blk off l → Cs w' Y' blk off l
 | _,_,[],_=>by simp only [Cs]
 | blk,off,c :: r,k=>by
  simp only [Cs] at k ⊢
  obtain ⟨⟨v,h1,h2,hf,h3⟩,h4⟩:=k
  obtain ⟨g1,g2⟩:=h.cell _ _ _ h1 h2
  exact ⟨⟨v,g1,g2,hf,V.keep h c v h3⟩,Cs.keep h blk (off + 1) r h4⟩
theorem Rs.keep (h : Keeps w Y [] w' Y' []) (sz : Nat) : ∀ (blk off : Nat) (l : List (List AV)),Rs w Y sz blk off l → Rs w' Y' sz blk off l
 | _,_,[],_=>by simp only [Rs]
 | blk,off,r :: t,k=>by
  simp only [Rs] at k ⊢
  obtain ⟨h1,h2,h3⟩:=k
  exact ⟨h1,Cs.keep h blk off r h2,Rs.keep h sz blk (off + sz) t h3⟩
end
end
mutual
/-- Does a value lead to no object but the first k? -/
def AV.ltk (k : Nat) : AV → Bool
 | .ref id _ _ | .ptr id _ _ | .mp id=>decide (id < k)
 | .fn _ l | .agg l | .tup l=>AV.ltks k l
 | .ifc _ v | .bm _ v | .gd _ v=>AV.ltk k v
 | _=>true
def AV.ltks (k : Nat) : List AV → Bool
 | []=>true
 | v :: r=>AV.ltk k v && AV.ltks k r
end
theorem take_get {m : List MB} {k id : Nat} (h : id < k) : (m.take k)[id]? = m[id]?:=by rw [List.getElem?_take,if_pos h]
mutual
theorem V.ltk {w : World} {Y : CS} {m : List MB} (k : Nat) : ∀ (a : AV) (v : Value),a.ltk k = true → V w Y m a v → V w Y (m.take k) a v
 | .any,_,_,_=>by simp only [V]
 | .b _,_,_,h=>by simpa only [V] using h
 | .i _ _,_,_,h=>by simpa only [V] using h
 | .s _,_,_,h=>by simpa only [V] using h
 | .sl _ _,_,_,h=>by simpa only [V] using h
 | .own _ _,_,_,h=>by simpa only [V] using h
 | .ref id _ _,_,hk,h=>by
  simp only [V,AV.ltk,decide_eq_true_eq] at h hk ⊢
  simpa only [take_get hk] using h
 | .ptr id _ _,_,hk,h=>by
  simp only [V,AV.ltk,decide_eq_true_eq] at h hk ⊢
  simpa only [take_get hk] using h
 | .ep _ _,_,_,h=>by simpa only [V] using h
 | .nilp,_,_,h=>by simpa only [V] using h
 | .mp id,_,hk,h=>by
  simp only [V,AV.ltk,decide_eq_true_eq] at h hk ⊢
  simpa only [take_get hk] using h
 | .nilm,_,_,h=>by simpa only [V] using h
 | .nsl,_,_,h=>by simpa only [V] using h
 | .esl,_,_,h=>by simpa only [V] using h
 | .fn f caps,_,hk,h=>by
  simp only [V,AV.ltk] at h hk ⊢
  obtain ⟨cs,h1,h2⟩:=h
  exact ⟨cs,h1,Vs.ltk k caps _ hk h2⟩
 | .nilf,_,_,h=>by simpa only [V] using h
 | .agg cs,_,hk,h=>by
  simp only [V,AV.ltk] at h hk ⊢
  obtain ⟨vs,h1,h2⟩:=h
  exact ⟨vs,h1,Vs.ltk k cs _ hk h2⟩
 | .tup cs,_,hk,h=>by
  simp only [V,AV.ltk] at h hk ⊢
  obtain ⟨vs,h1,h2⟩:=h
  exact ⟨vs,h1,Vs.ltk k cs _ hk h2⟩
 | .nili,_,_,h=>by simpa only [V] using h
 | .ifc t x,_,hk,h=>by
  simp only [V,AV.ltk] at h hk ⊢
  obtain ⟨y,h1,h2⟩:=h
  exact ⟨y,h1,V.ltk k x y hk h2⟩
 | .bm t x,_,hk,h=>by
  simp only [V,AV.ltk] at h hk ⊢
  obtain ⟨y,h1,h2⟩:=h
  exact ⟨y,h1,V.ltk k x y hk h2⟩
 | .gd g x,v,hk,h=>by
  simp only [V,AV.ltk] at h hk ⊢
  exact ⟨fun hg=>V.ltk k x v hk (h.1 hg),h.2⟩
theorem Vs.ltk {w : World} {Y : CS} {m : List MB} (k : Nat) : ∀ (l : List AV) (vs : List Value),AV.ltks k l = true → Vs w Y m l vs → Vs w Y (m.take k) l vs
 | [],_,_,h=>by simpa only [Vs] using h
 | c :: r,_,hk,h=>by
  simp only [Vs,AV.ltks,Bool.and_eq_true] at h hk ⊢
  obtain ⟨v,t,h1,h2,h3⟩:=h
  exact ⟨v,t,h1,V.ltk k c v hk.1 h2,Vs.ltk k r t hk.2 h3⟩
end
end Go.AW
namespace Go.AW
open Go
set_option linter.unusedSimpArgs false
set_option linter.unusedVariables false
inductive Ob where
 | cells (sz : Nat) (rows : List (List AV))
 | frz (sz : Nat) (rows : List (List AV))
 | mapo (es : List (AV × AV))
 | dead
 deriving Inhabited
def Ob.live : Ob → Prop
 | .cells .. | .mapo _=>True
 | _=>False
inductive Pl where
 | t (k : Nat)
 | o (id r c : Nat)
 deriving DecidableEq
structure Reg where
 blk : Nat
 lo : Nat
def XS (m : List MB) (reg : Pl → Option Reg) (o : List Ob) : CS:=fun b x =>
 (∃ (id : Nat) (ob : Ob) (mb : MB),o[id]? = some ob ∧ ob.live ∧ m[id]? = some mb ∧ mb.blk = b) ∨ ∃ p r,reg p = some r ∧ r.blk = b ∧ r.lo ≤ x
def YS (Z : CS) (m : List MB) (reg : Pl → Option Reg) (o : List Ob) : CS:=fun b x=>XS m reg o b x ∨ Z b x
def MapR (w : World) (Y : CS) (m : List MB) : List (AV × AV) → List MapEntry → Prop
 | [],es=>es = []
 | (k,x) :: r,es=>∃ e t,es = e :: t ∧ V w Y m k e.key ∧ V w Y m x e.val ∧ MapR w Y m r t
def ObR (w : World) (Y : CS) (m : List MB) (mb : MB) : Ob → Prop
 | .cells sz rows=>mb.sz = sz ∧ (∃ c e,w.heap[mb.blk]? = some (.cells c e (0,0)) ∧ mb.base + mb.lim * sz ≤ c.size ∧ rows.length ≤ mb.lim) ∧
   (∀ (r : Nat) row,rows[r]? = some row → row.length = sz) ∧
   ∀ (r : Nat) row (c : Nat) av,rows[r]? = some row → row[c]? = some av → ∃ v,w.cell? ⟨mb.blk,mb.base + r * sz + c,none⟩ = some v ∧ V w Y m av v
 | .frz sz rows=>mb.sz = sz ∧ (rows = [] ∨ Rs w Y sz mb.blk mb.base rows)
 | .mapo es=>∃ ents clock,w.heap[mb.blk]? = some (.map ents clock) ∧ MapR w Y m es ents.toList ∧
   (ents.toList.Pairwise fun a b=>a.born < b.born) ∧ ∀ e ∈ ents.toList,e.born < clock
 | .dead=>True
def leaf (t : Nat → AV) (o : List Ob) : Pl → Option AV
 | .t k=>some (t k)
 | .o id r c=>match o[id]? with
  | some (.cells _ rows)=>(rows[r]?).bind (·[c]?)
  | _=>none
def valAt (w : World) (m : List MB) (u : Nat → Value) : Pl → Option Value
 | .t k=>some (u k)
 | .o id r c=>(m[id]?).bind fun mb=>w.cell? ⟨mb.blk,mb.base + r * mb.sz + c,none⟩
def OwnAt (w : World) (rg : Option Reg) (sz n : Nat) (v : Value) : Prop :=
 ∃ a cap,v = .slice a n cap ∧ (n < cap → ∃ blk off lo c e,a = some ⟨blk,off,none⟩ ∧ rg = some ⟨blk,lo⟩ ∧ lo ≤ off + n * sz ∧
  w.heap[blk]? = some (.cells c e (0,0)) ∧ off + cap * sz ≤ c.size)
structure Rel (w : World) (Z : CS) (m : List MB) (reg : Pl → Option Reg) (t : Nat → AV) (u : Nat → Value) (o : List Ob) : Prop where
 len : m.length = o.length
 tv : ∀ k,V w (YS Z m reg o) m (t k) (u k)
 ob : ∀ (id : Nat) (x : Ob) (mb : MB),o[id]? = some x → m[id]? = some mb → ObR w (YS Z m reg o) m mb x
 inj : ∀ (i j : Nat) (x y : Ob) (a b : MB),o[i]? = some x → o[j]? = some y → x.live → y.live → m[i]? = some a → m[j]? = some b → a.blk = b.blk → i = j
 rok : ∀ p r,reg p = some r → r.blk < w.heap.size
 rob : ∀ p r (id : Nat) x mb,reg p = some r → o[id]? = some x → x.live → m[id]? = some mb → mb.blk ≠ r.blk
 rdj : ∀ p q r s,p ≠ q → reg p = some r → reg q = some s → r.blk ≠ s.blk
 own : ∀ p sz rows v,leaf t o p = some (.own sz rows) → valAt w m u p = some v → OwnAt w (reg p) sz rows.length v
 zx : ∀ b x,Z b x → ¬ XS m reg o b x
 zs : ∀ b x,Z b x → b < w.heap.size
def upd {α : Type} (f : Nat → α) (k : Nat) (v : α) : Nat → α:=fun j=>if j = k then v else f j
theorem upd_same {α : Type} (f : Nat → α) (k : Nat) (v : α) : upd f k v k = v:=by simp [upd]
theorem upd_ne {α : Type} (f : Nat → α) (k : Nat) (v : α) {j : Nat} (h : j ≠ k) : upd f k v j = f j:=by simp [upd,h]
structure Evol (w : World) (X : CS) (w' : World) : Prop where
 os : w'.os = w.os
 tape : w'.tape = w.tape
 output : w'.output = w.output
 drawn : w.drawn ≤ w'.drawn
 size : w.heap.size ≤ w'.heap.size
 block : ∀ b,b < w.heap.size → (∀ x,¬ X b x) → w'.heap[b]? = w.heap[b]?
 cell : ∀ b x v,¬ X b x → w.cell? ⟨b,x,none⟩ = some v → w'.cell? ⟨b,x,none⟩ = some v
theorem Evol.refl (w : World) (X : CS) : Evol w X w:=⟨rfl,rfl,rfl,Nat.le_refl _,Nat.le_refl _,fun _ _ _=>rfl,fun _ _ _ _ h=>h⟩
theorem cell_lt {w : World} {b x : Nat} {v : Value} (h : w.cell? ⟨b,x,none⟩ = some v) : b < w.heap.size:=by
 unfold World.cell? at h
 split at h
 ·rename_i h1
  rcases Nat.lt_or_ge b w.heap.size with h2 | h2
  ·exact h2
  ·simp [Array.getElem?_eq_none h2] at h1
 ·simp at h
theorem Evol.trans {w w1 w2 : World} {X X1 : CS} (h : Evol w X w1) (k : Evol w1 X1 w2) (hX : ∀ b x,X1 b x → X b x ∨ w.heap.size ≤ b) : Evol w X w2:=by
 refine ⟨k.os.trans h.os,k.tape.trans h.tape,k.output.trans h.output,Nat.le_trans h.drawn k.drawn,Nat.le_trans h.size k.size,?_,?_⟩
 ·intro b hb hx
  rw [k.block b (Nat.lt_of_lt_of_le hb h.size) (fun x h1=>(hX b x h1).elim (hx x) (fun h2=>by omega)),h.block b hb hx]
 ·intro b x v hx hc
  exact k.cell b x v (fun h1=>(hX b x h1).elim hx (fun h2=>by have:=cell_lt hc;omega)) (h.cell b x v hx hc)
theorem Evol.mono {w w1 : World} {X X1 : CS} (h : Evol w X w1) (hX : ∀ b x,X b x → X1 b x ∨ w.heap.size ≤ b) : Evol w X1 w1 :=
 ⟨h.os,h.tape,h.output,h.drawn,h.size,fun b hb k=>h.block b hb (fun x h1=>(hX b x h1).elim (k x) (fun h2=>by omega)),
  fun b x v k hc=>h.cell b x v (fun h1=>(hX b x h1).elim k (fun h2=>by have:=cell_lt hc;omega)) hc⟩
structure Grow (w w' : World) : Prop where
 os : w'.os = w.os
 tape : w'.tape = w.tape
 output : w'.output = w.output
 drawn : w.drawn ≤ w'.drawn
 size : w.heap.size ≤ w'.heap.size
 block : ∀ b,b < w.heap.size → w'.heap[b]? = w.heap[b]?
theorem Grow.refl (w : World) : Grow w w:=⟨rfl,rfl,rfl,Nat.le_refl _,Nat.le_refl _,fun _ _=>rfl⟩
theorem Grow.evol {w w' : World} (h : Grow w w') (X : CS) : Evol w X w':=by
 refine ⟨h.os,h.tape,h.output,h.drawn,h.size,fun b hb _=>h.block b hb,fun b x v _ hc=>?_⟩
 have hb:=cell_lt hc
 unfold World.cell? at hc ⊢
 rw [h.block b hb];exact hc
theorem Grow.cell {w w' : World} (h : Grow w w') {b x : Nat} {v : Value} (hc : w.cell? ⟨b,x,none⟩ = some v) : w'.cell? ⟨b,x,none⟩ = some v :=
 (h.evol (fun _ _=>False)).cell b x v (fun h=>h) hc
theorem Grow.obj {w w' : World} (h : Grow w w') {b : Nat} {x : Obj} (hb : w.heap[b]? = some x) : w'.heap[b]? = some x:=by
 have : b < w.heap.size:=by
  rcases Nat.lt_or_ge b w.heap.size with h2 | h2
  ·exact h2
  ·simp [Array.getElem?_eq_none h2] at hb
 rw [h.block b this];exact hb
theorem Grow.push (w : World) (x : Obj) : Grow w { w with heap:=w.heap.push x } :=
 ⟨rfl,rfl,rfl,Nat.le_refl _,by simp,fun b hb=>by rw [Array.getElem?_push,if_neg (by omega)]⟩
theorem Grow.draw (w : World) (n : Nat) (h : w.drawn ≤ n) : Grow w { w with drawn:=n }:=⟨rfl,rfl,rfl,h,Nat.le_refl _,fun _ _=>rfl⟩
theorem Grow.trans {a b c : World} (h : Grow a b) (k : Grow b c) : Grow a c :=
 ⟨k.os.trans h.os,k.tape.trans h.tape,k.output.trans h.output,Nat.le_trans h.drawn k.drawn,Nat.le_trans h.size k.size,
  fun x hx=>(k.block x (Nat.lt_of_lt_of_le hx h.size)).trans (h.block x hx)⟩
section
variable {w w' : World} {Y Y' : CS} {m m' : List MB}
theorem MapR.keep (h : Keeps w Y m w' Y' m') : ∀ (l : List (AV × AV)) (es : List MapEntry),MapR w Y m l es → MapR w' Y' m' l es
 | [],_,k=>by simpa only [MapR] using k
 | (_,_) :: r,_,k=>by
  simp only [MapR] at k ⊢
  obtain ⟨e,t,h1,h2,h3,h4⟩:=k
  exact ⟨e,t,h1,V.keep h _ _ h2,V.keep h _ _ h3,MapR.keep h r t h4⟩
end
section
variable {w w' : World} {Z : CS} {m : List MB} {reg : Pl → Option Reg} {t : Nat → AV} {u : Nat → Value} {o : List Ob}
theorem Rel.blk (h : Rel w Z m reg t u o) {id : Nat} {x : Ob} {mb : MB} (ho : o[id]? = some x) (hl : x.live) (hm : m[id]? = some mb) : mb.blk < w.heap.size:=by
 have:=h.ob id x mb ho hm
 cases x with
 | cells sz rows =>
  obtain ⟨_,⟨c,e,h1,_⟩,_⟩:=this
  rcases Nat.lt_or_ge mb.blk w.heap.size with h2 | h2
  ·exact h2
  ·simp [Array.getElem?_eq_none h2] at h1
 | mapo es =>
  obtain ⟨c,e,h1,_⟩:=this
  rcases Nat.lt_or_ge mb.blk w.heap.size with h2 | h2
  ·exact h2
  ·simp [Array.getElem?_eq_none h2] at h1
 | frz _ _=>exact hl.elim
 | dead=>exact hl.elim
theorem Rel.xlt (h : Rel w Z m reg t u o) {b x : Nat} (hx : XS m reg o b x) : b < w.heap.size:=by
 rcases hx with ⟨id,ob,mb,h1,h2,h3,rfl⟩ | ⟨p,r,h1,rfl,_⟩
 ·exact h.blk h1 h2 h3
 ·exact h.rok p r h1
theorem Rel.grow (h : Rel w Z m reg t u o) (g : Grow w w') : Rel w' Z m reg t u o:=by
 have K : Keeps w (YS Z m reg o) m w' (YS Z m reg o) m:=⟨fun b x v hc hy=>⟨g.cell hc,hy⟩,fun _ _ h=>h⟩
 refine ⟨h.len,fun k=>V.keep K _ _ (h.tv k),?_,h.inj,fun p r hr=>Nat.lt_of_lt_of_le (h.rok p r hr) g.size,h.rob,h.rdj,?_,h.zx,fun b x hz=>Nat.lt_of_lt_of_le (h.zs b x hz) g.size⟩
 ·intro id x mb ho hm
  have:=h.ob id x mb ho hm
  cases x with
  | cells sz rows =>
   obtain ⟨h1,⟨c,e,h2,h3⟩,h4,h5⟩:=this
   refine ⟨h1,⟨c,e,g.obj h2,h3⟩,h4,fun r row c av hr hc=>?_⟩
   obtain ⟨v,h6,h7⟩:=h5 r row c av hr hc
   exact ⟨v,g.cell h6,V.keep K _ _ h7⟩
  | frz sz rows=>exact ⟨this.1,this.2.imp (fun h=>h) (Rs.keep K.bare _ _ _ _)⟩
  | mapo es =>
   obtain ⟨c,e,h1,h2,h3⟩:=this
   exact ⟨c,e,g.obj h1,MapR.keep K _ _ h2,h3⟩
  | dead=>trivial
 ·intro p sz rows v hl hv
  have hv' : valAt w m u p = some v ∨ True:=.inr trivial
  cases p with
  | t k =>
   obtain ⟨a,cap,h1,h2⟩:=h.own (.t k) sz rows v hl hv
   refine ⟨a,cap,h1,fun hn=>?_⟩
   obtain ⟨blk,off,lo,c,e,g1,g2,g3,g4,g5⟩:=h2 hn
   exact ⟨blk,off,lo,c,e,g1,g2,g3,g.obj g4,g5⟩
  | o id r c =>
   have hw : valAt w m u (.o id r c) = some v:=by
    simp only [leaf] at hl
    split at hl
    ·rename_i sz' rows' hid
     cases hr : rows'[r]? with
     | none=>simp [hr] at hl
     | some row =>
      simp only [hr,Option.bind_some] at hl
      have hlt : id < m.length:=by rw [h.len];exact (List.getElem?_eq_some_iff.1 hid).1
      have hm : m[id]? = some m[id]:=List.getElem?_eq_getElem hlt
      obtain ⟨h1,_,_,h5⟩:=h.ob id _ _ hid hm
      obtain ⟨v',h6,_⟩:=h5 r row c _ hr hl
      rw [← h1] at h6
      simp only [valAt,hm,Option.bind_some] at hv ⊢
      rw [g.cell h6] at hv
      rw [h6,hv]
    ·simp at hl
   obtain ⟨a,cap,h1,h2⟩:=h.own _ sz rows v hl hw
   refine ⟨a,cap,h1,fun hn=>?_⟩
   obtain ⟨blk,off,lo,c,e,g1,g2,g3,g4,g5⟩:=h2 hn
   exact ⟨blk,off,lo,c,e,g1,g2,g3,g.obj g4,g5⟩
theorem Keeps.sub {w : World} {Y Y' : CS} (m : List MB) (h : ∀ b x,Y' b x → Y b x) : Keeps w Y m w Y' m:=⟨fun b x _ hc hy=>⟨hc,fun k=>hy (h b x k)⟩,fun _ _ h=>h⟩
theorem Ob.keep {w w' : World} {Y Y' : CS} {m m' : List MB} (K : Keeps w Y m w' Y' m') {mb : MB} (x : Ob) (hb : x.live → w'.heap[mb.blk]? = w.heap[mb.blk]?) (h : ObR w Y m mb x) : ObR w' Y' m' mb x:=by
 cases x with
 | cells sz rows =>
  have hb:=hb trivial
  obtain ⟨h1,⟨c,e,h2,h3⟩,h4,h5⟩:=h
  refine ⟨h1,⟨c,e,by rw [hb];exact h2,h3⟩,h4,fun r row c av hr hc=>?_⟩
  obtain ⟨v,h6,h7⟩:=h5 r row c av hr hc
  refine ⟨v,?_,V.keep K _ _ h7⟩
  unfold World.cell? at h6 ⊢
  rw [hb];exact h6
 | frz sz rows=>exact ⟨h.1,h.2.imp (fun h=>h) (Rs.keep K.bare _ _ _ _)⟩
 | mapo es =>
  have hb:=hb trivial
  obtain ⟨c,e,h1,h2,h3⟩:=h
  exact ⟨c,e,by rw [hb];exact h1,MapR.keep K _ _ h2,h3⟩
 | dead=>trivial
def AV.isOwn : AV → Bool
 | .own ..=>true
 | _=>false
def AV.dat : AV → AV
 | .own sz rows=>.sl sz rows
 | .gd g v=>.gd g v.dat
 | v=>v
theorem V.dat {w : World} {Y : CS} {m : List MB} : ∀ (a : AV) (v : Value),V w Y m a v → V w Y m a.dat v
 | .own sz rows,v,h=>by simpa only [AV.dat,V] using h
 | .gd g x,v,h=>by
  simp only [AV.dat,V] at h ⊢
  exact ⟨fun k=>V.dat x v (h.1 k),h.2⟩
 | .any,_,h | .b _,_,h | .i _ _,_,h | .s _,_,h | .sl _ _,_,h | .ref _ _ _,_,h | .ptr _ _ _,_,h | .ep _ _,_,h | .nilp,_,h | .mp _,_,h
 | .nilm,_,h | .nsl,_,h | .esl,_,h | .fn _ _,_,h | .nilf,_,h | .agg _,_,h | .tup _,_,h | .nili,_,h | .ifc _ _,_,h | .bm _ _,_,h=>h
theorem AV.dat_isOwn (a : AV) : a.dat.isOwn = false:=by cases a<;>rfl
theorem Rel.slots (h : Rel w Z m reg t u o) {reg' : Pl → Option Reg} {t' : Nat → AV} {u' : Nat → Value}
  (hs : ∀ p r,reg' p = some r → ∃ q,reg q = some r) (hd : ∀ p q r s,p ≠ q → reg' p = some r → reg' q = some s → r.blk ≠ s.blk)
  (tv : ∀ k,V w (YS Z m reg o) m (t' k) (u' k))
  (own : ∀ p sz rows v,leaf t' o p = some (.own sz rows) → valAt w m u' p = some v → OwnAt w (reg' p) sz rows.length v) : Rel w Z m reg' t' u' o:=by
 have hX : ∀ b x,XS m reg' o b x → XS m reg o b x:=by
  rintro b x (h1 | ⟨p,r,h1,h2⟩)
  ·exact .inl h1
  ·obtain ⟨q,hq⟩:=hs p r h1
   exact .inr ⟨q,r,hq,h2⟩
 have K : Keeps w (YS Z m reg o) m w (YS Z m reg' o) m:=Keeps.sub m fun b x h=>h.imp (hX b x) (fun h=>h)
 refine ⟨h.len,fun k=>V.keep K _ _ (tv k),fun id x mb ho hm=>Ob.keep K x (fun _=>rfl) (h.ob id x mb ho hm),h.inj,?_,?_,hd,own,fun b x hz hx=>h.zx b x hz (hX b x hx),h.zs⟩
 ·intro p r hr
  obtain ⟨q,hq⟩:=hs p r hr
  exact h.rok q r hq
 ·intro p r id x mb hr
  obtain ⟨q,hq⟩:=hs p r hr
  exact h.rob q r id x mb hq
def Light (av : AV) (v : Value) : Prop:=av.isOwn = false ∨ ∃ sz rows a,av = .own sz rows ∧ v = .slice a rows.length rows.length
theorem Light.own {w : World} {rg : Option Reg} {sz : Nat} {rows : List (List AV)} {v : Value} (h : Light (.own sz rows) v) : OwnAt w rg sz rows.length v:=by
 rcases h with h | ⟨sz',rows',a,h,rfl⟩
 ·simp [AV.isOwn] at h
 ·obtain ⟨rfl,rfl⟩:=AV.own.inj h
  exact ⟨a,_,rfl,fun h=>absurd h (Nat.lt_irrefl _)⟩
theorem Rel.put (h : Rel w Z m reg t u o) (d : Nat) {av : AV} {v : Value} (hv : V w (YS Z m reg o) m av v) (ho : Light av v) :
  Rel w Z m (fun p=>if p = .t d then none else reg p) (upd t d av) (upd u d v) o:=by
 refine h.slots ?_ ?_ ?_ ?_
 ·intro p r hr
  split at hr
  ·simp at hr
  ·exact ⟨p,hr⟩
 ·intro p q r s hpq hp hq
  split at hp
  ·simp at hp
  ·split at hq
   ·simp at hq
   ·exact h.rdj p q r s hpq hp hq
 ·intro k
  unfold upd
  split
  ·exact hv
  ·exact h.tv k
 ·intro p sz rows x hl hx
  by_cases hp : p = .t d
  ·subst hp
   simp only [leaf,valAt,upd,if_true,Option.some.injEq] at hl hx
   subst hl hx;exact ho.own
  ·rw [if_neg hp]
   refine h.own p sz rows x ?_ ?_
   ·cases p with
    | t k=>simp only [leaf,upd] at hl ⊢;rwa [if_neg (fun e=>hp (by rw [e]))] at hl
    | o id r c=>exact hl
   ·cases p with
    | t k=>simp only [valAt,upd] at hx ⊢;rwa [if_neg (fun e=>hp (by rw [e]))] at hx
    | o id r c=>exact hx
theorem Rel.move (h : Rel w Z m reg t u o) (k d : Nat) (hkd : k ≠ d) :
  Rel w Z m (fun p=>if p = .t d then reg (.t k) else if p = .t k then none else reg p) (upd (upd t k (t k).dat) d (t k)) (upd u d (u k)) o:=by
 refine h.slots ?_ ?_ ?_ ?_
 ·intro p r hr
  split at hr
  ·exact ⟨_,hr⟩
  ·split at hr
   ·simp at hr
   ·exact ⟨p,hr⟩
 ·intro p q r s hpq hp hq
  by_cases p1 : p = .t d
  ·by_cases q1 : q = .t d
   ·exact absurd (p1.trans q1.symm) hpq
   ·rw [if_pos p1] at hp
    rw [if_neg q1] at hq
    split at hq
    ·simp at hq
    ·rename_i q2
     exact h.rdj _ q r s (fun e=>q2 e.symm) hp hq
  ·rw [if_neg p1] at hp
   split at hp
   ·simp at hp
   ·rename_i p2
    by_cases q1 : q = .t d
    ·rw [if_pos q1] at hq
     exact h.rdj p _ r s p2 hp hq
    ·rw [if_neg q1] at hq
     split at hq
     ·simp at hq
     ·exact h.rdj p q r s hpq hp hq
 ·intro j
  unfold upd
  split
  ·exact h.tv k
  ·split
   ·rename_i e;subst e;exact V.dat _ _ (h.tv j)
   ·exact h.tv j
 ·intro p sz rows x hl hx
  by_cases hp : p = .t d
  ·subst hp
   simp only [leaf,valAt,upd,if_true,Option.some.injEq] at hl hx ⊢
   refine h.own (.t k) sz rows x ?_ ?_
   ·simp [leaf,hl]
   ·simp [valAt,hx]
  ·rw [if_neg hp]
   by_cases hk : p = .t k
   ·subst hk
    simp only [leaf,upd] at hl
    rw [if_neg hkd] at hl
    have:=AV.dat_isOwn (t k)
    simp only [if_true,Option.some.injEq] at hl
    rw [hl] at this;simp [AV.isOwn] at this
   ·rw [if_neg hk]
    refine h.own p sz rows x ?_ ?_
    ·cases p with
     | t j=>simp only [leaf,upd] at hl ⊢;rwa [if_neg (fun e=>hp (by rw [e])),if_neg (fun e=>hk (by rw [e]))] at hl
     | o id r c=>exact hl
    ·cases p with
     | t j=>simp only [valAt,upd] at hx ⊢;rwa [if_neg (fun e=>hp (by rw [e]))] at hx
     | o id r c=>exact hx
end
end Go.AW
namespace Go.AW
open Go
set_option linter.unusedSimpArgs false
set_option linter.unusedVariables false
theorem addr_inj {sz r c r' c' : Nat} (h : c < sz) (h' : c' < sz) (e : r * sz + c = r' * sz + c') : r = r' ∧ c = c':=by
 have p : 0 < sz:=Nat.lt_of_le_of_lt (Nat.zero_le _) h
 have h1 : (r * sz + c) / sz = r:=by rw [Nat.mul_comm,Nat.mul_add_div p,Nat.div_eq_of_lt h];omega
 have h2 : (r' * sz + c') / sz = r':=by rw [Nat.mul_comm,Nat.mul_add_div p,Nat.div_eq_of_lt h'];omega
 have : r = r':=by rw [← h1,← h2,e]
 subst this
 exact ⟨rfl,by omega⟩
def rset (rows : List (List AV)) (r c : Nat) (av : AV) : List (List AV):=rows.modify r fun row=>row.set c av
theorem rset_length (rows : List (List AV)) (r c : Nat) (av : AV) : (rset rows r c av).length = rows.length:=by simp [rset]
theorem rset_get (rows : List (List AV)) (r c : Nat) (av : AV) (i : Nat) : (rset rows r c av)[i]? = if r = i then (rows[i]?).map (·.set c av) else rows[i]?:=by
 simp only [rset,List.getElem?_modify]
 split<;>simp
theorem setCell_cells {w : World} {blk x : Nat} {v : Value} {c : Array Value} {e : TypeId} {f : Nat × Nat} (h : w.heap[blk]? = some (.cells c e f)) :
  (w.setCell ⟨blk,x,none⟩ v).heap[blk]? = some (.cells (c.setIfInBounds x v) e f):=by
 simp [World.setCell,Array.getElem?_modify,h]
theorem setCell_other {w : World} {blk x b : Nat} {v : Value} (h : b ≠ blk) : (w.setCell ⟨blk,x,none⟩ v).heap[b]? = w.heap[b]?:=by
 simp only [World.setCell,Array.getElem?_modify]
 rw [if_neg (fun e=>h e.symm)]
theorem setCell_size {w : World} {a : Addr} {v : Value} : (w.setCell a v).heap.size = w.heap.size:=by simp [World.setCell]
theorem cell_cells {w : World} {blk x : Nat} {c : Array Value} {e : TypeId} {f : Nat × Nat} (h : w.heap[blk]? = some (.cells c e f)) : w.cell? ⟨blk,x,none⟩ = c[x]?:=by
 simp [World.cell?,h]
theorem cell_at {w : World} {blk x : Nat} {v : Value} (h : w.cell? ⟨blk,x,none⟩ = some v) : ∃ c e f,w.heap[blk]? = some (.cells c e f) ∧ c[x]? = some v:=by
 unfold World.cell? at h
 split at h
 ·rename_i c e f hb
  exact ⟨c,e,f,hb,by simpa using h⟩
 ·simp at h
theorem setCell_cell {w : World} {blk x y b : Nat} {v v0 : Value} (h : w.cell? ⟨blk,x,none⟩ = some v0) :
  (w.setCell ⟨blk,x,none⟩ v).cell? ⟨b,y,none⟩ = if b = blk ∧ y = x then some v else w.cell? ⟨b,y,none⟩:=by
 obtain ⟨c,e,f,hb,hx⟩:=cell_at h
 by_cases hbb : b = blk
 ·subst hbb
  rw [cell_cells (setCell_cells hb),cell_cells hb,Array.getElem?_setIfInBounds]
  have hlt : x < c.size:=(Array.getElem?_eq_some_iff.1 hx).1
  by_cases hy : y = x
  ·subst hy;simp [hlt]
  ·rw [if_neg (fun e=>hy e.symm),if_neg (fun e=>hy e.2)]
 ·rw [if_neg (fun e=>hbb e.1)]
  unfold World.cell?
  rw [setCell_other hbb]
theorem Evol.setCell (w : World) {X : CS} {blk x : Nat} {v : Value} (hX : X blk x) : Evol w X (w.setCell ⟨blk,x,none⟩ v):=by
 refine ⟨rfl,rfl,rfl,Nat.le_refl _,by rw [setCell_size];exact Nat.le_refl _,?_,?_⟩
 ·intro b _ hb
  exact setCell_other (fun e=>hb x (e ▸ hX))
 ·intro b y v0 hb hc
  by_cases hbb : b = blk
  ·subst hbb
   obtain ⟨c,e,f,h1,h2⟩:=cell_at hc
   rw [cell_cells (setCell_cells h1),Array.getElem?_setIfInBounds,if_neg (by rintro rfl;exact hb hX)]
   exact h2
  ·unfold World.cell? at hc ⊢
   rw [setCell_other hbb];exact hc
section
variable {w w' : World} {Z : CS} {m : List MB} {reg : Pl → Option Reg} {t : Nat → AV} {u : Nat → Value} {o : List Ob}
theorem Rel.mget (h : Rel w Z m reg t u o) {id : Nat} {x : Ob} (ho : o[id]? = some x) : ∃ mb,m[id]? = some mb:=by
 have : id < m.length:=by rw [h.len];exact (List.getElem?_eq_some_iff.1 ho).1
 exact ⟨_,List.getElem?_eq_getElem this⟩
theorem set_get {o : List Ob} {id j : Nat} {x y : Ob} (ho : o[id]? = some x) : (o.set id y)[j]? = if j = id then some y else o[j]?:=by
 rw [List.getElem?_set]
 have : id < o.length:=(List.getElem?_eq_some_iff.1 ho).1
 by_cases h : j = id
 ·subst h;simp [this]
 ·rw [if_neg (fun e=>h e.symm),if_neg h]
theorem Rel.store (h : Rel w Z m reg t u o) {id sz r c k : Nat} {rows : List (List AV)} {row : List AV} {mb : MB} {b x : Nat}
  (ho : o[id]? = some (.cells sz rows)) (hm : m[id]? = some mb) (hr : rows[r]? = some row) (hc : c < row.length) (hb : b = mb.blk) (hx : x = mb.base + r * mb.sz + c) :
  Rel (w.setCell ⟨b,x,none⟩ (u k)) Z m (fun p=>if p = .o id r c then reg (.t k) else if p = .t k then none else reg p)
   (upd t k (t k).dat) u (o.set id (.cells sz (rset rows r c (t k)))) ∧ Evol w (XS m reg o) (w.setCell ⟨b,x,none⟩ (u k)) ∧
   ∃ v0,w.cell? ⟨b,x,none⟩ = some v0 ∧ w.frozen? ⟨b,x,none⟩ = false:=by
 subst hb hx
 obtain ⟨hsz,⟨ca,el,hblk,hsize⟩,hrl,hcell⟩:=h.ob id _ mb ho hm
 have hrow:=hrl r row hr
 obtain ⟨v0,hv0,_⟩:=hcell r row c row[c] hr (List.getElem?_eq_getElem hc)
 rw [← hsz] at hv0
 have hXb : ∀ y,XS m reg o mb.blk y:=fun y=>.inl ⟨id,_,mb,ho,trivial,hm,rfl⟩
 have hE : Evol w (XS m reg o) (w.setCell ⟨mb.blk,mb.base + r * mb.sz + c,none⟩ (u k)):=Evol.setCell w (hXb _)
 refine ⟨?_,hE,v0,hv0,by simp [World.frozen?,hblk]⟩
 have hX : ∀ b y,XS m (fun p=>if p = .o id r c then reg (.t k) else if p = .t k then none else reg p) (o.set id (.cells sz (rset rows r c (t k)))) b y → XS m reg o b y:=by
  rintro b y (⟨j,ob,mb',h1,h2,h3,h4⟩ | ⟨p,rg,h1,h2⟩)
  ·rw [set_get ho] at h1
   split at h1
   ·rename_i e
    subst e
    exact .inl ⟨j,_,mb',ho,trivial,h3,h4⟩
   ·exact .inl ⟨j,ob,mb',h1,h2,h3,h4⟩
  ·simp only at h1
   split at h1
   ·exact .inr ⟨_,rg,h1,h2⟩
   ·split at h1
    ·simp at h1
    ·exact .inr ⟨_,rg,h1,h2⟩
 have K : Keeps w (YS Z m reg o) m (w.setCell ⟨mb.blk,mb.base + r * mb.sz + c,none⟩ (u k)) (YS Z m (fun p=>if p = .o id r c then reg (.t k) else if p = .t k then none else reg p) (o.set id (.cells sz (rset rows r c (t k))))) m :=
  ⟨fun b y v hcv hy=>⟨hE.cell b y v (fun k=>hy (.inl k)) hcv,fun k=>hy (k.imp (hX b y) (fun h=>h))⟩,fun _ _ h=>h⟩
 refine ⟨by simp [h.len],fun j=>?_,?_,?_,?_,?_,?_,?_,fun b y hz hy=>h.zx b y hz (hX b y hy),fun b y hz=>by rw [setCell_size];exact h.zs b y hz⟩
 ·unfold upd
  split
  ·rename_i e;subst e;exact V.keep K _ _ (V.dat _ _ (h.tv j))
  ·exact V.keep K _ _ (h.tv j)
 ·intro j ob mb' hoj hmj
  rw [set_get ho] at hoj
  split at hoj
  ·rename_i e
   subst e
   rw [hm] at hmj
   obtain rfl:=Option.some.inj hmj
   obtain rfl:=Option.some.inj hoj
   refine ⟨hsz,⟨_,el,setCell_cells hblk,by rw [rset_length];simpa using hsize⟩,?_,?_⟩
   ·intro i rw' hi
    rw [rset_get] at hi
    split at hi
    ·rename_i e;subst e
     simp only [hr,Option.map_some,Option.some.injEq] at hi
     rw [← hi];simpa using hrow
    ·exact hrl i rw' hi
   ·intro i rw' c' av hi hc'
    rw [rset_get] at hi
    rw [setCell_cell hv0]
    split at hi
    ·rename_i e;subst e
     simp only [hr,Option.map_some,Option.some.injEq] at hi
     subst hi
     rw [List.getElem?_set] at hc'
     split at hc'
     ·rename_i e;subst e
      simp only [hc,if_true,Option.some.injEq] at hc'
      subst hc'
      rw [if_pos ⟨rfl,by rw [hsz]⟩]
      exact ⟨_,rfl,V.keep K _ _ (h.tv k)⟩
     ·rename_i e
      obtain ⟨v1,g1,g2⟩:=hcell r row c' av hr hc'
      rw [if_neg (fun q=>e (by have:=q.2;rw [hsz] at this;omega))]
      exact ⟨v1,g1,V.keep K _ _ g2⟩
    ·rename_i e
     obtain ⟨v1,g1,g2⟩:=hcell i rw' c' av hi hc'
     have hl':=hrl i rw' hi
     have hlt : c' < sz:=by rw [← hl'];exact (List.getElem?_eq_some_iff.1 hc').1
     rw [if_neg (fun q=>e ((addr_inj (sz:=sz) (r:=i) (c:=c') (r':=r) (c':=c) hlt (by omega) (by have:=q.2;rw [hsz] at this;omega)).1.symm))]
     exact ⟨v1,g1,V.keep K _ _ g2⟩
  ·rename_i e
   refine Ob.keep K ob (fun hl=>setCell_other fun q=>e ?_) (h.ob j ob mb' hoj hmj)
   exact h.inj j id ob _ mb' mb hoj ho hl trivial hmj hm q
 ·intro i j x y a b hi hj lx ly ha hb e
  have f : ∀ {i : Nat} {x : Ob},(o.set id (Ob.cells sz (rset rows r c (t k))))[i]? = some x → x.live → ∃ x' : Ob,o[i]? = some x' ∧ x'.live:=by
   intro i x hi hl
   rw [set_get ho] at hi
   split at hi
   ·rename_i e;subst e;exact ⟨_,ho,trivial⟩
   ·exact ⟨x,hi,hl⟩
  obtain ⟨x',hx',lx'⟩:=f hi lx
  obtain ⟨y',hy',ly'⟩:=f hj ly
  exact h.inj i j x' y' a b hx' hy' lx' ly' ha hb e
 ·intro p rg hp
  rw [setCell_size]
  split at hp
  ·exact h.rok _ rg hp
  ·split at hp
   ·simp at hp
   ·exact h.rok _ rg hp
 ·intro p rg j x mb' hp hj hl hmj
  have : ∃ x' : Ob,o[j]? = some x' ∧ x'.live:=by
   rw [set_get ho] at hj
   split at hj
   ·rename_i e;subst e;exact ⟨_,ho,trivial⟩
   ·exact ⟨x,hj,hl⟩
  obtain ⟨x',hx',lx'⟩:=this
  split at hp
  ·exact h.rob _ rg j x' mb' hp hx' lx' hmj
  ·split at hp
   ·simp at hp
   ·exact h.rob _ rg j x' mb' hp hx' lx' hmj
 ·intro p q r1 s1 hpq hp hq
  by_cases p1 : p = .o id r c
  ·by_cases q1 : q = .o id r c
   ·exact absurd (p1.trans q1.symm) hpq
   ·rw [if_pos p1] at hp
    rw [if_neg q1] at hq
    split at hq
    ·simp at hq
    ·rename_i q2
     exact h.rdj _ q r1 s1 (fun e=>q2 e.symm) hp hq
  ·rw [if_neg p1] at hp
   split at hp
   ·simp at hp
   ·rename_i p2
    by_cases q1 : q = .o id r c
    ·rw [if_pos q1] at hq
     exact h.rdj p _ r1 s1 p2 hp hq
    ·rw [if_neg q1] at hq
     split at hq
     ·simp at hq
     ·exact h.rdj p q r1 s1 hpq hp hq
 ·-- owners
  have oa : ∀ {p : Pl} {rg : Option Reg} {sz n : Nat} {v : Value},OwnAt w rg sz n v → (reg p = rg) → OwnAt (w.setCell ⟨mb.blk,mb.base + r * mb.sz + c,none⟩ (u k)) rg sz n v:=by
   rintro p rg sz n v ⟨a,cap,h1,h2⟩ hp
   refine ⟨a,cap,h1,fun hn=>?_⟩
   obtain ⟨blk,off,lo,c1,e1,g1,g2,g3,g4,g5⟩:=h2 hn
   refine ⟨blk,off,lo,c1,e1,g1,g2,g3,?_,g5⟩
   rw [setCell_other]
   ·exact g4
   ·exact fun e=>h.rob p ⟨blk,lo⟩ id _ mb (hp.trans g2) ho trivial hm e.symm
  intro p sz' rows' v hl hv
  by_cases p1 : p = .o id r c
  ·subst p1
   rw [if_pos rfl]
   simp only [leaf,set_get ho,if_true,rset_get,hr,Option.map_some,Option.bind_some,List.getElem?_set,hc] at hl
   simp only [valAt,hm,Option.bind_some,setCell_cell hv0,true_and,if_true] at hv
   obtain rfl:=Option.some.inj hv
   exact oa (h.own (.t k) sz' rows' _ (by simp [leaf];simpa using hl) rfl) rfl
  ·rw [if_neg p1]
   by_cases p2 : p = .t k
   ·subst p2
    simp only [leaf,upd,if_true,Option.some.injEq] at hl
    have:=AV.dat_isOwn (t k)
    rw [hl] at this;simp [AV.isOwn] at this
   ·rw [if_neg p2]
    cases p with
    | t j =>
     refine oa (h.own (.t j) sz' rows' v ?_ hv) rfl
     simp only [leaf,upd] at hl ⊢
     rwa [if_neg (fun e=>p2 (by rw [e]))] at hl
    | o j r' c' =>
     have hl0 : leaf t o (.o j r' c') = some (.own sz' rows'):=by
      simp only [leaf,set_get ho] at hl ⊢
      by_cases e : j = id
      ·subst e
       simp only [if_true,rset_get] at hl
       simp only [ho]
       by_cases er : r = r'
       ·subst er
        simp only [if_true,hr,Option.map_some,Option.bind_some,List.getElem?_set] at hl ⊢
        rwa [if_neg (fun e=>p1 (by rw [e]))] at hl
       ·rwa [if_neg er] at hl
      ·rwa [if_neg e] at hl
     refine oa (h.own _ sz' rows' v hl0 ?_) rfl
     simp only [valAt] at hv ⊢
     cases hmj : m[j]? with
     | none=>simp [hmj] at hv
     | some mb' =>
      simp only [hmj,Option.bind_some,setCell_cell hv0] at hv ⊢
      split at hv
      ·rename_i q
       exfalso
       simp only [leaf] at hl0
       split at hl0
       ·rename_i sz2 rows2 hj
        have ej : j = id:=h.inj j id _ _ mb' mb hj ho trivial trivial hmj hm q.1
        subst ej
        rw [ho] at hj
        obtain ⟨rfl,rfl⟩:=Ob.cells.inj (Option.some.inj hj)
        rw [hm] at hmj
        obtain rfl:=Option.some.inj hmj
        cases hr' : rows[r']? with
        | none=>simp [hr'] at hl0
        | some row' =>
         simp only [hr',Option.bind_some] at hl0
         have hl':=hrl r' row' hr'
         have hlt : c' < sz:=by rw [← hl'];exact (List.getElem?_eq_some_iff.1 hl0).1
         obtain ⟨e1,e2⟩:=addr_inj (sz:=sz) (r:=r') (c:=c') (r':=r) (c':=c) hlt (by omega) (by have:=q.2;rw [hsz] at this;omega)
         exact p1 (by rw [e1,e2])
       ·simp at hl0
      ·exact hv
theorem Rel.take (h : Rel w Z m reg t u o) {id sz r c d : Nat} {rows : List (List AV)} {row : List AV} {mb : MB} {av : AV} {v : Value}
  (ho : o[id]? = some (.cells sz rows)) (hm : m[id]? = some mb) (hr : rows[r]? = some row) (hc : row[c]? = some av) (hv : w.cell? ⟨mb.blk,mb.base + r * mb.sz + c,none⟩ = some v) :
  Rel w Z m (fun p=>if p = .t d then reg (.o id r c) else if p = .o id r c then none else reg p) (upd t d av) (upd u d v) (o.set id (.cells sz (rset rows r c av.dat))):=by
 obtain ⟨hsz,⟨ca,el,hblk,hsize⟩,hrl,hcell⟩:=h.ob id _ mb ho hm
 have hrow:=hrl r row hr
 obtain ⟨v',hv',hV⟩:=hcell r row c av hr hc
 have : v' = v:=by rw [← hsz,hv] at hv';exact (Option.some.inj hv').symm
 subst this
 have hcl : c < row.length:=(List.getElem?_eq_some_iff.1 hc).1
 have hX : ∀ b y,XS m (fun p=>if p = .t d then reg (.o id r c) else if p = .o id r c then none else reg p) (o.set id (.cells sz (rset rows r c av.dat))) b y → XS m reg o b y:=by
  rintro b y (⟨j,ob,mb',h1,h2,h3,h4⟩ | ⟨p,rg,h1,h2⟩)
  ·rw [set_get ho] at h1
   split at h1
   ·rename_i e
    subst e
    exact .inl ⟨j,_,mb',ho,trivial,h3,h4⟩
   ·exact .inl ⟨j,ob,mb',h1,h2,h3,h4⟩
  ·simp only at h1
   split at h1
   ·exact .inr ⟨_,rg,h1,h2⟩
   ·split at h1
    ·simp at h1
    ·exact .inr ⟨_,rg,h1,h2⟩
 have K : Keeps w (YS Z m reg o) m w (YS Z m (fun p=>if p = .t d then reg (.o id r c) else if p = .o id r c then none else reg p) (o.set id (.cells sz (rset rows r c av.dat)))) m :=
  Keeps.sub m fun b y k=>k.imp (hX b y) (fun h=>h)
 refine ⟨by simp [h.len],fun j=>?_,?_,?_,?_,?_,?_,?_,fun b y hz hy=>h.zx b y hz (hX b y hy),h.zs⟩
 ·unfold upd
  split
  ·exact V.keep K _ _ hV
  ·exact V.keep K _ _ (h.tv j)
 ·intro j ob mb' hoj hmj
  rw [set_get ho] at hoj
  split at hoj
  ·rename_i e
   subst e
   rw [hm] at hmj
   obtain rfl:=Option.some.inj hmj
   obtain rfl:=Option.some.inj hoj
   refine ⟨hsz,⟨ca,el,hblk,by rw [rset_length];exact hsize⟩,?_,?_⟩
   ·intro i rw' hi
    rw [rset_get] at hi
    split at hi
    ·rename_i e;subst e
     simp only [hr,Option.map_some,Option.some.injEq] at hi
     rw [← hi];simpa using hrow
    ·exact hrl i rw' hi
   ·intro i rw' c' av' hi hc'
    rw [rset_get] at hi
    split at hi
    ·rename_i e;subst e
     simp only [hr,Option.map_some,Option.some.injEq] at hi
     subst hi
     rw [List.getElem?_set] at hc'
     split at hc'
     ·rename_i e;subst e
      simp only [hcl,if_true,Option.some.injEq] at hc'
      subst hc'
      exact ⟨_,hv',V.keep K _ _ (V.dat _ _ hV)⟩
     ·obtain ⟨v1,g1,g2⟩:=hcell r row c' av' hr hc'
      exact ⟨v1,g1,V.keep K _ _ g2⟩
    ·obtain ⟨v1,g1,g2⟩:=hcell i rw' c' av' hi hc'
     exact ⟨v1,g1,V.keep K _ _ g2⟩
  ·exact Ob.keep K ob (fun _=>rfl) (h.ob j ob mb' hoj hmj)
 ·intro i j x y a b hi hj lx ly ha hb e
  have f : ∀ {i : Nat} {x : Ob},(o.set id (Ob.cells sz (rset rows r c av.dat)))[i]? = some x → x.live → ∃ x' : Ob,o[i]? = some x' ∧ x'.live:=by
   intro i x hi hl
   rw [set_get ho] at hi
   split at hi
   ·rename_i e;subst e;exact ⟨_,ho,trivial⟩
   ·exact ⟨x,hi,hl⟩
  obtain ⟨x',hx',lx'⟩:=f hi lx
  obtain ⟨y',hy',ly'⟩:=f hj ly
  exact h.inj i j x' y' a b hx' hy' lx' ly' ha hb e
 ·intro p rg hp
  split at hp
  ·exact h.rok _ rg hp
  ·split at hp
   ·simp at hp
   ·exact h.rok _ rg hp
 ·intro p rg j x mb' hp hj hl hmj
  have : ∃ x' : Ob,o[j]? = some x' ∧ x'.live:=by
   rw [set_get ho] at hj
   split at hj
   ·rename_i e;subst e;exact ⟨_,ho,trivial⟩
   ·exact ⟨x,hj,hl⟩
  obtain ⟨x',hx',lx'⟩:=this
  split at hp
  ·exact h.rob _ rg j x' mb' hp hx' lx' hmj
  ·split at hp
   ·simp at hp
   ·exact h.rob _ rg j x' mb' hp hx' lx' hmj
 ·intro p q r1 s1 hpq hp hq
  by_cases p1 : p = .t d
  ·by_cases q1 : q = .t d
   ·exact absurd (p1.trans q1.symm) hpq
   ·rw [if_pos p1] at hp
    rw [if_neg q1] at hq
    split at hq
    ·simp at hq
    ·rename_i q2
     exact h.rdj _ q r1 s1 (fun e=>q2 e.symm) hp hq
  ·rw [if_neg p1] at hp
   split at hp
   ·simp at hp
   ·rename_i p2
    by_cases q1 : q = .t d
    ·rw [if_pos q1] at hq
     exact h.rdj p _ r1 s1 p2 hp hq
    ·rw [if_neg q1] at hq
     split at hq
     ·simp at hq
     ·exact h.rdj p q r1 s1 hpq hp hq
 ·intro p sz' rows' x hl hx
  by_cases p1 : p = .t d
  ·subst p1
   rw [if_pos rfl]
   simp only [leaf,valAt,upd,if_true,Option.some.injEq] at hl hx
   subst hl hx
   exact h.own (.o id r c) sz' rows' _ (by simp [leaf,ho,hr,hc]) (by simp [valAt,hm,hv])
  ·rw [if_neg p1]
   by_cases p2 : p = .o id r c
   ·subst p2
    simp only [leaf,set_get ho,if_true,rset_get,hr,Option.map_some,Option.bind_some,List.getElem?_set,hcl] at hl
    have:=AV.dat_isOwn av
    rw [Option.some.inj hl] at this;simp [AV.isOwn] at this
   ·rw [if_neg p2]
    cases p with
    | t j =>
     refine h.own (.t j) sz' rows' x ?_ ?_
     ·simp only [leaf,upd] at hl ⊢
      rwa [if_neg (fun e=>p1 (by rw [e]))] at hl
     ·simp only [valAt,upd] at hx ⊢
      rwa [if_neg (fun e=>p1 (by rw [e]))] at hx
    | o j r' c' =>
     refine h.own _ sz' rows' x ?_ hx
     simp only [leaf,set_get ho] at hl ⊢
     by_cases e : j = id
     ·subst e
      simp only [if_true,rset_get] at hl
      simp only [ho]
      by_cases er : r = r'
      ·subst er
       simp only [if_true,hr,Option.map_some,Option.bind_some,List.getElem?_set] at hl ⊢
       rwa [if_neg (fun e=>p2 (by rw [e]))] at hl
      ·rwa [if_neg er] at hl
     ·rwa [if_neg e] at hl
end
end Go.AW
namespace Go.AW
open Go
set_option linter.unusedSimpArgs false
set_option linter.unusedVariables false
section
variable {w w' : World} {Z : CS} {m : List MB} {reg : Pl → Option Reg} {t : Nat → AV} {u : Nat → Value} {o : List Ob}
theorem append_get {α : Type} (l : List α) (x : α) (j : Nat) : (l ++ [x])[j]? = if j = l.length then some x else l[j]?:=by
 rw [List.getElem?_append]
 split
 ·rename_i h;rw [if_neg (by omega)]
 ·rename_i h
  by_cases e : j = l.length
  ·subst e;simp
  ·rw [if_neg e,List.getElem?_eq_none (by simp only [List.length_cons,List.length_nil];omega),List.getElem?_eq_none (by omega)]
theorem push_get (w : World) (x : Obj) (b : Nat) : ({ w with heap:=w.heap.push x } : World).heap[b]? = if b = w.heap.size then some x else w.heap[b]?:=Array.getElem?_push
theorem get_lt {w : World} {b : Nat} {x : Obj} (h : w.heap[b]? = some x) : b < w.heap.size:=(Array.getElem?_eq_some_iff.1 h).1
theorem Rel.cellOf (h : Rel w Z m reg t u o) {id r c : Nat} {av : AV} (hl : leaf t o (.o id r c) = some av) :
  ∃ sz rows row mb v,o[id]? = some (.cells sz rows) ∧ rows[r]? = some row ∧ row[c]? = some av ∧ m[id]? = some mb ∧ mb.sz = sz ∧ w.cell? ⟨mb.blk,mb.base + r * mb.sz + c,none⟩ = some v ∧ V w (YS Z m reg o) m av v:=by
 simp only [leaf] at hl
 split at hl
 ·rename_i sz rows hid
  cases hr : rows[r]? with
  | none=>simp [hr] at hl
  | some row =>
   simp only [hr,Option.bind_some] at hl
   obtain ⟨mb,hm⟩:=h.mget hid
   obtain ⟨h1,_,_,h5⟩:=h.ob id _ mb hid hm
   obtain ⟨v,h6,h7⟩:=h5 r row c av hr hl
   exact ⟨sz,rows,row,mb,v,hid,hr,hl,hm,h1,by rw [h1];exact h6,h7⟩
 ·simp at hl
theorem Rel.new (h : Rel w Z m reg t u o) (x : Obj) (ob : Ob) (sz lim : Nat) (hl : ob.live)
  (hob : ∀ (w' : World) (Y' : CS) (m' : List MB),w' = { w with heap:=w.heap.push x } → Keeps w (YS Z m reg o) m w' Y' m' → ObR w' Y' m' ⟨w.heap.size,0,sz,lim⟩ ob)
  (hown : ∀ r c sz' rows,leaf t [ob] (.o 0 r c) = some (.own sz' rows) → rows = [] ∧ ∀ v,({ w with heap:=w.heap.push x } : World).cell? ⟨w.heap.size,0 + r * sz + c,none⟩ = some v → v = .slice none 0 0) :
  Rel { w with heap:=w.heap.push x } Z (m ++ [⟨w.heap.size,0,sz,lim⟩]) (fun p=>match p with | .o id _ _=>if id = o.length then none else reg p | p=>reg p) t u (o ++ [ob]):=by
 have g:=Grow.push w x
 have h':=h.grow g
 have hX : ∀ b y,XS (m ++ [⟨w.heap.size,0,sz,lim⟩]) (fun p=>match p with | .o id _ _=>if id = o.length then none else reg p | p=>reg p) (o ++ [ob]) b y → XS m reg o b y ∨ b = w.heap.size:=by
  rintro b y (⟨j,ob',mb',h1,h2,h3,h4⟩ | ⟨p,rg,h1,h2⟩)
  ·rw [append_get] at h1 h3
   rw [h.len] at h3
   split at h1
   ·rename_i e
    rw [if_pos e] at h3
    obtain rfl:=Option.some.inj h3
    exact .inr h4.symm
   ·rename_i e
    rw [if_neg e] at h3
    exact .inl (.inl ⟨j,ob',mb',h1,h2,h3,h4⟩)
  ·have : reg p = some rg:=by
    cases p with
    | t k=>exact h1
    | o id r c =>
     simp only at h1
     split at h1
     ·simp at h1
     ·exact h1
   exact .inl (.inr ⟨p,rg,this,h2⟩)
 have hmm : ∀ (id : Nat) (mb : MB),m[id]? = some mb → (m ++ [⟨w.heap.size,0,sz,lim⟩])[id]? = some mb:=by
  intro id mb hm
  have : id < m.length:=(List.getElem?_eq_some_iff.1 hm).1
  rw [append_get,if_neg (by omega)];exact hm
 have K : Keeps w (YS Z m reg o) m { w with heap:=w.heap.push x } (YS Z (m ++ [⟨w.heap.size,0,sz,lim⟩]) (fun p=>match p with | .o id _ _=>if id = o.length then none else reg p | p=>reg p) (o ++ [ob])) (m ++ [⟨w.heap.size,0,sz,lim⟩]):=by
  refine ⟨fun b y v hc hy=>⟨g.cell hc,?_⟩,hmm⟩
  rintro (k | k)
  ·rcases hX b y k with k | k
   ·exact hy (.inl k)
   ·have:=cell_lt hc;omega
  ·exact hy (.inr k)
 have nlt : ∀ (id : Nat) (x : Ob),o[id]? = some x → id ≠ o.length:=fun id x hx=>by have:=(List.getElem?_eq_some_iff.1 hx).1;omega
 refine ⟨by simp [h.len],fun k=>V.keep K _ _ (h.tv k),?_,?_,?_,?_,?_,?_,?_,fun b y hz=>h'.zs b y hz⟩
 ·intro id y mb hy hm
  rw [append_get] at hy hm
  rw [h.len] at hm
  split at hy
  ·rename_i e
   rw [if_pos e] at hm
   obtain rfl:=Option.some.inj hm
   obtain rfl:=Option.some.inj hy
   exact hob _ _ _ rfl K
  ·rename_i e
   rw [if_neg e] at hm
   exact Ob.keep K y (fun hl=>by rw [push_get,if_neg (by have:=h.blk hy hl hm;omega)]) (h.ob id y mb hy hm)
 ·intro i j y z a b hi hj ly lz ha hb e
  rw [append_get] at hi hj ha hb
  rw [h.len] at ha hb
  split at hi
  ·rename_i ei
   rw [if_pos ei] at ha
   obtain rfl:=Option.some.inj ha
   split at hj
   ·omega
   ·rename_i ej
    rw [if_neg ej] at hb
    have:=h.blk hj lz hb
    simp only at e;omega
  ·rename_i ei
   rw [if_neg ei] at ha
   split at hj
   ·rename_i ej
    rw [if_pos ej] at hb
    obtain rfl:=Option.some.inj hb
    have:=h.blk hi ly ha
    simp only at e;omega
   ·rename_i ej
    rw [if_neg ej] at hb
    exact h.inj i j y z a b hi hj ly lz ha hb e
 ·intro p rg hp
  have : reg p = some rg:=by
   cases p with
   | t k=>exact hp
   | o id r c =>
    simp only at hp
    split at hp
    ·simp at hp
    ·exact hp
  exact Nat.lt_of_lt_of_le (h.rok p rg this) g.size
 ·intro p rg j y mb' hp hj hly hmj
  have hp' : reg p = some rg:=by
   cases p with
   | t k=>exact hp
   | o id r c =>
    simp only at hp
    split at hp
    ·simp at hp
    ·exact hp
  rw [append_get] at hj hmj
  rw [h.len] at hmj
  split at hj
  ·rename_i e
   rw [if_pos e] at hmj
   obtain rfl:=Option.some.inj hmj
   have:=h.rok p rg hp'
   simp only;omega
  ·rename_i e
   rw [if_neg e] at hmj
   exact h.rob p rg j y mb' hp' hj hly hmj
 ·intro p q r s hpq hp hq
  have f : ∀ {p : Pl} {r : Reg},(match p with | .o id _ _=>if id = o.length then none else reg p | p=>reg p) = some r → reg p = some r:=by
   intro p r hp
   cases p with
   | t k=>exact hp
   | o id r c =>
    simp only at hp
    split at hp
    ·simp at hp
    ·exact hp
  exact h.rdj p q r s hpq (f hp) (f hq)
 ·intro p sz' rows v hl hv
  have oa : ∀ {rg : Option Reg} {sz n : Nat} {v : Value},OwnAt w rg sz n v → OwnAt { w with heap:=w.heap.push x } rg sz n v:=by
   rintro rg sz n v ⟨a,cap,h1,h2⟩
   refine ⟨a,cap,h1,fun hn=>?_⟩
   obtain ⟨blk,off,lo,c1,e1,g1,g2,g3,g4,g5⟩:=h2 hn
   exact ⟨blk,off,lo,c1,e1,g1,g2,g3,g.obj g4,g5⟩
  cases p with
  | t k=>exact oa (h.own (.t k) sz' rows v hl hv)
  | o id r c =>
   simp only [leaf,append_get] at hl
   by_cases e : id = o.length
   ·rw [if_pos e] at hl
    obtain ⟨rfl,hv2⟩:=hown r c sz' rows (by simpa [leaf] using hl)
    simp only [valAt,append_get,h.len,if_pos e,Option.bind_some] at hv
    rw [hv2 v hv]
    exact ⟨none,0,rfl,fun h=>by simp at h⟩
   ·rw [if_neg e] at hl
    simp only [if_neg e]
    have hl' : leaf t o (.o id r c) = some (.own sz' rows):=by simpa [leaf] using hl
    obtain ⟨sz2,rows2,row2,mb2,v2,q1,q2,q3,q4,q5,q6,q7⟩:=h.cellOf hl'
    simp only [valAt,hmm _ _ q4,Option.bind_some,g.cell q6,Option.some.injEq] at hv
    exact oa (h.own _ sz' rows v hl' (by simp only [valAt,q4,Option.bind_some,q6,hv]))
 ·intro b y hz hx
  rcases hX b y hx with k | k
  ·exact h.zx b y hz k
  ·have:=h.zs b y hz;omega
theorem upd_self {α : Type} (f : Nat → α) (k : Nat) : upd f k (f k) = f:=by
 funext j;unfold upd;split
 ·rename_i e;rw [e]
 ·rfl
theorem Rel.fresh (h : Rel w Z m reg t u o) (d : Nat) {c : Array Value} {e : TypeId} {sz cap : Nat} {rows : List (List AV)}
  (hcap : rows.length ≤ cap) (hmax : cap ≤ maxLen) (hsz : cap * sz ≤ c.size)
  (hrs : ∀ (w' : World) (Y' : CS),w' = { w with heap:=w.heap.push (.cells c e (0,0)) } → (∀ b x,Y' b x → YS Z m reg o b x ∨ (b = w.heap.size ∧ rows.length * sz ≤ x)) → Rs w' Y' sz w.heap.size 0 rows) :
  Rel { w with heap:=w.heap.push (.cells c e (0,0)) } Z m (fun p=>if p = .t d then some ⟨w.heap.size,rows.length * sz⟩ else reg p)
   (upd t d (.own sz rows)) (upd u d (.slice (some ⟨w.heap.size,0,none⟩) rows.length cap)) o:=by
 have g:=Grow.push w (.cells c e (0,0))
 have h':=h.grow g
 have hX : ∀ b y,XS m (fun p=>if p = .t d then some ⟨w.heap.size,rows.length * sz⟩ else reg p) o b y → XS m reg o b y ∨ (b = w.heap.size ∧ rows.length * sz ≤ y):=by
  rintro b y (k | ⟨p,rg,h1,h2⟩)
  ·exact .inl (.inl k)
  ·simp only at h1
   split at h1
   ·obtain rfl:=Option.some.inj h1
    exact .inr ⟨h2.1.symm,h2.2⟩
   ·exact .inl (.inr ⟨p,rg,h1,h2⟩)
 have hY : ∀ b y,YS Z m (fun p=>if p = .t d then some ⟨w.heap.size,rows.length * sz⟩ else reg p) o b y → YS Z m reg o b y ∨ (b = w.heap.size ∧ rows.length * sz ≤ y):=by
  rintro b y (k | k)
  ·exact (hX b y k).imp .inl (fun h=>h)
  ·exact .inl (.inr k)
 have K : Keeps w (YS Z m reg o) m { w with heap:=w.heap.push (.cells c e (0,0)) } (YS Z m (fun p=>if p = .t d then some ⟨w.heap.size,rows.length * sz⟩ else reg p) o) m:=by
  refine ⟨fun b y v hc hy=>⟨g.cell hc,fun k=>?_⟩,fun _ _ h=>h⟩
  rcases hY b y k with k | k
  ·exact hy k
  ·have:=cell_lt hc;omega
 refine ⟨h.len,?_,fun id x mb ho hm=>Ob.keep K x (fun hl=>by rw [push_get,if_neg (by have:=h.blk ho hl hm;omega)]) (h.ob id x mb ho hm),h.inj,?_,?_,?_,?_,?_,fun b y hz=>h'.zs b y hz⟩
 ·intro k
  unfold upd
  split
  ·simp only [V]
   exact ⟨_,cap,rfl,hcap,hmax,.inr ⟨_,_,rfl,hrs _ _ rfl hY⟩⟩
  ·exact V.keep K _ _ (h.tv k)
 ·intro p rg hp
  split at hp
  ·obtain rfl:=Option.some.inj hp
   simp
  ·exact Nat.lt_of_lt_of_le (h.rok p rg hp) g.size
 ·intro p rg id x mb hp ho hl hm
  split at hp
  ·obtain rfl:=Option.some.inj hp
   have:=h.blk ho hl hm
   simp only;omega
  ·exact h.rob p rg id x mb hp ho hl hm
 ·intro p q r s hpq hp hq
  split at hp
  ·rename_i e1
   split at hq
   ·rename_i e2;exact absurd (e1.trans e2.symm) hpq
   ·obtain rfl:=Option.some.inj hp
    have:=h.rok q s hq
    simp only;omega
  ·split at hq
   ·obtain rfl:=Option.some.inj hq
    have:=h.rok p r hp
    simp only;omega
   ·exact h.rdj p q r s hpq hp hq
 ·intro p sz' rows' v hl hv
  by_cases e1 : p = .t d
  ·subst e1
   rw [if_pos rfl]
   simp only [leaf,valAt,upd,if_true,Option.some.injEq,AV.own.injEq] at hl hv
   obtain ⟨rfl,rfl⟩:=hl
   subst hv
   exact ⟨_,cap,rfl,fun _=>⟨_,0,_,c,e,rfl,rfl,by omega,by rw [push_get,if_pos rfl],by omega⟩⟩
  ·rw [if_neg e1]
   refine h'.own p sz' rows' v ?_ ?_
   ·cases p with
    | t k=>simp only [leaf,upd] at hl ⊢;rwa [if_neg (fun e=>e1 (by rw [e]))] at hl
    | o id r c=>exact hl
   ·cases p with
    | t k=>simp only [valAt,upd] at hv ⊢;rwa [if_neg (fun e=>e1 (by rw [e]))] at hv
    | o id r c=>exact hv
 ·intro b y hz hx
  rcases hX b y hx with k | k
  ·exact h.zx b y hz k
  ·have:=h.zs b y hz;omega
theorem Rs.mk {w : World} {Y : CS} {sz : Nat} : ∀ (rows : List (List AV)) (blk off : Nat),(∀ (r : Nat) row,rows[r]? = some row → row.length = sz) →
  (∀ (r : Nat) row (c : Nat) av,rows[r]? = some row → row[c]? = some av → ∃ v,w.cell? ⟨blk,off + r * sz + c,none⟩ = some v ∧ ¬ Y blk (off + r * sz + c) ∧ Value.flat v = true ∧ V w Y [] av v) → Rs w Y sz blk off rows
 | [],_,_,_,_=>by simp only [Rs]
 | row :: rest,blk,off,hl,hc=>by
  simp only [Rs]
  refine ⟨hl 0 row rfl,?_,Rs.mk rest blk (off + sz) (fun r row h=>hl (r + 1) row h) (fun r row c av h k=>?_)⟩
  ·have key : ∀ (l : List AV) (x : Nat),(∀ (c : Nat) av,l[c]? = some av → ∃ v,w.cell? ⟨blk,x + c,none⟩ = some v ∧ ¬ Y blk (x + c) ∧ Value.flat v = true ∧ V w Y [] av v) → Cs w Y blk x l:=by
    intro l
    induction l with
    | nil=>intro x _;simp only [Cs]
    | cons a l ih =>
     intro x hh
     simp only [Cs]
     refine ⟨hh 0 a rfl,ih (x + 1) fun c av hcav=>?_⟩
     have:=hh (c + 1) av hcav
     rwa [show x + (c + 1) = x + 1 + c by omega] at this
   exact key row off fun c av h=>by have:=hc 0 row c av rfl h;simpa using this
  ·have:=hc (r + 1) row c av h k
   rwa [show off + (r + 1) * sz + c = off + sz + r * sz + c by rw [Nat.add_mul];omega] at this
theorem Cs.get {w : World} {Y : CS} {blk : Nat} : ∀ {l : List AV} {off : Nat},Cs w Y blk off l → ∀ (c : Nat) av,l[c]? = some av → ∃ v,w.cell? ⟨blk,off + c,none⟩ = some v ∧ ¬ Y blk (off + c) ∧ Value.flat v = true ∧ V w Y [] av v
 | [],_,_,c,av,h=>by simp at h
 | a :: l,off,h,c,av,hc=>by
  simp only [Cs] at h
  cases c with
  | zero=>simp only [List.getElem?_cons_zero,Option.some.injEq] at hc;subst hc;simpa using h.1
  | succ c =>
   have:=Cs.get h.2 c av (by simpa using hc)
   rwa [show off + 1 + c = off + (c + 1) by omega] at this
theorem Rs.get {w : World} {Y : CS} {sz blk : Nat} : ∀ {rows : List (List AV)} {off : Nat},Rs w Y sz blk off rows → ∀ (r : Nat) row,rows[r]? = some row → row.length = sz ∧ Cs w Y blk (off + r * sz) row
 | [],_,_,r,row,h=>by simp at h
 | a :: l,off,h,r,row,hr=>by
  simp only [Rs] at h
  cases r with
  | zero=>simp only [List.getElem?_cons_zero,Option.some.injEq] at hr;subst hr;simpa using ⟨h.1,h.2.1⟩
  | succ r =>
   have:=Rs.get h.2.2 r row (by simpa using hr)
   rwa [show off + sz + r * sz = off + (r + 1) * sz by rw [Nat.add_mul];omega] at this
end
end Go.AW
namespace Go.AW
open Go
set_option linter.unusedSimpArgs false
set_option linter.unusedVariables false
def AV.plain : AV → Bool
 | .any | .agg _ | .tup _ | .gd _ _=>false
 | _=>true
theorem plain_flat {w : World} {Y : CS} {m : List MB} {av : AV} {v : Value} (h : V w Y m av v) (hp : av.plain = true) : Value.flat v = true ∧ v.cells = #[v]:=by
 have h0:=h
 cases av<;>simp [AV.plain] at hp<;>simp only [V] at h0
 all_goals first
  | (subst h0;exact ⟨rfl,rfl⟩)
  | (obtain ⟨_,_,rfl,_⟩:=h0;exact ⟨rfl,rfl⟩)
  | (obtain ⟨_,_,_,_,rfl,_⟩:=h0;exact ⟨rfl,rfl⟩)
  | (obtain ⟨_,_,rfl⟩:=h0;exact ⟨rfl,rfl⟩)
  | (obtain ⟨_,rfl,_⟩:=h0;exact ⟨rfl,rfl⟩)
def putCells (w : World) (blk : Nat) : Nat → List Value → World
 | _,[]=>w
 | x,v :: r=>putCells (w.setCell ⟨blk,x,none⟩ v) blk (x + 1) r
theorem putCells_drawn : ∀ (vs : List Value) (w : World) (blk x : Nat),(putCells w blk x vs).drawn = w.drawn
 | [],_,_,_=>rfl
 | v :: r,w,blk,x=>by rw [putCells,putCells_drawn r];rfl
theorem putCells_spec : ∀ (vs : List Value) (w : World) (blk x : Nat) (c : Array Value) (e : TypeId) (f : Nat × Nat),w.heap[blk]? = some (.cells c e f) → x + vs.length ≤ c.size →
  (∃ c',(putCells w blk x vs).heap[blk]? = some (.cells c' e f) ∧ c'.size = c.size ∧ ∀ y,c'[y]? = if x ≤ y ∧ y < x + vs.length then vs[y - x]? else c[y]?) ∧
  (putCells w blk x vs).heap.size = w.heap.size ∧ (∀ b,b ≠ blk → (putCells w blk x vs).heap[b]? = w.heap[b]?) ∧ (putCells w blk x vs).os = w.os ∧ (putCells w blk x vs).tape = w.tape ∧ (putCells w blk x vs).output = w.output
 | [],w,blk,x,c,e,f,h,_=>by
  refine ⟨⟨c,h,rfl,fun y=>?_⟩,rfl,fun _ _=>rfl,rfl,rfl,rfl⟩
  rw [if_neg (by simp only [List.length_nil];omega)]
 | v :: r,w,blk,x,c,e,f,h,hs=>by
  simp only [List.length_cons] at hs
  obtain ⟨⟨c',h1,h2,h3⟩,h4,h5,h6,h7,h8⟩:=putCells_spec r (w.setCell ⟨blk,x,none⟩ v) blk (x + 1) _ e f (setCell_cells h) (by simp;omega)
  simp only [putCells]
  refine ⟨⟨c',h1,by simpa using h2,fun y=>?_⟩,by rw [h4,setCell_size],fun b hb=>by rw [h5 b hb,setCell_other hb],h6,h7,h8⟩
  rw [h3 y]
  simp only [List.length_cons]
  by_cases e1 : y = x
  ·subst e1
   rw [if_neg (by omega),if_pos (by omega),Array.getElem?_setIfInBounds]
   simp;omega
  ·by_cases e2 : x + 1 ≤ y ∧ y < x + 1 + r.length
   ·rw [if_pos e2,if_pos (by omega),show y - x = (y - (x + 1)) + 1 by omega,List.getElem?_cons_succ]
   ·rw [if_neg e2,if_neg (by omega),Array.getElem?_setIfInBounds,if_neg (fun e=>e1 e.symm)]
theorem V.bare {w : World} {Y : CS} {m : List MB} {a : AV} {v : Value} (h : a.ltk 0 = true) (hv : V w Y m a v) : V w Y [] a v:=by
 simpa using V.ltk 0 a v h hv
theorem Rs.append {w : World} {Y : CS} {sz : Nat} : ∀ (a b : List (List AV)) (blk off : Nat),Rs w Y sz blk off a → Rs w Y sz blk (off + a.length * sz) b → Rs w Y sz blk off (a ++ b)
 | [],b,blk,off,_,h=>by simpa using h
 | r :: a,b,blk,off,h,k=>by
  simp only [Rs,List.cons_append] at h ⊢
  refine ⟨h.1,h.2.1,Rs.append a b blk (off + sz) h.2.2 ?_⟩
  simp only [List.length_cons] at k
  rwa [show off + (a.length + 1) * sz = off + sz + a.length * sz by rw [Nat.add_mul];omega] at k
section
variable {w w' : World} {Z : CS} {m : List MB} {reg : Pl → Option Reg} {t : Nat → AV} {u : Nat → Value} {o : List Ob}
theorem Rel.appendIn (h : Rel w Z m reg t u o) {k d sz cap : Nat} {rows nr : List (List AV)} {a : Option Addr} {vs : List Value}
  (hk : t k = .own sz rows) (hu : u k = .slice a rows.length cap) (hfit : rows.length + nr.length ≤ cap) (hq : nr ≠ [])
  (hlen : vs.length = nr.length * sz) (hrl : ∀ (r : Nat) row,nr[r]? = some row → row.length = sz)
  (hval : ∀ (r : Nat) row (c : Nat) av,nr[r]? = some row → row[c]? = some av → ∃ v,vs[r * sz + c]? = some v ∧ Value.flat v = true ∧ V w (YS Z m reg o) [] av v) :
  ∃ blk off reg',a = some ⟨blk,off,none⟩ ∧
   Rel (putCells w blk (off + rows.length * sz) vs) Z m reg' (upd (upd t k (t k).dat) d (.own sz (rows ++ nr))) (upd u d (.slice a (rows.length + nr.length) cap)) o ∧
   Evol w (XS m reg o) (putCells w blk (off + rows.length * sz) vs) ∧
   (∃ c e,w.heap[blk]? = some (.cells c e (0,0)) ∧ off + cap * sz ≤ c.size) ∧ (∀ b x,XS m reg' o b x → XS m reg o b x):=by
 have hnr : 0 < nr.length:=List.length_pos_iff.2 hq
 obtain ⟨a',cap',e1,hown⟩:=h.own (.t k) sz rows (u k) (by simp [leaf,hk]) rfl
 rw [hu] at e1
 obtain ⟨rfl,_,rfl⟩:=Value.slice.inj e1
 obtain ⟨blk,off,lo,c,e,rfl,hreg,hlo,hblk,hcs⟩:=hown (by omega)
 have hX0 : ∀ x,off + rows.length * sz ≤ x → XS m reg o blk x:=fun x hx=>.inr ⟨.t k,_,hreg,rfl,by simp only;omega⟩
 have hmul : (rows.length + nr.length) * sz = rows.length * sz + nr.length * sz:=Nat.add_mul _ _ _
 have hle : (rows.length + nr.length) * sz ≤ cap * sz:=Nat.mul_le_mul_right _ hfit
 obtain ⟨⟨c',g1,g2,g3⟩,g4,g5,g6,g7,g8⟩:=putCells_spec vs w blk (off + rows.length * sz) c e (0,0) hblk (by omega)
 have hE : Evol w (XS m reg o) (putCells w blk (off + rows.length * sz) vs):=by
  refine ⟨g6,g7,g8,by rw [putCells_drawn];exact Nat.le_refl _,by rw [g4];exact Nat.le_refl _,fun b hb hx=>g5 b (fun e=>hx _ (e ▸ hX0 (off + rows.length * sz) (Nat.le_refl _))),fun b x v hx hc=>?_⟩
  by_cases eb : b = blk
  ·subst eb
   rw [cell_cells g1,g3,if_neg (fun q=>hx (hX0 x q.1))]
   rwa [cell_cells hblk] at hc
  ·unfold World.cell? at hc ⊢
   rw [g5 b eb];exact hc
 let reg' : Pl → Option Reg:=fun p=>if p = .t d then some ⟨blk,off + (rows.length + nr.length) * sz⟩ else if p = .t k then none else reg p
 have hX : ∀ b x,XS m reg' o b x → XS m reg o b x:=by
  rintro b x (q | ⟨p,rg,h1,h2⟩)
  ·exact .inl q
  ·simp only [reg'] at h1
   split at h1
   ·obtain rfl:=Option.some.inj h1
    obtain ⟨rfl,h3⟩:=h2
    exact hX0 x (by simp only at h3;omega)
   ·split at h1
    ·simp at h1
    ·exact .inr ⟨p,rg,h1,h2⟩
 have K : Keeps w (YS Z m reg o) m (putCells w blk (off + rows.length * sz) vs) (YS Z m reg' o) m :=
  ⟨fun b x v hc hy=>⟨hE.cell b x v (fun q=>hy (.inl q)) hc,fun q=>hy (q.imp (hX b x) (fun h=>h))⟩,fun _ _ h=>h⟩
 have hZX : ∀ x,off + rows.length * sz ≤ x → x < off + (rows.length + nr.length) * sz → ¬ YS Z m reg' o blk x:=by
  rintro x h1 h2 (q | q)
  ·rcases q with ⟨id,ob,mb,q1,q2,q3,q4⟩ | ⟨p,rg,q1,q2,q3⟩
   ·exact h.rob (.t k) _ id ob mb hreg q1 q2 q3 q4
   ·simp only [reg'] at q1
    split at q1
    ·obtain rfl:=Option.some.inj q1
     simp only at q3;omega
    ·split at q1
     ·simp at q1
     ·rename_i e2
      exact h.rdj p (.t k) rg _ e2 q1 hreg q2
  ·exact h.zx _ _ q (hX0 x h1)
 have oa : ∀ {p : Pl} {sz' n : Nat} {v : Value},p ≠ .t k → OwnAt w (reg p) sz' n v → OwnAt (putCells w blk (off + rows.length * sz) vs) (reg p) sz' n v:=by
  rintro p sz' n v hp ⟨a,cap',h1,h2⟩
  refine ⟨a,cap',h1,fun hn=>?_⟩
  obtain ⟨blk',off',lo',c1,e1,q1,q2,q3,q4,q5⟩:=h2 hn
  refine ⟨blk',off',lo',c1,e1,q1,q2,q3,?_,q5⟩
  rw [g5]
  ·exact q4
  ·exact h.rdj p (.t k) _ _ hp q2 hreg
 refine ⟨blk,off,reg',rfl,?_,hE,⟨c,e,hblk,hcs⟩,hX⟩
 refine ⟨h.len,fun j=>?_,fun id x mb ho hm=>Ob.keep K x (fun hl=>g5 _ (h.rob (.t k) _ id x mb hreg ho hl hm)) (h.ob id x mb ho hm),h.inj,?_,?_,?_,?_,fun b x hz q=>h.zx b x hz (hX b x q),fun b x hz=>by rw [g4];exact h.zs b x hz⟩
 ·unfold upd
  split
  ·have:=h.tv k
   rw [hk,hu] at this
   simp only [V] at this ⊢
   obtain ⟨a1,cap1,e1,e2,e3,e4⟩:=this
   obtain ⟨rfl,_,rfl⟩:=Value.slice.inj e1
   refine ⟨_,_,by rw [List.length_append],by rw [List.length_append];exact hfit,e3,.inr ⟨blk,off,rfl,?_⟩⟩
   refine Rs.append rows nr blk off ?_ ?_
   ·rcases e4 with e4 | ⟨b1,o1,e5,e6⟩
    ·subst e4;simp only [Rs]
    ·obtain ⟨rfl,rfl,_⟩:=Addr.mk.inj (Option.some.inj e5)
     exact Rs.keep K.bare _ _ _ _ e6
   ·refine Rs.mk nr blk _ hrl fun r row c1 av hr hc1=>?_
    obtain ⟨v,q1,qf,q2⟩:=hval r row c1 av hr hc1
    have hi : r * sz + c1 < vs.length:=(List.getElem?_eq_some_iff.1 q1).1
    have hidx : off + rows.length * sz + r * sz + c1 - (off + rows.length * sz) = r * sz + c1:=by omega
    refine ⟨v,?_,hZX _ (by omega) (by omega),qf,V.keep K.bare _ _ q2⟩
    rw [cell_cells g1,g3,if_pos (by omega),hidx]
    exact q1
  ·split
   ·rename_i e;subst e;exact V.keep K _ _ (V.dat _ _ (h.tv j))
   ·exact V.keep K _ _ (h.tv j)
 ·intro p rg hp
  rw [g4]
  simp only [reg'] at hp
  split at hp
  ·obtain rfl:=Option.some.inj hp
   exact (h.rok _ _ hreg : blk < w.heap.size)
  ·split at hp
   ·simp at hp
   ·exact h.rok p rg hp
 ·intro p rg id x mb hp ho hl hm
  simp only [reg'] at hp
  split at hp
  ·obtain rfl:=Option.some.inj hp
   have q:=h.rob _ _ id x mb hreg ho hl hm
   exact q
  ·split at hp
   ·simp at hp
   ·exact h.rob p rg id x mb hp ho hl hm
 ·intro p q r s hpq hp hq
  simp only [reg'] at hp hq
  split at hp
  ·rename_i e1
   split at hq
   ·rename_i e2;exact absurd (e1.trans e2.symm) hpq
   ·obtain rfl:=Option.some.inj hp
    split at hq
    ·simp at hq
    ·rename_i e3
     have q1:=h.rdj (.t k) q _ s (fun e=>e3 e.symm) hreg hq
     exact q1
  ·split at hp
   ·simp at hp
   ·rename_i e3
    split at hq
    ·obtain rfl:=Option.some.inj hq
     have q1:=h.rdj p (.t k) r _ e3 hp hreg
     exact q1
    ·split at hq
     ·simp at hq
     ·exact h.rdj p q r s hpq hp hq
 ·intro p sz' rows' v hl hv
  by_cases e1 : p = .t d
  ·subst e1
   simp only [leaf,valAt,upd,if_true,Option.some.injEq,AV.own.injEq] at hl hv
   obtain ⟨rfl,rfl⟩:=hl
   subst hv
   refine ⟨_,cap,by rw [List.length_append],fun _=>⟨blk,off,_,c',e,rfl,by simp only [reg',if_true];rfl,?_,g1,by omega⟩⟩
   rw [List.length_append];exact Nat.le_refl _
  ·simp only [reg',if_neg e1]
   by_cases e2 : p = .t k
   ·subst e2
    simp only [leaf,upd] at hl
    rw [if_neg (fun e=>e1 (by rw [e]))] at hl
    simp only [if_true] at hl
    have:=AV.dat_isOwn (t k)
    rw [Option.some.inj hl] at this;simp [AV.isOwn] at this
   ·rw [if_neg e2]
    refine oa e2 ?_
    cases p with
    | t j =>
     refine h.own (.t j) sz' rows' v ?_ ?_
     ·simp only [leaf,upd] at hl ⊢
      rwa [if_neg (fun e=>e1 (by rw [e])),if_neg (fun e=>e2 (by rw [e]))] at hl
     ·simp only [valAt,upd] at hv ⊢
      rwa [if_neg (fun e=>e1 (by rw [e]))] at hv
    | o id r c1 =>
     obtain ⟨sz2,rows2,row2,mb2,v2,q1,q2,q3,q4,q5,q6,q7⟩:=h.cellOf hl
     refine h.own _ sz' rows' v hl ?_
     have : mb2.blk ≠ blk:=h.rob (.t k) _ id _ mb2 hreg q1 trivial q4
     simp only [valAt,q4,Option.bind_some] at hv ⊢
     unfold World.cell? at hv ⊢
     rwa [g5 _ this] at hv
end
theorem Rel.freeze {w : World} {Z : CS} {m : List MB} {reg : Pl → Option Reg} {t : Nat → AV} {u : Nat → Value} {o : List Ob} (h : Rel w Z m reg t u o) {id sz : Nat} {rows : List (List AV)}
  (ho : o[id]? = some (.cells sz rows)) (hrows : ∀ (r : Nat) row (c : Nat) av,rows[r]? = some row → row[c]? = some av → av.ltk 0 = true ∧ av.isOwn = false ∧ av.plain = true) :
  Rel w Z m (fun p=>match p with | .o j _ _=>if j = id then none else reg p | p=>reg p) t u (o.set id (.frz sz rows)) ∧
  (∀ mb,m[id]? = some mb → ∀ x,¬ YS Z m (fun p=>match p with | .o j _ _=>if j = id then none else reg p | p=>reg p) (o.set id (.frz sz rows)) mb.blk x) ∧
  (∀ b x,XS m (fun p=>match p with | .o j _ _=>if j = id then none else reg p | p=>reg p) (o.set id (.frz sz rows)) b x → XS m reg o b x):=by
 have hsub : ∀ p rg,(match p with | .o j _ _=>if j = id then none else reg p | p=>reg p) = some rg → reg p = some rg:=by
  intro p rg hp
  cases p with
  | t k=>exact hp
  | o j r c =>
   simp only at hp
   split at hp
   ·simp at hp
   ·exact hp
 have hX : ∀ b y,XS m (fun p=>match p with | .o j _ _=>if j = id then none else reg p | p=>reg p) (o.set id (.frz sz rows)) b y → XS m reg o b y:=by
  rintro b y (⟨j,ob,mb',h1,h2,h3,h4⟩ | ⟨p,rg,h1,h2⟩)
  ·rw [set_get ho] at h1
   split at h1
   ·obtain rfl:=Option.some.inj h1
    exact h2.elim
   ·exact .inl ⟨j,ob,mb',h1,h2,h3,h4⟩
  ·exact .inr ⟨p,rg,hsub p rg h1,h2⟩
 have K : Keeps w (YS Z m reg o) m w (YS Z m (fun p=>match p with | .o j _ _=>if j = id then none else reg p | p=>reg p) (o.set id (.frz sz rows))) m :=
  Keeps.sub m fun b y k=>k.imp (hX b y) (fun h=>h)
 have hfree : ∀ mb,m[id]? = some mb → ∀ x,¬ YS Z m (fun p=>match p with | .o j _ _=>if j = id then none else reg p | p=>reg p) (o.set id (.frz sz rows)) mb.blk x:=by
  rintro mb hm x (k | k)
  ·rcases k with ⟨j,ob,mb',h1,h2,h3,h4⟩ | ⟨p,rg,h1,h2,h3⟩
   ·rw [set_get ho] at h1
    split at h1
    ·obtain rfl:=Option.some.inj h1
     exact h2.elim
    ·rename_i e
     exact e (h.inj j id ob _ mb' mb h1 ho h2 trivial h3 hm h4)
   ·exact h.rob p rg id _ mb (hsub p rg h1) ho trivial hm h2.symm
  ·exact h.zx _ _ k (.inl ⟨id,_,mb,ho,trivial,hm,rfl⟩)
 refine ⟨?_,hfree,hX⟩
 refine ⟨by simp [h.len],fun k=>V.keep K _ _ (h.tv k),?_,?_,fun p rg hp=>h.rok p rg (hsub p rg hp),?_,fun p q r s hpq hp hq=>h.rdj p q r s hpq (hsub p r hp) (hsub q s hq),?_,fun b y hz hy=>h.zx b y hz (hX b y hy),h.zs⟩
 ·intro j ob mb' hoj hmj
  rw [set_get ho] at hoj
  split at hoj
  ·rename_i e
   subst e
   obtain rfl:=Option.some.inj hoj
   obtain ⟨h1,_,h4,h5⟩:=h.ob j _ mb' ho hmj
   refine ⟨h1,.inr (Rs.mk rows _ _ h4 fun r row c av hr hc=>?_)⟩
   obtain ⟨v,q1,q2⟩:=h5 r row c av hr hc
   exact ⟨v,q1,hfree mb' hmj _,(plain_flat q2 (hrows r row c av hr hc).2.2).1,V.bare (hrows r row c av hr hc).1 (V.keep K _ _ q2)⟩
  ·exact Ob.keep K ob (fun _=>rfl) (h.ob j ob mb' hoj hmj)
 ·intro i j x y a b hi hj lx ly ha hb e
  have f : ∀ {i : Nat} {x : Ob},(o.set id (.frz sz rows))[i]? = some x → x.live → o[i]? = some x:=by
   intro i x hi hl
   rw [set_get ho] at hi
   split at hi
   ·obtain rfl:=Option.some.inj hi
    exact hl.elim
   ·exact hi
  exact h.inj i j x y a b (f hi lx) (f hj ly) lx ly ha hb e
 ·intro p rg j x mb' hp hj hl hmj
  rw [set_get ho] at hj
  split at hj
  ·obtain rfl:=Option.some.inj hj
   exact hl.elim
  ·exact h.rob p rg j x mb' (hsub p rg hp) hj hl hmj
 ·intro p sz' rows' v hl hv
  cases p with
  | t k=>exact h.own (.t k) sz' rows' v hl hv
  | o j r c =>
   simp only [leaf,set_get ho] at hl
   by_cases e : j = id
   ·subst e;simp at hl
   ·simp only [if_neg e] at hl ⊢
    exact h.own (.o j r c) sz' rows' v (by simpa [leaf] using hl) hv
def Ob.ltk (k : Nat) : Ob → Bool
 | .cells _ rows=>rows.all fun r=>r.all (AV.ltk k)
 | .frz ..=>true
 | .mapo es=>es.all fun e=>e.1.ltk k && e.2.ltk k
 | .dead=>true
def AV.cut (k : Nat) (a : AV) : AV:=if a.ltk k then a else .any
theorem Rel.cut {w : World} {Z : CS} {m : List MB} {reg : Pl → Option Reg} {t : Nat → AV} {u : Nat → Value} {o : List Ob} (h : Rel w Z m reg t u o) (k : Nat)
  (ho : (o.take k).all (Ob.ltk k) = true) :
  Rel w Z (m.take k) (fun p=>match p with | .o j _ _=>if k ≤ j then none else reg p | p=>reg p) (fun j=>(t j).cut k) u (o.take k) ∧
  (∀ b x,XS (m.take k) (fun p=>match p with | .o j _ _=>if k ≤ j then none else reg p | p=>reg p) (o.take k) b x → XS m reg o b x):=by
 have hsub : ∀ p rg,(match p with | .o j _ _=>if k ≤ j then none else reg p | p=>reg p) = some rg → reg p = some rg:=by
  intro p rg hp
  cases p with
  | t k=>exact hp
  | o j r c =>
   simp only at hp
   split at hp
   ·simp at hp
   ·exact hp
 have og : ∀ {j : Nat} {x : Ob},(o.take k)[j]? = some x → j < k ∧ o[j]? = some x:=by
  intro j x hj
  rw [List.getElem?_take] at hj
  split at hj
  ·rename_i e;exact ⟨e,hj⟩
  ·simp at hj
 have mg : ∀ {j : Nat} {x : MB},(m.take k)[j]? = some x → m[j]? = some x:=by
  intro j x hj
  rw [List.getElem?_take] at hj
  split at hj
  ·exact hj
  ·simp at hj
 have hX : ∀ b y,XS (m.take k) (fun p=>match p with | .o j _ _=>if k ≤ j then none else reg p | p=>reg p) (o.take k) b y → XS m reg o b y:=by
  rintro b y (⟨j,ob,mb',h1,h2,h3,h4⟩ | ⟨p,rg,h1,h2⟩)
  ·exact .inl ⟨j,ob,mb',(og h1).2,h2,mg h3,h4⟩
  ·exact .inr ⟨p,rg,hsub p rg h1,h2⟩
 have hk : ∀ (a : AV) (v : Value),a.ltk k = true → V w (YS Z m reg o) m a v → V w (YS Z (m.take k) (fun p=>match p with | .o j _ _=>if k ≤ j then none else reg p | p=>reg p) (o.take k)) (m.take k) a v:=by
  intro a v ha hv
  exact V.keep (Keeps.sub (m.take k) fun b y q=>q.imp (hX b y) (fun h=>h)) _ _ (V.ltk k a v ha hv)
 have K0 : Keeps w (YS Z m reg o) [] w (YS Z (m.take k) (fun p=>match p with | .o j _ _=>if k ≤ j then none else reg p | p=>reg p) (o.take k)) [] :=
  Keeps.sub [] fun b y q=>q.imp (hX b y) (fun h=>h)
 refine ⟨?_,hX⟩
 refine ⟨by simp [h.len],fun j=>?_,?_,?_,fun p rg hp=>h.rok p rg (hsub p rg hp),?_,fun p q r s hpq hp hq=>h.rdj p q r s hpq (hsub p r hp) (hsub q s hq),?_,fun b y hz hy=>h.zx b y hz (hX b y hy),h.zs⟩
 ·unfold AV.cut
  split
  ·rename_i e;exact hk _ _ e (h.tv j)
  ·simp only [V]
 ·intro j ob mb hoj hmj
  have hall : ob.ltk k = true:=by
   rw [List.all_eq_true] at ho
   exact ho ob (List.mem_of_getElem? hoj)
  have:=h.ob j ob mb (og hoj).2 (mg hmj)
  cases ob with
  | cells sz rows =>
   obtain ⟨h1,h2,h3,h4⟩:=this
   refine ⟨h1,h2,h3,fun r row c av hr hc=>?_⟩
   obtain ⟨v,q1,q2⟩:=h4 r row c av hr hc
   refine ⟨v,q1,hk _ _ ?_ q2⟩
   simp only [Ob.ltk,List.all_eq_true] at hall
   exact hall row (List.mem_of_getElem? hr) av (List.mem_of_getElem? hc)
  | frz sz rows=>exact ⟨this.1,this.2.imp (fun h=>h) (Rs.keep K0 _ _ _ _)⟩
  | mapo es =>
   obtain ⟨c,e,h1,h2,h3⟩:=this
   refine ⟨c,e,h1,?_,h3⟩
   simp only [Ob.ltk] at hall
   have key : ∀ (l : List (AV × AV)) (es : List MapEntry),(l.all fun e=>e.1.ltk k && e.2.ltk k) = true → MapR w (YS Z m reg o) m l es → MapR w (YS Z (m.take k) (fun p=>match p with | .o j _ _=>if k ≤ j then none else reg p | p=>reg p) (o.take k)) (m.take k) l es:=by
    intro l
    induction l with
    | nil=>intro es _ q;simpa only [MapR] using q
    | cons a l ih =>
     intro es ha q
     obtain ⟨a1,a2⟩:=a
     simp only [MapR,List.all_cons,Bool.and_eq_true] at ha q ⊢
     obtain ⟨e,t,q1,q2,q3,q4⟩:=q
     exact ⟨e,t,q1,hk _ _ ha.1.1 q2,hk _ _ ha.1.2 q3,ih t (by simpa using ha.2) q4⟩
   exact key es _ hall h2
  | dead=>trivial
 ·intro i j x y a b hi hj lx ly ha hb e
  exact h.inj i j x y a b (og hi).2 (og hj).2 lx ly (mg ha) (mg hb) e
 ·intro p rg j x mb hp hj hl hmj
  exact h.rob p rg j x mb (hsub p rg hp) (og hj).2 hl (mg hmj)
 ·intro p sz rows v hl hv
  cases p with
  | t j =>
   refine h.own (.t j) sz rows v ?_ hv
   simp only [leaf,AV.cut] at hl ⊢
   split at hl
   ·exact hl
   ·simp at hl
  | o j r c =>
   by_cases e : k ≤ j
   ·simp only [leaf,List.getElem?_take,if_neg (show ¬ j < k by omega)] at hl
    simp at hl
   ·simp only [if_neg e]
    refine h.own (.o j r c) sz rows v ?_ ?_
    ·simp only [leaf,List.getElem?_take,if_pos (show j < k by omega)] at hl ⊢
     exact hl
    ·simp only [valAt,List.getElem?_take,if_pos (show j < k by omega)] at hv ⊢
     exact hv
end Go.AW
namespace Go.AW
open Go
set_option linter.unusedSimpArgs false
set_option linter.unusedVariables false
section
variable {P : Program} {w : World} {α β : Type}
theorem srun_bind (a : Sem α) (f : α → Sem β) : (a >>= f).run P w = match a.run P w with | .ok x w'=>(f x).run P w' | .halt h w'=>.halt h w':=by
 show (Sem.bind a f).run P w = _
 induction a generalizing w with
 | pure a=>rfl
 | load m x k ih=>simp only [Sem.bind,Sem.run];split<;>(try split)<;>simp_all
 | store m x v k ih =>
  cases v<;>simp only [Sem.bind,Sem.run]<;>(try (split<;>(try split)<;>simp_all))
 | new o k ih=>simp only [Sem.bind,Sem.run,ih]
 | shape r k ih=>simp only [Sem.bind,Sem.run,ih]
 | freeze x n k ih=>simp only [Sem.bind,Sem.run,ih]
 | frozen x k ih=>simp only [Sem.bind,Sem.run,ih]
 | getObj r k ih=>simp only [Sem.bind,Sem.run];split<;>simp_all
 | setObj r o k ih=>simp only [Sem.bind,Sem.run];split<;>simp_all
 | choose q k ih=>simp only [Sem.bind,Sem.run];split<;>simp_all
 | sys c k ih=>simp only [Sem.bind,Sem.run,ih]
 | program k ih=>simp only [Sem.bind,Sem.run,ih]
 | mark m k ih=>simp only [Sem.bind,Sem.run,ih]
 | halt h=>rfl
theorem srun_bind_ok {a : Sem α} {f : α → Sem β} {x : α} {w' : World} (h : a.run P w = .ok x w') : (a >>= f).run P w = (f x).run P w':=by rw [srun_bind,h]
theorem srun_pure (a : α) : (pure a : Sem α).run P w = .ok a w:=rfl
theorem srun_program : (program : Sem Program).run P w = .ok P w:=rfl
end
inductive UK where
 | bool | int (k : IntKind) | str | slice (e : TypeId) | map (k e : TypeId) | ptr (e : TypeId) | struct | arr (n : Nat) (e : TypeId) | func | iface | other
 deriving DecidableEq
def ukOf (P : Program) (t : TypeId) : UK :=
 match P.underlying t with
 | some .bool=>.bool
 | some (.int k)=>.int k
 | some .string=>.str
 | some (.slice e)=>.slice e
 | some (.map k e)=>.map k e
 | some (.pointer e)=>.ptr e
 | some (.struct _)=>.struct
 | some (.array n e)=>.arr n e
 | some (.func ..)=>.func
 | some (.interface _)=>.iface
 | _=>.other
def UK.agg : UK → Bool
 | .struct | .arr ..=>true
 | _=>false
def fldOf (P : Program) (s : TypeId) (f : Nat) : Option (Nat × TypeId) :=
 match P.underlying s with
 | some (.struct fs)=>(fs[f]?).map fun f=>(f.offset,f.type)
 | _=>none
abbrev szOf (P : Program) (t : TypeId) : Nat:=P.cellsOf t
section
variable {P : Program} {w : World} {t : TypeId}
theorem und_info {d : TypeDesc} (h : P.underlying t = some d) : ∃ i,P.info? t = some i:=by
 unfold Program.underlying at h
 split at h
 ·rename_i h1;exact ⟨_,h1⟩
 ·rename_i h1;exact ⟨_,h1⟩
 ·cases h
theorem run_und {d : TypeDesc} (h : P.underlying t = some d) : (underlying t).run P w = .ok d w:=by
 unfold underlying
 rw [srun_bind_ok srun_program,h];rfl
theorem run_info {i : TypeInfo} (h : P.info? t = some i) : (typeInfo t).run P w = .ok i w:=by
 unfold typeInfo
 rw [srun_bind_ok srun_program,h];rfl
theorem run_size {i : TypeInfo} (h : P.info? t = some i) : (sizeOf t).run P w = .ok (szOf P t) w:=by
 unfold sizeOf
 rw [srun_bind_ok (run_info h)]
 simp [szOf,Program.cellsOf,h,srun_pure]
theorem uk_bool (h : ukOf P t = .bool) : P.underlying t = some .bool:=by unfold ukOf at h;split at h<;>simp_all
theorem uk_int {k : IntKind} (h : ukOf P t = .int k) : P.underlying t = some (.int k):=by unfold ukOf at h;split at h<;>simp_all
theorem uk_str (h : ukOf P t = .str) : P.underlying t = some .string:=by unfold ukOf at h;split at h<;>simp_all
theorem uk_slice {e : TypeId} (h : ukOf P t = .slice e) : P.underlying t = some (.slice e):=by unfold ukOf at h;split at h<;>simp_all
theorem uk_map {k e : TypeId} (h : ukOf P t = .map k e) : P.underlying t = some (.map k e):=by unfold ukOf at h;split at h<;>simp_all
theorem uk_ptr {e : TypeId} (h : ukOf P t = .ptr e) : P.underlying t = some (.pointer e):=by unfold ukOf at h;split at h<;>simp_all
theorem uk_arr {n : Nat} {e : TypeId} (h : ukOf P t = .arr n e) : P.underlying t = some (.array n e):=by unfold ukOf at h;split at h<;>simp_all
theorem uk_some (h : ukOf P t ≠ .other) : ∃ d,P.underlying t = some d:=by
 unfold ukOf at h
 cases hd : P.underlying t with
 | none=>rw [hd] at h;exact absurd rfl h
 | some d=>exact ⟨d,rfl⟩
theorem run_isAgg (h : ukOf P t ≠ .other) : (isAgg t).run P w = .ok (ukOf P t).agg w:=by
 obtain ⟨d,hd⟩:=uk_some h
 unfold isAgg
 rw [srun_bind_ok (run_und hd)]
 unfold ukOf at h ⊢
 rw [hd] at h ⊢
 cases d<;>simp_all [UK.agg,srun_pure]
end
def rdc : Value → AV
 | .bool b=>.b b
 | .int k n=>.i k n
 | .string s=>.s s
 | .slice none 0 0=>.nsl
 | .pointer none=>.nilp
 | .map none=>.nilm
 | .nilFunc=>.nilf
 | .nilIface=>.nili
 | _=>.any
theorem rdc_V (w : World) (Y : CS) (m : List MB) (v : Value) : V w Y m (rdc v) v:=by
 unfold rdc
 split<;>simp [V]
def opd (t : Nat → AV) : Operand → AV
 | .tmp k=>t k
 | .const v=>rdc v
 | .func f=>.fn f []
 | .global _=>.any
theorem opd_V {w : World} {Y : CS} {m : List MB} {t : Nat → AV} {a : Act} (h : ∀ k,V w Y m (t k) (a.tmps.getD k undef)) (x : Operand) : V w Y m (opd t x) (a.eval x):=by
 cases x with
 | tmp k=>exact h k
 | const v=>exact rdc_V ..
 | func f=>simp [opd,V,Act.eval,Vs]
 | global g=>simp [opd,V]
def ung (g : Bool) : AV → AV
 | .gd g' v=>bif !g || g' then ung g v else .any
 | v=>v
theorem ung_V {w : World} {Y : CS} {m : List MB} {g : Bool} (hg : g = true) : ∀ {a : AV} {v : Value},V w Y m a v → V w Y m (ung g a) v
 | .gd g' x,v,h=>by
  subst hg
  simp only [V] at h
  cases g'
  ·simp [ung,V]
  ·simpa [ung] using ung_V rfl (h.1 rfl)
 | .any,_,h | .b _,_,h | .i _ _,_,h | .s _,_,h | .sl _ _,_,h | .own _ _,_,h | .ref _ _ _,_,h | .ptr _ _ _,_,h | .ep _ _,_,h | .nilp,_,h | .mp _,_,h
 | .nilm,_,h | .nsl,_,h | .esl,_,h | .fn _ _,_,h | .nilf,_,h | .agg _,_,h | .tup _,_,h | .nili,_,h | .ifc _ _,_,h | .bm _ _,_,h=>h
def gv : AV → Option (Bool × Bool)
 | .b x=>some (true,x)
 | .gd g v=>match gv v with | some (h,x)=>some (g && h,x) | none=>if g then none else some (false,false)
 | _=>none
theorem gv_V {w : World} {Y : CS} {m : List MB} : ∀ {a : AV} {v : Value} {g x : Bool},gv a = some (g,x) → V w Y m a v → (g = true → v = .bool x) ∧ (g = false → v = undef)
 | .b y,v,g,x,h,hv=>by
  simp only [gv,Option.some.injEq,Prod.mk.injEq] at h
  obtain ⟨rfl,rfl⟩:=h
  simp only [V] at hv
  exact ⟨fun _=>hv,fun h=>by cases h⟩
 | .gd g' y,v,g,x,h,hv=>by
  simp only [gv] at h
  simp only [V] at hv
  split at h
  ·rename_i h' x' e
   simp only [Option.some.injEq,Prod.mk.injEq] at h
   obtain ⟨rfl,rfl⟩:=h
   cases g'
   ·exact ⟨fun h=>by simp at h,fun _=>hv.2 rfl⟩
   ·simpa using gv_V e (hv.1 rfl)
  ·cases g'
   ·simp only [if_false,Bool.false_eq_true,Option.some.injEq,Prod.mk.injEq] at h
    obtain ⟨rfl,rfl⟩:=h
    exact ⟨fun h=>(by cases h),fun _=>hv.2 rfl⟩
   ·simp at h
 | .any,_,_,_,h,_ | .i _ _,_,_,_,h,_ | .s _,_,_,_,h,_ | .sl _ _,_,_,_,h,_ | .own _ _,_,_,_,h,_ | .ref _ _ _,_,_,_,h,_ | .ptr _ _ _,_,_,_,h,_ | .ep _ _,_,_,_,h,_ | .nilp,_,_,_,h,_
 | .mp _,_,_,_,h,_ | .nilm,_,_,_,h,_ | .nsl,_,_,_,h,_ | .esl,_,_,_,h,_ | .fn _ _,_,_,_,h,_ | .nilf,_,_,_,h,_ | .agg _,_,_,_,h,_ | .tup _,_,_,_,h,_ | .nili,_,_,_,h,_ | .ifc _ _,_,_,_,h,_ | .bm _ _,_,_,_,h,_=>by simp [gv] at h
def RowAt (w : World) (Y : CS) (m : List MB) (blk x : Nat) (row : List AV) : Prop :=
 ∀ (c : Nat) av,row[c]? = some av → ∃ v,w.cell? ⟨blk,x + c,none⟩ = some v ∧ V w Y m av v
theorem V.unbare {w : World} {Y : CS} {m : List MB} {a : AV} {v : Value} (h : V w Y [] a v) : V w Y m a v:=V.keep ⟨fun _ _ _ h k=>⟨h,k⟩,nil_obj⟩ a v h
theorem Cs.rowAt {w : World} {Y : CS} {m : List MB} {blk x : Nat} {row : List AV} (h : Cs w Y blk x row) : RowAt w Y m blk x row:=fun c av hc=>by
 obtain ⟨v,h1,_,_,h2⟩:=h.get c av hc
 exact ⟨v,h1,h2.unbare⟩
def loadOk (P : Program) (t : TypeId) (row : List AV) (off : Nat) : Bool :=
 if (ukOf P t).agg then decide (off + szOf P t ≤ row.length) else decide (off < row.length) && ukOf P t != .other
def loadAV (P : Program) (t : TypeId) (row : List AV) (off : Nat) : AV :=
 if (ukOf P t).agg then .agg (((row.drop off).take (szOf P t)).map AV.dat) else (row.getD off .any).dat
section
variable {P : Program} {w : World} {Y : CS} {m : List MB}
theorem run_load {a : Addr} {v : Value} (h : w.cell? a = some v) : (load a).run P w = .ok v w:=by simp [load,Sem.run,h]
theorem addr_add (b o n : Nat) : Addr.add ⟨b,o,none⟩ n = ⟨b,o + n,none⟩:=by
 unfold Addr.add;split
 ·rename_i h;subst h;rfl
 ·rfl
theorem run_loadCellsFrom {blk x : Nat} : ∀ (n i : Nat) (acc : Array Value) (l : List AV),l.length = n → (∀ (c : Nat) av,l[c]? = some av → ∃ v,w.cell? ⟨blk,x + i + c,none⟩ = some v ∧ V w Y m av v) →
  ∃ vs,(loadCellsFrom ⟨blk,x,none⟩ i n acc).run P w = .ok (acc ++ vs.toArray) w ∧ Vs w Y m l vs
 | 0,i,acc,l,hl,_=>by
  obtain rfl:=List.eq_nil_of_length_eq_zero hl
  exact ⟨[],by simp [loadCellsFrom,srun_pure],by simp [Vs]⟩
 | n + 1,i,acc,[],hl,_=>by simp at hl
 | n + 1,i,acc,a :: l,hl,h=>by
  obtain ⟨v,h1,h2⟩:=h 0 a rfl
  obtain ⟨vs,h3,h4⟩:=run_loadCellsFrom (blk:=blk) (x:=x) n (i + 1) (acc.push v) l (by simpa using hl) (fun c av hc=>by
   have:=h (c + 1) av (by simpa using hc)
   rwa [show x + i + (c + 1) = x + (i + 1) + c by omega] at this)
  refine ⟨v :: vs,?_,by simp only [Vs];exact ⟨v,vs,rfl,h2,h4⟩⟩
  unfold loadCellsFrom
  rw [srun_bind_ok (run_load (by rw [addr_add];simpa using h1)),h3]
  simp
theorem Vs.dat : ∀ (l : List AV) (vs : List Value),Vs w Y m l vs → Vs w Y m (l.map AV.dat) vs
 | [],_,h=>by simpa only [List.map_nil,Vs] using h
 | a :: l,_,h=>by
  simp only [Vs,List.map_cons] at h ⊢
  obtain ⟨v,t,h1,h2,h3⟩:=h
  exact ⟨v,t,h1,V.dat _ _ h2,Vs.dat l t h3⟩
theorem run_loadVar {t : TypeId} {blk x off : Nat} {row : List AV} (hr : RowAt w Y m blk x row) (hok : loadOk P t row off = true) :
  ∃ v,(loadVar t ⟨blk,x + off,none⟩).run P w = .ok v w ∧ V w Y m (loadAV P t row off) v:=by
 unfold loadOk at hok
 unfold loadVar loadAV
 by_cases ha : (ukOf P t).agg = true
 ·simp only [ha,if_true,decide_eq_true_eq] at hok ⊢
  have hne : ukOf P t ≠ .other:=fun e=>by rw [e] at ha;simp [UK.agg] at ha
  rw [srun_bind_ok (run_isAgg hne),ha]
  obtain ⟨d,hd⟩:=uk_some hne
  obtain ⟨i,hi⟩:=und_info hd
  simp only [if_true]
  rw [srun_bind_ok (run_size hi)]
  obtain ⟨vs,h1,h2⟩:=run_loadCellsFrom (P:=P) (w:=w) (Y:=Y) (m:=m) (blk:=blk) (x:=x + off) (szOf P t) 0 #[] ((row.drop off).take (szOf P t)) (by simp;omega) (fun c av hc=>by
   rw [List.getElem?_take] at hc
   split at hc
   ·rw [List.getElem?_drop] at hc
    have:=hr (off + c) av hc
    rwa [show x + (off + c) = x + off + 0 + c by omega] at this
   ·simp at hc)
  unfold loadCells
  rw [srun_bind_ok h1,srun_pure]
  refine ⟨_,rfl,?_⟩
  simp only [V]
  exact ⟨_,rfl,by simpa using Vs.dat _ _ h2⟩
 ·simp only [ha,Bool.false_eq_true,if_false,Bool.and_eq_true,decide_eq_true_eq,bne_iff_ne] at hok ⊢
  rw [srun_bind_ok (run_isAgg hok.2)]
  simp only [ha,Bool.false_eq_true,if_false]
  obtain ⟨v,h1,h2⟩:=hr off row[off] (List.getElem?_eq_getElem hok.1)
  rw [run_load h1]
  refine ⟨v,rfl,V.dat _ _ ?_⟩
  rwa [List.getD_eq_getElem?_getD,List.getElem?_eq_getElem hok.1]
end
end Go.AW
namespace Go.AW
open Go
set_option linter.unusedSimpArgs false
set_option linter.unusedVariables false
structure R1 where
 ok : Bool
 v : AV
def R1.no : R1:=⟨false,.any⟩
def binInt (op : BinOp) (k : IntKind) (x y : Int) : R1 :=
 match op with
 | .add=>⟨true,.i k (k.wrap (x + y))⟩
 | .sub=>⟨true,.i k (k.wrap (x - y))⟩
 | .mul=>⟨true,.i k (k.wrap (x * y))⟩
 | .quo=>⟨y != 0,.i k (k.wrap (x.tdiv y))⟩
 | .rem=>⟨y != 0,.i k (x.tmod y)⟩
 | .and=>⟨true,.i k (k.wrap (BitVec.ofInt k.bits x &&& BitVec.ofInt k.bits y).toNat)⟩
 | .or=>⟨true,.i k (k.wrap (BitVec.ofInt k.bits x ||| BitVec.ofInt k.bits y).toNat)⟩
 | .xor=>⟨true,.i k (k.wrap (BitVec.ofInt k.bits x ^^^ BitVec.ofInt k.bits y).toNat)⟩
 | .andNot=>⟨true,.i k (k.wrap (BitVec.ofInt k.bits x &&& ~~~BitVec.ofInt k.bits y).toNat)⟩
 | .eql=>⟨true,.b (x == y)⟩
 | .neq=>⟨true,.b (x != y)⟩
 | .lss=>⟨true,.b (decide (x < y))⟩
 | .leq=>⟨true,.b (decide (x ≤ y))⟩
 | .gtr=>⟨true,.b (decide (x > y))⟩
 | .geq=>⟨true,.b (decide (x ≥ y))⟩
 | _=>.no
def binStr (op : BinOp) (x y : ByteArray) : R1 :=
 match op with
 | .add=>⟨decide (((x.size + y.size : Nat) : Int) ≤ IntKind.i64.max),.s (x ++ y)⟩
 | .eql=>⟨true,.b (x.toList == y.toList)⟩
 | .neq=>⟨true,.b !(x.toList == y.toList)⟩
 | .lss=>⟨true,.b (Op.bytesLess x.toList y.toList)⟩
 | .leq=>⟨true,.b (Op.bytesLess x.toList y.toList || x.toList == y.toList)⟩
 | .gtr=>⟨true,.b !(Op.bytesLess x.toList y.toList || x.toList == y.toList)⟩
 | .geq=>⟨true,.b !(Op.bytesLess x.toList y.toList)⟩
 | _=>.no
def isNil (uk : UK) (a : AV) : Option Bool :=
 match uk,a with
 | .slice _,.nsl=>some true
 | .slice _,.esl=>some false
 | .slice _,.sl _ rows=>if 0 < rows.length then some false else none
 | .slice _,.own _ rows=>if 0 < rows.length then some false else none
 | .slice _,.ref _ _ len=>if 0 < len then some false else none
 | .map ..,.nilm=>some true
 | .map ..,.mp _=>some false
 | .ptr _,.nilp=>some true
 | .ptr _,.ptr ..=>some false
 | .func,.nilf=>some true
 | .func,.fn ..=>some false
 | _,_=>none
def eqOk (P : Program) (t : TypeId) : Option (List (Nat × TypeId)) :=
 match P.underlying t with
 | some (.struct fs) => if P.stoodInHeld t || P.eqGuardType P.depth t then none else some ((fs.toList.filter fun f => f.name ≠ "_").map fun f => (f.offset, f.type))
 | _ => none
def eqC : UK → AV → AV → Option Bool
 | .int _,.i k a,.i k' b=>if k = k' then some (a == b) else none
 | .str,.s a,.s b=>some (a == b)
 | .bool,.b a,.b b=>some (a == b)
 | _,_,_=>none
def eqCells (P : Program) : List (Nat × TypeId) → List AV → List AV → Option Bool
 | [],_,_=>some true
 | f :: r,xs,ys =>
  if (loadOk P f.2 xs f.1 && loadOk P f.2 ys f.1) = true then
   match eqC (ukOf P f.2) (loadAV P f.2 xs f.1) (loadAV P f.2 ys f.1),eqCells P r xs ys with
   | some a,some b=>some (a && b)
   | _,_=>none
  else none
def eqAgg (P : Program) (op : BinOp) (t : TypeId) (xs ys : List AV) : R1 :=
 match eqOk P t with
 | some l=>match eqCells P l xs ys with
  | some b=>(match op with | .eql=>⟨true,.b b⟩ | .neq=>⟨true,.b !b⟩ | _=>.no)
  | none=>.no
 | none=>.no
def binAV (P : Program) (op : BinOp) (xt : TypeId) (a b : AV) : R1 :=
 match a,b with
 | .i k x,.i k' y =>
  match op with
  | .shl=>⟨decide (0 ≤ y),.i k (k.wrap (x * 2 ^ (min y.toNat k.bits)))⟩
  | .shr=>⟨decide (0 ≤ y),.i k (x.fdiv (2 ^ (min y.toNat k.bits)))⟩
  | _=>let r:=binInt op k x y;⟨(k == k') && r.ok,r.v⟩
 | .s x,.s y=>binStr op x y
 | .b x,.b y =>
  match op with
  | .eql=>⟨ukOf P xt == .bool,.b (x == y)⟩
  | .neq=>⟨ukOf P xt == .bool,.b (!(x == y))⟩
  | _=>.no
 | .agg xs,.agg ys=>eqAgg P op xt xs ys
 | a,b =>
  match op,isNil (ukOf P xt) a,isNil (ukOf P xt) b with
  | .eql,some x,some true=>⟨true,.b x⟩
  | .neq,some x,some true=>⟨true,.b !x⟩
  | .eql,some true,some x=>⟨true,.b x⟩
  | .neq,some true,some x=>⟨true,.b !x⟩
  | _,_,_=>.no
def unAV (op : UnOp) (a : AV) : R1 :=
 match op,a with
 | .not,.b x=>⟨true,.b !x⟩
 | .neg,.i k x=>⟨true,.i k (k.wrap (0 - x))⟩
 | _,_=>.no
def convAV (P : Program) (src dst : TypeId) (a : AV) : R1 :=
 match ukOf P dst,a with
 | .int k,.i _ n=>⟨ukOf P src != .other,.i k (k.wrap n)⟩
 | .str,.s x=>⟨ukOf P src == .str,.s x⟩
 | _,_=>.no
def loadR (P : Program) (o : List Ob) (t : TypeId) (a : AV) : R1 :=
 match a with
 | .ptr id idx off =>
  match o[id]? with
  | some (.cells _ rows)=>⟨decide (idx < rows.length) && loadOk P t (rows.getD idx []) off,loadAV P t (rows.getD idx []) off⟩
  | some (.frz _ rows)=>⟨decide (idx < rows.length) && loadOk P t (rows.getD idx []) off,loadAV P t (rows.getD idx []) off⟩
  | _=>.no
 | .ep row off=>⟨loadOk P t row off,loadAV P t row off⟩
 | _=>.no
def fieldR (P : Program) (s : TypeId) (a : AV) (f : Nat) : R1 :=
 match fldOf P s f with
 | some (fo,ft) =>
  match a with
  | .ptr id idx off=>⟨szOf P ft != 0 && ukOf P ft != .other,.ptr id idx (off + fo)⟩
  | .ep row off=>⟨szOf P ft != 0 && ukOf P ft != .other,.ep row (off + fo)⟩
  | _=>.no
 | none=>.no
def idxR (P : Program) (o : List Ob) (t : TypeId) (a ix : AV) : R1 :=
 match ukOf P t,ix with
 | .slice e,.i _ n =>
  match a with
  | .sl sz rows | .own sz rows=>⟨decide (0 ≤ n) && decide (n < rows.length) && sz == szOf P e && ukOf P e != .other,.ep (rows.getD n.toNat []) 0⟩
  | .ref id off len =>
   match o[id]? with
   | some (.cells sz _) | some (.frz sz _)=>⟨decide (0 ≤ n) && decide (n < len) && sz == szOf P e && ukOf P e != .other,.ptr id (off + n.toNat) 0⟩
   | _=>.no
  | _=>.no
 | .arr len e,.i _ n =>
  match a with
  | .ptr id idx off=>⟨decide (0 ≤ n) && decide (n < len) && ukOf P e != .other,.ptr id idx (off + n.toNat * szOf P e)⟩
  | _=>.no
 | _,_=>.no
def partR (P : Program) (t : TypeId) (cs : List AV) (off : Nat) : R1:=⟨loadOk P t cs off,loadAV P t cs off⟩
def indexR (P : Program) (t : TypeId) (a ix : AV) : R1 :=
 match ukOf P t,a,ix with
 | .arr len e,.agg cs,.i _ n=>⟨decide (0 ≤ n) && decide (n < len) && loadOk P e cs (n.toNat * szOf P e),loadAV P e cs (n.toNat * szOf P e)⟩
 | .str,.s x,.i _ n=>⟨decide (0 ≤ n) && decide (n < x.size),.i .u8 (x.data.getD n.toNat 0).toNat⟩
 | _,_,_=>.no
def bnd (x : Option AV) (d : Nat) : Option Int :=
 match x with
 | none=>some d
 | some (.i _ n)=>some n
 | _=>none
def refSz (o : List Ob) (id : Nat) : Option Nat:=match o[id]? with | some (.cells sz _)=>some sz | some (.frz sz _)=>some sz | _=>none
def sliceR (P : Program) (o : List Ob) (t : TypeId) (a : AV) (lo hi mx : Option AV) : R1 :=
 match mx with
 | some _=>.no
 | none =>
  match ukOf P t,a with
  | .str,.s x =>
   match bnd lo 0,bnd hi x.size with
   | some l,some h=>⟨decide (0 ≤ l) && decide (l ≤ h) && decide (h ≤ x.size),.s (x.extract l.toNat h.toNat)⟩
   | _,_=>.no
  | .slice e,.sl sz rows =>
   match bnd lo 0,bnd hi rows.length with
   | some l,some h=>⟨decide (0 ≤ l) && decide (l ≤ h) && decide (h ≤ rows.length) && sz == szOf P e && ukOf P e != .other,.sl sz ((rows.take h.toNat).drop l.toNat)⟩
   | _,_=>.no
  | .slice e,.own sz rows =>
   match bnd lo 0,bnd hi rows.length with
   | some l,some h=>⟨decide (0 ≤ l) && decide (l ≤ h) && decide (h ≤ rows.length) && sz == szOf P e && ukOf P e != .other,.sl sz ((rows.take h.toNat).drop l.toNat)⟩
   | _,_=>.no
  | .slice e,.nsl =>
   match bnd lo 0,bnd hi 0 with
   | some l,some h=>⟨l == 0 && h == 0 && ukOf P e != .other,.nsl⟩
   | _,_=>.no
  | .slice e,.ref id off len =>
   match bnd lo 0,bnd hi len with
   | some l,some h=>⟨decide (0 ≤ l) && decide (l ≤ h) && decide (h ≤ len) && ukOf P e != .other && refSz o id == some (szOf P e),.ref id (off + l.toNat) (h.toNat - l.toNat)⟩
   | _,_=>.no
  | _,_=>.no
def keq : AV → AV → Option Bool
 | .i k a,.i k' b=>if k = k' then some (a == b) else none
 | .s a,.s b=>some (a == b)
 | .b a,.b b=>some (a == b)
 | _,_=>none
def keyOk (uk : UK) : AV → Bool
 | .i ..=>match uk with | .int _=>true | _=>false
 | .s _=>uk == .str
 | .b _=>uk == .bool
 | _=>false
def mfind (k : AV) : List (AV × AV) → Option (Option AV)
 | []=>some none
 | (k',v) :: r =>
  match keq k k' with
  | some true=>some (some v)
  | some false=>mfind k r
  | none=>none
def zOf : Value → AV
 | .agg cs=>.agg (cs.toList.map rdc)
 | v=>rdc v
def zeroAV (P : Program) (t : TypeId) : Option AV :=
 match P.info? t with
 | some i=>i.zero.map zOf
 | none=>none
def mapEs (o : List Ob) (a : AV) : Option (List (AV × AV)) :=
 match a with
 | .nilm=>some []
 | .mp id=>match o[id]? with | some (.mapo es)=>some es | _=>none
 | _=>none
def lookE (P : Program) (kt et : TypeId) (es : List (AV × AV)) (ix : AV) (ok : Bool) : R1 :=
 match mfind ix es with
 | none=>.no
 | some (some v)=>⟨keyOk (ukOf P kt) ix,if ok then .tup [v.dat,.b true] else v.dat⟩
 | some none =>
  match zeroAV P et with
  | some z=>⟨keyOk (ukOf P kt) ix,if ok then .tup [z.dat,.b false] else z.dat⟩
  | none=>.no
def lookR (P : Program) (o : List Ob) (t : TypeId) (a ix : AV) (ok : Bool) : R1 :=
 match ukOf P t with
 | .map kt et =>
  match mapEs o a with
  | none=>.no
  | some es=>lookE P kt et es ix ok
 | _=>.no
def lenR (P : Program) (o : List Ob) (t : TypeId) (a : AV) : R1 :=
 match ukOf P t,a with
 | .str,.s x=>⟨true,.i .i64 x.size⟩
 | .slice _,.sl _ rows=>⟨true,.i .i64 rows.length⟩
 | .slice _,.own _ rows=>⟨true,.i .i64 rows.length⟩
 | .slice _,.ref _ _ len=>⟨true,.i .i64 len⟩
 | .slice _,.nsl=>⟨true,.i .i64 0⟩
 | .slice _,.esl=>⟨true,.i .i64 0⟩
 | .arr n _,_=>⟨true,.i .i64 n⟩
 | .map ..,.nilm=>⟨true,.i .i64 0⟩
 | .map ..,.mp id=>match o[id]? with | some (.mapo es)=>⟨true,.i .i64 es.length⟩ | _=>.no
 | _,_=>.no
def maxL : List AV → R1
 | [.i k x,.i k' y]=>⟨true,.i k (if y > x then y else x)⟩
 | _=>.no
def minL : List AV → R1
 | [.i k x,.i k' y]=>⟨true,.i k (if y < x then y else x)⟩
 | _=>.no
def pickR (g : Bool) (c a b : AV) : R1 :=
 match ung g c with
 | .b x =>
  match ung (g && x) a,ung (g && !x) b with
  | .b p,.b q=>⟨true,.b (bif x then p else q)⟩
  | .b p,_=>⟨x,.b p⟩
  | _,.b q=>⟨!x,.b q⟩
  | _,_=>.no
 | _=>.no
def pureOp (P : Program) (o : List Ob) (op : Op) (ρ : Operand → AV) : R1 :=
 match op with
 | .move x=>⟨true,(ρ x).dat⟩
 | .assign x=>⟨true,(ρ x).dat⟩
 | .pick c a b =>
  match ρ c with
  | .b x =>
   match ung x (ρ a),ung (!x) (ρ b) with
   | .b p,.b q=>⟨true,.b (bif x then p else q)⟩
   | _,_=>.no
  | _=>.no
 | .load t a=>loadR P o t (ρ a)
 | .nilCheck x =>
  match ρ x with
  | .ptr a b c=>⟨true,.ptr a b c⟩
  | .ep a b=>⟨true,.ep a b⟩
  | .fn f c=>⟨true,.fn f c⟩
  | _=>.no
 | .binOp op xt x y _=>binAV P op xt (ρ x) (ρ y)
 | .unOp op _ x=>unAV op (ρ x)
 | .convert s d x=>convAV P s d (ρ x)
 | .fieldAddr s x f=>fieldR P s (ρ x) f
 | .field s x f =>
  match fldOf P s f,ρ x with
  | some (fo,ft),.agg cs=>partR P ft cs fo
  | _,_=>.no
 | .indexAddr t x ix=>idxR P o t (ρ x) (ρ ix)
 | .index t x ix=>indexR P t (ρ x) (ρ ix)
 | .extract x k =>
  match ρ x with
  | .tup vs=>⟨decide (k < vs.length),(vs.getD k .any).dat⟩
  | _=>.no
 | .slice t x lo hi mx=>sliceR P o t (ρ x) (lo.map ρ) (hi.map ρ) (mx.map ρ)
 | .lookup t x ix ok=>lookR P o t (ρ x) (ρ ix) ok
 | .makeFunc (.func f) first caps=>⟨first.isEmpty || (first.size == 1 && caps.isEmpty),if first.isEmpty then .fn f (caps.toList.map fun x=>(ρ x).dat) else .bm f (ρ (first.getD 0 (.tmp 0))).dat⟩
 | .makeInterface t x=>⟨ukOf P t != .other && ukOf P t != .iface,.ifc t (ρ x).dat⟩
 | .call c =>
  match c.callee with
  | .builtin .len=>match c.args.toList,c.argTypes.toList with
   | [x],[t]=>lenR P o t (ρ x)
   | _,_=>.no
  | .builtin .max=>maxL (c.args.toList.map ρ)
  | .builtin .min=>minL (c.args.toList.map ρ)
  | _=>.no
 | _=>.no
end Go.AW
namespace Go.AW
open Go
set_option linter.unusedSimpArgs false
set_option linter.unusedVariables false
section
variable {P : Program} {w : World} {Y : CS} {m : List MB}
def Gives (P : Program) (w : World) (Y : CS) (m : List MB) (s : Sem Value) (a : AV) : Prop:=∃ v,s.run P w = .ok v w ∧ V w Y m a v
theorem Gives.bool {s : Sem Value} {b : Bool} (h : s.run P w = .ok (.bool b) w) : Gives P w Y m s (.b b):=⟨_,h,by simp [V]⟩
theorem Gives.int {s : Sem Value} {k : IntKind} {n : Int} (h : s.run P w = .ok (.int k n) w) : Gives P w Y m s (.i k n):=⟨_,h,by simp [V]⟩
theorem Gives.str {s : Sem Value} {x : ByteArray} (h : s.run P w = .ok (.string x) w) : Gives P w Y m s (.s x):=⟨_,h,by simp [V]⟩
theorem binInt_sound {op : BinOp} {k : IntKind} {x y : Int} {t : TypeId} (h : (binInt op k x y).ok = true) : Gives P w Y m (binOp op t (.int k x) (.int k y)) (binInt op k x y).v:=by
 cases op<;>simp only [binInt,R1.no,Bool.false_eq_true,bne_iff_ne,ne_eq] at h ⊢<;>first
  | (apply Gives.int;simp [Go.binOp,Op.intArith,Op.intBits,srun_pure];done)
  | (apply Gives.bool;simp [Go.binOp,Op.intCmp,srun_pure];done)
  | (apply Gives.int;simp [Go.binOp,Op.intDiv,h,srun_pure])
theorem binStr_sound {op : BinOp} {x y : ByteArray} {t : TypeId} (h : (binStr op x y).ok = true) : Gives P w Y m (binOp op t (.string x) (.string y)) (binStr op x y).v:=by
 cases op<;>simp only [binStr,R1.no,Bool.false_eq_true,decide_eq_true_eq] at h ⊢<;>first
  | (apply Gives.bool;simp [Go.binOp,Op.stringOp,srun_pure];done)
  | (apply Gives.str;simp only [Go.binOp,Op.stringOp];rw [if_neg (by omega)];rfl)
theorem eqS {t : TypeId} (d : Nat) {e : TypeId} (hd : P.underlying t = some (.slice e)) :
  (∀ b c,(Op.equalIn (d + 1) t (.slice none 0 0) (.slice none b c)).run P w = .ok true w) ∧
  (∀ x b c,(Op.equalIn (d + 1) t (.slice none 0 0) (.slice (some x) b c)).run P w = .ok false w) ∧
  (∀ x b c,(Op.equalIn (d + 1) t (.slice (some x) b c) (.slice none 0 0)).run P w = .ok false w):=by
 refine ⟨fun b c=>?_,fun x b c=>?_,fun x b c=>?_⟩<;>unfold Op.equalIn<;>rw [srun_bind_ok (run_und hd)]<;>rfl
theorem eqM {t : TypeId} (d : Nat) {k e : TypeId} (hd : P.underlying t = some (.map k e)) :
  (Op.equalIn (d + 1) t (.map none) (.map none)).run P w = .ok true w ∧
  (∀ x,(Op.equalIn (d + 1) t (.map none) (.map (some x))).run P w = .ok false w) ∧
  (∀ x,(Op.equalIn (d + 1) t (.map (some x)) (.map none)).run P w = .ok false w):=by
 refine ⟨?_,fun x=>?_,fun x=>?_⟩<;>unfold Op.equalIn<;>rw [srun_bind_ok (run_und hd)]<;>rfl
theorem eqP {t : TypeId} (d : Nat) {e : TypeId} (hd : P.underlying t = some (.pointer e)) :
  (Op.equalIn (d + 1) t (.pointer none) (.pointer none)).run P w = .ok true w ∧
  (∀ x,(Op.equalIn (d + 1) t (.pointer none) (.pointer (some x))).run P w = .ok false w) ∧
  (∀ x,(Op.equalIn (d + 1) t (.pointer (some x)) (.pointer none)).run P w = .ok false w):=by
 refine ⟨?_,fun x=>?_,fun x=>?_⟩<;>unfold Op.equalIn<;>rw [srun_bind_ok (run_und hd)]<;>rfl
theorem eqF {t : TypeId} (d : Nat) (hu : ukOf P t = .func) :
  (Op.equalIn (d + 1) t .nilFunc .nilFunc).run P w = .ok true w ∧
  (∀ f x y,(Op.equalIn (d + 1) t .nilFunc (.func f x y)).run P w = .ok false w) ∧
  (∀ f x y,(Op.equalIn (d + 1) t (.func f x y) .nilFunc).run P w = .ok false w):=by
 obtain ⟨dd,hd⟩:=uk_some (P:=P) (t:=t) (by rw [hu];simp)
 unfold ukOf at hu;rw [hd] at hu
 cases dd<;>simp at hu
 refine ⟨?_,fun f x y=>?_,fun f x y=>?_⟩<;>unfold Op.equalIn<;>rw [srun_bind_ok (run_und hd)]<;>rfl
theorem eqB {t : TypeId} (d : Nat) (hd : P.underlying t = some .bool) (x y : Bool) :
  (Op.equalIn (d + 1) t (.bool x) (.bool y)).run P w = .ok (x == y) w:=by
 unfold Op.equalIn;rw [srun_bind_ok (run_und hd)];rfl
def nilish : Value → Bool
 | .slice .. | .map _ | .pointer _ | .nilFunc | .func ..=>true
 | _=>false
theorem eq_nil {t : TypeId} {a c : AV} {v u : Value} {x : Bool} (ha : isNil (ukOf P t) a = some x) (hc : isNil (ukOf P t) c = some true) (hv : V w Y m a v) (hu : V w Y m c u) :
  (Op.equal t v u).run P w = .ok x w ∧ (Op.equal t u v).run P w = .ok x w ∧ nilish v = true ∧ nilish u = true:=by
 unfold Op.equal
 rw [show Op.maxDepth = 9999 + 1 from rfl]
 generalize 9999 = d
 cases huk : ukOf P t<;>rw [huk] at ha hc<;>try (simp [isNil] at hc;done)
 ·rename_i e
  have e:=eqS (P:=P) (w:=w) d (uk_slice huk)
  cases c with
  | nsl =>
   simp only [V] at hu
   subst hu
   cases a with
   | nsl=>simp only [isNil,Option.some.injEq,V] at ha hv;subst ha hv;exact ⟨e.1 _ _,e.1 _ _,rfl,rfl⟩
   | esl=>simp only [isNil,Option.some.injEq,V] at ha hv;obtain ⟨ad,rfl⟩:=hv;subst ha;exact ⟨e.2.2 _ _ _,e.2.1 _ _ _,rfl,rfl⟩
   | sl sz rows =>
    simp only [isNil] at ha
    split at ha
    ·rename_i hpos
     simp only [Option.some.injEq,V] at ha hv
     obtain ⟨a1,cap,rfl,_,_,h | ⟨blk,off,rfl,_⟩⟩:=hv
     ·subst h;simp at hpos
     ·subst ha;exact ⟨e.2.2 _ _ _,e.2.1 _ _ _,rfl,rfl⟩
    ·cases ha
   | own sz rows =>
    simp only [isNil] at ha
    split at ha
    ·rename_i hpos
     simp only [Option.some.injEq,V] at ha hv
     obtain ⟨a1,cap,rfl,_,_,h | ⟨blk,off,rfl,_⟩⟩:=hv
     ·subst h;simp at hpos
     ·subst ha;exact ⟨e.2.2 _ _ _,e.2.1 _ _ _,rfl,rfl⟩
    ·cases ha
   | ref id off len =>
    simp only [isNil] at ha
    split at ha
    ·rename_i hpos
     simp only [Option.some.injEq,V] at ha hv
     obtain ⟨mb,a1,cap,_,rfl,_,_,h | ⟨rfl,_⟩⟩:=hv
     ·omega
     ·subst ha;exact ⟨e.2.2 _ _ _,e.2.1 _ _ _,rfl,rfl⟩
    ·cases ha
   | _=>simp [isNil] at ha
  | sl sz rows=>simp [isNil] at hc
  | own sz rows=>simp [isNil] at hc
  | ref id off len=>simp [isNil] at hc
  | _=>simp [isNil] at hc
 ·have e:=eqM (P:=P) (w:=w) d (uk_map huk)
  cases c<;>simp only [isNil,Option.some.injEq,reduceCtorEq] at hc<;>try (cases hc;done)
  simp only [V] at hu
  subst hu
  cases a<;>simp only [isNil,Option.some.injEq,reduceCtorEq,V] at ha hv<;>try (cases ha;done)
  ·obtain ⟨mb,_,rfl⟩:=hv;subst ha;exact ⟨e.2.2 _,e.2.1 _,rfl,rfl⟩
  ·subst ha hv;exact ⟨e.1,e.1,rfl,rfl⟩
 ·have e:=eqP (P:=P) (w:=w) d (uk_ptr huk)
  cases c<;>simp only [isNil,Option.some.injEq,reduceCtorEq] at hc<;>try (cases hc;done)
  simp only [V] at hu
  subst hu
  cases a<;>simp only [isNil,Option.some.injEq,reduceCtorEq,V] at ha hv<;>try (cases ha;done)
  ·obtain ⟨mb,_,rfl⟩:=hv;subst ha;exact ⟨e.2.2 _,e.2.1 _,rfl,rfl⟩
  ·subst ha hv;exact ⟨e.1,e.1,rfl,rfl⟩
 ·have e:=eqF (P:=P) (w:=w) d huk
  cases c<;>simp only [isNil,Option.some.injEq,reduceCtorEq] at hc<;>try (cases hc;done)
  simp only [V] at hu
  subst hu
  cases a<;>simp only [isNil,Option.some.injEq,reduceCtorEq,V] at ha hv<;>try (cases ha;done)
  ·obtain ⟨mb,rfl,_⟩:=hv;subst ha;exact ⟨e.2.2 _ _ _,e.2.1 _ _ _,rfl,rfl⟩
  ·subst ha hv;exact ⟨e.1,e.1,rfl,rfl⟩
theorem binOp_eql_nilish {v u : Value} {t : TypeId} {x : Bool} (h1 : nilish v = true) (h2 : nilish u = true) (h : (Op.equal t v u).run P w = .ok x w) :
  (binOp .eql t v u).run P w = .ok (.bool x) w ∧ (binOp .neq t v u).run P w = .ok (.bool !x) w:=by
 have key : binOp .eql t v u = (do pure (.bool (← Op.equal t v u))) ∧ binOp .neq t v u = (do pure (.bool (!(← Op.equal t v u)))):=by
  cases v<;>simp [nilish] at h1<;>cases u<;>simp [nilish] at h2<;>constructor<;>rfl
 rw [key.1,key.2,srun_bind_ok h,srun_bind_ok h]
 exact ⟨rfl,rfl⟩
theorem run_part {t : TypeId} {cs : List AV} {vs : Array Value} {off : Nat} (hv : Vs w Y m cs vs.toList) (hok : loadOk P t cs off = true) : Gives P w Y m (part t vs off) (loadAV P t cs off):=by
 have vget : ∀ (l : List AV) (us : List Value),Vs w Y m l us → l.length = us.length ∧ ∀ (c : Nat) av,l[c]? = some av → ∃ u,us[c]? = some u ∧ V w Y m av u:=by
  intro l
  induction l with
  | nil=>intro us h;simp only [Vs] at h;subst h;simp
  | cons a l ih =>
   intro us h
   simp only [Vs] at h
   obtain ⟨u,t,rfl,h1,h2⟩:=h
   obtain ⟨q1,q2⟩:=ih t h2
   refine ⟨by simp [q1],fun c av hc=>?_⟩
   cases c with
   | zero=>simp only [List.getElem?_cons_zero,Option.some.injEq] at hc ⊢;subst hc;exact ⟨u,rfl,h1⟩
   | succ c=>simpa using q2 c av (by simpa using hc)
 have vdrop : ∀ (n : Nat) (l : List AV) (us : List Value),Vs w Y m l us → Vs w Y m (l.drop n) (us.drop n):=by
  intro n
  induction n with
  | zero=>intro l us h;simpa using h
  | succ n ih =>
   intro l us h
   cases l with
   | nil=>simp only [Vs] at h;subst h;simp [Vs]
   | cons a l =>
    simp only [Vs] at h
    obtain ⟨u,t,rfl,_,h2⟩:=h
    simpa using ih l t h2
 have vtake : ∀ (n : Nat) (l : List AV) (us : List Value),Vs w Y m l us → Vs w Y m (l.take n) (us.take n):=by
  intro n
  induction n with
  | zero=>intro l us h;simp [Vs]
  | succ n ih =>
   intro l us h
   cases l with
   | nil=>simp only [Vs] at h;subst h;simp [Vs]
   | cons a l =>
    simp only [Vs] at h
    obtain ⟨u,t,rfl,h1,h2⟩:=h
    simp only [List.take_succ_cons,Vs]
    exact ⟨u,_,rfl,h1,ih l t h2⟩
 obtain ⟨hlen,hget⟩:=vget cs vs.toList hv
 unfold loadOk at hok
 unfold part loadAV
 by_cases ha : (ukOf P t).agg = true
 ·simp only [ha,if_true,decide_eq_true_eq] at hok ⊢
  have hne : ukOf P t ≠ .other:=fun e=>by rw [e] at ha;simp [UK.agg] at ha
  obtain ⟨d,hd⟩:=uk_some hne
  obtain ⟨i,hi⟩:=und_info hd
  refine ⟨.agg (vs.extract off (off + szOf P t)),?_,?_⟩
  ·rw [srun_bind_ok (run_isAgg hne),ha]
   simp only [if_true]
   rw [srun_bind_ok (run_size hi)];rfl
  ·simp only [V]
   refine ⟨_,rfl,Vs.dat _ _ ?_⟩
   have:=vtake (szOf P t) _ _ (vdrop off _ _ hv)
   rwa [Array.toList_extract,List.extract_eq_take_drop,show off + szOf P t - off = szOf P t by omega]
 ·simp only [ha,Bool.false_eq_true,if_false,Bool.and_eq_true,decide_eq_true_eq,bne_iff_ne] at hok ⊢
  obtain ⟨u,h1,h2⟩:=hget off cs[off] (List.getElem?_eq_getElem hok.1)
  refine ⟨u,?_,V.dat _ _ ?_⟩
  ·rw [srun_bind_ok (run_isAgg hok.2)]
   simp only [ha,Bool.false_eq_true,if_false]
   have : vs[off]? = some u:=by rw [← Array.getElem?_toList];exact h1
   rw [this];rfl
  ·rwa [List.getD_eq_getElem?_getD,List.getElem?_eq_getElem hok.1]
theorem eqC_sound {t : TypeId} {a b : AV} {v u : Value} {c : Bool} (h : eqC (ukOf P t) a b = some c) (hv : V w Y m a v) (hu : V w Y m b u) (d : Nat) : (Op.equalIn (d + 1) t v u).run P w = .ok c w:=by
 unfold eqC at h
 split at h
 ·rename_i k0 k x k' y hk
  split at h
  ·rename_i e
   subst e
   simp only [Option.some.injEq] at h
   subst h
   simp only [V] at hv hu
   subst hv hu
   unfold Op.equalIn
   rw [srun_bind_ok (run_und (uk_int hk))]
   simp only [if_true];rfl
  ·cases h
 ·rename_i x y hk
  simp only [Option.some.injEq] at h
  subst h
  simp only [V] at hv hu
  subst hv hu
  unfold Op.equalIn
  rw [srun_bind_ok (run_und (uk_str hk))];rfl
 ·rename_i x y hk
  simp only [Option.some.injEq] at h
  subst h
  simp only [V] at hv hu
  subst hv hu
  unfold Op.equalIn
  rw [srun_bind_ok (run_und (uk_bool hk))];rfl
 ·cases h
theorem eqCells_sound {xs ys : List AV} {vs us : Array Value} (hv : Vs w Y m xs vs.toList) (hu : Vs w Y m ys us.toList) (d : Nat) : ∀ (fs : List Field) {c : Bool}, eqCells P ((fs.filter fun f => f.name ≠ "_").map fun f => (f.offset, f.type)) xs ys = some c →
  (forIn fs ((none, ()) : Option Bool × Unit) (fun (f : Field) (__s : Option Bool × Unit) => (if f.name ≠ "_" then do
        let __do_lift ← part f.type vs f.offset
        let __do_lift_1 ← part f.type us f.offset
        let __do_lift ← Op.equalIn (d + 1) f.type __do_lift __do_lift_1
        if (!__do_lift) = true then pure (ForInStep.done (some false, ()))
         else pure (ForInStep.yield (none, ()))
       else pure (ForInStep.yield (none, ())) : Sem (ForInStep (Option Bool × Unit)))) : Sem (Option Bool × Unit)).run P w = .ok (if c = true then none else some false, ()) w
 | [], c, h => by
  simp only [List.filter_nil, List.map_nil, eqCells, Option.some.injEq] at h
  subst h
  rfl
 | f :: fs, c, h => by
  rw [List.forIn_cons]
  by_cases hn : f.name ≠ "_"
  ·rw [List.filter_cons, if_pos (by simpa using hn), List.map_cons] at h
   simp only [eqCells] at h
   split at h
   ·rename_i hok
    rw [Bool.and_eq_true] at hok
    split at h
    ·rename_i a b h1 h2
     simp only [Option.some.injEq] at h
     obtain ⟨v1, r1, q1⟩ := run_part hv hok.1
     obtain ⟨v2, r2, q2⟩ := run_part hu hok.2
     have he := eqC_sound h1 q1 q2 d
     rw [if_pos hn]
     cases a with
     | true =>
      simp only [Bool.true_and] at h
      subst h
      have hstep : (do
        let __do_lift ← part f.type vs f.offset
        let __do_lift_1 ← part f.type us f.offset
        let __do_lift ← Op.equalIn (d + 1) f.type __do_lift __do_lift_1
        if (!__do_lift) = true then pure (ForInStep.done (some false, ()))
         else pure (ForInStep.yield ((none, ()) : Option Bool × Unit)) : Sem (ForInStep (Option Bool × Unit))).run P w = .ok (ForInStep.yield (none, ())) w := by
       rw [srun_bind_ok r1, srun_bind_ok r2, srun_bind_ok he]; rfl
      rw [srun_bind_ok hstep]
      exact eqCells_sound hv hu d fs h2
     | false =>
      simp only [Bool.false_and] at h
      subst h
      have hstep : (do
        let __do_lift ← part f.type vs f.offset
        let __do_lift_1 ← part f.type us f.offset
        let __do_lift ← Op.equalIn (d + 1) f.type __do_lift __do_lift_1
        if (!__do_lift) = true then pure (ForInStep.done (some false, ()))
         else pure (ForInStep.yield ((none, ()) : Option Bool × Unit)) : Sem (ForInStep (Option Bool × Unit))).run P w = .ok (ForInStep.done (some false, ())) w := by
       rw [srun_bind_ok r1, srun_bind_ok r2, srun_bind_ok he]; rfl
      rw [srun_bind_ok hstep]
      rfl
    ·cases h
   ·cases h
  ·rw [List.filter_cons, if_neg (by simpa using hn)] at h
   rw [if_neg hn]
   rw [srun_bind_ok (srun_pure _)]
   exact eqCells_sound hv hu d fs h
theorem eqGuard_agg {op : BinOp} {t : TypeId} {x y : Operand} {a b : Array Value} (h : P.eqGuardType P.depth t = false) : (eqGuard op t x y (.agg a) (.agg b)).run P w = .ok () w:=by
 unfold eqGuard
 split
 ·simp only [Bool.not_true,Bool.false_eq_true,if_false]
  rw [srun_bind_ok srun_program,srun_bind_ok srun_program,h]
  rfl
 ·simp only [Bool.not_true,Bool.false_eq_true,if_false]
  rw [srun_bind_ok srun_program,srun_bind_ok srun_program,h]
  rfl
 ·rfl
theorem eqAgg_sound {op : BinOp} {t : TypeId} {xs ys : List AV} {v u : Value} (hok : (eqAgg P op t xs ys).ok = true) (hv : V w Y m (.agg xs) v) (hu : V w Y m (.agg ys) u) (x y : Operand) :
  Gives P w Y m (do eqGuard op t x y v u;binOp op t v u) (eqAgg P op t xs ys).v:=by
 simp only [V] at hv hu
 obtain ⟨vs,rfl,hv⟩:=hv
 obtain ⟨us,rfl,hu⟩:=hu
 unfold eqAgg at hok ⊢
 split at hok
 ·rename_i l hl
  split at hok
  ·rename_i b hb
   unfold eqOk at hl
   split at hl
   ·rename_i fs hd
    split at hl
    ·cases hl
    ·rename_i hg
     simp only [Bool.or_eq_true,not_or,Bool.not_eq_true] at hg
     simp only [Option.some.injEq] at hl
     subst hl
     have hall:=eqCells_sound hv hu 9998 fs.toList hb
     have he : (Op.equal t (.agg vs) (.agg us)).run P w = .ok b w:=by
      unfold Op.equal
      rw [show Op.maxDepth = 9998 + 1 + 1 from rfl]
      unfold Op.equalIn
      rw [srun_bind_ok (run_und hd)]
      simp only []
      rw [srun_bind_ok srun_program,hg.1]
      simp only [Bool.false_eq_true,if_false]
      rw [← Array.forIn_toList,srun_bind_ok hall]
      cases b<;>rfl
     have key : binOp .eql t (.agg vs) (.agg us) = (do pure (.bool (← Op.equal t (.agg vs) (.agg us)))) ∧ binOp .neq t (.agg vs) (.agg us) = (do pure (.bool (!(← Op.equal t (.agg vs) (.agg us))))):=⟨rfl,rfl⟩
     split at hok
     ·refine ⟨.bool b,?_,by simp [V]⟩
      rw [srun_bind_ok (eqGuard_agg hg.2),key.1,srun_bind_ok he];rfl
     ·refine ⟨.bool !b,?_,by simp [V]⟩
      rw [srun_bind_ok (eqGuard_agg hg.2),key.2,srun_bind_ok he];rfl
     ·cases hok
   ·cases hl
  ·cases hok
 ·cases hok
theorem binAV_sound {op : BinOp} {t : TypeId} {a b : AV} {v u : Value} (hok : (binAV P op t a b).ok = true) (hv : V w Y m a v) (hu : V w Y m b u) (x y : Operand) :
  Gives P w Y m (do eqGuard op t x y v u;binOp op t v u) (binAV P op t a b).v:=by
 have hg : ∀ {s : Sem Value} {r : AV},(eqGuard op t x y v u) = pure () → Gives P w Y m s r → Gives P w Y m (do eqGuard op t x y v u;s) r:=by
  rintro s r e ⟨z,h1,h2⟩
  exact ⟨z,by rw [e,srun_bind_ok (srun_pure ()),h1],h2⟩
 unfold binAV at hok ⊢
 split at hok
 ·rename_i k x1 k' y1
  simp only [V] at hv hu
  subst hv hu
  refine hg (by unfold eqGuard;split<;>rfl) ?_
  split at hok
  ·simp only [decide_eq_true_eq] at hok
   apply Gives.int
   simp only [Go.binOp,Op.shift]
   rw [if_neg (by omega)];rfl
  ·simp only [decide_eq_true_eq] at hok
   apply Gives.int
   simp only [Go.binOp,Op.shift]
   rw [if_neg (by omega)];rfl
  ·rename_i n1 n2
   simp only [Bool.and_eq_true,beq_iff_eq] at hok
   obtain ⟨rfl,hok⟩:=hok
   have:=binInt_sound (P:=P) (w:=w) (Y:=Y) (m:=m) (t:=t) hok
   cases op<;>first | exact this | exact absurd rfl n1 | exact absurd rfl n2
 ·simp only [V] at hv hu
  subst hv hu
  refine hg (by unfold eqGuard;split<;>rfl) ?_
  exact binStr_sound hok
 ·simp only [V] at hv hu
  subst hv hu
  refine hg (by unfold eqGuard;split<;>rfl) ?_
  split at hok
  ·simp only [beq_iff_eq] at hok
   apply Gives.bool
   have:=eqB (P:=P) (w:=w) 9999 (uk_bool hok)
   simp only [Go.binOp]
   unfold Op.equal
   rw [show Op.maxDepth = 9999 + 1 from rfl,srun_bind_ok (this _ _)];rfl
  ·simp only [beq_iff_eq] at hok
   apply Gives.bool
   have:=eqB (P:=P) (w:=w) 9999 (uk_bool hok)
   simp only [Go.binOp]
   unfold Op.equal
   rw [show Op.maxDepth = 9999 + 1 from rfl,srun_bind_ok (this _ _)];rfl
  ·simp [R1.no] at hok
 ·exact eqAgg_sound hok hv hu x y
 ·rename_i n1 n2 n3 n4
  have ng : ∀ {v u : Value},nilish v = true → nilish u = true → eqGuard op t x y v u = pure ():=by
   intro v u h1 h2
   unfold eqGuard
   cases v<;>simp [nilish] at h1<;>cases u<;>simp [nilish] at h2<;>(split<;>rfl)
  split at hok
  ·rename_i p1 p2
   obtain ⟨q1,q2,q3,q4⟩:=eq_nil p1 p2 hv hu
   exact hg (ng q3 q4) (Gives.bool (binOp_eql_nilish q3 q4 q1).1)
  ·rename_i p1 p2
   obtain ⟨q1,q2,q3,q4⟩:=eq_nil p1 p2 hv hu
   exact hg (ng q3 q4) (Gives.bool (binOp_eql_nilish q3 q4 q1).2)
  ·rename_i p1 p2
   obtain ⟨q1,q2,q3,q4⟩:=eq_nil p2 p1 hu hv
   exact hg (ng q4 q3) (Gives.bool (binOp_eql_nilish q4 q3 q2).1)
  ·rename_i p1 p2
   obtain ⟨q1,q2,q3,q4⟩:=eq_nil p2 p1 hu hv
   exact hg (ng q4 q3) (Gives.bool (binOp_eql_nilish q4 q3 q2).2)
  ·simp [R1.no] at hok
theorem unAV_sound {op : UnOp} {a : AV} {v : Value} (hok : (unAV op a).ok = true) (hv : V w Y m a v) : Gives P w Y m (Op.unary op v) (unAV op a).v:=by
 unfold unAV at hok ⊢
 split at hok
 ·simp only [V] at hv;subst hv;exact Gives.bool rfl
 ·simp only [V] at hv;subst hv;exact Gives.int rfl
 ·simp [R1.no] at hok
theorem convAV_sound {s d : TypeId} {a : AV} {v : Value} (hok : (convAV P s d a).ok = true) (hv : V w Y m a v) : Gives P w Y m (Go.convert s d v) (convAV P s d a).v:=by
 unfold convAV at hok ⊢
 split at hok
 ·rename_i k k' n hd
  simp only [bne_iff_ne,ne_eq] at hok
  simp only [V] at hv;subst hv
  obtain ⟨ds,hs⟩:=uk_some hok
  apply Gives.int
  unfold Go.convert
  rw [srun_bind_ok (run_und hs),srun_bind_ok (run_und (uk_int hd))]
  cases ds<;>rfl
 ·rename_i x hd
  simp only [beq_iff_eq] at hok
  simp only [V] at hv;subst hv
  apply Gives.str
  unfold Go.convert
  rw [srun_bind_ok (run_und (uk_str hok)),srun_bind_ok (run_und (uk_str hd))]
  rfl
 ·simp [R1.no] at hok
theorem ob_row {mb : MB} {sz idx : Nat} {rows : List (List AV)} (h : ObR w Y m mb (.cells sz rows)) (hi : idx < rows.length) : RowAt w Y m mb.blk (mb.base + idx * mb.sz) (rows.getD idx []):=by
 obtain ⟨h1,_,_,h4⟩:=h
 intro c av hc
 rw [h1]
 exact h4 idx _ c av (by rw [List.getD_eq_getElem?_getD,List.getElem?_eq_getElem hi];rfl) hc
theorem frz_row {mb : MB} {sz idx : Nat} {rows : List (List AV)} (h : ObR w Y m mb (.frz sz rows)) (hi : idx < rows.length) : RowAt w Y m mb.blk (mb.base + idx * mb.sz) (rows.getD idx []):=by
 obtain ⟨h1,h2⟩:=h
 rcases h2 with h2 | h2
 ·subst h2;simp at hi
 ·rw [h1]
  exact (h2.get idx _ (by rw [List.getD_eq_getElem?_getD,List.getElem?_eq_getElem hi];rfl)).2.rowAt
theorem sure_ptr (ad : Addr) : (Instr.sureAddr (.pointer (some ad))).run P w = .ok ad w:=rfl
theorem asInt_run (k : IntKind) (n : Int) : (asIntOf (.int k n)).run P w = .ok (k,n) w:=rfl
variable {o : List Ob}
theorem loadR_sound {t : TypeId} {a : AV} {v : Value} (hl : m.length = o.length) (ho : ∀ (id : Nat) (x : Ob) (mb : MB),o[id]? = some x → m[id]? = some mb → ObR w Y m mb x)
  (hok : (loadR P o t a).ok = true) (hv : V w Y m a v) : Gives P w Y m (Instr.loadAt t v) (loadR P o t a).v:=by
 have key : ∀ {blk x off : Nat} {row : List AV},RowAt w Y m blk x row → loadOk P t row off = true → Gives P w Y m (Instr.loadAt t (.pointer (some ⟨blk,x + off,none⟩))) (loadAV P t row off):=by
  intro blk x off row hr hk
  obtain ⟨v,h1,h2⟩:=run_loadVar hr hk
  exact ⟨v,by unfold Instr.loadAt;rw [srun_bind_ok (sure_ptr _),h1],h2⟩
 unfold loadR at hok ⊢
 split at hok
 ·rename_i id idx off
  simp only [V] at hv
  obtain ⟨mb,hm,rfl⟩:=hv
  split at hok
  ·rename_i sz rows hid
   simp only [Bool.and_eq_true,decide_eq_true_eq] at hok
   simp only [hid]
   exact key (ob_row (ho id _ mb hid hm) hok.1) hok.2
  ·rename_i sz rows hid
   simp only [Bool.and_eq_true,decide_eq_true_eq] at hok
   simp only [hid]
   exact key (frz_row (ho id _ mb hid hm) hok.1) hok.2
  ·simp [R1.no] at hok
 ·rename_i row off
  simp only [V] at hv
  obtain ⟨blk,base,rfl,hc⟩:=hv
  exact key hc.rowAt hok
 ·simp [R1.no] at hok
theorem fld_some {s : TypeId} {f fo : Nat} {ft : TypeId} (h : fldOf P s f = some (fo,ft)) : ∃ fs fd,P.underlying s = some (.struct fs) ∧ fs[f]? = some fd ∧ fd.offset = fo ∧ fd.type = ft:=by
 unfold fldOf at h
 split at h
 ·rename_i fs hfs
  cases hf : fs[f]? with
  | none=>simp [hf] at h
  | some fd =>
   simp only [hf,Option.map_some,Option.some.injEq,Prod.mk.injEq] at h
   exact ⟨fs,fd,hfs,hf,h.1,h.2⟩
 ·simp at h
theorem fieldR_sound {s : TypeId} {a : AV} {v : Value} {f : Nat} (hok : (fieldR P s a f).ok = true) (hv : V w Y m a v) : Gives P w Y m (Instr.fieldAt s v f) (fieldR P s a f).v:=by
 unfold fieldR at hok ⊢
 split at hok
 ·rename_i fo ft hf
  obtain ⟨fs,fd,h1,h2,rfl,rfl⟩:=fld_some hf
  have key : ∀ {blk x : Nat},szOf P fd.type ≠ 0 → ukOf P fd.type ≠ .other → (Instr.fieldAt s (.pointer (some ⟨blk,x,none⟩)) f).run P w = .ok (.pointer (some ⟨blk,x + fd.offset,none⟩)) w:=by
   intro blk x hz hne
   obtain ⟨d,hd⟩:=uk_some hne
   obtain ⟨i,hi⟩:=und_info hd
   unfold Instr.fieldAt
   rw [srun_bind_ok (run_und h1)]
   simp only [h2]
   rw [srun_bind_ok (sure_ptr _)]
   unfold fieldPlace
   rw [srun_bind_ok (w':=w) (x:=⟨blk,x + fd.offset,none⟩)]
   ·rfl
   ·rw [srun_bind_ok (run_size hi),if_neg hz,addr_add];rfl
  split at hok
  ·rename_i id idx off
   simp only [Bool.and_eq_true,bne_iff_ne,ne_eq] at hok
   simp only [V] at hv
   obtain ⟨mb,hm,rfl⟩:=hv
   exact ⟨_,key hok.1 hok.2,by simp only [V];exact ⟨mb,hm,by rw [Nat.add_assoc]⟩⟩
  ·rename_i row off
   simp only [Bool.and_eq_true,bne_iff_ne,ne_eq] at hok
   simp only [V] at hv
   obtain ⟨blk,base,rfl,hc⟩:=hv
   exact ⟨_,key hok.1 hok.2,by simp only [V];exact ⟨blk,base,by rw [Nat.add_assoc],hc⟩⟩
  ·simp [R1.no] at hok
 ·simp [R1.no] at hok
end
end Go.AW
namespace Go.AW
open Go
set_option linter.unusedSimpArgs false
set_option linter.unusedVariables false
section
variable {P : Program} {w : World} {Y : CS} {m : List MB} {o : List Ob}
theorem Rs.row {blk off sz idx : Nat} {rows : List (List AV)} (h : Rs w Y sz blk off rows) (hi : idx < rows.length) : Cs w Y blk (off + idx * sz) (rows.getD idx []) :=
 (h.get idx _ (by rw [List.getD_eq_getElem?_getD,List.getElem?_eq_getElem hi];rfl)).2
theorem run_indexAt_slice {t e : TypeId} {k : IntKind} {n : Int} {blk x len cap : Nat} (ht : ukOf P t = .slice e) (he : ukOf P e ≠ .other) (h0 : 0 ≤ n) (h1 : n < len) :
  (Instr.indexAt t (.slice (some ⟨blk,x,none⟩) len cap) (.int k n)).run P w = .ok (.pointer (some ⟨blk,x + n.toNat * szOf P e,none⟩)) w:=by
 obtain ⟨d,hd⟩:=uk_some he
 obtain ⟨i,hi⟩:=und_info hd
 have hu:=uk_slice ht
 unfold Instr.indexAt
 rw [srun_bind_ok (asInt_run k n),srun_bind_ok (run_und hu),srun_bind_ok (srun_pure _),srun_bind_ok (run_und hu)]
 simp only
 rw [if_pos ⟨h0,h1⟩,srun_bind_ok (run_size hi),addr_add]
 rfl
theorem idxR_sound {t : TypeId} {a b : AV} {v u : Value} (hl : m.length = o.length) (ho : ∀ (id : Nat) (x : Ob) (mb : MB),o[id]? = some x → m[id]? = some mb → ObR w Y m mb x)
  (hok : (idxR P o t a b).ok = true) (hv : V w Y m a v) (hu : V w Y m b u) : Gives P w Y m (Instr.indexAt t v u) (idxR P o t a b).v:=by
 unfold idxR at hok ⊢
 split at hok
 ·rename_i e k n ht
  simp only [V] at hu;subst hu
  have sl : ∀ {sz : Nat} {rows : List (List AV)} {v : Value},(decide (0 ≤ n) && decide (n < rows.length) && sz == szOf P e && ukOf P e != .other) = true → V w Y m (.sl sz rows) v →
    Gives P w Y m (Instr.indexAt t v (.int k n)) (.ep (rows.getD n.toNat []) 0):=by
   intro sz rows v hok hv
   simp only [Bool.and_eq_true,decide_eq_true_eq,beq_iff_eq,bne_iff_ne,ne_eq] at hok
   obtain ⟨⟨⟨h0,h1⟩,rfl⟩,he⟩:=hok
   simp only [V] at hv
   obtain ⟨a,cap,rfl,_,_,hr⟩:=hv
   have hlt : n.toNat < rows.length:=by omega
   rcases hr with rfl | ⟨blk,off,rfl,hr⟩
   ·simp at hlt
   ·exact ⟨_,run_indexAt_slice ht he h0 h1,by simp only [V];exact ⟨blk,_,rfl,hr.row hlt⟩⟩
  split at hok
  ·exact sl hok hv
  ·exact sl hok (by simpa only [V] using hv)
  ·rename_i id off len
   simp only [V] at hv
   obtain ⟨mb,a,cap,hm,rfl,_,_,ha⟩:=hv
   have key : ∀ {x : Ob} {sz : Nat},mb.sz = sz → (decide (0 ≤ n) && decide (n < len) && sz == szOf P e && ukOf P e != .other) = true →
     Gives P w Y m (Instr.indexAt t (.slice a len cap) (.int k n)) (.ptr id (off + n.toNat) 0):=by
    intro x sz hsz hok
    simp only [Bool.and_eq_true,decide_eq_true_eq,beq_iff_eq,bne_iff_ne,ne_eq] at hok
    obtain ⟨⟨⟨h0,h1⟩,rfl⟩,he⟩:=hok
    rcases ha with ha | ⟨rfl,_⟩
    ·omega
    ·refine ⟨_,run_indexAt_slice ht he h0 h1,?_⟩
     simp only [V]
     exact ⟨mb,hm,by rw [hsz,Nat.add_mul];simp [Nat.add_assoc]⟩
   split at hok
   ·rename_i sz rows hid
    simp only [hid]
    exact key (x:=.dead) (ho id _ mb hid hm).1 hok
   ·rename_i sz rows hid
    simp only [hid]
    exact key (x:=.dead) (ho id _ mb hid hm).1 hok
   ·simp [R1.no] at hok
  ·simp [R1.no] at hok
 ·rename_i len e k n ht
  simp only [V] at hu;subst hu
  split at hok
  ·rename_i id idx off
   simp only [Bool.and_eq_true,decide_eq_true_eq,bne_iff_ne,ne_eq] at hok
   obtain ⟨⟨h0,h1⟩,he⟩:=hok
   simp only [V] at hv
   obtain ⟨mb,hm,rfl⟩:=hv
   obtain ⟨d,hd⟩:=uk_some he
   obtain ⟨i,hi⟩:=und_info hd
   have hu:=uk_arr ht
   refine ⟨.pointer (some ⟨mb.blk,mb.base + idx * mb.sz + off + n.toNat * szOf P e,none⟩),?_,?_⟩
   ·unfold Instr.indexAt
    rw [srun_bind_ok (asInt_run k n),srun_bind_ok (run_und hu)]
    simp only
    rw [srun_bind_ok (sure_ptr _),srun_bind_ok (srun_pure _),srun_bind_ok (run_und hu)]
    simp only
    rw [if_pos ⟨h0,h1⟩,srun_bind_ok (run_size hi),addr_add];rfl
   ·simp only [V]
    exact ⟨mb,hm,by rw [Nat.add_assoc (mb.base + idx * mb.sz)]⟩
  ·simp [R1.no] at hok
 ·simp [R1.no] at hok
theorem indexR_sound {t : TypeId} {a b : AV} {v u : Value} (hok : (indexR P t a b).ok = true) (hv : V w Y m a v) (hu : V w Y m b u) : Gives P w Y m (Instr.index t v u) (indexR P t a b).v:=by
 unfold indexR at hok ⊢
 split at hok
 ·rename_i len e cs k n ht
  simp only [Bool.and_eq_true,decide_eq_true_eq] at hok
  obtain ⟨⟨h0,h1⟩,h2⟩:=hok
  simp only [V] at hv hu;subst hu
  obtain ⟨vs,rfl,hvs⟩:=hv
  obtain ⟨x,g1,g2⟩:=run_part (P:=P) (t:=e) hvs h2
  have hne : ukOf P e ≠ .other:=by
   unfold loadOk at h2
   intro e'
   rw [e'] at h2;simp [UK.agg] at h2
  obtain ⟨d,hd⟩:=uk_some hne
  obtain ⟨i,hi⟩:=und_info hd
  refine ⟨x,?_,g2⟩
  unfold Instr.index
  rw [srun_bind_ok (asInt_run k n),srun_bind_ok (run_und (uk_arr ht))]
  simp only
  rw [if_pos ⟨h0,h1⟩,srun_bind_ok (run_size hi)]
  exact g1
 ·rename_i x k n ht
  simp only [Bool.and_eq_true,decide_eq_true_eq] at hok
  simp only [V] at hv hu;subst hv hu
  apply Gives.int
  unfold Instr.index
  rw [srun_bind_ok (asInt_run k n),srun_bind_ok (run_und (uk_str ht))]
  have hlt : n.toNat < x.size:=by omega
  have hget : x[n.toNat]? = some (x.data.getD n.toNat 0):=by
   rw [getElem?_pos x n.toNat hlt]
   simp only [Option.some.injEq]
   show x.data[n.toNat] = _
   rw [Array.getD_eq_getD_getElem?,Array.getElem?_eq_getElem hlt];rfl
  simp only [if_pos hok.1,hget]
  rfl
 ·simp [R1.no] at hok
theorem run_sliceBound {x : AV} {v : Value} {n y : Int} {yy : Nat} {code : BoundsCode} {k : IntKind} (h0 : 0 ≤ n) (h1 : n ≤ yy) : (Instr.sliceBound (.int k n) yy code).run P w = .ok n.toNat w:=by
 unfold Instr.sliceBound
 rw [srun_bind_ok (asInt_run k n)]
 simp only
 rw [if_pos ⟨h0,h1⟩];rfl
theorem run_bounds {isS : Bool} {len cap : Nat} {lo hi : Option AV} {clo chi : Option Value} {l h : Int} (hlo : bnd lo 0 = some l) (hhi : bnd hi len = some h)
  (vlo : ∀ a,lo = some a → ∃ v,clo = some v ∧ V w Y m a v) (vhi : ∀ a,hi = some a → ∃ v,chi = some v ∧ V w Y m a v) (nlo : lo = none → clo = none) (nhi : hi = none → chi = none)
  (h0 : 0 ≤ l) (h1 : l ≤ h) (h2 : h ≤ len) (hc : len ≤ cap) : (Instr.sliceBounds isS len cap clo chi none).run P w = .ok (l.toNat,h.toNat,cap) w:=by
 have glo : (clo = none ∧ l = 0) ∨ ∃ k,clo = some (.int k l):=by
  cases lo with
  | none=>simp only [bnd,Option.some.injEq] at hlo;exact .inl ⟨nlo rfl,by simpa using hlo.symm⟩
  | some a =>
   obtain ⟨v,rfl,hv⟩:=vlo a rfl
   cases a<;>simp only [bnd,Option.some.injEq,reduceCtorEq] at hlo<;>try (cases hlo;done)
   subst hlo
   simp only [V] at hv;subst hv
   exact .inr ⟨_,rfl⟩
 have ghi : (chi = none ∧ h = len) ∨ ∃ k,chi = some (.int k h):=by
  cases hi with
  | none=>simp only [bnd,Option.some.injEq] at hhi;exact .inl ⟨nhi rfl,hhi.symm⟩
  | some a =>
   obtain ⟨v,rfl,hv⟩:=vhi a rfl
   cases a<;>simp only [bnd,Option.some.injEq,reduceCtorEq] at hhi<;>try (cases hhi;done)
   subst hhi
   simp only [V] at hv;subst hv
   exact .inr ⟨_,rfl⟩
 have sb : ∀ {k : IntKind} {n : Int} {yy : Nat} {code : BoundsCode},0 ≤ n → n ≤ yy → (Instr.sliceBound (.int k n) yy code).run P w = .ok n.toNat w :=
  fun a b=>run_sliceBound (x:=.any) (v:=default) (y:=0) a b
 unfold Instr.sliceBounds
 rcases ghi with ⟨rfl,rfl⟩ | ⟨k,rfl⟩
 ·rcases glo with ⟨rfl,rfl⟩ | ⟨k,rfl⟩
  ·simp [srun_bind,srun_pure]
  ·simp only [srun_bind,srun_pure]
   rw [sb h0 h1];simp
 ·rcases glo with ⟨rfl,rfl⟩ | ⟨k',rfl⟩
  ·simp only [srun_bind,srun_pure]
   rw [sb (by omega) (by omega)];simp
  ·simp only [srun_bind,srun_pure]
   rw [sb (by omega) (by omega)]
   simp only
   rw [sb h0 (by omega)]
end
end Go.AW
