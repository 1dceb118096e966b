/- Quiet operations: the one function over all kinds ('opQ'), and that what it tells is so. Generic in the program; no condition of its own. -/
import Derived.Test.YtfchdibbjaeocaaDoorK8
namespace Go.Kx
open Go.RowKit

section
variable {P : Program}
theorem run_bound {n : Int} {y : Nat} {k : IntKind} {c : BoundsCode} (h : 0 ≤ n ∧ n ≤ (y : Int)) (w : World) : (Instr.sliceBound (.int k n) y c).run P w = .ok n.toNat w := by
  simp [Instr.sliceBound, asIntOf, h]
theorem sliceVX_ok {T : Tab} (hT : TabOk P T) {t : TypeId} {sx : SV} {lo : Int} {hi : Option Int} {H : Hp} {G : List SB} {K : SV → Prop} (h : sliceVX T t sx lo hi G K) :
    ∃ sv, K sv ∧ ∀ ρ wc v, Sw ρ H G wc → sx.Is ρ v → ∃ r, sv.Is ρ r ∧ ∀ (w : World) (vl vh : Option Value), (match vl with | none => lo = 0 | some l => ∃ k, l = .int k lo) → (match vh, hi with | none, none => True | some u, some h => ∃ k, u = .int k h | _, _ => False) →
      (Instr.sliceAt t v vl vh none).run P w = .ok r w := by
  obtain ⟨ti, ht, h⟩ := tabX_ok hT h
  cases hk : ti.k with
  | string =>
    simp only [hk] at h
    obtain ⟨s, rfl, h⟩ := strX_ok h
    cases hi with
    | none =>
      obtain ⟨⟨h1, h2⟩, h⟩ := h
      refine ⟨_, h, fun ρ wc v _ hv => ⟨_, rfl, fun w vl vh hl hh => ?_⟩⟩
      obtain rfl : v = _ := hv
      cases vh with
      | some u => exact hh.elim
      | none =>
        cases vl with
        | none =>
          obtain rfl : lo = 0 := hl
          simp [Instr.sliceAt, Instr.slice, Instr.sliceBounds, run_underlying (ht.string hk)]
        | some l =>
          obtain ⟨k, rfl⟩ := hl
          simp [Instr.sliceAt, Instr.slice, Instr.sliceBounds, run_underlying (ht.string hk), run_bound (P := P) ⟨h1, h2⟩]
    | some u =>
      obtain ⟨⟨h1, h2, h3⟩, h⟩ := h
      have h4 : 0 ≤ u ∧ u ≤ (s.size : Int) := ⟨by omega, h3⟩
      have h5 : 0 ≤ lo ∧ lo ≤ (u.toNat : Int) := ⟨h1, by omega⟩
      refine ⟨_, h, fun ρ wc v _ hv => ⟨_, rfl, fun w vl vh hl hh => ?_⟩⟩
      obtain rfl : v = _ := hv
      cases vh with
      | none => exact hh.elim
      | some u' =>
        obtain ⟨k', rfl⟩ := hh
        cases vl with
        | none =>
          obtain rfl : lo = 0 := hl
          simp [Instr.sliceAt, Instr.slice, Instr.sliceBounds, run_underlying (ht.string hk), run_bound (P := P) h4]
        | some l =>
          obtain ⟨k, rfl⟩ := hl
          simp [Instr.sliceAt, Instr.slice, Instr.sliceBounds, run_underlying (ht.string hk), run_bound (P := P) h4, run_bound (P := P) h5]
  | slice e =>
    simp only [hk] at h
    obtain ⟨ei, he, h⟩ := tabX_ok hT h
    obtain ⟨A, n, c, h, hs⟩ := sliceX_ok h
    cases hi with
    | none =>
      obtain ⟨⟨h1, h2⟩, h⟩ := h
      refine ⟨_, h, fun ρ wc v hw hv => ⟨_, rfl, fun w vl vh hl hh => ?_⟩⟩
      obtain rfl : v = _ := hs ρ H wc v hw hv
      cases vh with
      | some u => exact hh.elim
      | none =>
        cases vl with
        | none =>
          obtain rfl : lo = 0 := hl
          simp [Instr.sliceAt, Instr.slice, Instr.sliceBounds, run_underlying (ht.slice hk), he.sizeOf w, subA]
        | some l =>
          obtain ⟨k, rfl⟩ := hl
          simp [Instr.sliceAt, Instr.slice, Instr.sliceBounds, run_underlying (ht.slice hk), he.sizeOf w, subA, run_bound (P := P) ⟨h1, h2⟩]
    | some u =>
      obtain ⟨⟨h1, h2, h3⟩, h⟩ := h
      have h4 : 0 ≤ u ∧ u ≤ (c : Int) := ⟨by omega, h3⟩
      have h5 : 0 ≤ lo ∧ lo ≤ (u.toNat : Int) := ⟨h1, by omega⟩
      refine ⟨_, h, fun ρ wc v hw hv => ⟨_, rfl, fun w vl vh hl hh => ?_⟩⟩
      obtain rfl : v = _ := hs ρ H wc v hw hv
      cases vh with
      | none => exact hh.elim
      | some u' =>
        obtain ⟨k', rfl⟩ := hh
        cases vl with
        | none =>
          obtain rfl : lo = 0 := hl
          simp [Instr.sliceAt, Instr.slice, Instr.sliceBounds, run_underlying (ht.slice hk), he.sizeOf w, subA, run_bound (P := P) h4]
        | some l =>
          obtain ⟨k, rfl⟩ := hl
          simp [Instr.sliceAt, Instr.slice, Instr.sliceBounds, run_underlying (ht.slice hk), he.sizeOf w, subA, run_bound (P := P) h4, run_bound (P := P) h5]
  | _ => simp only [hk] at h

/-! ### len, cap, min, max -/
def lenX (T : Tab) (t : TypeId) (sx : SV) (G : List SB) (K : SV → Prop) : Prop :=
  tabX T t fun ti => match ti.k with
    | .string => strX sx fun s => K (pv (.int .i64 s.size))
    | .slice _ => match sx with
      | .si (.ce (.val (.slice _ n _))) => K (pv (.int .i64 n))
      | .si (.ce (.self k)) => getG G k fun s => match s with
        | .frz (.slice _ n _) => K (pv (.int .i64 n))
        | .row _ _ n _ => K (pv (.int .i64 n))
        | _ => False
      | _ => False
    | .map _ _ => match sx with
      | .si (.ce (.self k)) => getG G k fun s => match s with
        | .map _ n _ => K (pv (.int .i64 n))
        | _ => False
      | _ => False
    | .ar n _ _ => K (pv (.int .i64 n))
    | _ => False
theorem lenX_ok {T : Tab} (hT : TabOk P T) {t : TypeId} {sx : SV} {H : Hp} {G : List SB} {K : SV → Prop} (h : lenX T t sx G K) :
    ∃ sv, K sv ∧ ∀ ρ wc v, Sw ρ H G wc → sx.Is ρ v → ∃ r, sv.Is ρ r ∧ ∀ (w : World) (ty : TypeId), Sw ρ H G w → (Builtin.len_ #[t] ty #[v]).run P w = .ok r w := by
  obtain ⟨ti, ht, h⟩ := tabX_ok hT h
  cases hk : ti.k with
  | string =>
    simp only [hk] at h
    obtain ⟨s, rfl, h⟩ := strX_ok h
    refine ⟨_, h, fun ρ wc v _ hv => ⟨_, rfl, fun w ty _ => ?_⟩⟩
    obtain rfl : v = _ := hv
    simp [Builtin.len_, run_underlying (ht.string hk), goInt]
  | slice e =>
    simp only [hk] at h
    split at h
    · refine ⟨_, h, fun ρ wc v _ hv => ⟨_, rfl, fun w ty _ => ?_⟩⟩
      obtain rfl : v = _ := hv
      simp [Builtin.len_, run_underlying (ht.slice hk), goInt]
    · rename_i k
      obtain ⟨s, hs, h⟩ := getG_ok h
      split at h
      · refine ⟨_, h, fun ρ wc v hw hv => ⟨_, rfl, fun w ty _ => ?_⟩⟩
        have hv' : ρ[_]? = some v := hv
        obtain rfl : v = _ := hw.ok _ _ v hs hv'
        simp [Builtin.len_, run_underlying (ht.slice hk), goInt]
      · refine ⟨_, h, fun ρ wc v hw hv => ⟨_, rfl, fun w ty _ => ?_⟩⟩
        have hv' : ρ[_]? = some v := hv
        rcases (hw.ok _ _ v hs hv').2 with ⟨rfl, rfl⟩ | ⟨g, oo, cap, cur, rfl, _⟩ <;> simp [Builtin.len_, run_underlying (ht.slice hk), goInt]
      · exact h.elim
    · exact h.elim
  | map a e =>
    simp only [hk] at h
    split at h
    · rename_i k
      obtain ⟨s, hs, h⟩ := getG_ok h
      split at h
      · rename_i es clock
        refine ⟨_, h, fun ρ wc v hw hv => ⟨_, rfl, fun w ty hw' => ?_⟩⟩
        have hv' : ρ[_]? = some v := hv
        obtain ⟨g, es, clock, rfl, hh, hm⟩ := hw'.ok _ _ v hs hv'
        simp [Builtin.len_, run_underlying (ht.map hk), goInt, getObj, Sem.run, hh, hm.size]
      · exact h.elim
    · exact h.elim
  | ar n e sz =>
    simp only [hk] at h
    refine ⟨_, h, fun ρ wc v hw hv => ⟨_, rfl, fun w ty hw' => ?_⟩⟩
    simp [Builtin.len_, run_underlying (ht.array hk).1, goInt]
  | _ => simp only [hk] at h
/-- The least, the greatest, of whole numbers. -/
def mmX (mx : Bool) : List SV → (IntKind → Int → Prop) → Prop
  | [], _ => False
  | [s], K => intX s K
  | s :: r, K => intX s fun k n => mmX mx r fun _ m => K k (match mx with
    | true => maxB n m
    | false => minB n m)
def mm2 (mx : Bool) (a b : SV) (K : SV → Prop) : Prop :=
  intX a fun k n => intX b fun _ m => match mx with
    | true => K (pv (.int k (maxB n m)))
    | false => K (pv (.int k (minB n m)))
theorem mm2_ok {mx : Bool} {a b : SV} {K : SV → Prop} (h : mm2 mx a b K) : ∃ sv, K sv ∧ ∀ ρ u v, a.Is ρ u → b.Is ρ v → ∃ r, sv.Is ρ r ∧ ∀ (w : World) (ts : Array TypeId) (ty : TypeId), (match mx with | true => Builtin.max_ ts ty #[u, v] | false => Builtin.min_ ts ty #[u, v]).run P w = .ok r w := by
  obtain ⟨k, n, rfl, h1⟩ := intX_ok h
  clear h
  obtain ⟨k', m, rfl, h⟩ := intX_ok h1
  clear h1
  cases mx with
  | true =>
    refine ⟨_, h, fun ρ u v hu hv => ⟨_, rfl, fun w ts ty => ?_⟩⟩
    obtain rfl : u = _ := hu
    obtain rfl : v = _ := hv
    simp [Builtin.max_, Builtin.max2, maxB]
  | false =>
    refine ⟨_, h, fun ρ u v hu hv => ⟨_, rfl, fun w ts ty => ?_⟩⟩
    obtain rfl : u = _ := hu
    obtain rfl : v = _ := hv
    simp [Builtin.min_, Builtin.min2, minB]

/-! ### nilCheck -/
def nilChk (sx : SV) (K : SV → Prop) : Prop :=
  match sx with
  | .si (.ce c) => match c with
    | .ptr _ _ => K sx
    | .pp A _ => (∃ b o, A = some ⟨b, o, none⟩) ∧ K sx
    | .fn (.func _) _ _ => K sx
    | .val (.pointer (some _)) => K sx
    | .val (.func (.func _) _ _) => K sx
    | _ => False
  | _ => False
theorem nilChk_ok {sx : SV} {K : SV → Prop} (h : nilChk sx K) : K sx ∧ ∀ ρ v, sx.Is ρ v → (∃ a, v = .pointer (some a)) ∨ ∃ f x y, v = .func (.func f) x y := by
  unfold nilChk at h
  split at h
  · split at h
    · refine ⟨h, fun ρ v hv => .inl ?_⟩
      obtain ⟨r, _, hp⟩ := hv
      unfold ptrAt at hp
      split at hp <;> first | (injection hp with hp; exact ⟨_, hp.symm⟩) | cases hp
    · obtain ⟨⟨b, o, rfl⟩, h⟩ := h
      exact ⟨h, fun ρ v hv => .inl ⟨_, hv⟩⟩
    · refine ⟨h, fun ρ v hv => .inr ?_⟩
      obtain ⟨ys, rfl, _⟩ := hv
      exact ⟨_, _, _, rfl⟩
    · exact ⟨h, fun ρ v hv => .inl ⟨_, hv⟩⟩
    · exact ⟨h, fun ρ v hv => .inr ⟨_, _, _, hv⟩⟩
    · exact h.elim
  · exact h.elim

/-! ### All -/
def placesX (ti : TI) (K : Places → Prop) : Prop :=
  match ti.k with
  | .st fs => K (.st fs)
  | .ar _ _ sz => K (.ar sz)
  | _ => False
theorem built_of {t : TypeId} {ti : TI} (ht : TOk P t ti) {pl : Places} {K : Places → Prop} (hp : placesX ti K) : ∃ pl : Places, K pl ∧ ∀ (qs : List (Nat × Value)) (ys' : List Value), Instr.fill pl.fn (ti.zero.map Z.val).toArray qs = some ys'.toArray → P.built t qs = some ys'.toArray := by
  have _ := pl
  obtain ⟨i, z, hi, hs, hb, hz, hzc⟩ := ht.info
  have hzz : z.cells = (ti.zero.map Z.val).toArray := by rw [← hzc]
  unfold placesX at hp
  cases hk : ti.k with
  | st fs =>
    simp only [hk] at hp
    refine ⟨_, hp, fun qs ys' hq => ?_⟩
    obtain ⟨fields, hu, hf⟩ := ht.struct hk
    have hmap : fields.toList.mapM (fun f => (P.info? f.type).map fun i => (f.offset, i.size)) = some (fs.map fun x => (x.1, x.2.2)) := by
      clear hp hu hk hq
      generalize fields.toList = l at hf
      induction l generalizing fs with
      | nil => simp at hf; subst hf; rfl
      | cons f l ih =>
        rw [List.mapM_cons] at hf
        cases hif : P.info? f.type with
        | none => simp [hif] at hf
        | some j =>
          cases hl : l.mapM (fun f => (P.info? f.type).map fun i => (f.offset, f.type, i.size)) with
          | none => simp [hif, hl] at hf
          | some r =>
            simp [hif, hl] at hf
            subst hf
            rw [List.mapM_cons, hif, ih r hl]; rfl
    have hfn : (Places.st fs).fn = fun x => ((fs.map fun x => (x.1, x.2.2)).toArray)[x]? := by
      funext j; simp [Places.fn]
    rw [hfn] at hq
    simp only [Program.built, hi, hu, hz, hmap]
    rw [hzz]; exact hq
  | ar n e sz =>
    simp only [hk] at hp
    refine ⟨_, hp, fun qs ys' hq => ?_⟩
    obtain ⟨hu, j, hj, hjs⟩ := ht.array hk
    simp only [Program.built, hi, hu, hz, hj]
    rw [hzz, hjs]
    exact hq
  | _ => simp only [hk] at hp

def bQ (P : Program) (T : Tab) (o : Oper) (b : Builtin) (args : List Operand) (ts : List TypeId) (F : Fr) (H : Hp) (G : List SB) (K : SV → Prop) : Prop :=
  match b with
  | .len => match args, ts with
    | [x], [t] => evX x F fun sx => lenX T t sx G K
    | _, _ => False
  | .max => match args with
    | [x, y] => evX x F fun sx => evX y F fun sy => mm2 true sx sy K
    | _ => QO P o F H G K
  | .min => match args with
    | [x, y] => evX x F fun sx => evX y F fun sy => mm2 false sx sy K
    | _ => QO P o F H G K
  | _ => QO P o F H G K
def opQ (P : Program) (T : Tab) (o : Oper) (F : Fr) (H : Hp) (G : List SB) (K : SV → Prop) : Prop :=
  match o.op with
  | .move x => evX x F K
  | .assign x => evX x F K
  | .pick c a b => evX c F fun sc => boolX sc fun t => match t with
    | true => evX a F K
    | false => evX b F K
  | .load t x => evX x F fun sx => cellX sx fun c => tabX T t fun ti => loadX ti c H G K
  | .fieldAddr s x f => evX x F fun sx => cellX sx fun c => tabX T s fun ti => structX ti fun fs => fieldX fs f fun d _ n => pos n (offX c d K)
  | .indexAddr t x i => evX x F fun sx => evX i F fun si => intX si fun _ n => tabX T t fun ti => idxAddrX T ti sx n G K
  | .index t x i => evX x F fun sx => evX i F fun si => intX si fun _ n => tabX T t fun ti => idxX T ti sx n K
  | .field t x f => evX x F fun sx => aggX sx fun cs => tabX T t fun ti => structX ti fun fs => fieldX fs f fun d ft _ => partX ft T cs d K
  | .extract x i => evX x F fun sx => tupX sx fun l => getS l i fun g => K (.si g)
  | .build t parts => tabX T t fun ti => placesX ti fun pl => zerosX ti.zero fun zs => evP parts.toList F fun ps => fillX G pl zs ps fun cs => K (.si (.ag cs))
  | .binOp op t x y _ => evX x F fun sx => evX y F fun sy => binG T op t sx y sy G K
  | .unOp op _ x => evX x F fun sx => unX op sx K
  | .convert s d x => evX x F fun sx => convX T s d sx K
  | .makeInterface t x => evX x F fun sx => tabX T t fun ti => notIfc ti.k <| wholeX sx fun v => K (pv (.iface t v))
  | .makeFunc fn first caps => evL first.toList F fun s1 => evL caps.toList F fun s2 => capsX s1 fun l1 => capsX s2 fun l2 => K (.si (.ce (.fn fn l1.length (l1 ++ l2))))
  | .nilCheck x => evX x F fun sx => nilChk sx K
  | .slice t x lo hi mx => match mx with
    | none => evX x F fun sx => boundX lo F 0 fun l => match hi with
      | none => sliceVX T t sx l none G K
      | some h => evX h F fun sh => intX sh fun _ h => sliceVX T t sx l (some h) G K
    | some _ => False
  | .call c => match c.callee with
    | .builtin b => bQ P T o b c.args.toList c.argTypes.toList F H G K
    | _ => False
  | _ => QO P o F H G K

theorem bQ_ok {T : Tab} (hT : TabOk P T) {o : Oper} {b : Builtin} {args : Array Operand} {ts : Array TypeId} (ho : o.op = .call ⟨.builtin b, args, ts⟩) {F : Fr} {H : Hp} {G : List SB} {K : SV → Prop} (h : bQ P T o b args.toList ts.toList F H G K) : QO P o F H G K := by
  have hb : ∀ (a : Act) (w : World), (execOp a.eval o).run P w = (builtin b ts o.type (args.map fun | .const _ => true | _ => false) (args.map a.eval)).run P w := fun a w => by
    simp [execOp, ho, resolve, invoke]
    rfl
  cases b with
  | len =>
    simp only [bQ] at h
    split at h
    · rename_i x t ha ht
      obtain ⟨sx, h, hx⟩ := evX_ok h
      obtain ⟨sv, h, hs⟩ := lenX_ok (H := H) hT h
      refine ⟨sv, h, fun ρ a wc hf hw => ?_⟩
      obtain ⟨r, h1, h2⟩ := hs ρ wc _ hw (hx ρ a hf)
      refine ⟨r, h1, fun w hw' => ?_⟩
      have e1 : args = #[x] := by rw [← ha]
      have e2 : ts = #[t] := by rw [← ht]
      subst e1 e2
      rw [hb]
      simp [builtin, h2 w o.type hw']
    · exact h.elim
  | max =>
    simp only [bQ] at h
    split at h
    · rename_i x y ha
      obtain ⟨sx, h, hx⟩ := evX_ok h
      obtain ⟨sy, h, hy⟩ := evX_ok h
      obtain ⟨sv, h, hs⟩ := mm2_ok (P := P) h
      refine ⟨sv, h, fun ρ a wc hf hw => ?_⟩
      obtain ⟨r, h1, h2⟩ := hs ρ _ _ (hx ρ a hf) (hy ρ a hf)
      refine ⟨r, h1, fun w hw' => ?_⟩
      have e1 : args = #[x, y] := by rw [← ha]
      subst e1
      rw [hb]
      have := h2 w ts o.type
      simp only [builtin, Sem.run_bind]
      simp at this
      simp [this]
    · exact h
  | min =>
    simp only [bQ] at h
    split at h
    · rename_i x y ha
      obtain ⟨sx, h, hx⟩ := evX_ok h
      obtain ⟨sy, h, hy⟩ := evX_ok h
      obtain ⟨sv, h, hs⟩ := mm2_ok (P := P) h
      refine ⟨sv, h, fun ρ a wc hf hw => ?_⟩
      obtain ⟨r, h1, h2⟩ := hs ρ _ _ (hx ρ a hf) (hy ρ a hf)
      refine ⟨r, h1, fun w hw' => ?_⟩
      have e1 : args = #[x, y] := by rw [← ha]
      subst e1
      rw [hb]
      have := h2 w ts o.type
      simp only [builtin, Sem.run_bind]
      simp at this
      simp [this]
    · exact h
  | _ => exact h

/-- **What 'opQ' tells is so.** -/
theorem opQ_ok {T : Tab} (hT : TabOk P T) {o : Oper} {F : Fr} {H : Hp} {G : List SB} {K : SV → Prop} (h : opQ P T o F H G K) : QO P o F H G K := by
  unfold opQ at h
  cases ho : o.op with
  | move x =>
    simp only [ho] at h
    obtain ⟨sv, h, hx⟩ := evX_ok h
    exact ⟨sv, h, fun ρ a wc hf _ => ⟨_, hx ρ a hf, fun w _ => by simp [execOp, ho]⟩⟩
  | assign x =>
    simp only [ho] at h
    obtain ⟨sv, h, hx⟩ := evX_ok h
    exact ⟨sv, h, fun ρ a wc hf _ => ⟨_, hx ρ a hf, fun w _ => by simp [execOp, ho]⟩⟩
  | pick c x y =>
    simp only [ho] at h
    obtain ⟨sc, h, hc⟩ := evX_ok h
    obtain ⟨t, rfl, h⟩ := boolX_ok h
    cases t with
    | true =>
      obtain ⟨sv, h, hx⟩ := evX_ok h
      refine ⟨sv, h, fun ρ a wc hf _ => ⟨_, hx ρ a hf, fun w _ => ?_⟩⟩
      have := hc ρ a hf
      have hcv : a.eval c = .bool true := this
      simp [execOp, ho, hcv, asBool]
    | false =>
      obtain ⟨sv, h, hx⟩ := evX_ok h
      refine ⟨sv, h, fun ρ a wc hf _ => ⟨_, hx ρ a hf, fun w _ => ?_⟩⟩
      have hcv : a.eval c = .bool false := hc ρ a hf
      simp [execOp, ho, hcv, asBool]
  | load t x =>
    simp only [ho] at h
    obtain ⟨sx, h, hx⟩ := evX_ok h
    obtain ⟨c, rfl, h⟩ := cellX_ok h
    obtain ⟨ti, ht, h⟩ := tabX_ok hT h
    obtain ⟨sv, h, hl⟩ := loadX_ok ht h
    refine ⟨sv, h, fun ρ a wc hf hw => ?_⟩
    obtain ⟨v, h1, h2⟩ := hl ρ wc _ hw (hx ρ a hf)
    exact ⟨v, h1, fun w hw' => by simp [execOp, ho, h2 w hw']⟩
  | fieldAddr s x f =>
    simp only [ho] at h
    obtain ⟨sx, h, hx⟩ := evX_ok h
    obtain ⟨c, rfl, h⟩ := cellX_ok h
    obtain ⟨ti, ht, h⟩ := tabX_ok hT h
    obtain ⟨fs, hk, h⟩ := structX_ok h
    obtain ⟨d, ft, n, hfs, h⟩ := fieldX_ok h
    obtain ⟨hn, h⟩ := pos_ok h
    obtain ⟨sv, h, hp⟩ := offX_ok h
    refine ⟨sv, h, fun ρ a wc hf hw => ?_⟩
    obtain ⟨ad, h1, h2⟩ := hp ρ _ (hx ρ a hf)
    refine ⟨_, h2, fun w _ => ?_⟩
    obtain ⟨fields, fd, i, e1, e2, e3, e4, e5, e6⟩ := ht.field hk hfs
    have e7 : (sizeOf ft).run P w = .ok n w := by simp [sizeOf, typeInfo, e5, e6]
    simp [execOp, ho, Instr.fieldAt, run_underlying e1, e2, h1, Instr.sureAddr, fieldPlace, e3, e4, e7, hn]
  | indexAddr t x i =>
    simp only [ho] at h
    obtain ⟨sx, h, hx⟩ := evX_ok h
    obtain ⟨si, h, hi⟩ := evX_ok h
    obtain ⟨k, n, rfl, h⟩ := intX_ok h
    obtain ⟨ti, ht, h⟩ := tabX_ok hT h
    obtain ⟨sv, h, hs⟩ := idxAddrX_ok (kk := k) (H := H) hT ht h
    refine ⟨sv, h, fun ρ a wc hf hw => ?_⟩
    obtain ⟨v, h1, h2⟩ := hs ρ wc _ hw (hx ρ a hf)
    have hiv : a.eval i = .int k n := hi ρ a hf
    exact ⟨v, h1, fun w _ => by simp [execOp, ho, hiv, h2 w]⟩
  | index t x i =>
    simp only [ho] at h
    obtain ⟨sx, h, hx⟩ := evX_ok h
    obtain ⟨si, h, hi⟩ := evX_ok h
    obtain ⟨k, n, rfl, h⟩ := intX_ok h
    obtain ⟨ti, ht, h⟩ := tabX_ok hT h
    obtain ⟨sv, h, hs⟩ := idxX_ok (kk := k) hT ht h
    refine ⟨sv, h, fun ρ a wc hf hw => ?_⟩
    obtain ⟨v, h1, h2⟩ := hs ρ _ (hx ρ a hf)
    have hiv : a.eval i = .int k n := hi ρ a hf
    exact ⟨v, h1, fun w _ => by simp [execOp, ho, hiv, h2 w]⟩
  | field t x f =>
    simp only [ho] at h
    obtain ⟨sx, h, hx⟩ := evX_ok h
    obtain ⟨cs, rfl, h⟩ := aggX_ok h
    obtain ⟨ti, ht, h⟩ := tabX_ok hT h
    obtain ⟨fs, hk, h⟩ := structX_ok h
    obtain ⟨d, ft, n, hfs, h⟩ := fieldX_ok h
    obtain ⟨sv, h, hp⟩ := partX_ok hT h
    refine ⟨sv, h, fun ρ a wc hf hw => ?_⟩
    obtain ⟨ys, hv, hys⟩ := hx ρ a hf
    obtain ⟨v, h1, h2⟩ := hp ρ ys hys
    refine ⟨v, h1, fun w _ => ?_⟩
    obtain ⟨fields, fd, i, e1, e2, e3, e4, e5, e6⟩ := ht.field hk hfs
    simp [execOp, ho, Instr.field, run_underlying e1, e2, hv, asAgg, e3, e4, h2 w]
  | extract x i =>
    simp only [ho] at h
    obtain ⟨sx, h, hx⟩ := evX_ok h
    obtain ⟨l, rfl, h⟩ := tupX_ok h
    obtain ⟨g, hg, h⟩ := getS_ok h
    refine ⟨_, h, fun ρ a wc hf hw => ?_⟩
    obtain ⟨ys, hv, hys⟩ := hx ρ a hf
    obtain ⟨y, hy, hgy⟩ := hys.get hg
    exact ⟨y, hgy, fun w _ => by simp [execOp, ho, hv, Instr.extract, hy]⟩
  | build t parts =>
    simp only [ho] at h
    obtain ⟨ti, ht, h⟩ := tabX_ok hT h
    obtain ⟨pl, h, hb⟩ := built_of (pl := .ar 0) ht h
    obtain ⟨zs, h, hz⟩ := zerosX_ok h
    obtain ⟨ps, h, hps⟩ := evP_ok h
    obtain ⟨cs, h, hfill⟩ := fillX_ok h
    refine ⟨_, h, fun ρ a wc hf hw => ?_⟩
    obtain ⟨ys', h1, h2⟩ := hfill ρ H wc _ _ hw (hz ρ) (hps ρ a hf)
    refine ⟨_, ⟨ys', rfl, h2⟩, fun w _ => ?_⟩
    have := run_build (P := P) w t (parts.map fun (i, x) => (i, a.eval x)) ys'.toArray (by rw [Array.toList_map]; exact hb _ _ h1)
    simp [execOp, ho, this]
  | binOp op t x y ty =>
    simp only [ho] at h
    obtain ⟨sx, h, hx⟩ := evX_ok h
    obtain ⟨sy, h, hy⟩ := evX_ok h
    obtain ⟨sv, h, hs⟩ := binG_ok hT h
    refine ⟨sv, h, fun ρ a wc hf hw => ?_⟩
    obtain ⟨r, h1, h2⟩ := hs ρ _ _ (hx ρ a hf) (hy ρ a hf) ⟨_, _, hw⟩
    refine ⟨r, h1, fun w _ => ?_⟩
    have e : execOp a.eval o = (do pure (.value (← ((do eqGuard op t x y (a.eval x) (a.eval y); binOp op t (a.eval x) (a.eval y)) : Sem Value)))) := by simp only [execOp, ho]
    rw [e, Sem.run_bind, h2 x w]
    rfl
  | unOp op t x =>
    simp only [ho] at h
    obtain ⟨sx, h, hx⟩ := evX_ok h
    obtain ⟨sv, h, hs⟩ := unX_ok (P := P) h
    refine ⟨sv, h, fun ρ a wc hf hw => ?_⟩
    obtain ⟨r, h1, h2⟩ := hs ρ _ (hx ρ a hf)
    exact ⟨r, h1, fun w _ => by simp [execOp, ho, h2 w]⟩
  | convert s d x =>
    simp only [ho] at h
    obtain ⟨sx, h, hx⟩ := evX_ok h
    obtain ⟨sv, h, hs⟩ := convX_ok hT h
    refine ⟨sv, h, fun ρ a wc hf hw => ?_⟩
    obtain ⟨r, h1, h2⟩ := hs ρ _ (hx ρ a hf)
    exact ⟨r, h1, fun w _ => by simp [execOp, ho, h2 w]⟩
  | makeInterface t x =>
    simp only [ho] at h
    obtain ⟨sx, h, hx⟩ := evX_ok h
    obtain ⟨ti, ht, h⟩ := tabX_ok hT h
    obtain ⟨hk, h⟩ := notIfc_ok h
    obtain ⟨v, h, hv⟩ := wholeX_ok h
    refine ⟨_, h, fun ρ a wc hf hw => ⟨_, rfl, fun w _ => ?_⟩⟩
    rw [← hv ρ _ (hx ρ a hf)]
    simp [execOp, ho, run_makeInterface ht hk]
  | makeFunc fn first caps =>
    simp only [ho] at h
    obtain ⟨s1, h, h1⟩ := evL_ok h
    obtain ⟨s2, h, h2⟩ := evL_ok h
    obtain ⟨l1, h, h3⟩ := capsX_ok h
    obtain ⟨l2, h, h4⟩ := capsX_ok h
    refine ⟨_, h, fun ρ a wc hf hw => ?_⟩
    have e1 := h3 ρ _ (h1 ρ a hf)
    have e2 := h4 ρ _ (h2 ρ a hf)
    refine ⟨_, ⟨_, rfl, e1.append e2⟩, fun w _ => ?_⟩
    have e3 : l1.length = (first.toList.map a.eval).length := e1.length
    rw [e3, List.take_left, List.drop_left]
    have ea : ∀ xs : Array Operand, (xs.toList.map a.eval).toArray = xs.map a.eval := fun xs => by rw [← Array.toList_map]
    simp [execOp, ho, Instr.makeFunc, ea]
  | nilCheck x =>
    simp only [ho] at h
    obtain ⟨sx, h, hx⟩ := evX_ok h
    obtain ⟨h, hn⟩ := nilChk_ok h
    refine ⟨_, h, fun ρ a wc hf hw => ⟨_, hx ρ a hf, fun w _ => ?_⟩⟩
    rcases hn ρ _ (hx ρ a hf) with ⟨ad, e⟩ | ⟨f, p, q, e⟩ <;> simp [execOp, ho, e]
  | slice t x lo hi mx =>
    simp only [ho] at h
    cases mx with
    | some _ => exact h.elim
    | none =>
      obtain ⟨sx, h1, hx⟩ := evX_ok h
      clear h
      have hlo : ∀ {K' : Int → Prop}, boundX lo F 0 K' → ∃ l : Int, (∀ ρ (a : Act), FOk ρ F a.tmps → match lo.map a.eval with | none => l = 0 | some u => ∃ k, u = .int k l) ∧ K' l := by
        intro K' h
        cases lo with
        | none => exact ⟨0, fun _ _ _ => rfl, h⟩
        | some u =>
          obtain ⟨su, h, hu⟩ := evX_ok h
          obtain ⟨k, n, rfl, h⟩ := intX_ok h
          exact ⟨n, fun ρ a hf => ⟨k, hu ρ a hf⟩, h⟩
      obtain ⟨l, hl, h2⟩ := hlo h1
      clear h1 hlo
      cases hi with
      | none =>
        obtain ⟨sv, h, hs⟩ := sliceVX_ok (H := H) hT h2
        refine ⟨sv, h, fun ρ a wc hf hw => ?_⟩
        obtain ⟨r, h1, h2⟩ := hs ρ wc _ hw (hx ρ a hf)
        refine ⟨r, h1, fun w _ => ?_⟩
        have := h2 w (lo.map a.eval) none (hl ρ a hf) trivial
        simp [execOp, ho, this]
      | some u =>
        obtain ⟨su, h3, hu⟩ := evX_ok h2
        obtain ⟨k, n, rfl, h4⟩ := intX_ok h3
        obtain ⟨sv, h, hs⟩ := sliceVX_ok (H := H) hT h4
        refine ⟨sv, h, fun ρ a wc hf hw => ?_⟩
        obtain ⟨r, h1, h2⟩ := hs ρ wc _ hw (hx ρ a hf)
        refine ⟨r, h1, fun w _ => ?_⟩
        have := h2 w (lo.map a.eval) (some (a.eval u)) (hl ρ a hf) ⟨k, hu ρ a hf⟩
        simp [execOp, ho, this]
  | call c =>
    simp only [ho] at h
    obtain ⟨callee, args, ts⟩ := c
    cases callee with
    | builtin b => exact bQ_ok hT ho h
    | _ => exact h.elim
  | _ => simp only [ho] at h; exact h
end
end Go.Kx
