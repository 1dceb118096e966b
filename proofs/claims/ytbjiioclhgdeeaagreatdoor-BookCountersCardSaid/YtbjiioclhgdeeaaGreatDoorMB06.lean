/- A row that is not written any more is read for good. Generic in the program; no condition of its own. -/
import Derived.Test.YtbjiioclhgdeeaaGreatDoorMB05
import Derived.ProofKit
import Derived.Below
import Derived.SizedLaws
import Derived.OpenShut
import Derived.ShutString
import Derived.ChangeOld
import Derived.Carry
import Derived.JoinedCond
import Derived.Deep.CondSized
import Derived.KernelRfl
import Derived.Deep.Slices
import Derived.Handed
import Derived.Stop.Joined
import Derived.LaidLaws
import Derived.Recover
import Derived.Laws.AppendOwn
import Derived.Test.YtbjiioclhgdeeaaGreatDoorProg
import Derived.Shelf.RegionOpenPlain
import Derived.Lib.Builder
import Derived.WalkKit
import Derived.Laws.Externs
import Derived.Shelf.Small.Strs
namespace Go.Kx
open Go.RowKit

def Frozen (H : Hp) (x : Value) (n : Nat) (xs : List Value) : Prop :=
 (x = .slice none 0 0 ∧ n = 0 ∧ xs = []) ∨ ∃ g o cap, x = .slice (some ⟨g, o, none⟩) n cap ∧ n ≤ cap ∧ RdN H (some ⟨g, o, none⟩) 0 xs
theorem Frozen.slice {H : Hp} {x : Value} {n : Nat} {xs : List Value} (h : Frozen H x n xs) : ∃ A cap, x = .slice A n cap ∧ n ≤ cap ∧ (xs = [] ∨ RdN H A 0 xs) := by
 rcases h with ⟨rfl, rfl, rfl⟩ | ⟨g, o, cap, rfl, h1, h2⟩
 ·exact ⟨none, 0, rfl, Nat.le_refl _, .inl rfl⟩
 ·exact ⟨_, cap, rfl, h1, .inr h2⟩
def Hp.putAt (H : Hp) (g o : Nat) (ys : List Value) : Hp := fun b i => if b = g then (if o ≤ i then ys[i - o]? else none) else H b i
theorem Hp.putAt_le {H : Hp} {g o : Nat} {ys : List Value} (hg : H.Out g) : H.Le (H.putAt g o ys) := fun b i v e => by
 unfold Hp.putAt
 split
 ·rename_i hb; subst hb; rw [hg i] at e; cases e
 ·exact e
theorem Hp.putAt_rd {H : Hp} {g o : Nat} {ys : List Value} : RdN (H.putAt g o ys) (some ⟨g, o, none⟩) 0 ys := ⟨g, o, rfl, fun j x hx => by simp [Hp.putAt, hx]⟩
theorem Hp.putAt_inv {H : Hp} {g o : Nat} {ys : List Value} {b i : Nat} {v : Value} (e : H.putAt g o ys b i = some v) : H b i = some v ∨ (b = g ∧ o ≤ i ∧ ys[i - o]? = some v) := by
 unfold Hp.putAt at e
 split at e
 ·rename_i hb
  split at e
  ·rename_i ho; exact .inr ⟨hb, ho, e⟩
  ·cases e
 ·exact .inl e
theorem St.frz {w0 : World} {M : Nat → Prop} {H0 : Hp} {ρ : List Value} {H : Hp} {G : List SB} {w : World} (h : St w0 M H0 ρ H G w) {k : Nat} {e : TypeId} {sz n : Nat} {xs : List Value} (hk : G[k]? = some (.row e sz n xs)) (hz : n = 0 → xs = []) :
  ∃ x H', St w0 M H0 ρ H' (G.set k (.frz x)) w ∧ H.Le H' ∧ Frozen H' x n xs ∧ ρ[k]? = some x := by
 obtain ⟨r, hr, hok⟩ := h.at hk
 rcases hok.2 with ⟨rfl, hn⟩ | ⟨g, o, cap, cur, rfl, hg, hnc, _, hcs, htk⟩
 ·refine ⟨_, H, ?_, .refl _, .inl ⟨rfl, hn, hz hn⟩, hr⟩
  have hkl := (List.getElem?_eq_some_iff.1 hk).1
  have hb : ∀ j x, blkAt ρ (G.set k (.frz (.slice none 0 0))) j = some x → blkAt ρ G j = some x := fun j x hx => by
   obtain ⟨s1, r1, h1, h2, h3⟩ := blkAt_some hx
   by_cases hjk : k = j
   ·subst hjk
    rw [List.getElem?_set_self hkl] at h1
    injection h1 with h1; subst h1
    simp [SB.blk] at h3
   ·rw [List.getElem?_set_ne hjk] at h1
    rw [blkAt_eq h1 h2]; exact h3
  refine ⟨h.os, h.tape, h.output, h.size, h.old, h.hle, h.hin, h.hnew, by simp [h.len], ?_, fun j x hx => h.own j x (hb j x hx), fun i j x hi hj => h.inj i j x (hb i x hi) (hb j x hj)⟩
  intro j s1 r1 h1 h2
  by_cases hjk : k = j
  ·subst hjk
   rw [List.getElem?_set_self hkl] at h1
   injection h1 with h1; subst h1
   rw [hr] at h2; injection h2 with h2
   exact h2.symm
  ·rw [List.getElem?_set_ne hjk] at h1
   exact h.ok j s1 r1 h1 h2
 ·have hout : H.Out g := (h.own k g (by rw [blkAt_eq hk hr]; rfl)).2
  refine ⟨_, H.putAt g o xs, ?_, Hp.putAt_le hout, .inr ⟨g, o, cap, rfl, hnc, Hp.putAt_rd⟩, hr⟩
  refine h.give hk hr (g := g) rfl (fun b i v ev => ?_) (Hp.putAt_le hout) rfl rfl
  rcases Hp.putAt_inv ev with e1 | ⟨rfl, e0, e1⟩
  ·exact .inl e1
  ·refine .inr ⟨rfl, ?_⟩
   rw [← htk, List.getElem?_take] at e1
   split at e1
   ·simp only [World.cell?, hg]
    rw [List.getElem?_drop, show o + (i - o) = i by omega] at e1
    simpa using e1
   ·cases e1

def SC.at (k : Nat) (x : Value) : SC → SC
 | .self j => match Nat.beq j k with
  | true => .val x
  | false => .self j
 | .val y => .val y
 | .ptr j o => .ptr j o
 | .fn f n c => .fn f n c
 | .pp A o => .pp A o
 | .cut j sz lo m => match Nat.beq j k with
  | true => match cutV x sz lo m with
   | some y => .val y
   | none => .any
  | false => .cut j sz lo m
 | .any => .any
def SG.at (k : Nat) (x : Value) : SG → SG
 | .ce c => .ce (c.at k x)
 | .ag l => .ag (l.map (SC.at k x))
def SV.at (k : Nat) (x : Value) : SV → SV
 | .si c => .si (c.at k x)
 | .tu l => .tu (l.map (SG.at k x))
def SB.at (k : Nat) (x : Value) : SB → SB
 | .box t cs => .box t (cs.map (SC.at k x))
 | s => s
section
variable {ρ : List Value} {k : Nat} {x : Value}
theorem SC.Is.at (hk : ρ[k]? = some x) {c : SC} {y : Value} (h : c.Is ρ y) : (c.at k x).Is ρ y := by
 cases c with
 | self j =>
  have h1 : ρ[j]? = some y := h
  have key : ∀ b : Bool, Nat.beq j k = b → SC.Is ρ (match b with
   | true => SC.val x
   | false => SC.self j) y := by
   intro b hb
   cases b with
   | true =>
    have := Nat.eq_of_beq_eq_true hb
    subst this
    rw [hk] at h1; injection h1 with h1
    exact h1.symm
   | false => exact h
  exact key _ rfl
 | cut j sz lo m =>
  obtain ⟨r, h1, h2⟩ := h
  have key : ∀ b : Bool, Nat.beq j k = b → SC.Is ρ (match b with
   | true => match cutV x sz lo m with
    | some y => SC.val y
    | none => .any
   | false => SC.cut j sz lo m) y := by
   intro b hb
   cases b with
   | true =>
    have := Nat.eq_of_beq_eq_true hb
    subst this
    rw [hk] at h1; injection h1 with h1; subst h1
    simp only [h2]
    exact rfl
   | false => exact ⟨r, h1, h2⟩
  exact key _ rfl
 | _ => exact h
theorem SG.Is.at (hk : ρ[k]? = some x) {c : SG} {y : Value} (h : c.Is ρ y) : (c.at k x).Is ρ y := by
 cases c with
 | ce c => exact SC.Is.at hk h
 | ag l => obtain ⟨ys, h1, h2⟩ := h; exact ⟨ys, h1, All2.map_left (h2.mono fun _ _ => SC.Is.at hk)⟩
theorem SV.Is.at (hk : ρ[k]? = some x) {c : SV} {y : Value} (h : c.Is ρ y) : (c.at k x).Is ρ y := by
 cases c with
 | si c => exact SG.Is.at hk h
 | tu l => obtain ⟨ys, h1, h2⟩ := h; exact ⟨ys, h1, All2.map_left (h2.mono fun _ _ => SG.Is.at hk)⟩
theorem SB.at_blk (s : SB) (r : Value) : (s.at k x).blk r = s.blk r := by cases s <;> rfl
theorem SB.Ok.at (hk : ρ[k]? = some x) {s : SB} {w : World} {r : Value} (h : s.Ok ρ w r) : (s.at k x).Ok ρ w r := by
 cases s with
 | box t cs => obtain ⟨g, ys, h1, h2, h3⟩ := h; exact ⟨g, ys, h1, h2, All2.map_left (h3.mono fun _ _ => SC.Is.at hk)⟩
 | _ => exact h
end
theorem St.atAll {w0 : World} {M : Nat → Prop} {H0 : Hp} {ρ : List Value} {H : Hp} {G : List SB} {w : World} (h : St w0 M H0 ρ H G w) {k : Nat} {x : Value} (hk : ρ[k]? = some x) : St w0 M H0 ρ H (G.map (SB.at k x)) w := by
 have hb : ∀ j, blkAt ρ (G.map (SB.at k x)) j = blkAt ρ G j := fun j => by
  unfold blkAt
  rw [List.getElem?_map]
  cases G[j]? with
  | none => rfl
  | some s =>
   simp only [Option.map_some]
   cases ρ[j]? with
   | none => rfl
   | some r => exact SB.at_blk s r
 refine ⟨h.os, h.tape, h.output, h.size, h.old, h.hle, h.hin, h.hnew, by simp [h.len], ?_, fun j g hg => h.own j g (by rw [← hb]; exact hg), fun i j g hi hj => h.inj i j g (by rw [← hb]; exact hi) (by rw [← hb]; exact hj)⟩
 intro j s r h1 h2
 rw [List.getElem?_map] at h1
 obtain ⟨s', e1, rfl⟩ := Option.map_eq_some_iff.1 h1
 exact (h.ok j s' r e1 h2).at hk

section
variable {P : Program}
theorem CallO.frz {f : FuncId} {svs : List SV} {H : Hp} {G : List SB} {K0 K : SE → Hp → List SB → Prop} (h : CallO P f svs H G K0)
  (hK : ∀ e H' G', H.Le H' → K0 e H' G' → match e with
   | .ret v => ∃ k t sz n xs, G'[k]? = some (.row t sz n xs) ∧ (n = 0 → xs = []) ∧ ∀ x H2, H'.Le H2 → Frozen H2 x n xs → K (.ret (v.at k x)) H2 ((G'.set k .dead).map (SB.at k x))
   | .pan ch => K (.pan ch) H' G') : CallO P f svs H G K := by
 intro w0 M hgd H0 ρ w vs hs hv
 refine (h w0 M hgd H0 ρ w vs hs hv).mono fun e w' he => ?_
 cases e with
 | returned v =>
  obtain ⟨sv, ρ', H', G', h1, h2, h3, h4, h5⟩ := he
  obtain ⟨k, t, sz, n, xs, h6, h7, h8⟩ := hK _ _ _ h4 h5
  obtain ⟨x, H2, a1, a2, a3, a4⟩ := h1.frz h6 h7
  have a5 := a1.kill k
  rw [List.set_set] at a5
  exact ⟨_, ρ', H2, _, a5.atAll a4, h2, h3.at a4, h4.trans a2, h8 x H2 a2 a3⟩
 | panicked ch => obtain ⟨ρ', H', G', h1, h2, h4, h5⟩ := he; exact ⟨ρ', H', G', h1, h2, h4, hK _ _ _ h4 h5⟩
 | outgrown => exact he
def frameAt (k : Nat) (x : Value) (F : Fr) : Fr := F.map fun p => (p.1, p.2.at k x)
theorem codeL.frz {n e : Nat} {D : Pin} {c : Code} {K : KT} {F : Fr} {H : Hp} {G : List SB} (k : Nat) {t : TypeId} {sz m : Nat} {xs : List Value} (hk : G[k]? = some (.row t sz m xs)) (hz : m = 0 → xs = [])
  (h : ∀ x H2, H.Le H2 → Frozen H2 x m xs → codeL P n e D c K (frameAt k x F) H2 ((G.set k .dead).map (SB.at k x))) : codeL P n e D c K F H G := by
 refine ⟨fun w0 M hgd H0 ρ a w hs hf hd hn => ?_⟩
 obtain ⟨x, H2, a1, a2, a3, a4⟩ := hs.frz hk hz
 have a5 := a1.kill k
 rw [List.set_set] at a5
 have hf' : FOk ρ (frameAt k x F) a.tmps := by
  intro i sv hi
  obtain ⟨⟨j, s⟩, hm, he⟩ := List.mem_map.1 hi
  injection he with e1 e2; subst e1 e2
  obtain ⟨v, h1, h2⟩ := hf j s hm
  exact ⟨v, h1, h2.at a4⟩
 exact wp_mono ((h x H2 a2 a3).to w0 M hgd H0 ρ a w (a5.atAll a4) hf' hd hn) (PostX.le (.refl _ _) a2)
theorem WS.nilRow {n e : Nat} {D : Pin} {c : Code} {K : KT} {F : Fr} {H : Hp} {G : List SB} (i : Nat) (t : TypeId) (sz : Nat) (hi : getX F i fun sv => sv = .si (.ce (.val (.slice none 0 0)))) (h : appG G (.row t sz 0 []) fun G' j => WS P n e D c K ((i, .si (.ce (.self j))) :: F) H G') : WS P n e D c K F H G := by
 have h := appG_ok h
 obtain ⟨sv, h1, h2⟩ := getX_ok hi
 subst h2
 refine ⟨fun w0 M hgd H0 ρ a w hs hf hd hn => ?_⟩
 have hs' := hs.adopt (s := .row t sz 0 []) (r := .slice none 0 0) (OwnRow.nil w t sz) (fun g hg => by simp [SB.blk, Value.ownBlock] at hg)
 obtain ⟨v, h3, h4⟩ := hf i _ h1
 have h4' : v = .slice none 0 0 := h4
 subst h4'
 refine wp_mono (h.to w0 M hgd H0 _ a w hs' ?_ hd hn) (PostX.le (Pre.append _ _).toE (.refl _))
 intro j sv hm
 rcases List.mem_cons.1 hm with hm | hm
 ·injection hm with e1 e2; subst e1 e2
  refine ⟨_, h3, ?_⟩
  show (ρ ++ [Value.slice none 0 0])[G.length]? = some _
  rw [List.getElem?_append_right (by rw [hs.len]; exact Nat.le_refl _)]
  simp [hs.len]
 ·exact (hf.mono (Pre.append _ _)) j sv hm
end
end Go.Kx
namespace Go.Kx
open Go.ChangeShapes Go.WideShapes Go.ChangeAt Go.RowKit

theorem trodAll_below {H : Type} {enc : TypeId × Value → H} {P : Program} (hl : laidOutB P = true) {W W' : World} (hb : Below W.heap.size W W') :
  ∀ (ts : List TypeId) (vs : List Value) (ds : List (DataW H)) (p : List MemPlace), (ts.all fun t => P.readableRec t && decide (t < P.types.size)) = true →
   DataW.TrodAll enc P W 0 (fun _ => true) true ts vs ds p → DataW.TrodAll enc P W' 0 (fun b => decide (b < W.heap.size)) true ts vs ds p
 | [], [], [], p, _, h => h
 | t :: ts, v :: vs, d :: ds, p, ht, h => by
  obtain ⟨p0, q0, h0, hr, rfl⟩ := h
  simp only [List.all_cons, Bool.and_eq_true, decide_eq_true_eq] at ht
  have hlt : ∀ x ∈ p0, x.block < W.heap.size := by obtain ⟨m, hm⟩ := h0; exact DataW.trod_lt m _ _ _ hm
  exact ⟨p0, q0, Below.trod hl ht.1.1 ht.1.2 h0 hb hlt, trodAll_below hl hb ts vs ds q0 ht.2 hr, rfl⟩
 | [], [], _ :: _, _, _, h => absurd h (by simp [DataW.TrodAll])
 | [], _ :: _, _, _, _, h => absurd h (by simp [DataW.TrodAll])
 | _ :: _, [], _, _, _, h => absurd h (by simp [DataW.TrodAll])
 | _ :: _, _ :: _, [], _, _, h => absurd h (by simp [DataW.TrodAll])

def LawWalk (P : Program) (f : FuncId) (fn : Func) (Pre : (H : Type) → List (DataW H) → Prop) : Prop :=
 ∀ (H : Type) (enc : TypeId × Value → H) (W : World) (args : Array Value) (base : Nat) (ds : List (DataW H)) (p : List MemPlace),
  DataW.TrodAll enc P W 0 (fun _ => true) true fn.params.toList args.toList ds p →
  (∀ (j : Nat) t v, fn.params[j]? = some t → args[j]? = some v → Value.okWide P W .any base t v) →
  (DataW.weightsEach P fn.params.toList ds).all (· ≤ reachBytes) = true → Pre H ds →
  Calls P f args W fun e W' => e = .returned (.bool true) ∧ Below W.heap.size W W'

theorem trodAll_length {H : Type} {enc : TypeId × Value → H} {P : Program} {w : World} {base : Nat} {spare : Nat → Bool} {held : Bool} : ∀ (ts : List TypeId) (vs : List Value) (ds : List (DataW H)) (p : List MemPlace),
  DataW.TrodAll enc P w base spare held ts vs ds p → ds.length = ts.length ∧ vs.length = ts.length := by
 intro ts
 induction ts with
 | nil => intro vs ds p h; cases vs <;> cases ds <;> simp_all [DataW.TrodAll]
 | cons t ts ih =>
  intro vs ds p h
  cases vs with
  | nil => simp [DataW.TrodAll] at h
  | cons v vs =>
   cases ds with
   | nil => simp [DataW.TrodAll] at h
   | cons d ds => obtain ⟨_, _, _, hr, _⟩ := h; have := ih _ _ _ hr; simp [this.1, this.2]

theorem law_post {P : Program} {fn : Func} {s : ChangeSpec} {tb : TypeId} {H : Type} {enc : TypeId × Value → H} {W W' : World} {args : Array Value} {ds gs : List (DataW H)} {before : List MemPlace} (hl : laidOutB P = true) (hvars : s.vars = []) (hres : fn.resultTypes = #[tb]) (htb : P.underlying tb = some .bool)
  (hread : (fn.params.toList.all fun t => P.readableRec t && decide (t < P.types.size)) = true)
  (hspec : ∀ (H : Type) (ds : List (DataW H)), ds.length = fn.params.size → s.fn H ds = { results := [.lit (.bool true)], args := ds })
  (hW : DataW.Whole enc P fn.params.toList s.vars false W args.toList ds gs before) (bel : Below W.heap.size W W') : s.post enc P fn false true false false W args (.bool true) W' := by
 have hW' := hW
 obtain ⟨p, q, hA, hV, rfl, hfz, hnd⟩ := hW
 rw [hvars] at hV
 obtain ⟨rfl, rfl⟩ := trodVars_none hV
 have hlen : ds.length = fn.params.size := by simpa using (trodAll_length _ _ _ _ hA).1
 have hfn1 : (s.fn H (ds ++ [])) = { results := [.lit (.bool true)], args := ds } := by rw [List.append_nil]; exact hspec H ds hlen
 refine ⟨ds, [], _, [], p, [], hW', ?_, ?_, ?_, bel.frame _, fun h => by cases h⟩
 ·rw [hfn1, hres]
  exact trodAll_mk1 (shut_bool htb _)
 ·rw [hfn1]
  exact trodAll_below hl bel _ _ _ _ hread hA
 ·rw [hvars, hfn1]; rfl

theorem law_lifted {C : Checked} {f : FuncId} {fn : Func} {s : ChangeSpec} {conds : List PathCond} {tb : TypeId} (own : ownKnob C.prog.godebug = none) (hl : laidOutB C.prog = true)
  (noInit : C.prog.inits.idxOf? f = none) (hfn : C.prog.funcs[f]? = some fn) (hvars : s.vars = []) (hres : fn.resultTypes = #[tb]) (htb : C.prog.underlying tb = some .bool)
  (hread : (fn.params.toList.all fun t => C.prog.readableRec t && decide (t < C.prog.types.size)) = true)
  (hspec : ∀ (H : Type) (ds : List (DataW H)), ds.length = fn.params.size → s.fn H ds = { results := [.lit (.bool true)], args := ds })
  (hwalk : LawWalk C.prog f fn (fun _ _ => True))
  (os : Os) (started : os.Started) (H : Type) (enc : TypeId × Value → H)
  (witness : ∃ (w : World) (tape : Tape) (i : Input), w.os = os ∧ (w.forCall tape i).Shaped C.prog ∧ i.vars = [] ∧ Input.okWide C.prog (w.forCall tape i) .any w.heap.size f i ∧
   s.pre6 enc C.prog fn conds false (w.forCall tape i).memory i.args ∧ ({} : Assume).holds C.prog (lone (Frame.enter C.prog f i.args .normal) [] (w.forCall tape i))) :
  ReturnsInHanded {} C os f .any (s.pre6 enc C.prog fn conds false) (s.post enc C.prog fn false true false false) := by
 refine returnsInHanded_of_change_sized own started noInit hfn witness ?_
 intro W base args ds gs before hval hW _ hsz _
 have hW' := hW
 obtain ⟨p, q, hA, hV, rfl, hfz, hnd⟩ := hW
 rw [hvars] at hV
 obtain ⟨rfl, rfl⟩ := trodVars_none hV
 have hvt : s.plain.varTypes C.prog = [] := by simp [ChangeSpec.plain, DataSpec.varTypes, hvars]
 rw [hvt, List.append_nil, List.append_nil] at hsz
 refine (hwalk H enc W args base ds p hA hval hsz trivial).mono fun e W' ⟨he, bel⟩ => ?_
 subst he
 exact ⟨_, rfl, law_post hl hvars hres htb hread hspec hW' bel⟩

theorem law_lifted_upto {C : Checked} {f : FuncId} {fn : Func} {s : ChangeSpec} {k : (H : Type) → List (DataW H) → Bool} {conds : List PathCond} {tb : TypeId} (own : ownKnob C.prog.godebug = none) (hl : laidOutB C.prog = true)
  (noInit : C.prog.inits.idxOf? f = none) (hfn : C.prog.funcs[f]? = some fn) (hvars : s.vars = []) (hres : fn.resultTypes = #[tb]) (htb : C.prog.underlying tb = some .bool)
  (hread : (fn.params.toList.all fun t => C.prog.readableRec t && decide (t < C.prog.types.size)) = true)
  (hspec : ∀ (H : Type) (ds : List (DataW H)), ds.length = fn.params.size → s.fn H ds = { results := [.lit (.bool true)], args := ds })
  (hwalk : LawWalk C.prog f fn (fun H ds => k H ds = true))
  (os : Os) (started : os.Started) (H : Type) (enc : TypeId × Value → H) (F : Stop.Interp)
  (witness : ∃ (w : World) (tape : Tape) (i : Input), w.os = os ∧ (w.forCall tape i).Shaped C.prog ∧ i.vars = [] ∧ Input.okWide C.prog (w.forCall tape i) .any w.heap.size f i ∧
   ({ OpenSpec.ofChange s with cond := some k } : OpenSpec).pre6 enc C.prog fn conds false (w.forCall tape i).memory i.args ∧ ({} : Assume).holds C.prog (lone (Frame.enter C.prog f i.args .normal) [] (w.forCall tape i))) :
  ReturnsInHanded {} C os f .any (({ OpenSpec.ofChange s with cond := some k } : OpenSpec).pre6 enc C.prog fn conds false) ((({ OpenSpec.ofChange s with cond := some k } : OpenSpec).at F).post enc C.prog fn false true false false) := by
 refine returnsInHanded_of_cond_sized (k := k) rfl own started noInit hfn witness ?_
 intro W base args ds gs before hval hW _ hk hsz _
 have hW' := hW
 obtain ⟨p, q, hA, hV, rfl, hfz, hnd⟩ := hW
 have hV' : DataW.TrodVars enc C.prog W (fun _ => true) s.vars gs q := hV
 rw [hvars] at hV'
 obtain ⟨rfl, rfl⟩ := trodVars_none hV'
 have hvt : s.plain.varTypes C.prog = [] := by simp [ChangeSpec.plain, DataSpec.varTypes, hvars]
 have hsz' : (DataW.weightsEach C.prog (fn.params.toList ++ s.plain.varTypes C.prog) (ds ++ [])).all (· ≤ reachBytes) = true := hsz
 rw [hvt, List.append_nil, List.append_nil] at hsz'
 rw [List.append_nil] at hk
 refine (hwalk H enc W args base ds p hA hval hsz' hk).mono fun e W' ⟨he, bel⟩ => ?_
 subst he
 exact ⟨_, rfl, law_post (s := s) hl hvars hres htb hread hspec hW' bel⟩

end Go.Kx
namespace Go.Kx
open Go.ChangeShapes Go.WideShapes Go.ChangeAt Go.RowKit Go.Deep

def heapOf (W : World) : Hp := fun b o => W.cell? ⟨b, o, none⟩
theorem St.begin (W : World) : St W (fun _ => False) (heapOf W) [] (heapOf W) [] W :=
 ⟨rfl, rfl, rfl, Nat.le_refl _, fun _ _ _ => rfl, .refl _, fun _ _ _ e => e, fun _ _ _ e => .inl e, rfl, fun k s r h => by simp at h, fun k g h => by simp [blkAt] at h, fun i j g h => by simp [blkAt] at h⟩
theorem law_of {P : Program} {f : FuncId} {svs : List SV} {W : World} {args : Array Value} {K : SE → Hp → List SB → Prop} (hgd : Gd W fun _ => False) (h : CallO P f svs (heapOf W) [] K) (hv : All2 (SV.Is []) svs args.toList) (hK : ∀ e H' G', K e H' G' → e = .ret (pv (.bool true))) :
  Calls P f args W fun e W' => e = .returned (.bool true) ∧ Below W.heap.size W W' := by
 have := h W (fun _ => False) hgd (heapOf W) [] W args.toList (St.begin W) hv
 refine this.mono fun e W' he => ?_
 cases e with
 | returned v =>
  obtain ⟨sv, ρ', H', G', h1, _, h3, _, h5⟩ := he
  have e1 := hK _ _ _ h5
  injection e1 with e1
  subst e1
  have h3 : v = .bool true := h3
  exact ⟨by rw [h3], h1.os, h1.tape, h1.output, h1.size, fun k hk => h1.old k hk id⟩
 | panicked ch => obtain ⟨_, _, _, _, _, _, h5⟩ := he; exact absurd (hK _ _ _ h5) (fun h => nomatch h)
 | outgrown => exact he.elim

theorem flat_get {α : Type} {E : α → List Value} {sz : Nat} (hE : ∀ y, (E y).length = sz) (hsz : 0 < sz) : ∀ (xs : List α) (j : Nat), (xs.flatMap E)[j]? = (xs[j / sz]?).bind fun y => (E y)[j % sz]?
 | [], j => by simp
 | x :: r, j => by
  rw [List.flatMap_cons]
  rcases Nat.lt_or_ge j sz with h | h
  ·rw [List.getElem?_append_left (by rw [hE]; exact h), Nat.div_eq_of_lt h, Nat.mod_eq_of_lt h]; rfl
  ·rw [List.getElem?_append_right (by rw [hE]; exact h), hE, flat_get hE hsz r (j - sz)]
   have e1 : j / sz = (j - sz) / sz + 1 := by rw [Nat.div_eq_sub_div hsz h]
   have e2 : j % sz = (j - sz) % sz := Nat.mod_eq_sub_mod h
   rw [e1, e2, List.getElem?_cons_succ]
theorem addr_add_add (a : Addr) (i j : Nat) : (a.add i).add j = a.add (i + j) := by
 unfold Addr.add
 by_cases hi : i = 0
 ·subst hi; simp
 ·by_cases hj : j = 0
  ·subst hj; simp [hi]
  ·simp [hi, hj, Nat.add_assoc]
theorem rd_slice {α : Type} (E : α → List Value) {sz : Nat} (hE : ∀ y, (E y).length = sz) (hsz : 0 < sz) {H : Type} {enc : TypeId × Value → H} {P : Program} {w : World} {t e : TypeId} {spare : Nat → Bool} {held : Bool} (ht : P.underlying t = some (.slice e)) (hs : P.cellsOf e = sz)
  (hel : ∀ n cs x, DataW.trod enc P w 0 spare held n e cs = some x → ∃ y, cs = E y) {fuel : Nat} {cs : List Value} {x : DataW H × List MemPlace}
  (h : DataW.trod enc P w 0 spare held fuel t cs = some x) : ∃ (A : Option Addr) (c : Nat) (xs : List α), cs = [.slice A xs.length c] ∧ (xs = [] ∨ RdN (heapOf w) A 0 (xs.flatMap E)) := by
 rcases open_slice ht h with ⟨rfl, _⟩ | ⟨a, len, cap, m, n, D, Pl, rfl, _, hl, hm, hmm, _, hx⟩
 ·exact ⟨none, 0, [], rfl, .inl rfl⟩
 ·have hle : len ≤ m := by rw [hmm]; split <;> omega
  have hex : ∀ i, i < len → ∃ y, w.cells? 0 (a.add (i * sz)) sz = some (E y) := fun i hi => by
   obtain ⟨cs', h1, h2⟩ := hx i (by omega)
   obtain ⟨y, rfl⟩ := hel _ _ _ h2
   rw [hs] at h1
   exact ⟨y, h1⟩
  have hlist : ∀ k, k ≤ len → ∃ xs : List α, xs.length = k ∧ ∀ j p, xs[j]? = some p → w.cells? 0 (a.add (j * sz)) sz = some (E p) := by
   intro k
   induction k with
   | zero => exact fun _ => ⟨[], rfl, fun j p h => by simp at h⟩
   | succ k ih =>
    intro hk
    obtain ⟨xs, hl, hxs⟩ := ih (by omega)
    obtain ⟨y, hy⟩ := hex k (by omega)
    refine ⟨xs ++ [y], by simp [hl], fun j p hj => ?_⟩
    by_cases hjk : j < k
    ·rw [List.getElem?_append_left (by omega)] at hj; exact hxs j p hj
    ·have hjl := (List.getElem?_eq_some_iff.1 hj).1
     simp at hjl
     obtain rfl : j = k := by omega
     rw [List.getElem?_append_right (by omega), hl] at hj
     simp at hj; subst hj; exact hy
  obtain ⟨xs, hxl, hxs⟩ := hlist len (Nat.le_refl _)
  subst hxl
  refine ⟨some a, cap, xs, rfl, ?_⟩
  cases xs with
  | nil => exact .inl rfl
  | cons x0 r =>
   right
   have key : ∀ j v, ((x0 :: r).flatMap E)[j]? = some v → w.cell? (a.add j) = some v := by
    intro j v hv
    rw [flat_get hE hsz] at hv
    obtain ⟨y, h1, h2⟩ := Option.bind_eq_some_iff.1 hv
    obtain ⟨_, _, h3⟩ := World.cells?_some (hxs _ _ h1)
    have := h3 (j % sz) (Nat.mod_lt _ hsz)
    rw [addr_add_add, Nat.mul_comm, Nat.div_add_mod] at this
    rw [this]; exact h2
   obtain ⟨b, o, sp⟩ := a
   have hsp : sp = none := by
    have h0 : 0 < (E x0).length := by rw [hE]; exact hsz
    have := key 0 (E x0)[0] (by rw [List.flatMap_cons, List.getElem?_append_left h0]; exact List.getElem?_eq_getElem h0)
    simpa [Addr.add] using World.cell?_spot this
   subst hsp
   refine ⟨b, o, rfl, fun j v hv => ?_⟩
   have := key j v hv
   rw [Addr.add_lit] at this
   simpa [heapOf] using this
section
variable {H : Type} {enc : TypeId × Value → H} {P : Program} {w : World} {base : Nat} {spare : Nat → Bool} {held : Bool}
theorem field_at {fs : Array Field} {cs : List Value} {xs : List (DataW H × List MemPlace)} {n : Nat} (hl : xs.length = fs.size)
  (hf : ∀ (i : Nat) (f : Field), fs[i]? = some f → DataW.trod enc P w base spare held n f.type ((cs.drop f.offset).take (P.cellsOf f.type)) = xs[i]?) (i t off : Nat) (h : (fs[i]?).map (fun f => (f.type, f.offset)) = some (t, off)) :
  ∃ y, DataW.trod enc P w base spare held n t ((cs.drop off).take (P.cellsOf t)) = some y := by
 obtain ⟨f, hfi, he⟩ := Option.map_eq_some_iff.1 h
 have hi := (Array.getElem?_eq_some_iff.1 hfi).1
 injection he with e1 e2
 subst e1 e2
 exact ⟨xs[i], by rw [hf i f hfi, List.getElem?_eq_getElem (by omega)]⟩
end
end Go.Kx
namespace Go.Kx
open Go.ChangeShapes Go.WideShapes Go.ChangeAt Go.RowKit

def LawWalkL (P : Program) (f : FuncId) (fn : Func) (L : List (String × DataW Unit)) : Prop :=
 ∀ (H : Type) (enc : TypeId × Value → H) (W : World) (args : Array Value) (base : Nat) (ds : List (DataW H)) (p : List MemPlace),
  DataW.TrodAll enc P W 0 (fun _ => true) true fn.params.toList args.toList ds p →
  (∀ (j : Nat) t v, fn.params[j]? = some t → args[j]? = some v → Value.okWide P W .any base t v) →
  (DataW.weightsEach P fn.params.toList ds).all (· ≤ reachBytes) = true → laidMetH P L W →
  Calls P f args W fun e W' => e = .returned (.bool true) ∧ Below W.heap.size W W'
theorem law_lifted_laid {C : Checked} {f : FuncId} {fn : Func} {s : ChangeSpec} {L : List (String × DataW Unit)} {conds : List PathCond} {tb : TypeId} (own : ownKnob C.prog.godebug = none) (hl : laidOutB C.prog = true)
  (noInit : C.prog.inits.idxOf? f = none) (hfn : C.prog.funcs[f]? = some fn) (hvars : s.vars = []) (hres : fn.resultTypes = #[tb]) (htb : C.prog.underlying tb = some .bool)
  (hread : (fn.params.toList.all fun t => C.prog.readableRec t && decide (t < C.prog.types.size)) = true)
  (hspec : ∀ (H : Type) (ds : List (DataW H)), ds.length = fn.params.size → s.fn H ds = { results := [.lit (.bool true)], args := ds })
  (hwalk : LawWalkL C.prog f fn L)
  (os : Os) (started : os.Started) (H : Type) (enc : TypeId × Value → H)
  (witness : ∃ (w : World) (tape : Tape) (i : Input), w.os = os ∧ (w.forCall tape i).Shaped C.prog ∧ i.vars = [] ∧ Input.okWide C.prog (w.forCall tape i) .any w.heap.size f i ∧
   ((s.pre enc C.prog fn conds false (w.forCall tape i).memory i.args ∧ laidMetH C.prog L (w.forCall tape i).memory) ∧ sizedMet enc C.prog fn (OpenSpec.ofChange s) false (w.forCall tape i).memory i.args) ∧ ({} : Assume).holds C.prog (lone (Frame.enter C.prog f i.args .normal) [] (w.forCall tape i))) :
  ReturnsInHanded {} C os f .any (fun w args => (s.pre enc C.prog fn conds false w args ∧ laidMetH C.prog L w) ∧ sizedMet enc C.prog fn (OpenSpec.ofChange s) false w args) (s.post enc C.prog fn false true false false) := by
 refine returnsInHanded_of_change_and (C := C) (X := fun w _ => laidMetH C.prog L w) (fun _ _ _ hh h => h.of_heap hh) own started noInit hfn witness ?_
 intro W base args ds gs before hval hW _ hsz hL _
 have hW' := hW
 obtain ⟨p, q, hA, hV, rfl, hfz, hnd⟩ := hW
 rw [hvars] at hV
 obtain ⟨rfl, rfl⟩ := trodVars_none hV
 have hvt : s.plain.varTypes C.prog = [] := by simp [ChangeSpec.plain, DataSpec.varTypes, hvars]
 rw [hvt, List.append_nil, List.append_nil] at hsz
 refine (hwalk H enc W args base ds p hA hval hsz hL).mono fun e W' ⟨he, bel⟩ => ?_
 subst he
 exact ⟨_, rfl, law_post hl hvars hres htb hread hspec hW' bel⟩
end Go.Kx
namespace Go.Kx
open Go.RowKit

section
variable {P : Program} {n : Nat} {D : Pin}
theorem opsX_gen {T : Tab} (hT : TabOk P T) {ops : Array Oper} {Q : Exit → Act → World → Prop} {Kp : List PanicEntry → Hp → List SB → Prop} {Kn : Fr → Hp → List SB → Prop} {w0 : World} {M : Nat → Prop} {H0 : Hp} (hgd : Gd w0 M) :
  ∀ (r : List Oper) (i : Nat) (F : Fr) (H : Hp) (G : List SB) (rest : List Oper), (∀ j, (r ++ rest)[j]? = ops[i + j]?) → opsX P T n D.ps ops.toList Kp i r F H G Kn →
  ∀ (ρ : List Value) (a : Act) (w : World), St w0 M H0 ρ H G w → FOk ρ F a.tmps → D.On a → a.tmps.size = n →
   (∀ F' H' G' ρ' a' w', St w0 M H0 ρ' H' G' w' → Pre ρ ρ' → FOk ρ' F' a'.tmps → D.On a' → a'.tmps.size = n → H.Le H' → Kn F' H' G' → wpOps P ops Q ((List.range ops.size).drop (i + r.length)) a' w') →
   (∀ ch ρ' H' G' a' w', St w0 M H0 ρ' H' G' w' → Pre ρ ρ' → D.On a' → H.Le H' → Kp ch H' G' → Q (.panic ch) a' w') →
   wpOps P ops Q ((List.range ops.size).drop i) a w
 | [], i, F, H, G, rest, hr, h, ρ, a, w, hs, hf, hd, hn, hN, hP => by
  have := hN F H G ρ a w hs (.refl _) hf hd hn (.refl _) h
  simpa using this
 | o :: r, i, F, H, G, rest, hr, h, ρ, a, w, hs, hf, hd, hn, hN, hP => by
  have ho : ops[i]? = some o := by have := hr 0; simpa using this.symm
  have hi : i < ops.size := (Array.getElem?_eq_some_iff.1 ho).1
  have hl : (List.range ops.size).drop i = i :: (List.range ops.size).drop (i + 1) := by
   rw [List.drop_eq_getElem_cons (by simpa using hi)]; simp
  have hr' : ∀ j, (r ++ rest)[j]? = ops[i + 1 + j]? := fun j => by have := hr (j + 1); simp at this; rw [this]; congr 1; omega
  have hlen : i + (o :: r).length = i + 1 + r.length := by simp; omega
  rw [hlen] at hN
  rw [opsX_cons] at h
  obtain ⟨b, h, hw⟩ := wantX_ok (ops := ops) h
  rw [hl]
  simp only [wpOps, ho]
  rw [hw ρ a hf]
  cases b with
  | true =>
   simp only [if_true]
   left
   refine upon_of_out (opX_ok hT h w0 M hgd H0 ρ a w hs hf) ?_ ?_
   ·rintro v w' ⟨sv, ρ', H', G', h1, h2, h3, h4, h5⟩
    obtain ⟨sv', h5, h6⟩ := partBool_ok h5
    obtain ⟨F', h5, h8, h7⟩ := putX_ok h5
    have hf' := h7 ρ' a v hn (hf.mono h2) (h6 ρ' v h3)
    exact opsX_gen hT hgd r (i + 1) F' H' G' rest hr' h5 ρ' (a.put o.dst v) w' h1 hf' (hd.put h8 _) (by rw [put_size]; exact hn)
     (fun F2 H2 G2 ρ2 a2 w2 b1 b2 b3 b4 b5 b6 b7 => hN F2 H2 G2 ρ2 a2 w2 b1 (h2.trans b2) b3 b4 b5 (h4.trans b6) b7)
     (fun ch ρ2 H2 G2 a2 w2 b1 b2 b3 b4 b5 => hP ch ρ2 H2 G2 a2 w2 b1 (h2.trans b2) b3 (h4.trans b4) b5)
   ·rintro ch w' ⟨ρ', H', G', h1, h2, h4, h5⟩
    exact hP ch ρ' H' G' a w' h1 h2 hd h4 h5
  | false =>
   simp only [Bool.false_eq_true, if_false]
   obtain ⟨F', h5, h8, h7⟩ := putX_ok h
   have hf' := h7 ρ a undef hn hf rfl
   exact opsX_gen hT hgd r (i + 1) F' H G rest hr' h5 ρ (a.put o.dst undef) w hs hf' (hd.put h8 _) (by rw [put_size]; exact hn) hN hP

def CallDO (P : Program) (f : FuncId) (svs : List SV) (u : FrameMode) (H : Hp) (G : List SB) (K : FrameMode → Hp → List SB → Prop) : Prop :=
 ∀ (w0 : World) (M : Nat → Prop) (_ : Gd w0 M) (H0 : Hp) (ρ : List Value) (w : World) (vs : List Value), St w0 M H0 ρ H G w → All2 (SV.Is ρ) svs vs →
  CallsD P f vs.toArray u w fun e u' w' => match e with
   | .returned _ => ∃ ρ' H' G', St w0 M H0 ρ' H' G' w' ∧ Pre ρ ρ' ∧ H.Le H' ∧ K u' H' G'
   | _ => False
def recX (u : FrameMode) (K : Value → FrameMode → Prop) : Prop :=
 match u with
 | .returning => K .nilIface .returning
 | .panicking [⟨v, false, false⟩] => K v (.panicking [⟨v, true, false⟩])
 | _ => False
theorem recX_ok {u : FrameMode} {K : Value → FrameMode → Prop} (h : recX u K) : ∃ v u', K v u' ∧ ∀ (c : Frame) (cs : List Frame), c.mode = u →
  (recoverD (c :: cs) = some (v, { c with mode := u' } :: cs)) ∨ (recoverD (c :: cs) = none ∧ v = .nilIface ∧ u' = u) := by
 unfold recX at h
 split at h
 ·refine ⟨_, _, h, fun c cs hc => .inr ⟨?_, rfl, rfl⟩⟩
  simp [recoverD, hc]
 ·refine ⟨_, _, h, fun c cs hc => .inl ?_⟩
  simp [recoverD, hc]
 ·exact h.elim
theorem wpOpsS_of {ops : Array Oper} {cs : List Frame} {Q : Exit → Act → List Frame → World → Prop} (hQ : ∀ a w, ¬ Q .outgrown a cs w) :
  ∀ (l : List Nat) (a : Act) (w : World), wpOps P ops (fun e a w => Q e a cs w) l a w → wpOpsS P ops Q l a cs w
 | [], a, w, h => h
 | i :: l, a, w, h => by
  simp only [wpOps] at h
  simp only [wpOpsS]
  cases ho : ops[i]? with
  | none => simp only [ho] at h ⊢; exact wpOpsS_of hQ l a w h
  | some o =>
   simp only [ho] at h ⊢
   by_cases hw : Region.wanted o (yielded ops a.tmps) = true
   ·rw [if_pos hw] at h ⊢
    rcases h with h | ⟨_, a0, w1, h0⟩
    ·unfold Oper.wp at h
     split
     ·rename_i w' hr
      rw [hr] at h
      exact h.elim
     ·exact upon_mono (fun a w => wpOpsS_of hQ l a w) (fun e a w h => h) h
    ·exact (hQ _ _ h0).elim
   ·rw [if_neg hw] at h ⊢
    exact wpOpsS_of hQ l _ w h
def dK (P : Program) (T : Tab) (e : Nat) (rs : List ResultVar) (K : Hp → List SB → Prop) : KT
 | .normal, F, H, G => resX P T rs F H G fun _ => trimX e (.tu []) G fun G' => K H G'
 | .ret, F, H, G => resX P T rs F H G fun _ => trimX e (.tu []) G fun G' => K H G'
 | _, _, _, _ => False
def opsK (A : Fr → Hp → List SB → Prop) : KT
 | .normal, F, H, G => A F H G
 | _, _, _, _ => False
theorem trim_ok {w0 : World} {M : Nat → Prop} {H0 : Hp} {ρ ρ' : List Value} {H' : Hp} {G' : List SB} {w' : World} {e : Nat} {v : SV} {K : List SB → Prop} (hl : ρ.length = e) (h1 : St w0 M H0 ρ' H' G' w') (hp : PreE e ρ ρ') (h : trimX e v G' K) :
  ∃ ρ2 G2, St w0 M H0 ρ2 H' G2 w' ∧ Pre ρ ρ2 ∧ K G2 := by
 unfold trimX at h
 split at h
 ·rename_i hw
  simp only [Bool.and_eq_true] at hw
  obtain ⟨hw1, hw2, hw3⟩ := hw
  refine ⟨ρ'.take e, G'.take e, h1.cut _ hw2, fun k r hk => ?_, h⟩
  have hk' : k < e := by rw [← hl]; exact (List.getElem?_eq_some_iff.1 hk).1
  rw [List.getElem?_take_of_lt hk']
  exact hp k r hk' hk
 ·exact ⟨ρ', G', h1, fun k r hk => hp k r (by rw [← hl]; exact (List.getElem?_eq_some_iff.1 hk).1) hk, h⟩
theorem CallDO.of_body {T : Tab} (hT : TabOk P T) {f : FuncId} {fn : Func} {id : Nat} {ops : Array Oper} {rest : Code} (hf : P.funcs[f]? = some fn) (hb : fn.body = some (.seq (.region id ops false) rest))
  {o0 : Oper} {os : List Oper} (hops : ops.toList = o0 :: os) {ts : Array TypeId} (ho : o0.op = .call ⟨.builtin .recover, #[], ts⟩) (hg : o0.guard = none) {svs : List SV} {nt : Nat} (hn : fn.ntmps = nt) (hl : Nat.ble svs.length nt = true)
  {u : FrameMode} {H : Hp} {G : List SB} {K : FrameMode → Hp → List SB → Prop}
  (h : recX u fun v u' => putX nt [] o0.dst (startF 0 svs) (pv v) fun F' => opsX P T nt [] ops.toList (fun _ _ _ => False) 1 os F' H G fun F2 H2 G2 => codeX P T nt G.length .none rest (dK P T G.length fn.results.toList (K u')) F2 H2 G2) :
  CallDO P f svs u H G K := by
 intro w0 M hgd H0 ρ w vs hs hv
 refine callsD_of_wpS hf hb fun c₀ cs hc₀ => ?_
 obtain ⟨v, u', h, hrec⟩ := recX_ok h
 obtain ⟨F', h, _, hput⟩ := putX_ok h
 have hvl := hv.length
 have hle : svs.length ≤ nt := by simpa using hl
 have hsize : (vs.toArray ++ Array.replicate (fn.ntmps - vs.toArray.size) undef).size = nt := by simp; omega
 generalize hact : (⟨vs.toArray ++ Array.replicate (fn.ntmps - vs.toArray.size) undef, []⟩ : Act) = a0
 have hf0 : FOk ρ (startF 0 svs) a0.tmps := by
  intro i sv hm
  obtain ⟨k, rfl, hk⟩ := startF_mem hm
  obtain ⟨v, h1, h2⟩ := hv.get hk
  refine ⟨v, ?_, h2⟩
  have hkl := (List.getElem?_eq_some_iff.1 h1).1
  rw [← hact, Nat.zero_add, Array.getElem?_append_left (by simpa using hkl)]
  simpa using h1
 have hsz : a0.tmps.size = nt := by rw [← hact]; exact hsize
 have hde : a0.defers = [] := by rw [← hact]
 have ho' : ops[0]? = some o0 := by
  have : ops.toList[0]? = some o0 := by rw [hops]; rfl
  simpa using this
 have hi : 0 < ops.size := (Array.getElem?_eq_some_iff.1 ho').1
 have hlr : List.range ops.size = 0 :: (List.range ops.size).drop 1 := by
  have : (List.range ops.size).drop 0 = 0 :: (List.range ops.size).drop 1 := by
   rw [List.drop_eq_getElem_cons (by simpa using hi)]; simp
  simpa using this
 let Q0 := bodyPostS P fn c₀ cs (fun e u' w' => match e with
   | .returned _ => ∃ ρ' H' G', St w0 M H0 ρ' H' G' w' ∧ Pre ρ ρ' ∧ H.Le H' ∧ K u' H' G'
   | _ => False)
 -- behind 'recover()'
 have next : ∀ w, St w0 M H0 ρ H G w → wpOpsS P ops (Exit.thenS (rest.wpS P Q0) Q0) ((List.range ops.size).drop 1) (a0.put o0.dst v) ({ c₀ with mode := u' } :: cs) w := by
  intro w hs
  have hout : ∀ a w, ¬ (Exit.thenS (rest.wpS P Q0) Q0) .outgrown a ({ c₀ with mode := u' } :: cs) w := by
   rintro a w ⟨_, h⟩; exact h
  refine wpOpsS_of hout _ _ _ ?_
  have hx := opsX_gen (D := .none) (Q := fun e a w => (Exit.thenS (rest.wpS P Q0) Q0) e a ({ c₀ with mode := u' } :: cs) w) (w0 := w0) (M := M) (H0 := H0) hT hgd os 1 F' H G [] (fun j => by
    have : ops.toList[1 + j]? = os[j]? := by rw [hops, show 1 + j = j + 1 by omega]; simp
    simpa using this.symm) h ρ (a0.put o0.dst v) w hs (hput ρ a0 v hsz hf0 rfl) (Pin.on_none.2 (by rw [put_defers]; exact hde)) (by rw [put_size]; exact hsz) ?_ ?_
  ·exact hx
  ·intro F2 H2 G2 ρ2 a2 w2 b1 b2 b3 b4 b5 b6 b7
   have hol : ops.size = 1 + os.length := by have := congrArg List.length hops; simp at this; omega
   rw [List.drop_of_length_le (by simp; omega)]
   show rest.wpS P Q0 a2 ({ c₀ with mode := u' } :: cs) w2
   refine wpS_of_wp (wp_mono (codeX_ok hT _ b7 w0 M hgd H0 ρ2 a2 w2 b1 b3 b4 b5) fun e a w' he => ?_)
   have fin : (Pin.none.On a ∧ a.tmps.size = nt ∧ ∃ F' ρ' H' G', St w0 M H0 ρ' H' G' w' ∧ PreE G.length ρ2 ρ' ∧ FOk ρ' F' a.tmps ∧ H2.Le H' ∧ resX P T fn.results.toList F' H' G' fun _ => trimX G.length (.tu []) G' fun G3 => K u' H' G3) →
     a.defers = [] ∧ ∃ u2, ({ c₀ with mode := u' } :: cs : List Frame) = { c₀ with mode := u2 } :: cs ∧ ∃ v, (results fn a.tmps).run P w' = .ok v w' ∧ ∃ ρ' H' G', St w0 M H0 ρ' H' G' w' ∧ Pre ρ ρ' ∧ H.Le H' ∧ K u2 H' G' := by
    rintro ⟨hd, _, F3, ρ', H', G', h1, hq, h2, h3, h4⟩
    obtain ⟨l, h4, hl⟩ := resX_ok hT h4
    obtain ⟨ys, h5, h6⟩ := hl ρ' a w' h1.sw h2
    obtain ⟨ρ3, G3, c1, c2, c3⟩ := trim_ok hs.len h1 (b2.toE.trans hq) h4
    exact ⟨Pin.on_none.1 hd, u', rfl, _, run_results h5, ρ3, H', G3, c1, c2, b6.trans h3, c3⟩
   cases e with
   | normal => exact fin he
   | ret => exact fin he
   | panic ch => obtain ⟨_, _, _, _, _, _, _, h5⟩ := he; exact h5.elim
   | outgrown => exact he.elim
   | exit id => obtain ⟨_, _, _, _, _, _, _, _, _, _, h5⟩ := he; exact h5.elim
   | goto l => obtain ⟨_, _, _, _, _, _, _, _, _, _, h5⟩ := he; exact h5.elim
  ·intro ch ρ' H' G' a' w' _ _ _ _ hk
   exact hk.elim
 refine wpS_seq (wpS_region ?_)
 rw [hlr]
 have hwant : Region.wanted o0 (yielded ops a0.tmps) = true := by unfold Region.wanted; rw [hg]
 have hrun : (execOp a0.eval o0).run P w = .ok .recover w := by
  simp [execOp, ho, resolve, invoke, builtin]
 simp only [wpOpsS, ho', hwant, if_true, hrun]
 rcases hrec c₀ cs hc₀ with e1 | ⟨e1, rfl, rfl⟩
 ·rw [e1]; exact next w hs
 ·rw [e1]
  have : ({ c₀ with mode := u' } : Frame) = c₀ := by rw [← hc₀]
  rw [← this]; exact next w hs

def pinF : List Nat → Fr → (Fr → Prop) → Prop
 | [], _, K => K []
 | i :: r, F, K => getX F i fun sv => pinF r F fun F' => K ((i, sv) :: F')
theorem pinF_ok {F : Fr} : ∀ {ps : List Nat} {K : Fr → Prop}, pinF ps F K → ∃ F', K F' ∧ ∀ i sv, (i, sv) ∈ F' → i ∈ ps ∧ (i, sv) ∈ F
 | [], K, h => ⟨[], h, fun i sv hm => by simp at hm⟩
 | i :: r, K, h => by
  obtain ⟨sv, h1, h⟩ := getX_ok h
  obtain ⟨F', h, h2⟩ := pinF_ok h
  refine ⟨_, h, fun j sv' hm => ?_⟩
  rcases List.mem_cons.1 hm with hm | hm
  ·injection hm with e1 e2; subst e1 e2; exact ⟨List.mem_cons_self, h1⟩
  ·exact ⟨List.mem_cons_of_mem _ (h2 j sv' hm).1, (h2 j sv' hm).2⟩
def backX (u : FrameMode) (K : Prop) : Prop :=
 match settle u with
 | .returning => K
 | _ => False
theorem backX_ok {u : FrameMode} {K : Prop} (h : backX u K) : settle u = .returning ∧ K := by
 unfold backX at h
 split at h
 ·exact ⟨by assumption, h⟩
 ·exact h.elim
structure CallDS (P : Program) (f : FuncId) (svs : List SV) (u : FrameMode) (H : Hp) (G : List SB) (K : FrameMode → Hp → List SB → Prop) : Prop where of ::
 to : CallDO P f svs u H G K
def defK (P : Program) (T : Tab) (e : Nat) (rs : List ResultVar) (g : FuncId) (svs : List SV) (Fp : Fr) (K : SE → Hp → List SB → Prop) : KT
 | .normal, F, H, G => CallDS P g svs .returning H G fun u' H' G' => backX u' (resX P T rs F H' G' fun l => endK.one l (fun v => trimX e v G' fun G2 => K (.ret v) H' G2))
 | .ret, F, H, G => CallDS P g svs .returning H G fun u' H' G' => backX u' (resX P T rs F H' G' fun l => endK.one l (fun v => trimX e v G' fun G2 => K (.ret v) H' G2))
 | .panic ch, _, H, G => CallDS P g svs (.panicking ch) H G fun u' H' G' => backX u' (resX P T rs Fp H' G' fun l => endK.one l (fun v => trimX e v G' fun G2 => K (.ret v) H' G2))
 | _, _, _, _ => False


theorem Pre.of_E {e : Nat} {ρ ρ' : List Value} (hl : ρ.length = e) (h : PreE e ρ ρ') : Pre ρ ρ' := fun k r hk => h k r (by rw [← hl]; exact (List.getElem?_eq_some_iff.1 hk).1) hk
theorem all2_mono {ρ ρ' : List Value} (h : Pre ρ ρ') {svs : List SV} {vs : List Value} (ha : All2 (SV.Is ρ) svs vs) : All2 (SV.Is ρ') svs vs := ha.mono fun _ _ => SV.Is.mono h
def glen (G : List SB) (K : Nat → Prop) : Prop := appG G .dead fun _ n => K n
theorem CallO.of_bodyD {T : Tab} (hT : TabOk P T) {f : FuncId} {fn : Func} {A rest : Code} {id : Nat} {ops : Array Oper} (hf : P.funcs[f]? = some fn) (hb : fn.body = some (.seq A (.seq (.region id ops false) rest)))
  {pre : List Oper} {od : Oper} (hops : ops.toList = pre ++ [od]) {fx : Operand} {ts : Array TypeId} (hod : od.op = .defer ⟨.value fx, #[], ts⟩) (hg : od.guard = none) {svs : List SV} {nt : Nat} (hn : fn.ntmps = nt) (hl : Nat.ble svs.length nt = true)
  {H : Hp} {G : List SB} {K : SE → Hp → List SB → Prop} (ps : List Nat)
  (h : codeX P T nt G.length .none A (opsK fun F H1 G1 => opsX P T nt [] ops.toList (fun _ _ _ => False) 0 pre F H1 G1 fun F1 H2 G2 => evX fx F1 fun sv => calleeX sv fun g s1 s2 => Bodied P g ∧
   putX nt [] od.dst F1 (pv undef) fun F2 => pinF ps F2 fun Fp => glen G2 fun e' => ∀ ds vs, codeX P T nt e' ⟨ds, ps, vs⟩ rest (defK P T G.length fn.results.toList g (s1 ++ s2) Fp K) F2 H2 G2) (startF 0 svs) H G) : CallO P f svs H G K := by
 intro w0 M hgd H0 ρ w vs hs hv
 refine (calls_of_wp_defers (R := fun e w' => match e with
   | .returned v => ∃ sv ρ' H' G', St w0 M H0 ρ' H' G' w' ∧ Pre ρ ρ' ∧ sv.Is ρ' v ∧ H.Le H' ∧ K (.ret sv) H' G'
   | .panicked ch => ∃ ρ' H' G', St w0 M H0 ρ' H' G' w' ∧ Pre ρ ρ' ∧ H.Le H' ∧ K (.pan ch) H' G'
   | .outgrown => False) hf hb ?_)
 have hvl := hv.length
 have hle : svs.length ≤ nt := by simpa using hl
 have hsize : (vs.toArray ++ Array.replicate (fn.ntmps - vs.toArray.size) undef).size = nt := by simp; omega
 generalize hact : (⟨vs.toArray ++ Array.replicate (fn.ntmps - vs.toArray.size) undef, []⟩ : Act) = a0
 have hf0 : FOk ρ (startF 0 svs) a0.tmps := by
  intro i sv hm
  obtain ⟨k, rfl, hk⟩ := startF_mem hm
  obtain ⟨v, h1, h2⟩ := hv.get hk
  refine ⟨v, ?_, h2⟩
  have hkl := (List.getElem?_eq_some_iff.1 h1).1
  rw [← hact, Nat.zero_add, Array.getElem?_append_left (by simpa using hkl)]
  simpa using h1
 have hsz : a0.tmps.size = nt := by rw [← hact]; exact hsize
 have hde : a0.defers = [] := by rw [← hact]
 refine wp_seq (wp_mono (codeX_ok hT _ h w0 M hgd H0 ρ a0 w hs hf0 (Pin.on_none.2 hde) hsz) fun e a1 w1 he => ?_)
 cases e with
 | panic ch => obtain ⟨_, _, _, _, _, _, _, h5⟩ := he; exact h5.elim
 | outgrown => exact he.elim
 | exit id => obtain ⟨_, _, _, _, _, _, _, _, _, _, h5⟩ := he; exact h5.elim
 | goto l => obtain ⟨_, _, _, _, _, _, _, _, _, _, h5⟩ := he; exact h5.elim
 | ret => obtain ⟨_, _, _, _, _, _, _, _, _, _, h5⟩ := he; exact h5.elim
 | normal =>
  obtain ⟨hd1, hn1, F1, ρ1, H1, G1, hs1, hp1, hf1, hle1, h⟩ := he
  have hp1 := Pre.of_E hs.len hp1
  refine wp_seq (wp_region ?_)
  have hx := opsX_gen (D := .none) (n := nt) (ops := ops) (Kp := fun _ _ _ => False) (Q := Exit.then (rest.wp P (bodyPostD P fn (fun e w' => match e with
   | .returned v => ∃ sv ρ' H' G', St w0 M H0 ρ' H' G' w' ∧ Pre ρ ρ' ∧ sv.Is ρ' v ∧ H.Le H' ∧ K (.ret sv) H' G'
   | .panicked ch => ∃ ρ' H' G', St w0 M H0 ρ' H' G' w' ∧ Pre ρ ρ' ∧ H.Le H' ∧ K (.pan ch) H' G'
   | .outgrown => False))) (bodyPostD P fn (fun e w' => match e with
   | .returned v => ∃ sv ρ' H' G', St w0 M H0 ρ' H' G' w' ∧ Pre ρ ρ' ∧ sv.Is ρ' v ∧ H.Le H' ∧ K (.ret sv) H' G'
   | .panicked ch => ∃ ρ' H' G', St w0 M H0 ρ' H' G' w' ∧ Pre ρ ρ' ∧ H.Le H' ∧ K (.pan ch) H' G'
   | .outgrown => False))) (w0 := w0) (M := M) (H0 := H0) hT hgd pre 0 F1 H1 G1 [od] (fun j => by
    have : ops.toList[j]? = (pre ++ [od])[j]? := by rw [hops]
    simpa using this.symm) h ρ1 a1 w1 hs1 hf1 hd1 hn1 ?_ (fun ch ρ' H' G' a' w' _ _ _ _ hk => hk.elim)
  ·simpa using hx
  ·intro F2 H2 G2 ρ2 a2 w2 hs2 hp2 hf2 hd2 hn2 hle2 h
   obtain ⟨sv, h, hsv⟩ := evX_ok h
   obtain ⟨g, s1, s2, ⟨hbod, h⟩, hc⟩ := calleeX_ok h
   obtain ⟨F3, h, _, hput⟩ := putX_ok h
   obtain ⟨Fp, h, hpin⟩ := pinF_ok h
   have h := appG_ok h
   obtain ⟨x, y, e1, hx, hy⟩ := hc ρ2 _ (hsv ρ2 a2 hf2)
   have hl1 : ops.size = pre.length + 1 := by have := congrArg List.length hops; simpa using this
   have hlr : (List.range ops.size).drop (0 + pre.length) = [pre.length] := by
    rw [Nat.zero_add, hl1, List.range_succ, List.drop_append_of_le_length (by simp), List.drop_of_length_le (by simp)]; rfl
   have ho' : ops[pre.length]? = some od := by
    have : ops.toList[pre.length]? = some od := by rw [hops]; simp
    simpa using this
   have hwant : Region.wanted od (yielded ops a2.tmps) = true := by unfold Region.wanted; rw [hg]
   have hrun : (execOp a2.eval od).run P w2 = .ok (.defer { target := .fn (.func g) y.toArray, args := x.toArray }) w2 := by
    simp only [execOp, hod, resolve, e1, Deferred.ofValue]
    simp
   rw [hlr]
   simp only [wpOps, ho', hwant, if_true, Oper.wp, hrun, Oper.upon_defer]
   left
   generalize hds : ({ target := .fn (.func g) y.toArray, args := x.toArray } : Deferred) = d0
   have hf3 : FOk ρ2 F3 (({ a2 with defers := d0 :: a2.defers } : Act).put od.dst undef).tmps := hput ρ2 { a2 with defers := d0 :: a2.defers } undef hn2 hf2 rfl
   generalize ha3 : (({ a2 with defers := d0 :: a2.defers } : Act).put od.dst undef) = a3 at hf3
   have hn3 : a3.tmps.size = nt := by rw [← ha3, put_size]; exact hn2
   have hd3 : a3.defers = [d0] := by rw [← ha3, put_defers]; show d0 :: a2.defers = _; rw [Pin.on_none.1 hd2]
   show rest.wp P _ a3 w2
   have hpre := hp1.trans hp2
   refine wp_mono (codeX_ok hT _ (h [d0] (fun i => a3.tmps[i]?)) w0 M hgd H0 ρ2 a3 w2 hs2 hf3 ⟨hd3, fun i _ => rfl⟩ hn3) fun e a4 w4 he => ?_
   have fin : ∀ (u : FrameMode) (F4 : Fr) (ρ4 : List Value) (H4 : Hp) (G4 : List SB), u ≠ .run → a4.defers = [d0] → St w0 M H0 ρ4 H4 G4 w4 → Pre ρ2 ρ4 → FOk ρ4 F4 a4.tmps → H2.Le H4 →
     CallDS P g (s1 ++ s2) u H4 G4 (fun u' H' G' => backX u' (resX P T fn.results.toList F4 H' G' fun l => endK.one l (fun v => trimX G.length v G' fun G2 => K (.ret v) H' G2))) →
     Leaves P fn a4.tmps (fun e w' => match e with
      | .returned v => ∃ sv ρ' H' G', St w0 M H0 ρ' H' G' w' ∧ Pre ρ ρ' ∧ sv.Is ρ' v ∧ H.Le H' ∧ K (.ret sv) H' G'
      | .panicked ch => ∃ ρ' H' G', St w0 M H0 ρ' H' G' w' ∧ Pre ρ ρ' ∧ H.Le H' ∧ K (.pan ch) H' G'
      | .outgrown => False) a4.defers u w4 := by
    intro u F4 ρ4 H4 G4 hu hd4 hs4 hp4 hf4 hle4 hc
    rw [hd4, ← hds]
    have hinv : (invoke (.fn (.func g) y.toArray) x.toArray).run P w4 = .ok (.enter g (x ++ y).toArray) w4 := by
     simp only [invoke, run_callFunc hbod]; simp
    refine leaves_cons hu hinv (CallsD.mono (hc.to w0 M hgd H0 ρ4 w4 (x ++ y) hs4 (all2_mono hp4 (hx.append hy))) fun e u' w' he => ?_)
    cases e with
    | returned v =>
     obtain ⟨ρ5, H5, G5, hs5, hp5, hle5, h⟩ := he
     obtain ⟨hset, h⟩ := backX_ok h
     obtain ⟨l, h, hl⟩ := resX_ok hT h
     obtain ⟨sv, h, hsv⟩ := one_ok h
     obtain ⟨ys, h5, h6⟩ := hl ρ5 a4 w' hs5.sw (hf4.mono hp5)
     show Leaves P fn a4.tmps _ [] (settle u') w'
     rw [hset]
     refine ⟨_, run_results h5, ?_⟩
     have hpp : Pre ρ ρ5 := (hpre.trans hp4).trans hp5
     have hhh : H.Le H5 := ((hle1.trans hle2).trans hle4).trans hle5
     unfold trimX at h
     split at h
     ·rename_i hw
      simp only [Bool.and_eq_true] at hw
      obtain ⟨hw1, hw2, hw3⟩ := hw
      refine ⟨sv, ρ5.take G.length, H5, G5.take G.length, hs5.cut _ hw2, fun k r hk => ?_, (hsv ρ5 ys h6).cut hw1, hhh, h⟩
      rw [List.getElem?_take_of_lt (by rw [← hs.len]; exact (List.getElem?_eq_some_iff.1 hk).1)]
      exact hpp k r hk
     ·exact ⟨sv, ρ5, H5, G5, hs5, hpp, hsv ρ5 ys h6, hhh, h⟩
    | panicked ch => exact he.elim
    | outgrown => exact he.elim
   cases e with
   | normal => obtain ⟨b1, b2, F4, ρ4, H4, G4, b3, b4, b5, b6, b7⟩ := he; exact fin .returning F4 ρ4 H4 G4 (by simp) b1.1 b3 (Pre.of_E hs2.len b4) b5 b6 b7
   | ret => obtain ⟨b1, b2, F4, ρ4, H4, G4, b3, b4, b5, b6, b7⟩ := he; exact fin .returning F4 ρ4 H4 G4 (by simp) b1.1 b3 (Pre.of_E hs2.len b4) b5 b6 b7
   | panic ch =>
    obtain ⟨b1, ρ4, H4, G4, b3, b4, b6, b7⟩ := he
    refine fin (.panicking ch) Fp ρ4 H4 G4 (by simp) b1.1 b3 (Pre.of_E hs2.len b4) (fun i sv hi => ?_) b6 b7
    obtain ⟨q1, q2⟩ := hpin i sv hi
    obtain ⟨v, q3, q4⟩ := hf3 i sv q2
    refine ⟨v, ?_, q4.mono (Pre.of_E hs2.len b4)⟩
    rw [b1.2 i q1]; exact q3
   | outgrown => exact he.elim
   | exit id => obtain ⟨_, _, _, _, _, _, _, _, _, _, h5⟩ := he; exact h5.elim
   | goto l => obtain ⟨_, _, _, _, _, _, _, _, _, _, h5⟩ := he; exact h5.elim
end
end Go.Kx
namespace Go.Kx
open Go.RowKit
section
variable {P : Program} {n e : Nat} {D : Pin}
def Meets (e : Nat) (I : Fr → Hp → List SB → Prop) (F : Fr) (H : Hp) (G : List SB) : Prop :=
 ∃ F' G' σ, I F' H G' ∧ subOk e σ F' G' = true ∧ subG σ G σ G' ∧ subF σ F F'
theorem W.seqTo {x y : Code} {K : KT} {F : Fr} {H : Hp} {G : List SB} (I : Fr → Hp → List SB → Prop) (h : W P n e D x (thenK (Meets e I) K) F H G)
  (h2 : ∀ F' H' G', H.Le H' → I F' H' G' → codeL P n e D y K F' H' G') : W P n e D (.seq x y) K F H G :=
 W.seq (W.mono h fun xx F' H' G' hle he => by
  cases xx with
  | normal =>
   obtain ⟨F2, G2, σ, h1, h3, h4, h5⟩ := he
   exact W.sub σ (h2 F2 H' G2 hle h1).to h3 h4 h5
  | _ => exact he)
theorem codeL.seqTo {T : Tab} (hT : TabOk P T) {x y : Code} {K : KT} {F : Fr} {H : Hp} {G : List SB} (I : Fr → Hp → List SB → Prop) (h : codeX P T n e D x (thenK (Meets e I) K) F H G)
  (h2 : ∀ F' H' G', H.Le H' → I F' H' G' → codeL P n e D y K F' H' G') : codeL P n e D (.seq x y) K F H G := ⟨W.seqTo I (codeX_ok hT _ h) h2⟩
theorem WS.seqTo {T : Tab} (hT : TabOk P T) {x y : Code} {K : KT} {F : Fr} {H : Hp} {G : List SB} (I : Fr → Hp → List SB → Prop) (h : codeX P T n e D x (thenK (Meets e I) K) F H G)
  (h2 : ∀ F' H' G', H.Le H' → I F' H' G' → codeL P n e D y K F' H' G') : WS P n e D (.seq x y) K F H G := ⟨W.seqTo I (codeX_ok hT _ h) h2⟩
theorem codeL.ofS {c : Code} {K : KT} {F : Fr} {H : Hp} {G : List SB} (h : WS P n e D c K F H G) : codeL P n e D c K F H G := ⟨h.to⟩
theorem WS.scopeR {c y : Code} {l : Nat} (hf : findLabel c l = some (.seq .skip y)) {K : KT} {F : Fr} {H : Hp} {G : List SB} (I : Nat → Fr → Hp → List SB → Prop) (m : Nat)
  (hr : ∀ m F' H' G', H.Le H' → I m F' H' G' → codeL P n e D y (scopeK e l I m K) F' H' G')
  (h0 : (∀ F' H' G', H.Le H' → I m F' H' G' → codeL P n e D y (scopeK e l I m K) F' H' G') → codeL P n e D c (scopeK e l I m K) F H G) : WS P n e D (.scope c) K F H G :=
 WS.scope hf I m (h0 (hr m)) fun m F' H' G' hle hI => ⟨W.seq (W.skip (hr m F' H' G' hle hI).to)⟩
theorem codeL.label {l : Nat} {y : Code} {K : KT} {F : Fr} {H : Hp} {G : List SB} (h : codeL P n e D y K F H G) : codeL P n e D (.seq (.label l) y) K F H G := ⟨W.seq (W.label h.to)⟩

theorem RdN.mono {H H' : Hp} (h : H.Le H') {A : Option Addr} {off : Nat} {xs : List Value} (hr : RdN H A off xs) : RdN H' A off xs :=
 let ⟨b, o, h1, h2⟩ := hr; ⟨b, o, h1, fun j x hx => h _ _ _ (h2 j x hx)⟩
theorem RdC.mono {H H' : Hp} (h : H.Le H') {A : Option Addr} {off : Nat} {x : Value} (hr : RdC H A off x) : RdC H' A off x :=
 let ⟨b, o, h1, h2⟩ := hr; ⟨b, o, h1, h _ _ _ h2⟩

theorem St.retell {w0 : World} {M : Nat → Prop} {H0 : Hp} {ρ : List Value} {H : Hp} {G : List SB} {w : World} (h : St w0 M H0 ρ H G w) {k : Nat} {t : TypeId} {cs cs' : List SC} (hk : G[k]? = some (.box t cs)) (hc : ∀ ys, All2 (SC.Is ρ) cs ys → All2 (SC.Is ρ) cs' ys) :
  St w0 M H0 ρ H (G.set k (.box t cs')) w := by
 have hkl := (List.getElem?_eq_some_iff.1 hk).1
 have hb : ∀ j, blkAt ρ (G.set k (.box t cs')) j = blkAt ρ G j := fun j => by
  by_cases hjk : k = j
  ·subst hjk
   unfold blkAt
   rw [List.getElem?_set_self hkl, hk]
   cases ρ[k]? <;> rfl
  ·unfold blkAt
   rw [List.getElem?_set_ne hjk]
 refine ⟨h.os, h.tape, h.output, h.size, h.old, h.hle, h.hin, h.hnew, by simp [h.len], ?_, fun j x hx => h.own j x (by rw [← hb]; exact hx), fun i j x hi hj => h.inj i j x (by rw [← hb]; exact hi) (by rw [← hb]; exact hj)⟩
 intro j s1 r1 h1 h2
 by_cases hjk : k = j
 ·subst hjk
  rw [List.getElem?_set_self hkl] at h1
  injection h1 with h1; subst h1
  obtain ⟨g, ys, e1, e2, e3⟩ := h.ok k _ r1 hk h2
  exact ⟨g, ys, e1, e2, hc ys e3⟩
 ·rw [List.getElem?_set_ne hjk] at h1
  exact h.ok j s1 r1 h1 h2
theorem all2_set_left {ρ : List Value} {c c' : SC} : ∀ {cs : List SC} {ys : List Value} {i : Nat}, cs[i]? = some c → (∀ y, c.Is ρ y → c'.Is ρ y) → All2 (SC.Is ρ) cs ys → All2 (SC.Is ρ) (cs.set i c') ys
 | [], _, i, h, _, _ => by simp at h
 | a :: l, _, 0, h, hc, .cons h1 h2 => by simp at h; subst h; exact .cons (hc _ h1) h2
 | a :: l, _, i + 1, h, hc, .cons h1 h2 => .cons h1 (all2_set_left (i := i) (by simpa using h) hc h2)
theorem St.nilCell {w0 : World} {M : Nat → Prop} {H0 : Hp} {ρ : List Value} {H : Hp} {G : List SB} {w : World} (h : St w0 M H0 ρ H G w) {k i : Nat} {t : TypeId} {cs : List SC} (et sz : Nat) (hk : G[k]? = some (.box t cs)) (hi : cs[i]? = some (.val (.slice none 0 0))) :
  St w0 M H0 (ρ ++ [.slice none 0 0]) H (G.set k (.box t (cs.set i (.self G.length))) ++ [.row et sz 0 []]) w := by
 have h1 := h.adopt (s := .row et sz 0 []) (r := .slice none 0 0) (OwnRow.nil w et sz) (fun g hg => by cases hg)
 have hkl := (List.getElem?_eq_some_iff.1 hk).1
 have h2 := h1.retell (k := k) (t := t) (cs := cs) (cs' := cs.set i (.self G.length)) (by rw [List.getElem?_append_left hkl]; exact hk) (fun ys hy => all2_set_left (i := i) hi (fun y hy => by
  obtain rfl : y = _ := hy
  show (ρ ++ [Value.slice none 0 0])[G.length]? = _
  rw [← h.len]; simp) hy)
 rw [List.set_append_left k _ hkl] at h2
 exact h2
theorem CallO.nilCell {f : FuncId} {svs : List SV} {H : Hp} {G : List SB} {K0 K : SE → Hp → List SB → Prop} (h : CallO P f svs H G K0)
  (hK : ∀ e H' G', H.Le H' → K0 e H' G' → K e H' G' ∨ ∃ k i t cs et sz, G'[k]? = some (.box t cs) ∧ cs[i]? = some (.val (.slice none 0 0)) ∧ K e H' (G'.set k (.box t (cs.set i (.self G'.length))) ++ [.row et sz 0 []])) : CallO P f svs H G K := by
 intro w0 M hgd H0 ρ w vs hs hv
 refine (h w0 M hgd H0 ρ w vs hs hv).mono fun e w' he => ?_
 cases e with
 | returned v =>
  obtain ⟨sv, ρ', H', G', h1, h2, h3, h4, h5⟩ := he
  rcases hK _ _ _ h4 h5 with h6 | ⟨k, i, t, cs, et, sz, h6, h7, h8⟩
  ·exact ⟨sv, ρ', H', G', h1, h2, h3, h4, h6⟩
  ·exact ⟨sv, _, H', _, h1.nilCell et sz h6 h7, h2.trans (Pre.append _ _), h3.mono (Pre.append _ _), h4, h8⟩
 | panicked ch =>
  obtain ⟨ρ', H', G', h1, h2, h4, h5⟩ := he
  rcases hK _ _ _ h4 h5 with h6 | ⟨k, i, t, cs, et, sz, h6, h7, h8⟩
  ·exact ⟨ρ', H', G', h1, h2, h4, h6⟩
  ·exact ⟨_, H', _, h1.nilCell et sz h6 h7, h2.trans (Pre.append _ _), h4, h8⟩
 | outgrown => exact he
end
end Go.Kx
namespace Go.Kx
open Go.RowKit
section
variable {P : Program}
def GlW (w : World) : Prop := ∀ g cs, Gl g = some cs → ∃ t z, w.heap[g]? = some (.cells cs t z)
def svOf : Value → SV
 | .tuple vs => .tu (vs.toList.map fun v => .ce (.val v))
 | v => pv v
theorem svOf_is (ρ : List Value) (v : Value) : (svOf v).Is ρ v := by
 unfold svOf
 split
 ·rename_i vs
  refine ⟨vs.toList, by simp, ?_⟩
  generalize vs.toList = l
  induction l with
  | nil => exact .nil
  | cons a l ih => exact .cons rfl ih
 ·rfl
theorem pv_all (ρ : List Value) : ∀ {args vs : List Value}, All2 (SV.Is ρ) (args.map pv) vs → vs = args
 | [], _, h => by cases h; rfl
 | a :: l, _, h => by
  cases h with | cons h1 h2 =>
   have h1 : _ = a := h1
   rw [h1, pv_all ρ h2]
theorem grown_of_below {w w' : World} (h : Below w.heap.size w w') : w.grownBy w' none := ⟨h.os, h.tape, h.output, h.size, fun k hk _ => h.block k hk⟩
theorem grown_refl (w : World) : w.grownBy w none := grown_of_below (Below.refl _ _)
theorem CallO.of_calls {f : FuncId} {args : List Value} {H : Hp} {G : List SB} {R : Value → Prop} (h : ∀ w : World, GlW w → H.In w → Calls P f args.toArray w fun e w' => ∃ v, e = .returned v ∧ R v ∧ w.grownBy w' none) :
  CallO P f (args.map pv) H G fun e H' G' => ∃ v, R v ∧ e = .ret (svOf v) ∧ H' = H ∧ G' = G := by
 intro w0 M hgd H0 ρ w vs hs hv
 obtain rfl := pv_all ρ hv
 refine (h w (fun g cs hc => hs.gl hgd hc) hs.hin).mono fun e w' he => ?_
 obtain ⟨v, rfl, hR, hg⟩ := he
 exact ⟨svOf v, ρ, H, G, hs.grew hg (fun g e => by cases e), .refl _, svOf_is ρ v, .refl _, v, hR, rfl, rfl, rfl⟩
end
end Go.Kx
namespace Go.Kx
open Go.RowKit

section
variable {P : Program}
theorem all2_at {ρ : List Value} {k : Nat} {x : Value} (hk : ρ[k]? = some x) : ∀ {svs : List SV} {vs : List Value}, All2 (SV.Is ρ) svs vs → All2 (SV.Is ρ) (svs.map (SV.at k x)) vs
 | _, _, .nil => .nil
 | _, _, .cons h t => .cons (h.at hk) (all2_at hk t)
theorem CallO.eat {f : FuncId} {svs : List SV} {H : Hp} {G : List SB} {K : SE → Hp → List SB → Prop} (k : Nat) {t : TypeId} {sz n : Nat} {xs : List Value} (hk : G[k]? = some (.row t sz n xs)) (hz : n = 0 → xs = [])
  (h : ∀ x H2, H.Le H2 → Frozen H2 x n xs → CallO P f (svs.map (SV.at k x)) H2 ((G.set k .dead).map (SB.at k x)) K) : CallO P f svs H G K := by
 intro w0 M hgd H0 ρ w vs hs hv
 obtain ⟨x, H2, a1, a2, a3, a4⟩ := hs.frz hk hz
 have a5 := a1.kill k
 rw [List.set_set] at a5
 refine (h x H2 a2 a3 w0 M hgd H0 ρ w vs (a5.atAll a4) (all2_at a4 hv)).mono fun e w' he => ?_
 cases e with
 | returned v => obtain ⟨sv, ρ', H', G', h1, h2, h3, h4, h5⟩ := he; exact ⟨sv, ρ', H', G', h1, h2, h3, a2.trans h4, h5⟩
 | panicked ch => obtain ⟨ρ', H', G', h1, h2, h4, h5⟩ := he; exact ⟨ρ', H', G', h1, h2, a2.trans h4, h5⟩
 | outgrown => exact he
theorem WS.frz {n e : Nat} {D : Pin} {c : Code} {K : KT} {F : Fr} {H : Hp} {G : List SB} (k : Nat) {t : TypeId} {sz m : Nat} {xs : List Value} (hk : G[k]? = some (.row t sz m xs)) (hz : m = 0 → xs = [])
  (h : ∀ x H2, H.Le H2 → Frozen H2 x m xs → WS P n e D c K (frameAt k x F) H2 ((G.set k .dead).map (SB.at k x))) : WS P n e D c K F H G :=
 ⟨(codeL.frz k hk hz fun x H2 h1 h2 => codeL.ofS (h x H2 h1 h2)).to⟩
end
end Go.Kx
namespace Go.Kx
open Go.RowKit
section
variable {P : Program}
theorem CallO.of_calls_row {f : FuncId} {args : List Value} {H : Hp} {t : TypeId} {R : Nat → List Value → Prop}
  (h : ∀ w : World, GlW w → H.In w → Calls P f args.toArray w fun e w' => ∃ n cap xs cur, e = .returned (.slice (some ⟨w.heap.size, 0, none⟩) n cap) ∧ w'.heap[w.heap.size]? = some (.cells cur t (0, 0)) ∧ xs.length = n ∧ n ≤ cap ∧ cap ≤ maxLen ∧ cap ≤ cur.size ∧ cur.toList.take n = xs ∧ R n xs ∧ w.grownBy w' none) :
  CallO P f (args.map pv) H [] fun e H' G' => ∃ n xs, R n xs ∧ e = .ret (.si (.ce (.self 0))) ∧ H' = H ∧ G' = [.row t 1 n xs] := by
 intro w0 M hgd H0 ρ w vs hs hv
 obtain rfl := pv_all ρ hv
 refine (h w (fun g cs hc => hs.gl hgd hc) hs.hin).mono fun e w' he => ?_
 obtain ⟨n, cap, xs, cur, rfl, hc, hl, hn, hm, hcs, htk, hR, hg⟩ := he
 have hρ0 : ρ = [] := List.eq_nil_of_length_eq_zero hs.len
 subst hρ0
 have hs1 := hs.grew hg (fun g e => by cases e)
 have hs2 := hs1.adopt (s := .row t 1 n xs) (r := .slice (some ⟨w.heap.size, 0, none⟩) n cap)
  ⟨by rw [Nat.mul_one]; exact hl, .inr ⟨w.heap.size, 0, cap, cur, rfl, hc, hn, hm, by omega, by rw [List.drop_zero, Nat.mul_one]; exact htk⟩⟩
  (fun g hg2 => by
   have e : g = w.heap.size := by simp [SB.blk, Value.ownBlock] at hg2; exact hg2.symm
   subst e
   exact ⟨.inl hs.size, hs.fresh, fun k hk => absurd (hs.lt hk) (Nat.lt_irrefl _)⟩)
 exact ⟨.si (.ce (.self 0)), _, H, _, hs2, Pre.append _ _, rfl, .refl _, n, xs, hR, rfl, rfl, rfl⟩
theorem CallO.of_calls_turn {f : FuncId} {H : Hp} {t : TypeId} {n : Nat} {xs ys : List Value} {R : Value → Prop} (hn : 0 < n)
  (h : ∀ (w : World) (g o cap : Nat) (cur : Array Value), GlW w → H.In w → w.heap[g]? = some (.cells cur t (0, 0)) → n ≤ cap → o + cap ≤ cur.size → (cur.toList.drop o).take n = xs →
   Calls P f #[.slice (some ⟨g, o, none⟩) n cap] w fun e w' => ∃ v cur', e = .returned v ∧ R v ∧ w'.os = w.os ∧ w'.tape = w.tape ∧ w'.output = w.output ∧ w.heap.size ≤ w'.heap.size ∧ (∀ b, b < w.heap.size → b ≠ g → w'.heap[b]? = w.heap[b]?) ∧
    w'.heap[g]? = some (.cells cur' t (0, 0)) ∧ cur'.size = cur.size ∧ (cur'.toList.drop o).take n = ys ∧ ys.length = n) :
  CallO P f [.si (.ce (.self 0))] H [.row t 1 n xs] fun e H' G' => ∃ v, R v ∧ e = .ret (svOf v) ∧ H' = H ∧ G' = [.row t 1 n ys] := by
 intro w0 M hgd H0 ρ w vs hs hv
 obtain ⟨v0, rfl, hv0⟩ : ∃ v0, vs = [v0] ∧ ρ[0]? = some v0 := by
  cases hv with | cons h1 h2 => cases h2; exact ⟨_, rfl, h1⟩
 have hrow := hs.ok 0 _ _ rfl hv0
 rcases hrow.2 with ⟨_, h0⟩ | ⟨g, o, cap, cur, rfl, hg, hnc, hcm, hcs, htk⟩
 ·omega
 rw [Nat.mul_one] at hcs htk
 refine (h w g o cap cur (fun g cs hc => hs.gl hgd hc) hs.hin hg hnc hcs htk).mono fun e w' he => ?_
 obtain ⟨v, cur', rfl, hR, e1, e2, e3, e4, e5, e6, e7, e8, e9⟩ := he
 have hs2 := hs.turn (k := 0) (s' := .row t 1 n ys) rfl hv0 (g := g) rfl e1 e2 e3 e4 e5 ⟨by rw [Nat.mul_one]; exact e9, .inr ⟨g, o, cap, cur', rfl, e6, hnc, hcm, by omega, by rw [Nat.mul_one]; exact e8⟩⟩ (.inl rfl)
 exact ⟨svOf v, ρ, H, _, hs2, .refl _, svOf_is ρ v, .refl _, v, hR, rfl, rfl, rfl⟩
end
end Go.Kx
namespace Go.Kx
open Go.RowKit
def byteN (bs : List UInt8) (i : Nat) : Nat := (bs.getD i 0).toNat
def bCells (bs : List UInt8) : List Value := bs.map fun b => Value.int .u8 b.toNat
theorem bCells_get {bs : List UInt8} {i : Nat} (hi : i < bs.length) : (bCells bs)[i]? = some (.int .u8 (byteN bs i)) := by
 simp [bCells, byteN, hi, List.getD_eq_getElem?_getD]
theorem bget {bs : List UInt8} {i off : Nat} (hi : i < bs.length) (ho : off = i) : (bCells bs)[off]? = some (.int .u8 (byteN bs i)) := by subst ho; exact bCells_get hi
def BytesAt (H : Hp) (A : Option Addr) (n : Nat) (bs : List UInt8) : Prop := n = bs.length ∧ (A = none → bs = []) ∧ ∀ a, A = some a → RdN H (some a) 0 (bCells bs)
theorem BytesAt.mono {H H' : Hp} (h : H.Le H') {A : Option Addr} {n : Nat} {bs : List UInt8} (hb : BytesAt H A n bs) : BytesAt H' A n bs :=
 ⟨hb.1, hb.2.1, fun a e => let ⟨b, o, h1, h2⟩ := hb.2.2 a e; ⟨b, o, h1, fun j x hx => h _ _ _ (h2 j x hx)⟩⟩
theorem bCells_length (bs : List UInt8) : (bCells bs).length = bs.length := by simp [bCells]
theorem bCells_one (bs : List UInt8) : ∀ u ∈ bCells bs, u.oneCell' = true := by
 intro u hu
 obtain ⟨b, _, rfl⟩ := List.mem_map.1 hu
 rfl
theorem bCells_append (a b : List UInt8) : bCells a ++ bCells b = bCells (a ++ b) := by simp [bCells]
theorem bCells_drop (a : List UInt8) (n : Nat) : (bCells a).drop n = bCells (a.drop n) := by simp [bCells]
theorem one_int (k : IntKind) (x : Int) : ∀ u ∈ [Value.int k x], u.oneCell' = true := by
 intro u hu
 rcases List.mem_singleton.1 hu with rfl
 rfl
theorem bCells_snoc (a : List UInt8) (b : UInt8) {x : Int} (h : x = (b.toNat : Int)) : bCells a ++ [.int .u8 x] = bCells (a ++ [b]) := by
 rw [h]; exact bCells_append a [b]
theorem BytesAt.of_frozen {H : Hp} {x : Value} {n : Nat} {bs : List UInt8} (hn : n = bs.length) (h : Frozen H x n (bCells bs)) : ∃ A cap, x = .slice A n cap ∧ BytesAt H A n bs := by
 rcases h with ⟨rfl, h1, h2⟩ | ⟨g, o, cap, rfl, _, h2⟩
 ·subst h1
  have : bs = [] := List.eq_nil_of_length_eq_zero hn.symm
  exact ⟨none, 0, rfl, hn, fun _ => this, fun a e => (nomatch e)⟩
 ·exact ⟨_, cap, rfl, hn, fun e => (nomatch e), fun a e => by injection e with e; subst e; exact h2⟩
theorem BytesAt.lit {H : Hp} {a : Addr} {bs : List UInt8} {n : Nat} (hn : n = bs.length) (h : RdN H (some a) 0 (bCells bs)) : BytesAt H (some a) n bs :=
 ⟨hn, fun e => (nomatch e), fun b e => by injection e with e; subst e; exact h⟩
def BytesZ (H : Hp) (A : Option Addr) (n : Nat) (bs : List UInt8) : Prop := n = bs.length ∧ (A = none → bs = []) ∧ ∀ a, A = some a → n = 0 ∨ RdN H (some a) 0 (bCells bs)
theorem BytesAt.z {H : Hp} {A : Option Addr} {n : Nat} {bs : List UInt8} (h : BytesAt H A n bs) : BytesZ H A n bs := ⟨h.1, h.2.1, fun a e => .inr (h.2.2 a e)⟩
theorem BytesZ.mono {H H' : Hp} (h : H.Le H') {A : Option Addr} {n : Nat} {bs : List UInt8} (hb : BytesZ H A n bs) : BytesZ H' A n bs := ⟨hb.1, hb.2.1, fun a e => (hb.2.2 a e).imp id fun h2 => h2.mono h⟩
def RetB (bs : List UInt8) (e : SE) (H' : Hp) : Prop := ∃ A n cap, e = .ret (pv (.slice A n cap)) ∧ BytesAt H' A n bs
theorem CallO.bytes {P : Program} {f : FuncId} {svs : List SV} {H : Hp} {t : TypeId} {n : Nat} {bs : List UInt8} (hn : n = bs.length) (h : CallO P f svs H [] fun e _ G' => e = .ret (.si (.ce (.self 0))) ∧ G' = [.row t 1 n (bCells bs)]) :
  CallO P f svs H [] fun e H' G' => RetB bs e H' ∧ G' = [] := by
 refine CallO.sub (CallO.frz (K := fun e H' G' => (∃ A n cap, e = .ret (pv (.slice A n cap)) ∧ BytesAt H' A n bs) ∧ G' = [.dead]) h ?_) ?_
 ·rintro e H' G' hle ⟨rfl, rfl⟩
  refine ⟨0, t, 1, n, bCells bs, rfl, fun h0 => ?_, fun x H2 hle2 hfr => ?_⟩
  ·have : bs = [] := List.eq_nil_of_length_eq_zero (by omega)
   rw [this]; rfl
  ·obtain ⟨A, cap, rfl, hb⟩ := BytesAt.of_frozen hn hfr
   exact ⟨⟨A, n, cap, rfl, hb⟩, rfl⟩
 ·rintro e H' G' hle ⟨⟨A, n, cap, rfl, hb⟩, rfl⟩
  exact ⟨_, [], [], rfl, trivial, rfl, ⟨A, n, cap, rfl, hb⟩, rfl⟩
theorem strEq_self (b : ByteArray) : strEq b b = true := strEq_iff.2 rfl
def strOf (l : List UInt8) : ByteArray := ⟨l.toArray⟩
theorem cells_str (l : List UInt8) : bCells l = byteCells (strOf l) := by
 rw [byteCells_map]
 unfold bCells strOf
 rw [List.map_map]; rfl
end Go.Kx
namespace Go.Kx.Bu
open Go.Proofs Go.Kx Go.RowKit
theorem sizeB : ∃ j, Tryz.prog.info? 242 = some j ∧ j.size = 2 := by
 have h : (Tryz.prog.info? 242).map (·.size) = some 2 := by kernel_rfl
 obtain ⟨j, h1, h2⟩ := Option.map_eq_some_iff.1 h
 exact ⟨j, h1, h2⟩
set_option maxHeartbeats 1000000 in
set_option maxRecDepth 100000 in
theorem cc_used (b : Nat) (w : World) (h0 : w.cell? ⟨b, 0, none⟩ = some (.pointer (some ⟨b, 0, none⟩))) :
  Calls Tryz.prog 229 #[.pointer (some ⟨b, 0, none⟩)] w fun e w' => e = .returned (.tuple #[]) ∧ w' = w := by
 obtain ⟨j, hj, _⟩ := sizeB
 go_enter Tryz.func229, Tryz.ntmps229
 go_wp2
 rw [Lib.run_neq_ptr_same w _ Tryz.underlying240 hj]
 go_wp2
 first | go_end0 | skip
 exact ⟨rfl, rfl⟩
set_option maxHeartbeats 1000000 in
set_option maxRecDepth 100000 in
theorem cc_fresh (b : Nat) (w : World) (h0 : w.cell? ⟨b, 0, none⟩ = some (.pointer none)) (hsh : w.shape? b = some (242, 2)) (hfz : w.frozen? ⟨b, 0, none⟩ = false) :
  Calls Tryz.prog 229 #[.pointer (some ⟨b, 0, none⟩)] w fun e w' => e = .returned (.tuple #[]) ∧ w' = w.setCell ⟨b, 0, none⟩ (.pointer (some ⟨b, 0, none⟩)) := by
 obtain ⟨j, hj, hjs⟩ := sizeB
 go_enter Tryz.func229, Tryz.ntmps229
 go_wp2
 rw [Lib.run_to_unsafe w ⟨b, 0, none⟩ Tryz.underlying240 Tryz.underlying369 hj (by rw [hjs]; decide) hsh (Nat.zero_lt_succ 1)]
 simp only [Result.andThen]
 rw [Oper.upon_value]
 go_wp2
 rw [run_callFunc_extern Tryz.func294 (by kernel_rfl) (by kernel_rfl) (by kernel_rfl) (e := Extern.AbiNoEscape.same) (by kernel_rfl)]
 rw [Lib.run_noEscape]
 simp only [Result.andThen]
 rw [Oper.upon_value]
 go_wp2
 rw [Lib.run_from_unsafe w ⟨b, 0, none⟩ Tryz.underlying369 Tryz.underlying240 hj hsh (by kernel_rfl)]
 simp only [Result.andThen]
 rw [Oper.upon_value]
 go_wp2
 first | go_end0 | skip
 exact ⟨rfl, rfl⟩
end Go.Kx.Bu
namespace Go.Kx.Bu
open Go.Proofs Go.Kx Go.RowKit
set_option maxRecDepth 20000
def T : Tab := [(242, { k := TK.st [(0, 240, 1), (1, 94, 1)], agg := true, size := 2, bytes := 32, zero := [Z.p, Z.sl] }), (5, { k := TK.int IntKind.u8, agg := false, size := 1, bytes := 1, zero := [Z.i IntKind.u8] }), (240, { k := TK.ptr 242, agg := false, size := 1, bytes := 8, zero := [Z.p] }), (9, { k := TK.string, agg := false, size := 1, bytes := 16, zero := [Z.s] }), (3, { k := TK.int IntKind.i64, agg := false, size := 1, bytes := 8, zero := [Z.i IntKind.i64] }), (149, { k := TK.ifc, agg := false, size := 1, bytes := 16, zero := [Z.ifc] }), (94, { k := TK.slice 5, agg := false, size := 1, bytes := 24, zero := [Z.sl] }), (305, { k := TK.ptr 5, agg := false, size := 1, bytes := 8, zero := [Z.p] })]
set_option maxRecDepth 100000 in
theorem tab : TabOk Tryz.prog T := tabOk_mk (ts := [242, 5, 240, 9, 3, 149, 94, 305]) (by kernel_rfl)
theorem mixed : Tryz.prog.follows .mixedOrders = true := by kernel_rfl
abbrev me : SV := .si (.ce (.ptr 0 0))
def bX : Bool → SC
  | true => .ptr 0 0
  | false => .val (.pointer none)
def bB (w : Bool) (c : SC) : SB := .box 242 [bX w, c]
def rB (bs : List UInt8) : SB := .row 5 1 bs.length (bCells bs)
theorem copyCheck_ (b : Bool) (bs : List UInt8) (H : Hp) : CallO Tryz.prog 229 [me] H [bB b (.self 1), rB bs] fun e H' G' => e = .ret (.tu []) ∧ H' = H ∧ G' = [bB true (.self 1), rB bs] := by
  intro w0 M hgd H0 ρ w vs hs hv
  have hl : ρ.length = 2 := hs.len
  obtain ⟨r0, r1, rfl⟩ : ∃ r0 r1, ρ = [r0, r1] := by
    match ρ, hl with
    | [a, b], _ => exact ⟨a, b, rfl⟩
  obtain ⟨g, ys, rfl, hg, hys⟩ := hs.ok 0 _ r0 rfl rfl
  obtain ⟨y0, y1, rfl, h0, h1⟩ : ∃ y0 y1, ys = [y0, y1] ∧ (bX b).Is [.pointer (some ⟨g, 0, none⟩), r1] y0 ∧ (SC.self 1).Is [.pointer (some ⟨g, 0, none⟩), r1] y1 := by
    cases hys with | cons a b => cases b with | cons c d => cases d; exact ⟨_, _, rfl, a, c⟩
  obtain rfl : vs = [.pointer (some ⟨g, 0, none⟩)] := by
    cases hv with | cons a b =>
      cases b
      obtain ⟨r, hr, hp⟩ := a
      have hr : Value.pointer (some ⟨g, 0, none⟩) = r := Option.some.inj hr
      subst hr
      have hp : Value.pointer (some ⟨g, 0, none⟩) = _ := Option.some.inj hp
      rw [← hp]
  cases b with
  | true =>
    obtain ⟨r, hr, hp⟩ := h0
    have hr : Value.pointer (some ⟨g, 0, none⟩) = r := Option.some.inj hr
    subst hr
    have hp : Value.pointer (some ⟨g, 0, none⟩) = y0 := Option.some.inj hp
    subst hp
    refine (cc_used g w (by simp [World.cell?, hg])).mono fun e w' ⟨he, hw⟩ => ?_
    subst he hw
    exact ⟨.tu [], _, H, _, hs, .refl _, ⟨[], rfl, .nil⟩, .refl _, rfl, rfl, rfl⟩
  | false =>
    obtain rfl : y0 = .pointer none := h0
    refine (cc_fresh g w (by simp [World.cell?, hg]) (by simp [World.shape?, hg]) (by simp [World.frozen?, hg])).mono fun e w' ⟨he, hw⟩ => ?_
    subst he hw
    have hh : (w.setCell ⟨g, 0, none⟩ (.pointer (some ⟨g, 0, none⟩))).heap[g]? = some (.cells #[.pointer (some ⟨g, 0, none⟩), y1] 242 (0, 0)) := by
      unfold World.setCell
      simp only [Array.getElem?_modify, if_true, hg]; rfl
    have hn : ∀ j, j ≠ g → (w.setCell ⟨g, 0, none⟩ (.pointer (some ⟨g, 0, none⟩))).heap[j]? = w.heap[j]? := fun j hj => by
      unfold World.setCell
      simp only [Array.getElem?_modify]
      rw [if_neg (by omega)]
    have hsz : (w.setCell ⟨g, 0, none⟩ (.pointer (some ⟨g, 0, none⟩))).heap.size = w.heap.size := by unfold World.setCell; simp
    have hs2 := hs.turn (k := 0) (s' := bB true (.self 1)) rfl rfl (g := g) rfl (w' := w.setCell ⟨g, 0, none⟩ (.pointer (some ⟨g, 0, none⟩))) rfl rfl rfl (Nat.le_of_eq hsz.symm) (fun j _ hne => hn j hne) ⟨g, [.pointer (some ⟨g, 0, none⟩), y1], rfl, hh, .cons ⟨_, rfl, rfl⟩ (.cons h1 .nil)⟩ (.inl rfl)
    exact ⟨.tu [], _, H, _, hs2, .refl _, ⟨[], rfl, .nil⟩, .refl _, rfl, rfl, rfl⟩
theorem writeByte (b : Bool) (bs : List UInt8) (c : UInt8) (x : Int) (hx : x = (c.toNat : Int)) (hn : bs.length ≤ 10000000) (H : Hp) : CallO Tryz.prog 239 [me, pv (.int .u8 x)] H [bB b (.self 1), rB bs] fun e H' G' => e = .ret (pv .nilIface) ∧ H.Le H' ∧ G' = [bB true (.self 2), .dead, rB (bs ++ [c])] := by
  refine CallO.of_body tab Tryz.func239 rfl (nt := Tryz.f239.ntmps) rfl (by kernel_rfl) ?_
  cases b
  all_goals
    (conv => whnf)
    first
      | refine ⟨⟨_, Tryz.func229, rfl, by kernel_rfl⟩, CallS.use (copyCheck_ true bs H) [0, 1] rfl rfl ⟨rfl, rfl, trivial⟩ ?_⟩
      | refine ⟨⟨_, Tryz.func229, rfl, by kernel_rfl⟩, CallS.use (copyCheck_ false bs H) [0, 1] rfl rfl ⟨rfl, rfl, trivial⟩ ?_⟩
    rintro e H2 G' hle ⟨rfl, rfl, rfl⟩
    (conv => whnf)
    refine ⟨by decide, .inl ?_⟩
    intro g H3 hle3 hrd
    (conv => whnf)
    refine ⟨_, rfl, hrd, one_int _ _, ?_⟩
    (conv => whnf)
    refine ⟨by show _ * 2 ≤ _; omega, ?_⟩
    (conv => whnf)
    refine ⟨rfl, hle3, ?_⟩
    rw [bCells_snoc bs c hx]
    show [_, _, _] = [_, _, SB.row _ 1 _ _]
    rw [List.length_append]; rfl
theorem byteCells_eq (s : ByteArray) : byteCells s = bCells s.data.toList := by rw [byteCells_map]; unfold bCells; rw [List.map_map]; rfl
theorem writeString (b : Bool) (bs : List UInt8) (s : ByteArray) (hn : bs.length ≤ 10000000) (hs : s.size ≤ 10000000) (H : Hp) : CallO Tryz.prog 167 [me, pv (.string s)] H [bB b (.self 1), rB bs] fun e H' G' => e = .ret (.tu [.ce (.val (.int .i64 s.size)), .ce (.val .nilIface)]) ∧ H.Le H' ∧ G' = [bB true (.self 2), .dead, rB (bs ++ s.data.toList)] := by
  refine CallO.of_body tab Tryz.func167 rfl (nt := Tryz.f167.ntmps) rfl (by kernel_rfl) ?_
  cases b
  all_goals
    (conv => whnf)
    first
      | refine ⟨⟨_, Tryz.func229, rfl, by kernel_rfl⟩, CallS.use (copyCheck_ true bs H) [0, 1] rfl rfl ⟨rfl, rfl, trivial⟩ ?_⟩
      | refine ⟨⟨_, Tryz.func229, rfl, by kernel_rfl⟩, CallS.use (copyCheck_ false bs H) [0, 1] rfl rfl ⟨rfl, rfl, trivial⟩ ?_⟩
    rintro e H2 G' hle ⟨rfl, rfl, rfl⟩
    (conv => whnf)
    refine ⟨by show _ * 2 ≤ _; omega, ?_⟩
    (conv => whnf)
    refine ⟨rfl, .refl _, ?_⟩
    rw [byteCells_eq, bCells_append]
    show [_, _, SB.row _ 1 _ _] = [_, _, SB.row _ 1 _ _]
    rw [List.length_append, Array.length_toList]; rfl
theorem strSize (bs : List UInt8) : (strOf bs).size = bs.length := by show bs.toArray.size = _; rw [List.size_toArray]
theorem string_ (b : Bool) (bs : List UInt8) (hn : bs.length ≤ 10000000) (H : Hp) : CallO Tryz.prog 169 [me] H [bB b (.self 1), rB bs] fun e H' G' => H' = H ∧ e = .ret (pv (.string ⟨bs.toArray⟩)) ∧ (G' = [bB b (.self 1), .dead] ∨ G' = [bB b (.self 1), rB bs]) := by
  refine CallO.of_body tab Tryz.func169 rfl (nt := Tryz.f169.ntmps) rfl (by kernel_rfl) ?_
  cases b
  all_goals
    (conv => whnf)
    refine WS.draw tab mixed (.take 0 (.take 1 (.take 2 (.take 3 (.take 5 (.take 6 (.take 7 (.take 8 (.alt 4 (.alt 9 (.alt 10 (.take 11 .done) .no) .no) (.alt 9 (.alt 4 (.alt 10 (.take 11 .done) .no) .no) .no)))))))))) (by kernel_rfl) [1] ?_
    (conv => whnf)
    repeat' (first
      | exact trivial
      | exact rfl
      | exact .inl rfl
      | exact .inr rfl
      | (have hb0 : bs = [] := List.eq_nil_of_length_eq_zero (by omega)
         subst hb0
         rfl)
      | (refine ⟨strOf bs, cells_str bs, by rw [strSize], by rw [strSize]; omega, ?_⟩; (conv => whnf))
      | (intro A; (conv => whnf))
      | (exfalso; omega)
      | (refine And.intro (fun h => ?_) (fun h => ?_) <;> (conv => whnf))
      | (refine And.intro ?_ ?_ <;> (conv => whnf)))
end Go.Kx.Bu
namespace Go.Proofs
open Go.Shelf
def Tryz.laysIB_ren : Go.Shelf.Ren := ⟨fun | 137 => 189 | 217 => 252 | 266 => 305 | n => n, fun | 9 => 9 | 5 => 5 | 3 => 3 | n => n, fun | n => n⟩
theorem Tryz.laysIB : Go.Proofs.Lays.n137 Tryz.prog Tryz.laysIB_ren where
 mixed := by kernel_rfl
 f137 := Tryz.func189.trans (congrArg some (by kernel_rfl))
 f217 := Tryz.func252.trans (congrArg some (by kernel_rfl))
 f266 := Tryz.func305.trans (congrArg some (by kernel_rfl))
 t3 := Tryz.underlying3
 a3 := Tryz.isAgg3
 z3 := Tryz.sizeOf3
 v3 := Tryz.zeroValue3
 t5 := Tryz.underlying5
 a5 := Tryz.isAgg5
 z5 := Tryz.sizeOf5
 v5 := Tryz.zeroValue5
 t9 := Tryz.underlying9
 a9 := Tryz.isAgg9
 z9 := Tryz.sizeOf9
 v9 := Tryz.zeroValue9

end Go.Proofs
namespace Go.Kx.Js
open Go.Proofs Go.Kx Go.RowKit
set_option maxRecDepth 20000
def ixB (s : List UInt8) (c : UInt8) : Int := Lib.indexByte s c
theorem indexByte (s : ByteArray) (c : UInt8) (H : Hp) (G : List SB) : CallO Tryz.prog 189 [pv (.string s), pv (.int .u8 (c.toNat : Int))] H G fun e H' G' => e = .ret (pv (.int .i64 (ixB s.data.toList c))) ∧ H' = H ∧ G' = G := by
 refine (CallO.of_calls (args := [.string s, .int .u8 (c.toNat : Int)]) (R := fun v => v = .int .i64 (ixB s.data.toList c)) fun w _ _ => ?_).mono ?_
 ·refine (Any.strings_IndexByte Tryz.laysIB s (c.toNat : Int) w).mono fun e w' ⟨he, hw⟩ => ⟨_, he, ?_, ?_⟩
  ·unfold ixB
   congr 2
   show (c.toNat).toUInt8 = c
   simp
  ·subst hw; exact grown_refl _
 ·rintro e H' G' hle ⟨v, rfl, rfl, rfl, rfl⟩
  exact ⟨rfl, rfl, rfl⟩
end Go.Kx.Js
