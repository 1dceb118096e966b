/- Values as texts: rows of elements and of members. No condition of its own. -/
import Derived.Test.YtfchdibbjaeocaaJsK
namespace Go.Kx.Js
open Go.Proofs Go.Kx Go.RowKit
set_option maxRecDepth 20000
theorem member_ (s : ByteArray) (hs : s.size ≤ 200000) (d o : Int) (val : List UInt8 → Res J) (hv : VSays s d o val) (l : List UInt8) (hl : Sfx l (tL s)) (ms : Ms) (xs : List Value) (hn : List.length ms ≤ 200000) (H : Hp) (hx : MsAt H ms xs) :
    CallO Try.prog 48 [me, .si (.ce (.ptr 1 0))] H [rdB s l d o, vO (.self 2), rowO ms xs] fun e H' G' => OutM s d o ms xs (memP val ms l) e H' G' := by
  refine CallO.sub (member4 s hs d o val hv l hl ms xs hn H hx) ?_
  intro e H' G' hle hout
  cases hm : memP val ms l with
  | no er r =>
    rw [hm] at hout
    obtain ⟨rfl, l2, o2, rfl⟩ := hout
    exact ⟨rfl, l2, o2, rfl⟩
  | ok ms' r =>
    rw [hm] at hout
    obtain ⟨hr, rfl, xs', b, hx', rfl⟩ := hout
    exact ⟨.tu [], [rdB s r d o, vO (.self 3), .dead, rowO ms' xs'], [0, 1, 2, 4], rfl, ⟨rfl, rfl, trivial, rfl, trivial⟩, rfl, hr, rfl, xs', hx', rfl⟩
def OutO (s : ByteArray) (d o : Int) (ms : Ms) (xs : List Value) (res : Res Ms) (e : SE) (H' : Hp) (G' : List SB) : Prop :=
  match res with
  | .ok ms' r => Sfx r (tL s) ∧ e = .ret (.tu []) ∧ ∃ xs', MsAt H' ms' xs' ∧ G' = [rdB s r d o, rB, vO (.self 4), .dead, rowO ms' xs']
  | .no er r => e = .pan [{ v := faultV er (pos s r), recovered := false }] ∧ ∃ l' o', G' = [rdB s l' d o', rB, vO (.self 3), rowO ms xs]
theorem elO_ (s : ByteArray) (hs : s.size ≤ 200000) (d o : Int) (val : List UInt8 → Res J) (hv : VSays s d o val) (l : List UInt8) (hl : Sfx l (tL s)) (ms : Ms) (xs : List Value) (hn : List.length ms ≤ 200000) (H : Hp) (hx : MsAt H ms xs) :
    CallO Try.prog 47 [.si (.ce (.ptr 1 0)), .si (.ce (.ptr 2 0))] H [rdB s l d o, rB, vO (.self 3), rowO ms xs] fun e H' G' => OutO s d o ms xs (memP val ms l) e H' G' := by
  refine CallO.of_body tab Try.func47 rfl (nt := Try.f47.ntmps) rfl (by kernel_rfl) ?_
  (conv => whnf)
  refine ⟨⟨_, Try.func48, rfl, by kernel_rfl⟩, CallS.use (member_ s hs d o val hv l hl ms xs hn H hx) [0, 2, 3] rfl rfl ⟨rfl, rfl, rfl, trivial⟩ ?_⟩
  intro e H2 G' hle2 hout
  cases hm : memP val ms l with
  | no er r =>
    rw [hm] at hout
    obtain ⟨rfl, l2, o2, rfl⟩ := hout
    (conv => whnf)
    exact ⟨rfl, l2, o2, rfl⟩
  | ok ms' r =>
    rw [hm] at hout
    obtain ⟨hr, rfl, xs', hx', rfl⟩ := hout
    (conv => whnf)
    exact ⟨hr, rfl, xs', hx', rfl⟩
theorem rowP_end {α : Type} {one : α → List UInt8 → Res α} {en : UInt8} {m : Nat} {x : α} {l r : List UInt8} (h : tk en l = some r) : rowP one en (m + 1) true x l = .ok x r := by
  show (match (if true then tk en l else none) with | some r => _ | none => _) = _
  rw [if_pos rfl, h]
theorem rowP_go {α : Type} {one : α → List UInt8 → Res α} {en : UInt8} {m : Nat} {first : Bool} {x : α} {l : List UInt8} (h : (if first then tk en l else none) = none) : rowP one en (m + 1) first x l = (one x l).bind fun y l1 => match tk en (blankP l1) with
      | some r => .ok y r
      | none => (mustP 44 (blankP l1)).bind fun _ l3 => rowP one en m false y (blankP l3) := by
  show (match (if first then tk en l else none) with | some r => _ | none => _) = _
  rw [h]
  rfl
theorem mustP_ok {c : UInt8} {l r : List UInt8} {u : Unit} (h : mustP c l = .ok u r) : l = c :: r := by
  unfold mustP at h
  split at h
  · rename_i r' ht
    injection h with _ h
    subst h; exact tk_some ht
  · cases h
/-- A row's walk, elements of an array. -/
def shA (q : Nat) (s : ByteArray) (l : List UInt8) (d o : Int) (js : List J) (xs : List Value) : List SB :=
  match q with
  | 0 => [rdB s l d o, rB, vA (.self 3), rowA js xs]
  | 1 => [rdB s l d o, rB, vA (.self 4), .dead, rowA js xs]
  | _ => [rdB s l d o, rB, vA (.self 5), .dead, .dead, rowA js xs]
def OutRA (s : ByteArray) (d o : Int) (res : Res (List J)) (e : SE) (H' : Hp) (G' : List SB) : Prop :=
  match res with
  | .ok js' r => Sfx r (tL s) ∧ e = .ret (.tu []) ∧ ∃ xs' q, JsAt H' js' xs' ∧ G' = shA q s r d (o - 1) js' xs'
  | .no er r => e = .pan [{ v := faultV er (pos s r), recovered := false }] ∧ ∃ l' o' q js' xs', G' = shA q s l' d o' js' xs'
theorem rowA_ (s : ByteArray) (hs : s.size ≤ 190000) (d o : Int) (ho : 0 ≤ o ∧ o ≤ 1000) (val : List UInt8 → Res J) (hv : VSays s d o val) (hvs : ∀ x l y r, elP val x l = .ok y r → Sfx r l ∧ List.length y = List.length x + 1) (l : List UInt8) (hl : Sfx l (tL s)) (H : Hp) :
    CallO Try.prog 45 [me, pv (.int .u8 93), .si (.ce (.fn (.func 46) 0 [(2, 0), (1, 0)]))] H [rdB s l d o, rB, vA (.self 3), rowA [] []] fun e H' G' => OutRA s d o (rowP (elP val) 93 (l.length + 1) true [] l) e H' G' := by
  refine CallO.of_body tab Try.func45 rfl (nt := Try.f45.ntmps) rfl (by kernel_rfl) ?_
  (conv => whnf)
  refine WS.loop (fun k F H2 G => ∃ (m q : Nat) (js : List J) (r : List UInt8) (xs : List Value), Sfx r (tL s) ∧ r.length < m ∧ rowP (elP val) 93 m (Nat.beq q 0) js r = rowP (elP val) 93 (l.length + 1) true [] l ∧ List.length js + r.length ≤ s.size + 1 ∧ k = r.length ∧ JsAt H2 js xs ∧ q ≤ 1 ∧
    F = [(0, me), (1, pv (.int .u8 93)), (2, .si (.ce (.fn (.func 46) 0 [(2, 0), (1, 0)]))), (6, pv (.bool (Nat.beq q 0)))] ∧ G = shA q s r d o js xs) (l.length + 1) ?_ ?_
  · refine ⟨l.length, by omega, _, _, [0, 1, 2, 3], ⟨l.length + 1, 0, [], l, [], hl, by omega, rfl, by have := hl.le; rw [← size_eq] at this; simp; omega, rfl, .nil, by omega, rfl, rfl⟩, ?_⟩
    exact ⟨rfl, ⟨rfl, rfl, rfl, rfl, trivial⟩, rfl, rfl, rfl, rfl, trivial⟩
  rintro k F H2 G hle ⟨m, q, js, r, xs, hr, hm, hb, hlen, rfl, hx, hq, rfl, rfl⟩
  refine codeL.go tab ?_
  cases m with
  | zero => omega
  | succ m =>
  have hq2 : q = 0 ∨ q = 1 := by omega
  have hrs := hr.le
  rw [← size_eq] at hrs
  have fin : ∀ (H' : Hp) (r2 : List UInt8) (js' : List J) (xs' : List Value) (q : Nat), Sfx r2 (tL s) → JsAt H' js' xs' → rowP (elP val) 93 (l.length + 1) true [] l = .ok js' r2 → OutRA s d o (rowP (elP val) 93 (l.length + 1) true [] l) (.ret (.tu [])) H' (shA q s r2 d (o - 1) js' xs') := by
    intro H' r2 js' xs' q h1 h2 h3
    rw [h3]
    exact ⟨h1, rfl, xs', q, h2, rfl⟩
  have bad : ∀ (er : Nat) (H' : Hp) (r2 l2 : List UInt8) (o2 : Int) (js' : List J) (xs' : List Value) (q : Nat), rowP (elP val) 93 (l.length + 1) true [] l = .no er r2 → OutRA s d o (rowP (elP val) 93 (l.length + 1) true [] l) (.pan [{ v := faultV er (pos s r2), recovered := false }]) H' (shA q s l2 d o2 js' xs') := by
    intro er H' r2 l2 o2 js' xs' q h3
    rw [h3]
    exact ⟨rfl, l2, o2, q, js', xs', rfl⟩
  rcases hq2 with rfl | rfl
  · replace hb : rowP (elP val) 93 (m + 1) true js r = rowP (elP val) 93 (l.length + 1) true [] l := hb
    (conv => whnf)
    refine ⟨⟨_, Try.func42, rfl, by kernel_rfl⟩, CallS.use (next_ 93 (by decide) s r hr (by omega) d o _) [0] rfl rfl ⟨rfl, trivial⟩ ?_⟩
    rintro e H4 G' hle4 ⟨rfl, h⟩
    cases hen : tk 93 r with
    | some r2 =>
      rw [hen] at h
      obtain ⟨hr2, rfl, rfl⟩ := h
      (conv => whnf)
      rw [wrap64 (x := o - 1) (by omega) (by omega)]
      rw [rowP_end hen] at hb
      exact fin _ r2 js xs 0 hr2 hx hb.symm
    | none =>
      rw [hen] at h
      obtain ⟨rfl, rfl⟩ := h
      rw [rowP_go (by exact hen)] at hb
      (conv => whnf)
      refine ⟨⟨_, Try.func46, rfl, by kernel_rfl⟩, CallS.use (elA_ s  d o val hv r hr js xs (by omega) H4 hx) [0, 1, 2, 3] rfl rfl ⟨rfl, rfl, rfl, rfl, trivial⟩ ?_⟩
      intro e H5 G' hle5 hout
      cases hval : val r with
      | no er r2 =>
        rw [hval] at hout; have hone : elP val js r = (val r).bind (fun j r => .ok (js ++ [j]) r) := rfl; rw [hone, hval] at hb
        obtain ⟨rfl, l2, o2, rfl⟩ := hout
        (conv => whnf)
        exact bad er _ r2 l2 o2 js xs 0 hb.symm
      | ok j r2 =>
        rw [hval] at hout; have hone : elP val js r = (val r).bind (fun j r => .ok (js ++ [j]) r) := rfl; rw [hone, hval] at hb
        have hys := hvs js r (js ++ [j]) r2 (by rw [hone, hval]; rfl)
        obtain ⟨hr2, rfl, xs', hx', rfl⟩ := hout
        (conv => whnf)
        refine ⟨⟨_, Try.func21, rfl, by kernel_rfl⟩, CallS.use (blank_ s r2 hr2 (by omega) d o _) [0] rfl rfl ⟨rfl, trivial⟩ ?_⟩
        rintro e H6 G' hle6 ⟨rfl, rfl, rfl⟩
        (conv => whnf)
        have hb2 := blankP_sfx r2
        have hr3 := hb2.trans hr2
        refine ⟨⟨_, Try.func42, rfl, by kernel_rfl⟩, CallS.use (next_ 93 (by decide) s _ hr3 (by omega) d o _) [0] rfl rfl ⟨rfl, trivial⟩ ?_⟩
        rintro e H7 G' hle7 ⟨rfl, h⟩
        replace hb : (match tk 93 (blankP r2) with | some r => Res.ok (js ++ [j]) r | none => (mustP 44 (blankP r2)).bind fun _ l3 => rowP (elP val) 93 m false (js ++ [j]) (blankP l3)) = rowP (elP val) 93 (l.length + 1) true [] l := hb
        generalize hy : js ++ [j] = y at *
        cases hen2 : tk 93 (blankP r2) with
        | some r4 =>
          rw [hen2] at h hb
          obtain ⟨hr4, rfl, rfl⟩ := h
          (conv => whnf)
          rw [wrap64 (x := o - 1) (by omega) (by omega)]
          exact fin _ r4 y xs' 1 hr4 hx' hb.symm
        | none =>
          rw [hen2] at h hb
          obtain ⟨rfl, rfl⟩ := h
          (conv => whnf)
          refine ⟨⟨_, Try.func41, rfl, by kernel_rfl⟩, CallS.use (must_ 44 (by decide) s _ hr3 (by omega) d o _) [0] rfl rfl ⟨rfl, trivial⟩ ?_⟩
          rintro e H8 G' hle8 ⟨rfl, hout⟩
          replace hb : ((mustP 44 (blankP r2)).bind fun _ l3 => rowP (elP val) 93 m false y (blankP l3)) = rowP (elP val) 93 (l.length + 1) true [] l := hb
          cases hm44 : mustP 44 (blankP r2) with
          | no er r4 =>
            rw [hm44] at hout hb
            obtain ⟨rfl, l2, o2, rfl⟩ := hout
            (conv => whnf)
            exact bad er _ r4 l2 o2 y xs' 1 hb.symm
          | ok u r4 =>
            rw [hm44] at hout hb
            obtain ⟨hr4, ⟨sv, rfl, rfl⟩, rfl⟩ := hout
            (conv => whnf)
            refine ⟨⟨_, Try.func21, rfl, by kernel_rfl⟩, CallS.use (blank_ s r4 hr4 (by omega) d o _) [0] rfl rfl ⟨rfl, trivial⟩ ?_⟩
            rintro e H9 G' hle9 ⟨rfl, rfl, rfl⟩
            (conv => whnf)
            have h44 := mustP_ok hm44
            have hl4 : r4.length + 1 = (blankP r2).length := by rw [h44]; rfl
            have hl5 := (blankP_sfx r4).le
            have hl6 := hb2.le
            have hl7 := hys.1.le
            have hl8 := hys.2
            refine ⟨(blankP r4).length, by omega, _, _, [0, 1, 2, 3, 4], ⟨m, 1, y, blankP r4, xs', (blankP_sfx r4).trans hr4, by omega, hb, by omega, rfl, hx', by omega, rfl, rfl⟩, ?_⟩
            exact ⟨rfl, ⟨rfl, rfl, rfl, trivial, rfl, trivial⟩, rfl, rfl, rfl, rfl, trivial⟩
  · replace hb : rowP (elP val) 93 (m + 1) false js r = rowP (elP val) 93 (l.length + 1) true [] l := hb
    rw [rowP_go (show (if false = true then tk 93 r else none) = none from rfl)] at hb
    (conv => whnf)
    refine ⟨⟨_, Try.func46, rfl, by kernel_rfl⟩, CallS.use (elA_ s  d o val hv r hr js xs (by omega) H2 hx) [0, 1, 2, 4] rfl rfl ⟨rfl, rfl, rfl, rfl, trivial⟩ ?_⟩
    intro e H5 G' hle5 hout
    cases hval : val r with
    | no er r2 =>
      rw [hval] at hout; have hone : elP val js r = (val r).bind (fun j r => .ok (js ++ [j]) r) := rfl; rw [hone, hval] at hb
      obtain ⟨rfl, l2, o2, rfl⟩ := hout
      (conv => whnf)
      exact bad er _ r2 l2 o2 js xs 1 hb.symm
    | ok j r2 =>
      rw [hval] at hout; have hone : elP val js r = (val r).bind (fun j r => .ok (js ++ [j]) r) := rfl; rw [hone, hval] at hb
      have hys := hvs js r (js ++ [j]) r2 (by rw [hone, hval]; rfl)
      obtain ⟨hr2, rfl, xs', hx', rfl⟩ := hout
      (conv => whnf)
      refine ⟨⟨_, Try.func21, rfl, by kernel_rfl⟩, CallS.use (blank_ s r2 hr2 (by omega) d o _) [0] rfl rfl ⟨rfl, trivial⟩ ?_⟩
      rintro e H6 G' hle6 ⟨rfl, rfl, rfl⟩
      (conv => whnf)
      have hb2 := blankP_sfx r2
      have hr3 := hb2.trans hr2
      refine ⟨⟨_, Try.func42, rfl, by kernel_rfl⟩, CallS.use (next_ 93 (by decide) s _ hr3 (by omega) d o _) [0] rfl rfl ⟨rfl, trivial⟩ ?_⟩
      rintro e H7 G' hle7 ⟨rfl, h⟩
      replace hb : (match tk 93 (blankP r2) with | some r => Res.ok (js ++ [j]) r | none => (mustP 44 (blankP r2)).bind fun _ l3 => rowP (elP val) 93 m false (js ++ [j]) (blankP l3)) = rowP (elP val) 93 (l.length + 1) true [] l := hb
      generalize hy : js ++ [j] = y at *
      cases hen2 : tk 93 (blankP r2) with
      | some r4 =>
        rw [hen2] at h hb
        obtain ⟨hr4, rfl, rfl⟩ := h
        (conv => whnf)
        rw [wrap64 (x := o - 1) (by omega) (by omega)]
        exact fin _ r4 y xs' 2 hr4 hx' hb.symm
      | none =>
        rw [hen2] at h hb
        obtain ⟨rfl, rfl⟩ := h
        (conv => whnf)
        refine ⟨⟨_, Try.func41, rfl, by kernel_rfl⟩, CallS.use (must_ 44 (by decide) s _ hr3 (by omega) d o _) [0] rfl rfl ⟨rfl, trivial⟩ ?_⟩
        rintro e H8 G' hle8 ⟨rfl, hout⟩
        replace hb : ((mustP 44 (blankP r2)).bind fun _ l3 => rowP (elP val) 93 m false y (blankP l3)) = rowP (elP val) 93 (l.length + 1) true [] l := hb
        cases hm44 : mustP 44 (blankP r2) with
        | no er r4 =>
          rw [hm44] at hout hb
          obtain ⟨rfl, l2, o2, rfl⟩ := hout
          (conv => whnf)
          exact bad er _ r4 l2 o2 y xs' 2 hb.symm
        | ok u r4 =>
          rw [hm44] at hout hb
          obtain ⟨hr4, ⟨sv, rfl, rfl⟩, rfl⟩ := hout
          (conv => whnf)
          refine ⟨⟨_, Try.func21, rfl, by kernel_rfl⟩, CallS.use (blank_ s r4 hr4 (by omega) d o _) [0] rfl rfl ⟨rfl, trivial⟩ ?_⟩
          rintro e H9 G' hle9 ⟨rfl, rfl, rfl⟩
          (conv => whnf)
          have h44 := mustP_ok hm44
          have hl4 : r4.length + 1 = (blankP r2).length := by rw [h44]; rfl
          have hl5 := (blankP_sfx r4).le
          have hl6 := hb2.le
          have hl7 := hys.1.le
          have hl8 := hys.2
          refine ⟨(blankP r4).length, by omega, _, _, [0, 1, 2, 3, 5], ⟨m, 1, y, blankP r4, xs', (blankP_sfx r4).trans hr4, by omega, hb, by omega, rfl, hx', by omega, rfl, rfl⟩, ?_⟩
          exact ⟨rfl, ⟨rfl, rfl, rfl, trivial, rfl, trivial⟩, rfl, rfl, rfl, rfl, trivial⟩
/-- A row's walk, members of an object. -/
def shO (q : Nat) (s : ByteArray) (l : List UInt8) (d o : Int) (js : List (ByteArray × J)) (xs : List Value) : List SB :=
  match q with
  | 0 => [rdB s l d o, rB, vO (.self 3), rowO js xs]
  | 1 => [rdB s l d o, rB, vO (.self 4), .dead, rowO js xs]
  | _ => [rdB s l d o, rB, vO (.self 5), .dead, .dead, rowO js xs]
def OutRO (s : ByteArray) (d o : Int) (res : Res (List (ByteArray × J))) (e : SE) (H' : Hp) (G' : List SB) : Prop :=
  match res with
  | .ok js' r => Sfx r (tL s) ∧ e = .ret (.tu []) ∧ ∃ xs' q, MsAt H' js' xs' ∧ G' = shO q s r d (o - 1) js' xs'
  | .no er r => e = .pan [{ v := faultV er (pos s r), recovered := false }] ∧ ∃ l' o' q js' xs', G' = shO q s l' d o' js' xs'
theorem rowO_ (s : ByteArray) (hs : s.size ≤ 190000) (d o : Int) (ho : 0 ≤ o ∧ o ≤ 1000) (val : List UInt8 → Res J) (hv : VSays s d o val) (hvs : ∀ x l y r, memP val x l = .ok y r → Sfx r l ∧ List.length y = List.length x + 1) (l : List UInt8) (hl : Sfx l (tL s)) (H : Hp) :
    CallO Try.prog 45 [me, pv (.int .u8 125), .si (.ce (.fn (.func 47) 0 [(1, 0), (2, 0)]))] H [rdB s l d o, rB, vO (.self 3), rowO [] []] fun e H' G' => OutRO s d o (rowP (memP val) 125 (l.length + 1) true [] l) e H' G' := by
  refine CallO.of_body tab Try.func45 rfl (nt := Try.f45.ntmps) rfl (by kernel_rfl) ?_
  (conv => whnf)
  refine WS.loop (fun k F H2 G => ∃ (m q : Nat) (js : List (ByteArray × J)) (r : List UInt8) (xs : List Value), Sfx r (tL s) ∧ r.length < m ∧ rowP (memP val) 125 m (Nat.beq q 0) js r = rowP (memP val) 125 (l.length + 1) true [] l ∧ List.length js + r.length ≤ s.size + 1 ∧ k = r.length ∧ MsAt H2 js xs ∧ q ≤ 1 ∧
    F = [(0, me), (1, pv (.int .u8 125)), (2, .si (.ce (.fn (.func 47) 0 [(1, 0), (2, 0)]))), (6, pv (.bool (Nat.beq q 0)))] ∧ G = shO q s r d o js xs) (l.length + 1) ?_ ?_
  · refine ⟨l.length, by omega, _, _, [0, 1, 2, 3], ⟨l.length + 1, 0, [], l, [], hl, by omega, rfl, by have := hl.le; rw [← size_eq] at this; simp; omega, rfl, .nil, by omega, rfl, rfl⟩, ?_⟩
    exact ⟨rfl, ⟨rfl, rfl, rfl, rfl, trivial⟩, rfl, rfl, rfl, rfl, trivial⟩
  rintro k F H2 G hle ⟨m, q, js, r, xs, hr, hm, hb, hlen, rfl, hx, hq, rfl, rfl⟩
  refine codeL.go tab ?_
  cases m with
  | zero => omega
  | succ m =>
  have hq2 : q = 0 ∨ q = 1 := by omega
  have hrs := hr.le
  rw [← size_eq] at hrs
  have fin : ∀ (H' : Hp) (r2 : List UInt8) (js' : List (ByteArray × J)) (xs' : List Value) (q : Nat), Sfx r2 (tL s) → MsAt H' js' xs' → rowP (memP val) 125 (l.length + 1) true [] l = .ok js' r2 → OutRO s d o (rowP (memP val) 125 (l.length + 1) true [] l) (.ret (.tu [])) H' (shO q s r2 d (o - 1) js' xs') := by
    intro H' r2 js' xs' q h1 h2 h3
    rw [h3]
    exact ⟨h1, rfl, xs', q, h2, rfl⟩
  have bad : ∀ (er : Nat) (H' : Hp) (r2 l2 : List UInt8) (o2 : Int) (js' : List (ByteArray × J)) (xs' : List Value) (q : Nat), rowP (memP val) 125 (l.length + 1) true [] l = .no er r2 → OutRO s d o (rowP (memP val) 125 (l.length + 1) true [] l) (.pan [{ v := faultV er (pos s r2), recovered := false }]) H' (shO q s l2 d o2 js' xs') := by
    intro er H' r2 l2 o2 js' xs' q h3
    rw [h3]
    exact ⟨rfl, l2, o2, q, js', xs', rfl⟩
  rcases hq2 with rfl | rfl
  · replace hb : rowP (memP val) 125 (m + 1) true js r = rowP (memP val) 125 (l.length + 1) true [] l := hb
    (conv => whnf)
    refine ⟨⟨_, Try.func42, rfl, by kernel_rfl⟩, CallS.use (next_ 125 (by decide) s r hr (by omega) d o _) [0] rfl rfl ⟨rfl, trivial⟩ ?_⟩
    rintro e H4 G' hle4 ⟨rfl, h⟩
    cases hen : tk 125 r with
    | some r2 =>
      rw [hen] at h
      obtain ⟨hr2, rfl, rfl⟩ := h
      (conv => whnf)
      rw [wrap64 (x := o - 1) (by omega) (by omega)]
      rw [rowP_end hen] at hb
      exact fin _ r2 js xs 0 hr2 hx hb.symm
    | none =>
      rw [hen] at h
      obtain ⟨rfl, rfl⟩ := h
      rw [rowP_go (by exact hen)] at hb
      (conv => whnf)
      refine ⟨⟨_, Try.func47, rfl, by kernel_rfl⟩, CallS.use (elO_ s (by omega) d o val hv r hr js xs (by omega) H4 hx) [0, 1, 2, 3] rfl rfl ⟨rfl, rfl, rfl, rfl, trivial⟩ ?_⟩
      intro e H5 G' hle5 hout
      cases hval : memP val js r with
      | no er r2 =>
        rw [hval] at hout; rw [hval] at hb
        obtain ⟨rfl, l2, o2, rfl⟩ := hout
        (conv => whnf)
        exact bad er _ r2 l2 o2 js xs 0 hb.symm
      | ok y r2 =>
        rw [hval] at hout; rw [hval] at hb
        have hys := hvs js r y r2 hval
        obtain ⟨hr2, rfl, xs', hx', rfl⟩ := hout
        (conv => whnf)
        refine ⟨⟨_, Try.func21, rfl, by kernel_rfl⟩, CallS.use (blank_ s r2 hr2 (by omega) d o _) [0] rfl rfl ⟨rfl, trivial⟩ ?_⟩
        rintro e H6 G' hle6 ⟨rfl, rfl, rfl⟩
        (conv => whnf)
        have hb2 := blankP_sfx r2
        have hr3 := hb2.trans hr2
        refine ⟨⟨_, Try.func42, rfl, by kernel_rfl⟩, CallS.use (next_ 125 (by decide) s _ hr3 (by omega) d o _) [0] rfl rfl ⟨rfl, trivial⟩ ?_⟩
        rintro e H7 G' hle7 ⟨rfl, h⟩
        replace hb : (match tk 125 (blankP r2) with | some r => Res.ok y r | none => (mustP 44 (blankP r2)).bind fun _ l3 => rowP (memP val) 125 m false y (blankP l3)) = rowP (memP val) 125 (l.length + 1) true [] l := hb
        cases hen2 : tk 125 (blankP r2) with
        | some r4 =>
          rw [hen2] at h hb
          obtain ⟨hr4, rfl, rfl⟩ := h
          (conv => whnf)
          rw [wrap64 (x := o - 1) (by omega) (by omega)]
          exact fin _ r4 y xs' 1 hr4 hx' hb.symm
        | none =>
          rw [hen2] at h hb
          obtain ⟨rfl, rfl⟩ := h
          (conv => whnf)
          refine ⟨⟨_, Try.func41, rfl, by kernel_rfl⟩, CallS.use (must_ 44 (by decide) s _ hr3 (by omega) d o _) [0] rfl rfl ⟨rfl, trivial⟩ ?_⟩
          rintro e H8 G' hle8 ⟨rfl, hout⟩
          replace hb : ((mustP 44 (blankP r2)).bind fun _ l3 => rowP (memP val) 125 m false y (blankP l3)) = rowP (memP val) 125 (l.length + 1) true [] l := hb
          cases hm44 : mustP 44 (blankP r2) with
          | no er r4 =>
            rw [hm44] at hout hb
            obtain ⟨rfl, l2, o2, rfl⟩ := hout
            (conv => whnf)
            exact bad er _ r4 l2 o2 y xs' 1 hb.symm
          | ok u r4 =>
            rw [hm44] at hout hb
            obtain ⟨hr4, ⟨sv, rfl, rfl⟩, rfl⟩ := hout
            (conv => whnf)
            refine ⟨⟨_, Try.func21, rfl, by kernel_rfl⟩, CallS.use (blank_ s r4 hr4 (by omega) d o _) [0] rfl rfl ⟨rfl, trivial⟩ ?_⟩
            rintro e H9 G' hle9 ⟨rfl, rfl, rfl⟩
            (conv => whnf)
            have h44 := mustP_ok hm44
            have hl4 : r4.length + 1 = (blankP r2).length := by rw [h44]; rfl
            have hl5 := (blankP_sfx r4).le
            have hl6 := hb2.le
            have hl7 := hys.1.le
            have hl8 := hys.2
            refine ⟨(blankP r4).length, by omega, _, _, [0, 1, 2, 3, 4], ⟨m, 1, y, blankP r4, xs', (blankP_sfx r4).trans hr4, by omega, hb, by omega, rfl, hx', by omega, rfl, rfl⟩, ?_⟩
            exact ⟨rfl, ⟨rfl, rfl, rfl, trivial, rfl, trivial⟩, rfl, rfl, rfl, rfl, trivial⟩
  · replace hb : rowP (memP val) 125 (m + 1) false js r = rowP (memP val) 125 (l.length + 1) true [] l := hb
    rw [rowP_go (show (if false = true then tk 125 r else none) = none from rfl)] at hb
    (conv => whnf)
    refine ⟨⟨_, Try.func47, rfl, by kernel_rfl⟩, CallS.use (elO_ s (by omega) d o val hv r hr js xs (by omega) H2 hx) [0, 1, 2, 4] rfl rfl ⟨rfl, rfl, rfl, rfl, trivial⟩ ?_⟩
    intro e H5 G' hle5 hout
    cases hval : memP val js r with
    | no er r2 =>
      rw [hval] at hout; rw [hval] at hb
      obtain ⟨rfl, l2, o2, rfl⟩ := hout
      (conv => whnf)
      exact bad er _ r2 l2 o2 js xs 1 hb.symm
    | ok y r2 =>
      rw [hval] at hout; rw [hval] at hb
      have hys := hvs js r y r2 hval
      obtain ⟨hr2, rfl, xs', hx', rfl⟩ := hout
      (conv => whnf)
      refine ⟨⟨_, Try.func21, rfl, by kernel_rfl⟩, CallS.use (blank_ s r2 hr2 (by omega) d o _) [0] rfl rfl ⟨rfl, trivial⟩ ?_⟩
      rintro e H6 G' hle6 ⟨rfl, rfl, rfl⟩
      (conv => whnf)
      have hb2 := blankP_sfx r2
      have hr3 := hb2.trans hr2
      refine ⟨⟨_, Try.func42, rfl, by kernel_rfl⟩, CallS.use (next_ 125 (by decide) s _ hr3 (by omega) d o _) [0] rfl rfl ⟨rfl, trivial⟩ ?_⟩
      rintro e H7 G' hle7 ⟨rfl, h⟩
      replace hb : (match tk 125 (blankP r2) with | some r => Res.ok y r | none => (mustP 44 (blankP r2)).bind fun _ l3 => rowP (memP val) 125 m false y (blankP l3)) = rowP (memP val) 125 (l.length + 1) true [] l := hb
      cases hen2 : tk 125 (blankP r2) with
      | some r4 =>
        rw [hen2] at h hb
        obtain ⟨hr4, rfl, rfl⟩ := h
        (conv => whnf)
        rw [wrap64 (x := o - 1) (by omega) (by omega)]
        exact fin _ r4 y xs' 2 hr4 hx' hb.symm
      | none =>
        rw [hen2] at h hb
        obtain ⟨rfl, rfl⟩ := h
        (conv => whnf)
        refine ⟨⟨_, Try.func41, rfl, by kernel_rfl⟩, CallS.use (must_ 44 (by decide) s _ hr3 (by omega) d o _) [0] rfl rfl ⟨rfl, trivial⟩ ?_⟩
        rintro e H8 G' hle8 ⟨rfl, hout⟩
        replace hb : ((mustP 44 (blankP r2)).bind fun _ l3 => rowP (memP val) 125 m false y (blankP l3)) = rowP (memP val) 125 (l.length + 1) true [] l := hb
        cases hm44 : mustP 44 (blankP r2) with
        | no er r4 =>
          rw [hm44] at hout hb
          obtain ⟨rfl, l2, o2, rfl⟩ := hout
          (conv => whnf)
          exact bad er _ r4 l2 o2 y xs' 2 hb.symm
        | ok u r4 =>
          rw [hm44] at hout hb
          obtain ⟨hr4, ⟨sv, rfl, rfl⟩, rfl⟩ := hout
          (conv => whnf)
          refine ⟨⟨_, Try.func21, rfl, by kernel_rfl⟩, CallS.use (blank_ s r4 hr4 (by omega) d o _) [0] rfl rfl ⟨rfl, trivial⟩ ?_⟩
          rintro e H9 G' hle9 ⟨rfl, rfl, rfl⟩
          (conv => whnf)
          have h44 := mustP_ok hm44
          have hl4 : r4.length + 1 = (blankP r2).length := by rw [h44]; rfl
          have hl5 := (blankP_sfx r4).le
          have hl6 := hb2.le
          have hl7 := hys.1.le
          have hl8 := hys.2
          refine ⟨(blankP r4).length, by omega, _, _, [0, 1, 2, 3, 5], ⟨m, 1, y, blankP r4, xs', (blankP_sfx r4).trans hr4, by omega, hb, by omega, rfl, hx', by omega, rfl, rfl⟩, ?_⟩
          exact ⟨rfl, ⟨rfl, rfl, rfl, trivial, rfl, trivial⟩, rfl, rfl, rfl, rfl, trivial⟩
end Go.Kx.Js
