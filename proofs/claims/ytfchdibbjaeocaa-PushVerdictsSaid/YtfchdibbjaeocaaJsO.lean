/- Values as texts: a value, out of a reader. No condition of its own. -/
import Derived.Test.YtfchdibbjaeocaaJsN
namespace Go.Kx.Js
open Go.Proofs Go.Kx Go.RowKit
set_option maxRecDepth 20000
theorem mustP_sfx {c : UInt8} {l r : List UInt8} {u : Unit} (h : mustP c l = .ok u r) : Sfx r l := ⟨[c], mustP_ok h⟩
theorem strP_sfx : ∀ (m : Nat) (b l : List UInt8) {x r : List UInt8}, strP m b l = .ok x r → Sfx r l
  | 0, b, l, x, r, h => by cases h
  | m + 1, b, l, x, r, h => by
    cases h34 : tk 34 l with
    | some r2 => rw [strP_end h34] at h; injection h with _ h; subst h; exact tk_sfx h34
    | none =>
      cases h92 : tk 92 l with
      | some r2 =>
        rw [strP_esc h34 h92] at h
        obtain ⟨y, r3, h1, h⟩ := bind_ok h
        exact (strP_sfx m _ _ h).trans ((escP_sfx h1).1.trans (tk_sfx h92))
      | none =>
        by_cases hc : (pk l).toNat < 32
        · rw [strP_ctl h34 h92 hc] at h; cases h
        · rw [strP_chr h34 h92 hc] at h; exact (strP_sfx m _ _ h).trans (.tl l)
theorem textP_sfx {l r : List UInt8} {t : ByteArray} (h : textP l = .ok t r) : Sfx r l := by
  unfold textP at h
  obtain ⟨_, r1, h1, h⟩ := bind_ok h
  obtain ⟨_, r2, h2, h⟩ := bind_ok h
  injection h with _ h
  subst h
  exact (strP_sfx _ _ _ h2).trans (mustP_sfx h1)
theorem wordP_sfx : ∀ (w l : List UInt8) {u : Unit} {r : List UInt8}, wordP w l = .ok u r → Sfx r l
  | [], l, u, r, h => by injection h with _ h; subst h; exact .refl _
  | c :: w, l, u, r, h => by
    obtain ⟨_, r1, h1, h⟩ := bind_ok h
    exact (wordP_sfx w _ h).trans (mustP_sfx h1)
def SfxV (val : List UInt8 → Res J) : Prop := ∀ l j r, val l = .ok j r → Sfx r l
theorem elP_sfx {val : List UInt8 → Res J} (h : SfxV val) (x : List J) (l : List UInt8) (y : List J) (r : List UInt8) (he : elP val x l = .ok y r) : Sfx r l ∧ y.length = x.length + 1 := by
  obtain ⟨j, r1, h1, h2⟩ := bind_ok he
  injection h2 with h3 h4
  subst h3 h4
  exact ⟨h _ _ _ h1, by simp⟩
theorem memP_sfx {val : List UInt8 → Res J} (h : SfxV val) (x : Ms) (l : List UInt8) (y : Ms) (r : List UInt8) (he : memP val x l = .ok y r) : Sfx r l ∧ List.length y = List.length x + 1 := by
  obtain ⟨t, r1, h1, h2⟩ := bind_ok he
  split at h2
  · cases h2
  · obtain ⟨_, r2, h3, h2⟩ := bind_ok h2
    obtain ⟨j, r3, h4, h2⟩ := bind_ok h2
    injection h2 with h5 h6
    subst h5 h6
    exact ⟨((h _ _ _ h4).trans (blankP_sfx _)).trans ((mustP_sfx h3).trans ((blankP_sfx _).trans (textP_sfx h1))), by simp⟩
theorem rowP_sfx {α : Type} {one : α → List UInt8 → Res α} {en : UInt8} (ho : ∀ x l y r, one x l = .ok y r → Sfx r l) : ∀ (m : Nat) (first : Bool) (x : α) (l : List UInt8) {y : α} {r : List UInt8}, rowP one en m first x l = .ok y r → Sfx r l
  | 0, first, x, l, y, r, h => by cases h
  | m + 1, first, x, l, y, r, h => by
    cases hf : (if first then tk en l else none) with
    | some r2 =>
      cases first with
      | false => cases hf
      | true =>
        rw [if_pos rfl] at hf
        rw [rowP_end hf] at h
        injection h with _ h
        subst h; exact tk_sfx hf
    | none =>
      rw [rowP_go hf] at h
      obtain ⟨z, r1, h1, h⟩ := bind_ok h
      have hs := (blankP_sfx r1).trans (ho _ _ _ _ h1)
      split at h
      · rename_i r2 ht
        injection h with _ h
        subst h; exact (tk_sfx ht).trans hs
      · obtain ⟨_, r3, h3, h⟩ := bind_ok h
        exact (rowP_sfx ho m _ _ _ h).trans ((blankP_sfx _).trans ((mustP_sfx h3).trans hs))
theorem enterP_sfx {c : UInt8} {l r : List UInt8} {u : Unit} (h : enterP c l = .ok u r) : Sfx r l := by
  obtain ⟨_, r1, h1, h⟩ := bind_ok h
  injection h with _ h
  subst h; exact (blankP_sfx _).trans (mustP_sfx h1)
/-- A value, with what is read in it told by 'arrP', 'objP'. -/
def valT (deeper : Option (List UInt8 → Res J)) (l : List UInt8) : Res J :=
  if (pk l).toNat = 110 then (wordP [110, 117, 108, 108] l).bind fun _ r => .ok jNull r else
  if (pk l).toNat = 116 then (wordP [116, 114, 117, 101] l).bind fun _ r => .ok (jTruth true) r else
  if (pk l).toNat = 102 then (wordP [102, 97, 108, 115, 101] l).bind fun _ r => .ok (jTruth false) r else
  if (pk l).toNat = 34 then (textP l).bind fun s r => .ok (jStr s) r else
  if (pk l).toNat = 91 then match deeper with
    | none => .no 32 l
    | some val => (arrP val l).bind fun js r2 => .ok (jArr js) r2
  else
  if (pk l).toNat = 123 then match deeper with
    | none => .no 32 l
    | some val => (objP val l).bind fun ms r2 => .ok (jObj ms) r2
  else
  if (pk l).toNat = 45 ∨ isDig (pk l) then (numberP l).bind fun s r => .ok (jNum s) r else .no 31 l
theorem bind_assoc {α β γ : Type} (a : Res α) (f : α → List UInt8 → Res β) (g : β → List UInt8 → Res γ) : (a.bind f).bind g = a.bind fun x r => (f x r).bind g := by cases a <;> rfl
theorem valS_eq (deeper : Option (List UInt8 → Res J)) (l : List UInt8) : valS deeper l = valT deeper l := by
  unfold valS valT
  cases deeper with
  | none => rfl
  | some val => simp only [arrP, objP, bind_assoc]
theorem valS_sfx {deeper : Option (List UInt8 → Res J)} (hd : ∀ val, deeper = some val → SfxV val) : SfxV (valS deeper) := by
  intro l j r h
  rw [valS_eq] at h
  unfold valT at h
  split at h
  · obtain ⟨_, r1, h1, h⟩ := bind_ok h; injection h with _ h; subst h; exact wordP_sfx _ _ h1
  split at h
  · obtain ⟨_, r1, h1, h⟩ := bind_ok h; injection h with _ h; subst h; exact wordP_sfx _ _ h1
  split at h
  · obtain ⟨_, r1, h1, h⟩ := bind_ok h; injection h with _ h; subst h; exact wordP_sfx _ _ h1
  split at h
  · obtain ⟨_, r1, h1, h⟩ := bind_ok h; injection h with _ h; subst h; exact textP_sfx h1
  split at h
  · cases deeper with
    | none => cases h
    | some val =>
      obtain ⟨_, r1, h1, h⟩ := bind_ok h; injection h with _ h; subst h
      obtain ⟨_, r2, h2, h1⟩ := bind_ok h1
      exact (rowP_sfx (fun x l y r he => (elP_sfx (hd val rfl) x l y r he).1) _ _ _ _ h1).trans (enterP_sfx h2)
  split at h
  · cases deeper with
    | none => cases h
    | some val =>
      obtain ⟨_, r1, h1, h⟩ := bind_ok h; injection h with _ h; subst h
      obtain ⟨_, r2, h2, h1⟩ := bind_ok h1
      exact (rowP_sfx (fun x l y r he => (memP_sfx (hd val rfl) x l y r he).1) _ _ _ _ h1).trans (enterP_sfx h2)
  split at h
  · obtain ⟨_, r1, h1, h⟩ := bind_ok h; injection h with _ h; subst h; exact numberP_sfx h1
  · cases h
theorem valP_sfx : ∀ d, SfxV (valP d)
  | 0 => valS_sfx fun _ h => (nomatch h)
  | d + 1 => valS_sfx fun _ h => by injection h with h; subst h; exact valP_sfx d

theorem deepA (s : ByteArray) (hs : s.size ≤ 190000) (d : Int) (l : List UInt8) (hl : Sfx l (tL s)) (hd : 0 ≤ d ∧ d ≤ 900) (H : Hp) :
    CallO Try.prog 33 [me] H [rdB s l d d] fun e H' G' => Out s d d RJ (.no 32 l) e H' G' := by
  refine CallO.of_body tab Try.func33 rfl (nt := Try.f33.ntmps) rfl (by kernel_rfl) ?_
  (conv => whnf)
  refine ⟨⟨_, Try.func44, rfl, by kernel_rfl⟩, CallS.use (enter_ 91 (by decide) s l hl (by omega) d d (by omega) H) [0] rfl rfl ⟨rfl, trivial⟩ ?_⟩
  rintro e H2 G' hle2 ⟨rfl, hout, _⟩
  obtain ⟨rfl, rfl⟩ := hout rfl
  (conv => whnf)
  exact ⟨rfl, l, d, rfl⟩
theorem deepO (s : ByteArray) (hs : s.size ≤ 190000) (d : Int) (l : List UInt8) (hl : Sfx l (tL s)) (hd : 0 ≤ d ∧ d ≤ 900) (H : Hp) :
    CallO Try.prog 34 [me] H [rdB s l d d] fun e H' G' => Out s d d RJ (.no 32 l) e H' G' := by
  refine CallO.of_body tab Try.func34 rfl (nt := Try.f34.ntmps) rfl (by kernel_rfl) ?_
  (conv => whnf)
  refine ⟨⟨_, Try.func44, rfl, by kernel_rfl⟩, CallS.use (enter_ 123 (by decide) s l hl (by omega) d d (by omega) H) [0] rfl rfl ⟨rfl, trivial⟩ ?_⟩
  rintro e H2 G' hle2 ⟨rfl, hout, _⟩
  obtain ⟨rfl, rfl⟩ := hout rfl
  (conv => whnf)
  exact ⟨rfl, l, d, rfl⟩
theorem RJ.bare (H : Hp) (k : Int) (y : Bool) (t : ByteArray) : RJ H (.mk k y t [] []) (agJ k y t none 0 0 none 0 0) := ⟨k, y, t, none, 0, 0, none, 0, 0, rfl, .bare k y t⟩
def arrV (deeper : Option (List UInt8 → Res J)) (l : List UInt8) : Res J := match deeper with
    | none => .no 32 l
    | some val => (arrP val l).bind fun js r2 => .ok (jArr js) r2
def objV (deeper : Option (List UInt8 → Res J)) (l : List UInt8) : Res J := match deeper with
    | none => .no 32 l
    | some val => (objP val l).bind fun ms r2 => .ok (jObj ms) r2
theorem value0 (s : ByteArray) (hs : s.size ≤ 190000) (d o : Int) (deeper : Option (List UInt8 → Res J))
    (hA : ∀ l, Sfx l (tL s) → ∀ H, CallO Try.prog 33 [me] H [rdB s l d o] fun e H' G' => Out s d o RJ (arrV deeper l) e H' G')
    (hO : ∀ l, Sfx l (tL s) → ∀ H, CallO Try.prog 34 [me] H [rdB s l d o] fun e H' G' => Out s d o RJ (objV deeper l) e H' G') : VSays s d o (valS deeper) := by
  intro l hl H
  rw [valS_eq]
  refine CallO.of_body tab Try.func22 rfl (nt := Try.f22.ntmps) rfl (by kernel_rfl) ?_
  (conv => whnf)
  refine ⟨⟨_, Try.func27, rfl, by kernel_rfl⟩, CallS.use (peek_ s l hl d o H) [0] rfl rfl ⟨rfl, trivial⟩ ?_⟩
  rintro e H2 G' hle2 ⟨rfl, rfl, rfl⟩
  generalize hx : (((pk l).toNat : Nat) : Int) = x
  (conv => whnf)
  refine br.of (fun h => ?_) (fun h => ?_) <;> (conv => whnf)
  · simp only [beq_iff_eq] at h
    have hc : (pk l).toNat = 110 := by omega
    have hv : valT deeper l = (wordP [110, 117, 108, 108] l).bind fun _ r => .ok jNull r := by
      unfold valT
      rw [if_pos hc]
    rw [hv]
    refine ⟨⟨_, Try.func29, rfl, by kernel_rfl⟩, CallS.use (word_ ⟨#[110, 117, 108, 108]⟩ (by decide) (by decide) s l hl (by omega) d o _) [0] rfl rfl ⟨rfl, trivial⟩ ?_⟩
    rintro e H3 G' hle3 ⟨rfl, hout⟩
    cases hw : wordP [110, 117, 108, 108] l with
    | no er r =>
      replace hw : wordP (⟨#[110, 117, 108, 108]⟩ : ByteArray).data.toList l = _ := hw
      rw [hw] at hout
      obtain ⟨rfl, l2, o2, rfl⟩ := hout
      (conv => whnf)
      exact ⟨rfl, l2, o2, rfl⟩
    | ok u r =>
      replace hw : wordP (⟨#[110, 117, 108, 108]⟩ : ByteArray).data.toList l = _ := hw
      rw [hw] at hout
      obtain ⟨hr, ⟨sv, rfl, rfl⟩, rfl⟩ := hout
      (conv => whnf)
      exact ⟨hr, ⟨_, rfl, RJ.bare _ _ _ _⟩, rfl⟩
  · simp only [beq_eq_false_iff_ne, ne_eq] at h
    have n110 : ¬ (pk l).toNat = 110 := by omega
    clear h
    refine br.of (fun h => ?_) (fun h => ?_) <;> (conv => whnf)
    · simp only [beq_iff_eq] at h
      have hc : (pk l).toNat = 116 := by omega
      have hv : valT deeper l = (wordP [116, 114, 117, 101] l).bind fun _ r => .ok (jTruth true) r := by
        unfold valT
        rw [if_neg n110, if_pos hc]
      rw [hv]
      refine ⟨⟨_, Try.func29, rfl, by kernel_rfl⟩, CallS.use (word_ ⟨#[116, 114, 117, 101]⟩ (by decide) (by decide) s l hl (by omega) d o _) [0] rfl rfl ⟨rfl, trivial⟩ ?_⟩
      rintro e H3 G' hle3 ⟨rfl, hout⟩
      cases hw : wordP [116, 114, 117, 101] l with
      | no er r =>
        replace hw : wordP (⟨#[116, 114, 117, 101]⟩ : ByteArray).data.toList l = _ := hw
        rw [hw] at hout
        obtain ⟨rfl, l2, o2, rfl⟩ := hout
        (conv => whnf)
        exact ⟨rfl, l2, o2, rfl⟩
      | ok u r =>
        replace hw : wordP (⟨#[116, 114, 117, 101]⟩ : ByteArray).data.toList l = _ := hw
        rw [hw] at hout
        obtain ⟨hr, ⟨sv, rfl, rfl⟩, rfl⟩ := hout
        (conv => whnf)
        refine ⟨⟨_, Try.func30, rfl, by kernel_rfl⟩, CallS.use (bool_ true _) [] rfl rfl trivial ?_⟩
        rintro e H4 G' hle4 ⟨rfl, rfl, rfl⟩
        (conv => whnf)
        exact ⟨hr, ⟨_, rfl, RJ.bare _ _ _ _⟩, rfl⟩
    · simp only [beq_eq_false_iff_ne, ne_eq] at h
      have n116 : ¬ (pk l).toNat = 116 := by omega
      clear h
      refine br.of (fun h => ?_) (fun h => ?_) <;> (conv => whnf)
      · simp only [beq_iff_eq] at h
        have hc : (pk l).toNat = 102 := by omega
        have hv : valT deeper l = (wordP [102, 97, 108, 115, 101] l).bind fun _ r => .ok (jTruth false) r := by
          unfold valT
          rw [if_neg n110, if_neg n116, if_pos hc]
        rw [hv]
        refine ⟨⟨_, Try.func29, rfl, by kernel_rfl⟩, CallS.use (word_ ⟨#[102, 97, 108, 115, 101]⟩ (by decide) (by decide) s l hl (by omega) d o _) [0] rfl rfl ⟨rfl, trivial⟩ ?_⟩
        rintro e H3 G' hle3 ⟨rfl, hout⟩
        cases hw : wordP [102, 97, 108, 115, 101] l with
        | no er r =>
          replace hw : wordP (⟨#[102, 97, 108, 115, 101]⟩ : ByteArray).data.toList l = _ := hw
          rw [hw] at hout
          obtain ⟨rfl, l2, o2, rfl⟩ := hout
          (conv => whnf)
          exact ⟨rfl, l2, o2, rfl⟩
        | ok u r =>
          replace hw : wordP (⟨#[102, 97, 108, 115, 101]⟩ : ByteArray).data.toList l = _ := hw
          rw [hw] at hout
          obtain ⟨hr, ⟨sv, rfl, rfl⟩, rfl⟩ := hout
          (conv => whnf)
          refine ⟨⟨_, Try.func30, rfl, by kernel_rfl⟩, CallS.use (bool_ false _) [] rfl rfl trivial ?_⟩
          rintro e H4 G' hle4 ⟨rfl, rfl, rfl⟩
          (conv => whnf)
          exact ⟨hr, ⟨_, rfl, RJ.bare _ _ _ _⟩, rfl⟩
      · simp only [beq_eq_false_iff_ne, ne_eq] at h
        have n102 : ¬ (pk l).toNat = 102 := by omega
        clear h
        refine br.of (fun h => ?_) (fun h => ?_) <;> (conv => whnf)
        · simp only [beq_iff_eq] at h
          have hc : (pk l).toNat = 34 := by omega
          have hv : valT deeper l = (textP l).bind fun s r => .ok (jStr s) r := by
            unfold valT
            rw [if_neg n110, if_neg n116, if_neg n102, if_pos hc]
          rw [hv]
          refine ⟨⟨_, Try.func32, rfl, by kernel_rfl⟩, CallS.use (text_ s l hl (by omega) d o _) [0] rfl rfl ⟨rfl, trivial⟩ ?_⟩
          intro e H3 G' hle3 hout
          cases hw : textP l with
          | no er r =>
            rw [hw] at hout
            obtain ⟨rfl, l2, o2, rfl⟩ := hout
            (conv => whnf)
            exact ⟨rfl, l2, o2, rfl⟩
          | ok t r =>
            rw [hw] at hout
            obtain ⟨hr, ⟨sv, rfl, rfl⟩, rfl⟩ := hout
            (conv => whnf)
            refine ⟨⟨_, Try.func31, rfl, by kernel_rfl⟩, CallS.use (str_ t _) [] rfl rfl trivial ?_⟩
            rintro e H4 G' hle4 ⟨rfl, rfl, rfl⟩
            (conv => whnf)
            exact ⟨hr, ⟨_, rfl, RJ.bare _ _ _ _⟩, rfl⟩
        · simp only [beq_eq_false_iff_ne, ne_eq] at h
          have n34 : ¬ (pk l).toNat = 34 := by omega
          clear h
          refine br.of (fun h => ?_) (fun h => ?_) <;> (conv => whnf)
          · simp only [beq_iff_eq] at h
            have hc : (pk l).toNat = 91 := by omega
            have hv : valT deeper l = arrV deeper l := by
              unfold valT
              rw [if_neg n110, if_neg n116, if_neg n102, if_neg n34, if_pos hc]
              rfl
            rw [hv]
            refine ⟨⟨_, Try.func33, rfl, by kernel_rfl⟩, CallS.use (hA l hl _) [0] rfl rfl ⟨rfl, trivial⟩ ?_⟩
            intro e H3 G' hle3 hout
            cases hw : arrV deeper l with
            | no er r =>
              rw [hw] at hout
              obtain ⟨rfl, l2, o2, rfl⟩ := hout
              (conv => whnf)
              exact ⟨rfl, l2, o2, rfl⟩
            | ok j r =>
              rw [hw] at hout
              obtain ⟨hr, ⟨sv, rfl, k, y, t, A, n, c, B, m, f, rfl, hj⟩, rfl⟩ := hout
              (conv => whnf)
              exact ⟨hr, ⟨_, rfl, _, _, _, _, _, _, _, _, _, rfl, hj⟩, rfl⟩
          · simp only [beq_eq_false_iff_ne, ne_eq] at h
            have n91 : ¬ (pk l).toNat = 91 := by omega
            clear h
            refine br.of (fun h => ?_) (fun h => ?_) <;> (conv => whnf)
            · simp only [beq_iff_eq] at h
              have hc : (pk l).toNat = 123 := by omega
              have hv : valT deeper l = objV deeper l := by
                unfold valT
                rw [if_neg n110, if_neg n116, if_neg n102, if_neg n34, if_neg n91, if_pos hc]
                rfl
              rw [hv]
              refine ⟨⟨_, Try.func34, rfl, by kernel_rfl⟩, CallS.use (hO l hl _) [0] rfl rfl ⟨rfl, trivial⟩ ?_⟩
              intro e H3 G' hle3 hout
              cases hw : objV deeper l with
              | no er r =>
                rw [hw] at hout
                obtain ⟨rfl, l2, o2, rfl⟩ := hout
                (conv => whnf)
                exact ⟨rfl, l2, o2, rfl⟩
              | ok j r =>
                rw [hw] at hout
                obtain ⟨hr, ⟨sv, rfl, k, y, t, A, n, c, B, m, f, rfl, hj⟩, rfl⟩ := hout
                (conv => whnf)
                exact ⟨hr, ⟨_, rfl, _, _, _, _, _, _, _, _, _, rfl, hj⟩, rfl⟩
            · simp only [beq_eq_false_iff_ne, ne_eq] at h
              have n123 : ¬ (pk l).toNat = 123 := by omega
              clear h
              refine br.of (fun h => ?_) (fun h => ?_) <;> (conv => whnf)
              · simp only [beq_iff_eq] at h
                have hor : (pk l).toNat = 45 ∨ isDig (pk l) = true := .inl (by omega)
                have hv : valT deeper l = (numberP l).bind fun s r => .ok (jNum s) r := by
                  unfold valT
                  rw [if_neg n110, if_neg n116, if_neg n102, if_neg n34, if_neg n91, if_neg n123, if_pos hor]
                rw [hv]
                refine ⟨⟨_, Try.func36, rfl, by kernel_rfl⟩, CallS.use (number_ s l hl (by omega) d o _) [0] rfl rfl ⟨rfl, trivial⟩ ?_⟩
                rintro e H3 G' hle3 ⟨rfl, hout⟩
                cases hw : numberP l with
                | no er r =>
                  rw [hw] at hout
                  obtain ⟨rfl, l2, o2, rfl⟩ := hout
                  (conv => whnf)
                  exact ⟨rfl, l2, o2, rfl⟩
                | ok t r =>
                  rw [hw] at hout
                  obtain ⟨hr, ⟨sv, rfl, rfl⟩, rfl⟩ := hout
                  (conv => whnf)
                  exact ⟨hr, ⟨_, rfl, RJ.bare _ _ _ _⟩, rfl⟩
              · simp only [beq_eq_false_iff_ne, ne_eq] at h
                rw [← hx]
                refine ⟨⟨_, Try.func35, rfl, by kernel_rfl⟩, CallS.use (digit_ (pk l) _) [] rfl rfl trivial ?_⟩
                rintro e H3 G' hle3 ⟨rfl, rfl, rfl⟩
                cases hdig : isDig (pk l) <;> (conv => whnf)
                · have hor : ¬ ((pk l).toNat = 45 ∨ isDig (pk l) = true) := by rw [hdig]; intro hh; rcases hh with hh | hh; (omega); (cases hh)
                  have hv : valT deeper l = .no 31 l := by
                    unfold valT
                    rw [if_neg n110, if_neg n116, if_neg n102, if_neg n34, if_neg n91, if_neg n123, if_neg hor]
                  rw [hv]
                  refine ⟨⟨_, Try.func23, rfl, by kernel_rfl⟩, CallS.use (stop_ s l d o _) [0] rfl rfl ⟨rfl, trivial⟩ ?_⟩
                  rintro e H5 G' hle5 ⟨rfl, rfl, rfl⟩
                  (conv => whnf)
                  exact ⟨rfl, l, o, rfl⟩
                · have hor : (pk l).toNat = 45 ∨ isDig (pk l) = true := .inr hdig
                  have hv : valT deeper l = (numberP l).bind fun s r => .ok (jNum s) r := by
                    unfold valT
                    rw [if_neg n110, if_neg n116, if_neg n102, if_neg n34, if_neg n91, if_neg n123, if_pos hor]
                  rw [hv]
                  refine ⟨⟨_, Try.func36, rfl, by kernel_rfl⟩, CallS.use (number_ s l hl (by omega) d o _) [0] rfl rfl ⟨rfl, trivial⟩ ?_⟩
                  rintro e H3 G' hle3 ⟨rfl, hout⟩
                  cases hw : numberP l with
                  | no er r =>
                    rw [hw] at hout
                    obtain ⟨rfl, l2, o2, rfl⟩ := hout
                    (conv => whnf)
                    exact ⟨rfl, l2, o2, rfl⟩
                  | ok t r =>
                    rw [hw] at hout
                    obtain ⟨hr, ⟨sv, rfl, rfl⟩, rfl⟩ := hout
                    (conv => whnf)
                    exact ⟨hr, ⟨_, rfl, RJ.bare _ _ _ _⟩, rfl⟩
theorem value_ (s : ByteArray) (hs : s.size ≤ 190000) (d : Nat) (hd : d ≤ 900) : ∀ (n o : Nat), o + n = d → VSays s d o (valP n)
  | 0, o, h => by
    obtain rfl : o = d := by omega
    exact value0 s hs o o none (fun l hl H => deepA s hs o l hl (by omega) H) (fun l hl H => deepO s hs o l hl (by omega) H)
  | n + 1, o, h => by
    have ih := value_ s hs d hd n (o + 1) (by omega)
    exact value0 s hs d o (some (valP n)) (fun l hl H => array_ s hs d o (by omega) (valP n) ih (elP_sfx (valP_sfx n)) l hl H (by omega)) (fun l hl H => object_ s hs d o (by omega) (valP n) ih (memP_sfx (valP_sfx n)) l hl H (by omega))
end Go.Kx.Js
