/- Values as texts: arrays and objects. No condition of its own. -/
import Derived.Test.YtbjiioclhgdeeaaGreatDoorMB09
import Derived.Shelf.Slices.In.SortNone
import Derived.Test.YtbjiioclhgdeeaaGreatDoorProg
import Derived.Shelf.Strconv.AtoiAll
import Derived.Shelf.Strconv.Itoa3
namespace Go.Kx
section
variable {P : Program}
theorem CallO.nilIn {f : FuncId} {svs : List SV} {H : Hp} {G : List SB} {K : SE → Hp → List SB → Prop} (k i : Nat) {t : TypeId} {cs : List SC} (et sz : Nat) (hk : G[k]? = some (.box t cs)) (hi : cs[i]? = some (.val (.slice none 0 0)))
  (h : CallO P f svs H (G.set k (.box t (cs.set i (.self G.length))) ++ [.row et sz 0 []]) K) : CallO P f svs H G K := by
 intro w0 M hgd H0 ρ w vs hs hv
 refine (h w0 M hgd H0 _ w vs (hs.nilCell et sz hk hi) (hv.mono fun _ _ => SV.Is.mono (Pre.append _ _))).mono fun e w' he => ?_
 cases e with
 | returned v => obtain ⟨sv, ρ', H', G', h1, h2, h3, h4, h5⟩ := he; exact ⟨sv, ρ', H', G', h1, (Pre.append _ _).trans h2, h3, h4, h5⟩
 | panicked ch => obtain ⟨ρ', H', G', h1, h2, h4, h5⟩ := he; exact ⟨ρ', H', G', h1, (Pre.append _ _).trans h2, h4, h5⟩
 | outgrown => exact he
theorem CallS.nilIn {f : FuncId} {svs : List SV} {H : Hp} {G : List SB} {K : SE → Hp → List SB → Prop} (k i : Nat) {t : TypeId} {cs : List SC} (et sz : Nat) (hk : G[k]? = some (.box t cs)) (hi : cs[i]? = some (.val (.slice none 0 0)))
  (h : CallS P f svs H (G.set k (.box t (cs.set i (.self G.length))) ++ [.row et sz 0 []]) K) : CallS P f svs H G K := ⟨CallO.nilIn k i et sz hk hi h.to⟩
end
end Go.Kx
namespace Go.Kx.Js
open Go.Proofs Go.Kx Go.RowKit
set_option maxRecDepth 20000
def arrP (val : List UInt8 → Res J) (l : List UInt8) : Res (List J) := (enterP 91 l).bind fun _ r => rowP (elP val) 93 (r.length + 1) true [] r
def objP (val : List UInt8 → Res J) (l : List UInt8) : Res Ms := (enterP 123 l).bind fun _ r => rowP (memP val) 125 (r.length + 1) true [] r
def agA (c : SC) : SV := .si (.ag [.val (.int .i64 5), .val (.bool false), .val (.string ⟨#[]⟩), c, .val (.slice none 0 0)])
def agO (c : SC) : SV := .si (.ag [.val (.int .i64 6), .val (.bool false), .val (.string ⟨#[]⟩), .val (.slice none 0 0), c])
def OutA0 (s : ByteArray) (d o : Int) (res : Res (List J)) (e : SE) (H' : Hp) (G' : List SB) : Prop :=
 match res with
 | .ok js r => Sfx r (tL s) ∧ ∃ xs, JsAt H' js xs ∧ ((e = .ret (agA (.self 4)) ∧ G' = [rdB s r d o, rB, vA (.self 4), vA (.self 4), rowA js xs]) ∨ (e = .ret (agA (.self 5)) ∧ G' = [rdB s r d o, rB, vA (.self 5), vA (.self 5), .dead, rowA js xs]) ∨ (e = .ret (agA (.self 6)) ∧ G' = [rdB s r d o, rB, vA (.self 6), vA (.self 6), .dead, .dead, rowA js xs]))
 | .no er r => e = .pan [{ v := faultV er (pos s r), recovered := false }] ∧ ∃ l' o', G' = [rdB s l' d o']
theorem array0 (s : ByteArray) (hs : s.size ≤ 190000) (d o : Int) (ho : 0 ≤ o ∧ o ≤ 900) (val : List UInt8 → Res J) (hv : VSays s d (o + 1) val) (hvs : ∀ x l y r, elP val x l = .ok y r → Sfx r l ∧ List.length y = List.length x + 1) (l : List UInt8) (hl : Sfx l (tL s)) (H : Hp) (hod : o ≠ d) :
  CallO Tryz.prog 356 [me] H [rdB s l d o] fun e H' G' => OutA0 s d o (arrP val l) e H' G' := by
 refine CallO.of_body tab Tryz.func356 rfl (nt := Tryz.f356.ntmps) rfl (by kernel_rfl) ?_
 (conv => whnf)
 refine ⟨⟨_, Tryz.func385, rfl, by kernel_rfl⟩, CallS.use (enter_ 91 (by decide) s l hl (by omega) d o (by omega) H) [0] rfl rfl ⟨rfl, trivial⟩ ?_⟩
 rintro e H2 G' hle2 ⟨rfl, _, hout⟩
 replace hout := hout hod
 unfold arrP
 cases hen : enterP 91 l with
 | no er r =>
  rw [hen] at hout
  obtain ⟨rfl, l2, o2, rfl⟩ := hout
  (conv => whnf)
  exact ⟨rfl, l2, o2, rfl⟩
 | ok u l1 =>
  rw [hen] at hout
  obtain ⟨hl1, ⟨sv, rfl, rfl⟩, rfl⟩ := hout
  (conv => whnf)
  refine ⟨⟨_, Tryz.func386, rfl, by kernel_rfl⟩, CallS.nilIn 3 3 114 5 rfl rfl (CallS.use (rowA_ s hs d (o + 1) (by omega) val hv hvs l1 hl1 _) [0, 1, 3, 4] rfl rfl ⟨rfl, rfl, rfl, rfl, trivial⟩ ?_)⟩
  intro e H3 G' hle3 hout
  cases hrow : rowP (elP val) 93 (l1.length + 1) true [] l1 with
  | no er r =>
   have hgo : ∀ (e : SE) (H' : Hp) (G' : List SB), OutA0 s d o (.no er r) e H' G' → OutA0 s d o ((Res.ok u l1).bind fun _ r => rowP (elP val) 93 (r.length + 1) true [] r) e H' G' := fun e H' G' h => by
    show OutA0 s d o (rowP (elP val) 93 (l1.length + 1) true [] l1) e H' G'
    rw [hrow]; exact h
   rw [hrow] at hout
   obtain ⟨rfl, l2, o2, q, js', xs', rfl⟩ := hout
   match q with
   | 0 => (conv => whnf); exact hgo _ _ _ ⟨rfl, l2, o2, rfl⟩
   | 1 => (conv => whnf); exact hgo _ _ _ ⟨rfl, l2, o2, rfl⟩
   | _ + 2 => (conv => whnf); exact hgo _ _ _ ⟨rfl, l2, o2, rfl⟩
  | ok js r =>
   have hgo : ∀ (e : SE) (H' : Hp) (G' : List SB), OutA0 s d o (.ok js r) e H' G' → OutA0 s d o ((Res.ok u l1).bind fun _ r => rowP (elP val) 93 (r.length + 1) true [] r) e H' G' := fun e H' G' h => by
    show OutA0 s d o (rowP (elP val) 93 (l1.length + 1) true [] l1) e H' G'
    rw [hrow]; exact h
   rw [hrow] at hout
   obtain ⟨hr, rfl, xs, q, hx, rfl⟩ := hout
   have ho1 : o + 1 - 1 = o := by omega
   rw [ho1]
   match q with
   | 0 => (conv => whnf); exact hgo _ _ _ ⟨hr, xs, hx, .inl ⟨rfl, rfl⟩⟩
   | 1 => (conv => whnf); exact hgo _ _ _ ⟨hr, xs, hx, .inr (.inl ⟨rfl, rfl⟩)⟩
   | _ + 2 => (conv => whnf); exact hgo _ _ _ ⟨hr, xs, hx, .inr (.inr ⟨rfl, rfl⟩)⟩
theorem array_ (s : ByteArray) (hs : s.size ≤ 190000) (d o : Int) (ho : 0 ≤ o ∧ o ≤ 900) (val : List UInt8 → Res J) (hv : VSays s d (o + 1) val) (hvs : ∀ x l y r, elP val x l = .ok y r → Sfx r l ∧ List.length y = List.length x + 1) (l : List UInt8) (hl : Sfx l (tL s)) (H : Hp) (hod : o ≠ d) :
  CallO Tryz.prog 356 [me] H [rdB s l d o] fun e H' G' => Out s d o RJ ((arrP val l).bind fun js r => .ok (jArr js) r) e H' G' := by
 refine CallO.sub (K0 := fun e H' G' => match arrP val l with
  | .ok js r => Sfx r (tL s) ∧ (∃ sv, e = .ret sv ∧ RJ H' (jArr js) sv) ∧ ∃ L, G' = rdB s r d o :: L
  | .no er r => e = .pan [{ v := faultV er (pos s r), recovered := false }] ∧ ∃ l' o', G' = [rdB s l' d o']) (CallO.frz (array0 s hs d o ho val hv hvs l hl H hod) ?_) ?_
 ·intro e H' G' hle hout
  cases hp : arrP val l with
  | no er r =>
   rw [hp] at hout
   obtain ⟨rfl, l2, o2, rfl⟩ := hout
   exact ⟨rfl, l2, o2, rfl⟩
  | ok js r =>
   rw [hp] at hout
   obtain ⟨hr, xs, hx, hcase⟩ := hout
   have h0 : List.length js = 0 → xs = [] := fun h => List.eq_nil_of_length_eq_zero (by rw [hx.length, h])
   have key : ∀ (x : Value) (H2 : Hp), H'.Le H2 → Frozen H2 x (List.length js) xs → RJ H2 (jArr js) (agA (.val x)) := fun x H2 hle2 hfr => by
    obtain ⟨A, c, rfl, hrv⟩ := RdV.of_frozen hfr
    exact ⟨5, false, ⟨#[]⟩, A, js.length, c, none, 0, 0, rfl, .mk rfl (hx.mono hle2) hrv rfl .nil (.nil _)⟩
   rcases hcase with ⟨rfl, rfl⟩ | ⟨rfl, rfl⟩ | ⟨rfl, rfl⟩
   ·exact ⟨4, _, _, _, _, rfl, h0, fun x H2 hle2 hfr => ⟨hr, ⟨_, rfl, key x H2 hle2 hfr⟩, _, rfl⟩⟩
   ·exact ⟨5, _, _, _, _, rfl, h0, fun x H2 hle2 hfr => ⟨hr, ⟨_, rfl, key x H2 hle2 hfr⟩, _, rfl⟩⟩
   ·exact ⟨6, _, _, _, _, rfl, h0, fun x H2 hle2 hfr => ⟨hr, ⟨_, rfl, key x H2 hle2 hfr⟩, _, rfl⟩⟩
 ·intro e H' G' hle hout
  cases hp : arrP val l with
  | no er r =>
   rw [hp] at hout
   obtain ⟨rfl, l2, o2, rfl⟩ := hout
   exact ⟨rfl, l2, o2, rfl⟩
  | ok js r =>
   rw [hp] at hout
   obtain ⟨hr, ⟨sv, rfl, k, y, t, A, n, c, B, m, f, rfl, hj⟩, L, rfl⟩ := hout
   exact ⟨agJ k y t A n c B m f, [rdB s r d o], [0], rfl, ⟨rfl, trivial⟩, rfl, hr, ⟨_, rfl, k, y, t, A, n, c, B, m, f, rfl, hj⟩, rfl⟩
def OutO0 (s : ByteArray) (d o : Int) (res : Res (List (ByteArray × J))) (e : SE) (H' : Hp) (G' : List SB) : Prop :=
 match res with
 | .ok js r => Sfx r (tL s) ∧ ∃ xs, MsAt H' js xs ∧ ((e = .ret (agO (.self 4)) ∧ G' = [rdB s r d o, rB, vO (.self 4), vO (.self 4), rowO js xs]) ∨ (e = .ret (agO (.self 5)) ∧ G' = [rdB s r d o, rB, vO (.self 5), vO (.self 5), .dead, rowO js xs]) ∨ (e = .ret (agO (.self 6)) ∧ G' = [rdB s r d o, rB, vO (.self 6), vO (.self 6), .dead, .dead, rowO js xs]))
 | .no er r => e = .pan [{ v := faultV er (pos s r), recovered := false }] ∧ ∃ l' o', G' = [rdB s l' d o']
theorem object0 (s : ByteArray) (hs : s.size ≤ 190000) (d o : Int) (ho : 0 ≤ o ∧ o ≤ 900) (val : List UInt8 → Res J) (hv : VSays s d (o + 1) val) (hvs : ∀ x l y r, memP val x l = .ok y r → Sfx r l ∧ List.length y = List.length x + 1) (l : List UInt8) (hl : Sfx l (tL s)) (H : Hp) (hod : o ≠ d) :
  CallO Tryz.prog 357 [me] H [rdB s l d o] fun e H' G' => OutO0 s d o (objP val l) e H' G' := by
 refine CallO.of_body tab Tryz.func357 rfl (nt := Tryz.f357.ntmps) rfl (by kernel_rfl) ?_
 (conv => whnf)
 refine ⟨⟨_, Tryz.func385, rfl, by kernel_rfl⟩, CallS.use (enter_ 123 (by decide) s l hl (by omega) d o (by omega) H) [0] rfl rfl ⟨rfl, trivial⟩ ?_⟩
 rintro e H2 G' hle2 ⟨rfl, _, hout⟩
 replace hout := hout hod
 unfold objP
 cases hen : enterP 123 l with
 | no er r =>
  rw [hen] at hout
  obtain ⟨rfl, l2, o2, rfl⟩ := hout
  (conv => whnf)
  exact ⟨rfl, l2, o2, rfl⟩
 | ok u l1 =>
  rw [hen] at hout
  obtain ⟨hl1, ⟨sv, rfl, rfl⟩, rfl⟩ := hout
  (conv => whnf)
  refine ⟨⟨_, Tryz.func386, rfl, by kernel_rfl⟩, CallS.nilIn 3 4 313 6 rfl rfl (CallS.use (rowO_ s hs d (o + 1) (by omega) val hv hvs l1 hl1 _) [0, 1, 3, 4] rfl rfl ⟨rfl, rfl, rfl, rfl, trivial⟩ ?_)⟩
  intro e H3 G' hle3 hout
  cases hrow : rowP (memP val) 125 (l1.length + 1) true [] l1 with
  | no er r =>
   have hgo : ∀ (e : SE) (H' : Hp) (G' : List SB), OutO0 s d o (.no er r) e H' G' → OutO0 s d o ((Res.ok u l1).bind fun _ r => rowP (memP val) 125 (r.length + 1) true [] r) e H' G' := fun e H' G' h => by
    show OutO0 s d o (rowP (memP val) 125 (l1.length + 1) true [] l1) e H' G'
    rw [hrow]; exact h
   rw [hrow] at hout
   obtain ⟨rfl, l2, o2, q, js', xs', rfl⟩ := hout
   match q with
   | 0 => (conv => whnf); exact hgo _ _ _ ⟨rfl, l2, o2, rfl⟩
   | 1 => (conv => whnf); exact hgo _ _ _ ⟨rfl, l2, o2, rfl⟩
   | _ + 2 => (conv => whnf); exact hgo _ _ _ ⟨rfl, l2, o2, rfl⟩
  | ok js r =>
   have hgo : ∀ (e : SE) (H' : Hp) (G' : List SB), OutO0 s d o (.ok js r) e H' G' → OutO0 s d o ((Res.ok u l1).bind fun _ r => rowP (memP val) 125 (r.length + 1) true [] r) e H' G' := fun e H' G' h => by
    show OutO0 s d o (rowP (memP val) 125 (l1.length + 1) true [] l1) e H' G'
    rw [hrow]; exact h
   rw [hrow] at hout
   obtain ⟨hr, rfl, xs, q, hx, rfl⟩ := hout
   have ho1 : o + 1 - 1 = o := by omega
   rw [ho1]
   match q with
   | 0 => (conv => whnf); exact hgo _ _ _ ⟨hr, xs, hx, .inl ⟨rfl, rfl⟩⟩
   | 1 => (conv => whnf); exact hgo _ _ _ ⟨hr, xs, hx, .inr (.inl ⟨rfl, rfl⟩)⟩
   | _ + 2 => (conv => whnf); exact hgo _ _ _ ⟨hr, xs, hx, .inr (.inr ⟨rfl, rfl⟩)⟩
theorem object_ (s : ByteArray) (hs : s.size ≤ 190000) (d o : Int) (ho : 0 ≤ o ∧ o ≤ 900) (val : List UInt8 → Res J) (hv : VSays s d (o + 1) val) (hvs : ∀ x l y r, memP val x l = .ok y r → Sfx r l ∧ List.length y = List.length x + 1) (l : List UInt8) (hl : Sfx l (tL s)) (H : Hp) (hod : o ≠ d) :
  CallO Tryz.prog 357 [me] H [rdB s l d o] fun e H' G' => Out s d o RJ ((objP val l).bind fun js r => .ok (jObj js) r) e H' G' := by
 refine CallO.sub (K0 := fun e H' G' => match objP val l with
  | .ok js r => Sfx r (tL s) ∧ (∃ sv, e = .ret sv ∧ RJ H' (jObj js) sv) ∧ ∃ L, G' = rdB s r d o :: L
  | .no er r => e = .pan [{ v := faultV er (pos s r), recovered := false }] ∧ ∃ l' o', G' = [rdB s l' d o']) (CallO.frz (object0 s hs d o ho val hv hvs l hl H hod) ?_) ?_
 ·intro e H' G' hle hout
  cases hp : objP val l with
  | no er r =>
   rw [hp] at hout
   obtain ⟨rfl, l2, o2, rfl⟩ := hout
   exact ⟨rfl, l2, o2, rfl⟩
  | ok js r =>
   rw [hp] at hout
   obtain ⟨hr, xs, hx, hcase⟩ := hout
   have h0 : List.length js = 0 → xs = [] := fun h => List.eq_nil_of_length_eq_zero (by rw [hx.length, h])
   have key : ∀ (x : Value) (H2 : Hp), H'.Le H2 → Frozen H2 x (List.length js) xs → RJ H2 (jObj js) (agO (.val x)) := fun x H2 hle2 hfr => by
    obtain ⟨A, c, rfl, hrv⟩ := RdV.of_frozen hfr
    exact ⟨6, false, ⟨#[]⟩, none, 0, 0, A, js.length, c, rfl, .mk rfl .nil (.nil _) rfl (hx.mono hle2) hrv⟩
   rcases hcase with ⟨rfl, rfl⟩ | ⟨rfl, rfl⟩ | ⟨rfl, rfl⟩
   ·exact ⟨4, _, _, _, _, rfl, h0, fun x H2 hle2 hfr => ⟨hr, ⟨_, rfl, key x H2 hle2 hfr⟩, _, rfl⟩⟩
   ·exact ⟨5, _, _, _, _, rfl, h0, fun x H2 hle2 hfr => ⟨hr, ⟨_, rfl, key x H2 hle2 hfr⟩, _, rfl⟩⟩
   ·exact ⟨6, _, _, _, _, rfl, h0, fun x H2 hle2 hfr => ⟨hr, ⟨_, rfl, key x H2 hle2 hfr⟩, _, rfl⟩⟩
 ·intro e H' G' hle hout
  cases hp : objP val l with
  | no er r =>
   rw [hp] at hout
   obtain ⟨rfl, l2, o2, rfl⟩ := hout
   exact ⟨rfl, l2, o2, rfl⟩
  | ok js r =>
   rw [hp] at hout
   obtain ⟨hr, ⟨sv, rfl, k, y, t, A, n, c, B, m, f, rfl, hj⟩, L, rfl⟩ := hout
   exact ⟨agJ k y t A n c B m f, [rdB s r d o], [0], rfl, ⟨rfl, trivial⟩, rfl, hr, ⟨_, rfl, k, y, t, A, n, c, B, m, f, rfl, hj⟩, rfl⟩
end Go.Kx.Js
namespace Go.Kx.Js
open Go.Proofs Go.Kx Go.RowKit
set_option maxRecDepth 20000
theorem mustP_sfx {c : UInt8} {l r : List UInt8} {u : Unit} (h : mustP c l = .ok u r) : Sfx r l := ⟨[c], mustP_ok h⟩
theorem strP_sfx : ∀ (m : Nat) (b l : List UInt8) {x r : List UInt8}, strP m b l = .ok x r → Sfx r l
 | 0, b, l, x, r, h => by cases h
 | m + 1, b, l, x, r, h => by
  cases h34 : tk 34 l with
  | some r2 => rw [strP_end h34] at h; injection h with _ h; subst h; exact tk_sfx h34
  | none =>
   cases h92 : tk 92 l with
   | some r2 =>
    rw [strP_esc h34 h92] at h
    obtain ⟨y, r3, h1, h⟩ := bind_ok h
    exact (strP_sfx m _ _ h).trans ((escP_sfx h1).1.trans (tk_sfx h92))
   | none =>
    by_cases hc : (pk l).toNat < 32
    ·rw [strP_ctl h34 h92 hc] at h; cases h
    ·rw [strP_chr h34 h92 hc] at h; exact (strP_sfx m _ _ h).trans (.tl l)
theorem textP_sfx {l r : List UInt8} {t : ByteArray} (h : textP l = .ok t r) : Sfx r l := by
 unfold textP at h
 obtain ⟨_, r1, h1, h⟩ := bind_ok h
 obtain ⟨_, r2, h2, h⟩ := bind_ok h
 injection h with _ h
 subst h
 exact (strP_sfx _ _ _ h2).trans (mustP_sfx h1)
theorem wordP_sfx : ∀ (w l : List UInt8) {u : Unit} {r : List UInt8}, wordP w l = .ok u r → Sfx r l
 | [], l, u, r, h => by injection h with _ h; subst h; exact .refl _
 | c :: w, l, u, r, h => by
  obtain ⟨_, r1, h1, h⟩ := bind_ok h
  exact (wordP_sfx w _ h).trans (mustP_sfx h1)
def SfxV (val : List UInt8 → Res J) : Prop := ∀ l j r, val l = .ok j r → Sfx r l
theorem elP_sfx {val : List UInt8 → Res J} (h : SfxV val) (x : List J) (l : List UInt8) (y : List J) (r : List UInt8) (he : elP val x l = .ok y r) : Sfx r l ∧ y.length = x.length + 1 := by
 obtain ⟨j, r1, h1, h2⟩ := bind_ok he
 injection h2 with h3 h4
 subst h3 h4
 exact ⟨h _ _ _ h1, by simp⟩
theorem memP_sfx {val : List UInt8 → Res J} (h : SfxV val) (x : Ms) (l : List UInt8) (y : Ms) (r : List UInt8) (he : memP val x l = .ok y r) : Sfx r l ∧ List.length y = List.length x + 1 := by
 obtain ⟨t, r1, h1, h2⟩ := bind_ok he
 split at h2
 ·cases h2
 ·obtain ⟨_, r2, h3, h2⟩ := bind_ok h2
  obtain ⟨j, r3, h4, h2⟩ := bind_ok h2
  injection h2 with h5 h6
  subst h5 h6
  exact ⟨((h _ _ _ h4).trans (blankP_sfx _)).trans ((mustP_sfx h3).trans ((blankP_sfx _).trans (textP_sfx h1))), by simp⟩
theorem rowP_sfx {α : Type} {one : α → List UInt8 → Res α} {en : UInt8} (ho : ∀ x l y r, one x l = .ok y r → Sfx r l) : ∀ (m : Nat) (first : Bool) (x : α) (l : List UInt8) {y : α} {r : List UInt8}, rowP one en m first x l = .ok y r → Sfx r l
 | 0, first, x, l, y, r, h => by cases h
 | m + 1, first, x, l, y, r, h => by
  cases hf : (if first then tk en l else none) with
  | some r2 =>
   cases first with
   | false => cases hf
   | true =>
    rw [if_pos rfl] at hf
    rw [rowP_end hf] at h
    injection h with _ h
    subst h; exact tk_sfx hf
  | none =>
   rw [rowP_go hf] at h
   obtain ⟨z, r1, h1, h⟩ := bind_ok h
   have hs := (blankP_sfx r1).trans (ho _ _ _ _ h1)
   split at h
   ·rename_i r2 ht
    injection h with _ h
    subst h; exact (tk_sfx ht).trans hs
   ·obtain ⟨_, r3, h3, h⟩ := bind_ok h
    exact (rowP_sfx ho m _ _ _ h).trans ((blankP_sfx _).trans ((mustP_sfx h3).trans hs))
theorem enterP_sfx {c : UInt8} {l r : List UInt8} {u : Unit} (h : enterP c l = .ok u r) : Sfx r l := by
 obtain ⟨_, r1, h1, h⟩ := bind_ok h
 injection h with _ h
 subst h; exact (blankP_sfx _).trans (mustP_sfx h1)
def valT (deeper : Option (List UInt8 → Res J)) (l : List UInt8) : Res J :=
 if (pk l).toNat = 110 then (wordP [110, 117, 108, 108] l).bind fun _ r => .ok jNull r else
 if (pk l).toNat = 116 then (wordP [116, 114, 117, 101] l).bind fun _ r => .ok (jTruth true) r else
 if (pk l).toNat = 102 then (wordP [102, 97, 108, 115, 101] l).bind fun _ r => .ok (jTruth false) r else
 if (pk l).toNat = 34 then (textP l).bind fun s r => .ok (jStr s) r else
 if (pk l).toNat = 91 then match deeper with
  | none => .no 32 l
  | some val => (arrP val l).bind fun js r2 => .ok (jArr js) r2
 else
 if (pk l).toNat = 123 then match deeper with
  | none => .no 32 l
  | some val => (objP val l).bind fun ms r2 => .ok (jObj ms) r2
 else
 if (pk l).toNat = 45 ∨ isDig (pk l) then (numberP l).bind fun s r => .ok (jNum s) r else .no 31 l
theorem bind_assoc {α β γ : Type} (a : Res α) (f : α → List UInt8 → Res β) (g : β → List UInt8 → Res γ) : (a.bind f).bind g = a.bind fun x r => (f x r).bind g := by cases a <;> rfl
theorem valS_eq (deeper : Option (List UInt8 → Res J)) (l : List UInt8) : valS deeper l = valT deeper l := by
 unfold valS valT
 cases deeper with
 | none => rfl
 | some val => simp only [arrP, objP, bind_assoc]
theorem valS_sfx {deeper : Option (List UInt8 → Res J)} (hd : ∀ val, deeper = some val → SfxV val) : SfxV (valS deeper) := by
 intro l j r h
 rw [valS_eq] at h
 unfold valT at h
 split at h
 ·obtain ⟨_, r1, h1, h⟩ := bind_ok h; injection h with _ h; subst h; exact wordP_sfx _ _ h1
 split at h
 ·obtain ⟨_, r1, h1, h⟩ := bind_ok h; injection h with _ h; subst h; exact wordP_sfx _ _ h1
 split at h
 ·obtain ⟨_, r1, h1, h⟩ := bind_ok h; injection h with _ h; subst h; exact wordP_sfx _ _ h1
 split at h
 ·obtain ⟨_, r1, h1, h⟩ := bind_ok h; injection h with _ h; subst h; exact textP_sfx h1
 split at h
 ·cases deeper with
  | none => cases h
  | some val =>
   obtain ⟨_, r1, h1, h⟩ := bind_ok h; injection h with _ h; subst h
   obtain ⟨_, r2, h2, h1⟩ := bind_ok h1
   exact (rowP_sfx (fun x l y r he => (elP_sfx (hd val rfl) x l y r he).1) _ _ _ _ h1).trans (enterP_sfx h2)
 split at h
 ·cases deeper with
  | none => cases h
  | some val =>
   obtain ⟨_, r1, h1, h⟩ := bind_ok h; injection h with _ h; subst h
   obtain ⟨_, r2, h2, h1⟩ := bind_ok h1
   exact (rowP_sfx (fun x l y r he => (memP_sfx (hd val rfl) x l y r he).1) _ _ _ _ h1).trans (enterP_sfx h2)
 split at h
 ·obtain ⟨_, r1, h1, h⟩ := bind_ok h; injection h with _ h; subst h; exact numberP_sfx h1
 ·cases h
theorem valP_sfx : ∀ d, SfxV (valP d)
 | 0 => valS_sfx fun _ h => (nomatch h)
 | d + 1 => valS_sfx fun _ h => by injection h with h; subst h; exact valP_sfx d

theorem deepA (s : ByteArray) (hs : s.size ≤ 190000) (d : Int) (l : List UInt8) (hl : Sfx l (tL s)) (hd : 0 ≤ d ∧ d ≤ 900) (H : Hp) :
  CallO Tryz.prog 356 [me] H [rdB s l d d] fun e H' G' => Out s d d RJ (.no 32 l) e H' G' := by
 refine CallO.of_body tab Tryz.func356 rfl (nt := Tryz.f356.ntmps) rfl (by kernel_rfl) ?_
 (conv => whnf)
 refine ⟨⟨_, Tryz.func385, rfl, by kernel_rfl⟩, CallS.use (enter_ 91 (by decide) s l hl (by omega) d d (by omega) H) [0] rfl rfl ⟨rfl, trivial⟩ ?_⟩
 rintro e H2 G' hle2 ⟨rfl, hout, _⟩
 obtain ⟨rfl, rfl⟩ := hout rfl
 (conv => whnf)
 exact ⟨rfl, l, d, rfl⟩
theorem deepO (s : ByteArray) (hs : s.size ≤ 190000) (d : Int) (l : List UInt8) (hl : Sfx l (tL s)) (hd : 0 ≤ d ∧ d ≤ 900) (H : Hp) :
  CallO Tryz.prog 357 [me] H [rdB s l d d] fun e H' G' => Out s d d RJ (.no 32 l) e H' G' := by
 refine CallO.of_body tab Tryz.func357 rfl (nt := Tryz.f357.ntmps) rfl (by kernel_rfl) ?_
 (conv => whnf)
 refine ⟨⟨_, Tryz.func385, rfl, by kernel_rfl⟩, CallS.use (enter_ 123 (by decide) s l hl (by omega) d d (by omega) H) [0] rfl rfl ⟨rfl, trivial⟩ ?_⟩
 rintro e H2 G' hle2 ⟨rfl, hout, _⟩
 obtain ⟨rfl, rfl⟩ := hout rfl
 (conv => whnf)
 exact ⟨rfl, l, d, rfl⟩
theorem RJ.bare (H : Hp) (k : Int) (y : Bool) (t : ByteArray) : RJ H (.mk k y t [] []) (agJ k y t none 0 0 none 0 0) := ⟨k, y, t, none, 0, 0, none, 0, 0, rfl, .bare k y t⟩
def arrV (deeper : Option (List UInt8 → Res J)) (l : List UInt8) : Res J := match deeper with
  | none => .no 32 l
  | some val => (arrP val l).bind fun js r2 => .ok (jArr js) r2
def objV (deeper : Option (List UInt8 → Res J)) (l : List UInt8) : Res J := match deeper with
  | none => .no 32 l
  | some val => (objP val l).bind fun ms r2 => .ok (jObj ms) r2
theorem value0 (s : ByteArray) (hs : s.size ≤ 190000) (d o : Int) (deeper : Option (List UInt8 → Res J))
  (hA : ∀ l, Sfx l (tL s) → ∀ H, CallO Tryz.prog 356 [me] H [rdB s l d o] fun e H' G' => Out s d o RJ (arrV deeper l) e H' G')
  (hO : ∀ l, Sfx l (tL s) → ∀ H, CallO Tryz.prog 357 [me] H [rdB s l d o] fun e H' G' => Out s d o RJ (objV deeper l) e H' G') : VSays s d o (valS deeper) := by
 intro l hl H
 rw [valS_eq]
 refine CallO.of_body tab Tryz.func327 rfl (nt := Tryz.f327.ntmps) rfl (by kernel_rfl) ?_
 (conv => whnf)
 refine ⟨⟨_, Tryz.func353, rfl, by kernel_rfl⟩, CallS.use (peek_ s l hl d o H) [0] rfl rfl ⟨rfl, trivial⟩ ?_⟩
 rintro e H2 G' hle2 ⟨rfl, rfl, rfl⟩
 generalize hx : (((pk l).toNat : Nat) : Int) = x
 (conv => whnf)
 refine br.of (fun h => ?_) (fun h => ?_) <;> (conv => whnf)
 ·simp only [beq_iff_eq] at h
  have hc : (pk l).toNat = 110 := by omega
  have hv : valT deeper l = (wordP [110, 117, 108, 108] l).bind fun _ r => .ok jNull r := by
   unfold valT
   rw [if_pos hc]
  rw [hv]
  refine ⟨⟨_, Tryz.func354, rfl, by kernel_rfl⟩, CallS.use (word_ ⟨#[110, 117, 108, 108]⟩ (by decide) (by decide) s l hl (by omega) d o _) [0] rfl rfl ⟨rfl, trivial⟩ ?_⟩
  rintro e H3 G' hle3 ⟨rfl, hout⟩
  cases hw : wordP [110, 117, 108, 108] l with
  | no er r =>
   replace hw : wordP (⟨#[110, 117, 108, 108]⟩ : ByteArray).data.toList l = _ := hw
   rw [hw] at hout
   obtain ⟨rfl, l2, o2, rfl⟩ := hout
   (conv => whnf)
   exact ⟨rfl, l2, o2, rfl⟩
  | ok u r =>
   replace hw : wordP (⟨#[110, 117, 108, 108]⟩ : ByteArray).data.toList l = _ := hw
   rw [hw] at hout
   obtain ⟨hr, ⟨sv, rfl, rfl⟩, rfl⟩ := hout
   (conv => whnf)
   exact ⟨hr, ⟨_, rfl, RJ.bare _ _ _ _⟩, rfl⟩
 ·simp only [beq_eq_false_iff_ne, ne_eq] at h
  have n110 : ¬ (pk l).toNat = 110 := by omega
  clear h
  refine br.of (fun h => ?_) (fun h => ?_) <;> (conv => whnf)
  ·simp only [beq_iff_eq] at h
   have hc : (pk l).toNat = 116 := by omega
   have hv : valT deeper l = (wordP [116, 114, 117, 101] l).bind fun _ r => .ok (jTruth true) r := by
    unfold valT
    rw [if_neg n110, if_pos hc]
   rw [hv]
   refine ⟨⟨_, Tryz.func354, rfl, by kernel_rfl⟩, CallS.use (word_ ⟨#[116, 114, 117, 101]⟩ (by decide) (by decide) s l hl (by omega) d o _) [0] rfl rfl ⟨rfl, trivial⟩ ?_⟩
   rintro e H3 G' hle3 ⟨rfl, hout⟩
   cases hw : wordP [116, 114, 117, 101] l with
   | no er r =>
    replace hw : wordP (⟨#[116, 114, 117, 101]⟩ : ByteArray).data.toList l = _ := hw
    rw [hw] at hout
    obtain ⟨rfl, l2, o2, rfl⟩ := hout
    (conv => whnf)
    exact ⟨rfl, l2, o2, rfl⟩
   | ok u r =>
    replace hw : wordP (⟨#[116, 114, 117, 101]⟩ : ByteArray).data.toList l = _ := hw
    rw [hw] at hout
    obtain ⟨hr, ⟨sv, rfl, rfl⟩, rfl⟩ := hout
    (conv => whnf)
    refine ⟨⟨_, Tryz.func60, rfl, by kernel_rfl⟩, CallS.use (bool_ true _) [] rfl rfl trivial ?_⟩
    rintro e H4 G' hle4 ⟨rfl, rfl, rfl⟩
    (conv => whnf)
    exact ⟨hr, ⟨_, rfl, RJ.bare _ _ _ _⟩, rfl⟩
  ·simp only [beq_eq_false_iff_ne, ne_eq] at h
   have n116 : ¬ (pk l).toNat = 116 := by omega
   clear h
   refine br.of (fun h => ?_) (fun h => ?_) <;> (conv => whnf)
   ·simp only [beq_iff_eq] at h
    have hc : (pk l).toNat = 102 := by omega
    have hv : valT deeper l = (wordP [102, 97, 108, 115, 101] l).bind fun _ r => .ok (jTruth false) r := by
     unfold valT
     rw [if_neg n110, if_neg n116, if_pos hc]
    rw [hv]
    refine ⟨⟨_, Tryz.func354, rfl, by kernel_rfl⟩, CallS.use (word_ ⟨#[102, 97, 108, 115, 101]⟩ (by decide) (by decide) s l hl (by omega) d o _) [0] rfl rfl ⟨rfl, trivial⟩ ?_⟩
    rintro e H3 G' hle3 ⟨rfl, hout⟩
    cases hw : wordP [102, 97, 108, 115, 101] l with
    | no er r =>
     replace hw : wordP (⟨#[102, 97, 108, 115, 101]⟩ : ByteArray).data.toList l = _ := hw
     rw [hw] at hout
     obtain ⟨rfl, l2, o2, rfl⟩ := hout
     (conv => whnf)
     exact ⟨rfl, l2, o2, rfl⟩
    | ok u r =>
     replace hw : wordP (⟨#[102, 97, 108, 115, 101]⟩ : ByteArray).data.toList l = _ := hw
     rw [hw] at hout
     obtain ⟨hr, ⟨sv, rfl, rfl⟩, rfl⟩ := hout
     (conv => whnf)
     refine ⟨⟨_, Tryz.func60, rfl, by kernel_rfl⟩, CallS.use (bool_ false _) [] rfl rfl trivial ?_⟩
     rintro e H4 G' hle4 ⟨rfl, rfl, rfl⟩
     (conv => whnf)
     exact ⟨hr, ⟨_, rfl, RJ.bare _ _ _ _⟩, rfl⟩
   ·simp only [beq_eq_false_iff_ne, ne_eq] at h
    have n102 : ¬ (pk l).toNat = 102 := by omega
    clear h
    refine br.of (fun h => ?_) (fun h => ?_) <;> (conv => whnf)
    ·simp only [beq_iff_eq] at h
     have hc : (pk l).toNat = 34 := by omega
     have hv : valT deeper l = (textP l).bind fun s r => .ok (jStr s) r := by
      unfold valT
      rw [if_neg n110, if_neg n116, if_neg n102, if_pos hc]
     rw [hv]
     refine ⟨⟨_, Tryz.func355, rfl, by kernel_rfl⟩, CallS.use (text_ s l hl (by omega) d o _) [0] rfl rfl ⟨rfl, trivial⟩ ?_⟩
     intro e H3 G' hle3 hout
     cases hw : textP l with
     | no er r =>
      rw [hw] at hout
      obtain ⟨rfl, l2, o2, rfl⟩ := hout
      (conv => whnf)
      exact ⟨rfl, l2, o2, rfl⟩
     | ok t r =>
      rw [hw] at hout
      obtain ⟨hr, ⟨sv, rfl, rfl⟩, rfl⟩ := hout
      (conv => whnf)
      refine ⟨⟨_, Tryz.func58, rfl, by kernel_rfl⟩, CallS.use (str_ t _) [] rfl rfl trivial ?_⟩
      rintro e H4 G' hle4 ⟨rfl, rfl, rfl⟩
      (conv => whnf)
      exact ⟨hr, ⟨_, rfl, RJ.bare _ _ _ _⟩, rfl⟩
    ·simp only [beq_eq_false_iff_ne, ne_eq] at h
     have n34 : ¬ (pk l).toNat = 34 := by omega
     clear h
     refine br.of (fun h => ?_) (fun h => ?_) <;> (conv => whnf)
     ·simp only [beq_iff_eq] at h
      have hc : (pk l).toNat = 91 := by omega
      have hv : valT deeper l = arrV deeper l := by
       unfold valT
       rw [if_neg n110, if_neg n116, if_neg n102, if_neg n34, if_pos hc]
       rfl
      rw [hv]
      refine ⟨⟨_, Tryz.func356, rfl, by kernel_rfl⟩, CallS.use (hA l hl _) [0] rfl rfl ⟨rfl, trivial⟩ ?_⟩
      intro e H3 G' hle3 hout
      cases hw : arrV deeper l with
      | no er r =>
       rw [hw] at hout
       obtain ⟨rfl, l2, o2, rfl⟩ := hout
       (conv => whnf)
       exact ⟨rfl, l2, o2, rfl⟩
      | ok j r =>
       rw [hw] at hout
       obtain ⟨hr, ⟨sv, rfl, k, y, t, A, n, c, B, m, f, rfl, hj⟩, rfl⟩ := hout
       (conv => whnf)
       exact ⟨hr, ⟨_, rfl, _, _, _, _, _, _, _, _, _, rfl, hj⟩, rfl⟩
     ·simp only [beq_eq_false_iff_ne, ne_eq] at h
      have n91 : ¬ (pk l).toNat = 91 := by omega
      clear h
      refine br.of (fun h => ?_) (fun h => ?_) <;> (conv => whnf)
      ·simp only [beq_iff_eq] at h
       have hc : (pk l).toNat = 123 := by omega
       have hv : valT deeper l = objV deeper l := by
        unfold valT
        rw [if_neg n110, if_neg n116, if_neg n102, if_neg n34, if_neg n91, if_pos hc]
        rfl
       rw [hv]
       refine ⟨⟨_, Tryz.func357, rfl, by kernel_rfl⟩, CallS.use (hO l hl _) [0] rfl rfl ⟨rfl, trivial⟩ ?_⟩
       intro e H3 G' hle3 hout
       cases hw : objV deeper l with
       | no er r =>
        rw [hw] at hout
        obtain ⟨rfl, l2, o2, rfl⟩ := hout
        (conv => whnf)
        exact ⟨rfl, l2, o2, rfl⟩
       | ok j r =>
        rw [hw] at hout
        obtain ⟨hr, ⟨sv, rfl, k, y, t, A, n, c, B, m, f, rfl, hj⟩, rfl⟩ := hout
        (conv => whnf)
        exact ⟨hr, ⟨_, rfl, _, _, _, _, _, _, _, _, _, rfl, hj⟩, rfl⟩
      ·simp only [beq_eq_false_iff_ne, ne_eq] at h
       have n123 : ¬ (pk l).toNat = 123 := by omega
       clear h
       refine br.of (fun h => ?_) (fun h => ?_) <;> (conv => whnf)
       ·simp only [beq_iff_eq] at h
        have hor : (pk l).toNat = 45 ∨ isDig (pk l) = true := .inl (by omega)
        have hv : valT deeper l = (numberP l).bind fun s r => .ok (jNum s) r := by
         unfold valT
         rw [if_neg n110, if_neg n116, if_neg n102, if_neg n34, if_neg n91, if_neg n123, if_pos hor]
        rw [hv]
        refine ⟨⟨_, Tryz.func296, rfl, by kernel_rfl⟩, CallS.use (number_ s l hl (by omega) d o _) [0] rfl rfl ⟨rfl, trivial⟩ ?_⟩
        rintro e H3 G' hle3 ⟨rfl, hout⟩
        cases hw : numberP l with
        | no er r =>
         rw [hw] at hout
         obtain ⟨rfl, l2, o2, rfl⟩ := hout
         (conv => whnf)
         exact ⟨rfl, l2, o2, rfl⟩
        | ok t r =>
         rw [hw] at hout
         obtain ⟨hr, ⟨sv, rfl, rfl⟩, rfl⟩ := hout
         (conv => whnf)
         exact ⟨hr, ⟨_, rfl, RJ.bare _ _ _ _⟩, rfl⟩
       ·simp only [beq_eq_false_iff_ne, ne_eq] at h
        rw [← hx]
        refine ⟨⟨_, Tryz.func358, rfl, by kernel_rfl⟩, CallS.use (digit_ (pk l) _) [] rfl rfl trivial ?_⟩
        rintro e H3 G' hle3 ⟨rfl, rfl, rfl⟩
        cases hdig : isDig (pk l) <;> (conv => whnf)
        ·have hor : ¬ ((pk l).toNat = 45 ∨ isDig (pk l) = true) := by rw [hdig]; intro hh; rcases hh with hh | hh; (omega); (cases hh)
         have hv : valT deeper l = .no 31 l := by
          unfold valT
          rw [if_neg n110, if_neg n116, if_neg n102, if_neg n34, if_neg n91, if_neg n123, if_neg hor]
         rw [hv]
         refine ⟨⟨_, Tryz.func328, rfl, by kernel_rfl⟩, CallS.use (stop_ s l d o _) [0] rfl rfl ⟨rfl, trivial⟩ ?_⟩
         rintro e H5 G' hle5 ⟨rfl, rfl, rfl⟩
         (conv => whnf)
         exact ⟨rfl, l, o, rfl⟩
        ·have hor : (pk l).toNat = 45 ∨ isDig (pk l) = true := .inr hdig
         have hv : valT deeper l = (numberP l).bind fun s r => .ok (jNum s) r := by
          unfold valT
          rw [if_neg n110, if_neg n116, if_neg n102, if_neg n34, if_neg n91, if_neg n123, if_pos hor]
         rw [hv]
         refine ⟨⟨_, Tryz.func296, rfl, by kernel_rfl⟩, CallS.use (number_ s l hl (by omega) d o _) [0] rfl rfl ⟨rfl, trivial⟩ ?_⟩
         rintro e H3 G' hle3 ⟨rfl, hout⟩
         cases hw : numberP l with
         | no er r =>
          rw [hw] at hout
          obtain ⟨rfl, l2, o2, rfl⟩ := hout
          (conv => whnf)
          exact ⟨rfl, l2, o2, rfl⟩
         | ok t r =>
          rw [hw] at hout
          obtain ⟨hr, ⟨sv, rfl, rfl⟩, rfl⟩ := hout
          (conv => whnf)
          exact ⟨hr, ⟨_, rfl, RJ.bare _ _ _ _⟩, rfl⟩
theorem value_ (s : ByteArray) (hs : s.size ≤ 190000) (d : Nat) (hd : d ≤ 900) : ∀ (n o : Nat), o + n = d → VSays s d o (valP n)
 | 0, o, h => by
  obtain rfl : o = d := by omega
  exact value0 s hs o o none (fun l hl H => deepA s hs o l hl (by omega) H) (fun l hl H => deepO s hs o l hl (by omega) H)
 | n + 1, o, h => by
  have ih := value_ s hs d hd n (o + 1) (by omega)
  exact value0 s hs d o (some (valP n)) (fun l hl H => array_ s hs d o (by omega) (valP n) ih (elP_sfx (valP_sfx n)) l hl H (by omega)) (fun l hl H => object_ s hs d o (by omega) (valP n) ih (memP_sfx (valP_sfx n)) l hl H (by omega))
end Go.Kx.Js
namespace Go.Kx.Js
open Go.Proofs Go.Kx Go.RowKit
set_option maxRecDepth 20000
theorem whole_ (s : ByteArray) (hs : s.size ≤ 190000) (d : Nat) (hd : d ≤ 900) (l : List UInt8) (hl : Sfx l (tL s)) (H : Hp) : CallO Tryz.prog 283 [me] H [rdB s l d 0] fun e H' G' => Out s d 0 RJ (wholeP d l) e H' G' := by
 refine CallO.of_body tab Tryz.func283 rfl (nt := Tryz.f283.ntmps) rfl (by kernel_rfl) ?_
 (conv => whnf)
 refine ⟨⟨_, Tryz.func326, rfl, by kernel_rfl⟩, CallS.use (blank_ s l hl (by omega) d 0 _) [0] rfl rfl ⟨rfl, trivial⟩ ?_⟩
 rintro e H2 G' hle2 ⟨rfl, rfl, rfl⟩
 have hl1 := (blankP_sfx l).trans hl
 (conv => whnf)
 refine ⟨⟨_, Tryz.func327, rfl, by kernel_rfl⟩, CallS.use ((value_ s hs d hd d 0 (by omega)).use _ hl1 _) [0] rfl rfl ⟨rfl, trivial⟩ ?_⟩
 intro e H3 G' hle3 hout
 unfold wholeP
 cases hv : valP d (blankP l) with
 | no er r =>
  rw [hv] at hout
  obtain ⟨rfl, l2, o2, rfl⟩ := hout
  (conv => whnf)
  exact ⟨rfl, l2, o2, rfl⟩
 | ok j r =>
  rw [hv] at hout
  obtain ⟨hr, ⟨sv, rfl, k, y, t, A, n, c, B, m, f, rfl, hj⟩, rfl⟩ := hout
  (conv => whnf)
  refine ⟨⟨_, Tryz.func326, rfl, by kernel_rfl⟩, CallS.use (blank_ s r hr (by omega) d 0 _) [0] rfl rfl ⟨rfl, trivial⟩ ?_⟩
  rintro e H4 G' hle4 ⟨rfl, rfl, rfl⟩
  have hl2 := (blankP_sfx r).trans hr
  (conv => whnf)
  refine WS.draw tab mixed (.take 0 (.take 1 (.take 2 (.take 3 (.take 4 (.take 5 (.take 6 (.take 7 (.take 8 (.take 9 .done)))))))))) (by kernel_rfl) [] ?_
  (conv => whnf)
  refine br.of (fun h => ?_) (fun h => ?_) <;> (conv => whnf)
  ·have h := of_decide_eq_true h
   refine ⟨⟨_, Tryz.func328, rfl, by kernel_rfl⟩, CallS.use (stop_ s _ d 0 _) [0] rfl rfl ⟨rfl, trivial⟩ ?_⟩
   rintro e H5 G' hle5 ⟨rfl, rfl, rfl⟩
   (conv => whnf)
   show Out s d 0 RJ (match blankP r with | [] => .ok j [] | c :: r2 => .no 31 (c :: r2)) _ _ _
   cases hb : blankP r with
   | nil => rw [hb, pos_nil] at h; omega
   | cons c r2 => exact ⟨rfl, c :: r2, 0, rfl⟩
  ·have h := of_decide_eq_false h
   show Out s d 0 RJ (match blankP r with | [] => .ok j [] | c :: r2 => .no 31 (c :: r2)) _ _ _
   cases hb : blankP r with
   | nil => exact ⟨by rw [hb] at hl2; exact hl2, ⟨_, rfl, _, _, _, _, _, _, _, _, _, rfl, hj⟩, rfl⟩
   | cons c r2 =>
    rw [hb] at h hl2
    have := pos_lt hl2
    omega
def zAg : SG := .ag [.val (.int .i64 0), .val (.bool false), .val (.string ⟨#[]⟩), .val (.slice none 0 0), .val (.slice none 0 0)]
def RC (s : ByteArray) (res : Res J) (e : SE) (H' : Hp) : Prop :=
 match res with
 | .ok j _ => ∃ k y t A n c B m f, e = .ret (.tu [.ag [.val (.int .i64 k), .val (.bool y), .val (.string t), .val (.slice A n c), .val (.slice B m f)], .ag [.val (.int .i64 0), .val (.int .i64 0)]]) ∧ JAt H' j [.int .i64 k, .bool y, .string t, .slice A n c, .slice B m f]
 | .no er r => e = .ret (.tu [zAg, .ag [.val (.int .i64 (er : Int)), .val (.int .i64 ((pos s r : Nat) : Int))]])
theorem CallDS.use {P : Program} {f : FuncId} {svs : List SV} {u : FrameMode} {H : Hp} {G : List SB} {K K' : FrameMode → Hp → List SB → Prop} (h : CallDO P f svs u H G K) (hk : ∀ u' H' G', H.Le H' → K u' H' G' → K' u' H' G') : CallDS P f svs u H G K' := by
 refine ⟨fun w0 M hgd H0 ρ w vs hs hv => (h w0 M hgd H0 ρ w vs hs hv).mono fun e u' w' he => ?_⟩
 cases e with
 | returned v => obtain ⟨ρ', H', G', h1, h2, h3, h4⟩ := he; exact ⟨ρ', H', G', h1, h2, h3, hk _ _ _ h3 h4⟩
 | panicked ch => exact he
 | outgrown => exact he
def zV : SB := .box 114 [.val (.int .i64 0), .val (.bool false), .val (.string ⟨#[]⟩), .val (.slice none 0 0), .val (.slice none 0 0)]
def fB (e p : Int) : SB := .box 362 [.val (.int .i64 e), .val (.int .i64 p)]
theorem catchYes (s : ByteArray) (l r : List UInt8) (d o : Int) (er : Nat) (H : Hp) : CallDO Tryz.prog 325 [.si (.ce (.ptr 1 0)), .si (.ce (.ptr 2 0))] (.panicking [⟨faultV er (pos s r), false, false⟩]) H [rdB s l d o, zV, fB 0 0] fun u H' G' => u = .panicking [⟨faultV er (pos s r), true, false⟩] ∧ H' = H ∧ G' = [rdB s l d o, zV, fB er ((pos s r : Nat) : Int)] := by
 refine CallDO.of_body tab Tryz.func325 rfl rfl rfl rfl (nt := Tryz.f325.ntmps) rfl (by kernel_rfl) ?_
 (conv => whnf)
 refine WS.draw tab mixed (.take 0 (.take 1 (.alt 2 (.alt 3 .done .no) .no))) (by kernel_rfl) [1, 2] ?_
 (conv => whnf)
 repeat' (first
  | exact trivial
  | exact rfl
  | (refine And.intro ?_ ?_ <;> (conv => whnf)))
theorem catchNo (s : ByteArray) (l : List UInt8) (d o : Int) (b : List SC) (H : Hp) : CallDO Tryz.prog 325 [.si (.ce (.ptr 1 0)), .si (.ce (.ptr 2 0))] .returning H [rdB s l d o, .box 114 b, fB 0 0] fun u H' G' => u = .returning ∧ H' = H ∧ G' = [rdB s l d o, .box 114 b, fB 0 0] := by
 refine CallDO.of_body tab Tryz.func325 rfl rfl rfl rfl (nt := Tryz.f325.ntmps) rfl (by kernel_rfl) ?_
 (conv => whnf)
 split <;> exact ⟨rfl, rfl, rfl⟩
theorem caught_ (s : ByteArray) (hs : s.size ≤ 190000) (d : Nat) (hd : d ≤ 900) (l : List UInt8) (hl : Sfx l (tL s)) (H : Hp) : CallO Tryz.prog 282 [.si (.ce (.fn (.func 283) 1 [(0, 0)]))] H [rdB s l d 0] fun e H' G' => RC s (wholeP d l) e H' ∧ ∃ l' o', G' = [rdB s l' d o'] := by
 refine CallO.of_bodyD tab Tryz.func282 rfl (pre := [_]) rfl rfl rfl (nt := Tryz.f282.ntmps) rfl (by kernel_rfl) [2, 3] ?_
 (conv => whnf)
 refine ⟨⟨_, Tryz.func325, rfl, by kernel_rfl⟩, ?_⟩
 (conv => whnf)
 intro ds vs
 (conv => whnf)
 refine ⟨⟨_, Tryz.func283, rfl, by kernel_rfl⟩, CallS.use (whole_ s hs d hd l hl H) [0] rfl rfl ⟨rfl, trivial⟩ ?_⟩
 intro e H2 G' hle2 hout
 cases hw : wholeP d l with
 | no er r =>
  rw [hw] at hout
  obtain ⟨rfl, l2, o2, rfl⟩ := hout
  (conv => whnf)
  refine CallDS.use (catchYes s l2 r d o2 er H2) ?_
  rintro u' H3 G' hle3 ⟨rfl, rfl, rfl⟩
  (conv => whnf)
  exact ⟨rfl, l2, o2, rfl⟩
 | ok j r =>
  rw [hw] at hout
  obtain ⟨hr, ⟨sv, rfl, k, y, t, A, n, c, B, m, f, rfl, hj⟩, rfl⟩ := hout
  (conv => whnf)
  refine CallDS.use (catchNo s r d 0 _ H2) ?_
  rintro u' H3 G' hle3 ⟨rfl, rfl, rfl⟩
  (conv => whnf)
  exact ⟨⟨_, _, _, _, _, _, _, _, _, rfl, hj⟩, r, 0, rfl⟩
end Go.Kx.Js
namespace Go.Kx.Rt
open Go.Proofs Go.Kx Go.RowKit Go.Kx.Js Go.Kx.Pr
set_option maxRecDepth 20000
set_option linter.unusedSimpArgs false
def T : Tab := [(114, { k := TK.st [(0, 3, 1), (1, 4, 1), (2, 9, 1), (3, 111, 1), (4, 112, 1)], agg := true, size := 5, bytes := 80, zero := [Z.i IntKind.i64, Z.b, Z.s, Z.sl, Z.sl] }), (313, { k := TK.st [(0, 9, 1), (1, 114, 5)], agg := true, size := 6, bytes := 96, zero := [Z.s, Z.i IntKind.i64, Z.b, Z.s, Z.sl, Z.sl] }), (362, { k := TK.st [(0, 30, 1), (1, 3, 1)], agg := true, size := 2, bytes := 16, zero := [Z.i IntKind.i64, Z.i IntKind.i64] }), (360, { k := TK.st [(0, 9, 1), (1, 3, 1), (2, 3, 1), (3, 3, 1)], agg := true, size := 4, bytes := 40, zero := [Z.s, Z.i IntKind.i64, Z.i IntKind.i64, Z.i IntKind.i64] }), (242, { k := TK.st [(0, 240, 1), (1, 94, 1)], agg := true, size := 2, bytes := 32, zero := [Z.p, Z.sl] }), (5, { k := TK.int IntKind.u8, agg := false, size := 1, bytes := 1, zero := [Z.i IntKind.u8] }), (9, { k := TK.string, agg := false, size := 1, bytes := 16, zero := [Z.s] }), (30, { k := TK.int IntKind.i64, agg := false, size := 1, bytes := 8, zero := [Z.i IntKind.i64] }), (4, { k := TK.bool, agg := false, size := 1, bytes := 1, zero := [Z.b] }), (240, { k := TK.ptr 242, agg := false, size := 1, bytes := 8, zero := [Z.p] }), (3, { k := TK.int IntKind.i64, agg := false, size := 1, bytes := 8, zero := [Z.i IntKind.i64] }), (111, { k := TK.slice 114, agg := false, size := 1, bytes := 24, zero := [Z.sl] }), (307, { k := TK.func, agg := false, size := 1, bytes := 8, zero := [Z.fn] }), (112, { k := TK.slice 313, agg := false, size := 1, bytes := 24, zero := [Z.sl] }), (358, { k := TK.ptr 360, agg := false, size := 1, bytes := 8, zero := [Z.p] }), (289, { k := TK.func, agg := false, size := 1, bytes := 8, zero := [Z.fn] }), (22, { k := TK.slice 9, agg := false, size := 1, bytes := 24, zero := [Z.sl] }), (1, { k := TK.func, agg := false, size := 1, bytes := 8, zero := [Z.fn] }), (94, { k := TK.slice 5, agg := false, size := 1, bytes := 24, zero := [Z.sl] })]
set_option maxRecDepth 100000 in
theorem tab : TabOk Tryz.prog T := tabOk_mk (ts := [114, 313, 362, 360, 242, 5, 9, 30, 4, 240, 3, 111, 307, 112, 358, 289, 22, 1, 94]) (by kernel_rfl)
theorem mixed : Tryz.prog.follows .mixedOrders = true := by kernel_rfl
theorem told_ (t : ByteArray) (ht : t.size ≤ 1000000) (H : Hp) : CallO Tryz.prog 233 [pv (.string t)] H [] fun e _ G' => e = .ret (pv (.bool (toldP t))) ∧ G' = [] := by
 refine CallO.of_body tab Tryz.func233 rfl (nt := Tryz.f233.ntmps) rfl (by kernel_rfl) ?_
 (conv => whnf)
 refine ⟨⟨_, Tryz.func281, rfl, by kernel_rfl⟩, CallS.use (wrong_ t ht H) [] rfl rfl trivial ?_⟩
 rintro e H2 G' hle ⟨rfl, rfl⟩
 (conv => whnf)
 exact ⟨rfl, rfl⟩
def RN (s : ByteArray) (res : Res ByteArray) (e : SE) : Prop :=
 match res with
 | .ok v _ => e = .ret (.tu [.ag [.val (.int .i64 3), .val (.bool false), .val (.string v), .val (.slice none 0 0), .val (.slice none 0 0)], .ag [.val (.int .i64 0), .val (.int .i64 0)]])
 | .no er r => e = .ret (.tu [zAg, .ag [.val (.int .i64 (er : Int)), .val (.int .i64 ((Js.pos s r : Nat) : Int))]])
theorem caughtN (s : ByteArray) (hs : s.size ≤ 190000) (l : List UInt8) (hl : Sfx l (tL s)) (H : Hp) : CallO Tryz.prog 282 [.si (.ce (.fn (.func 296) 1 [(0, 0)]))] H [rdB s l 0 0] fun e _ G' => RN s (numberP l) e ∧ ∃ l' o', G' = [rdB s l' 0 o'] := by
 refine CallO.of_bodyD tab Tryz.func282 rfl (pre := [_]) rfl rfl rfl (nt := Tryz.f282.ntmps) rfl (by kernel_rfl) [2, 3] ?_
 (conv => whnf)
 refine ⟨⟨_, Tryz.func325, rfl, by kernel_rfl⟩, ?_⟩
 (conv => whnf)
 intro ds vs
 (conv => whnf)
 refine ⟨⟨_, Tryz.func296, rfl, by kernel_rfl⟩, CallS.use (number_ s l hl (by omega) 0 0 H) [0] rfl rfl ⟨rfl, trivial⟩ ?_⟩
 rintro e H2 G' hle2 ⟨rfl, hout⟩
 cases hw : numberP l with
 | no er r =>
  rw [hw] at hout
  obtain ⟨rfl, l2, o2, rfl⟩ := hout
  (conv => whnf)
  refine CallDS.use (catchYes s l2 r 0 o2 er H2) ?_
  rintro u' H3 G' hle3 ⟨rfl, rfl, rfl⟩
  (conv => whnf)
  exact ⟨rfl, l2, o2, rfl⟩
 | ok v r =>
  rw [hw] at hout
  obtain ⟨hr, ⟨sv, rfl, rfl⟩, rfl⟩ := hout
  (conv => whnf)
  refine CallDS.use (catchNo s r 0 0 _ H2) ?_
  rintro u' H3 G' hle3 ⟨rfl, rfl, rfl⟩
  (conv => whnf)
  exact ⟨rfl, r, 0, rfl⟩
theorem err_pos {l : List UInt8} {er : Nat} {r : List UInt8} (h : numberP l = .no er r) : er ≠ 0 := by
 have hd : ∀ {l : List UInt8} {er : Nat} {r : List UInt8}, digitsP l = .no er r → er ≠ 0 := fun {l er r} h => by
  unfold digitsP at h
  split at h
  ·cases h
  ·injection h with h; omega
 have h4 : ∀ {l : List UInt8} {er : Nat} {r : List UInt8}, num4 l = .no er r → er ≠ 0 := fun {l er r} h => by
  unfold num4 at h
  split at h <;> exact hd h
 unfold numberP at h
 cases h1 : num1 (optP 45 l) with
 | no e1 r1 =>
  rw [h1] at h
  injection h with h h'
  subst h
  unfold num1 at h1
  split at h1
  ·cases h1
  ·exact hd h1
 | ok x r1 =>
  rw [h1] at h
  change (num2 r1).bind _ = _ at h
  cases h2 : num2 r1 with
  | no e1 r2 =>
   rw [h2] at h
   injection h with h h'
   subst h
   unfold num2 at h2
   split at h2
   ·exact hd h2
   ·cases h2
  | ok x r2 =>
   rw [h2] at h
   change (num3 r2).bind _ = _ at h
   cases h3 : num3 r2 with
   | no e1 r3 =>
    rw [h3] at h
    injection h with h h'
    subst h
    unfold num3 at h3
    split at h3
    ·exact h4 h3
    ·split at h3
     ·exact h4 h3
     ·cases h3
   | ok x r3 =>
    rw [h3] at h
    cases h
theorem numeric_ (t : ByteArray) (ht : t.size ≤ 190000) (H : Hp) : CallO Tryz.prog 232 [pv (.string t)] H [] fun e _ G' => e = .ret (pv (.bool (numericP t))) ∧ G' = [] := by
 refine CallO.of_body tab Tryz.func232 rfl (nt := Tryz.f232.ntmps) rfl (by kernel_rfl) ?_
 (conv => whnf)
 have hrd0 : SB.box 360 [.val (.string t), .val (.int .i64 0), .val (.int .i64 0), .val (.int .i64 0)] = rdB t (tL t) 0 0 := by
  unfold rdB Js.pos
  rw [Nat.sub_self]; rfl
 refine ⟨⟨_, Tryz.func282, rfl, by kernel_rfl⟩, CallS.use (caughtN t ht (tL t) (.refl _) H) [0] rfl rfl ⟨?_, trivial⟩ ?_⟩
 ·exact hrd0
 rintro e H5 G' hle5 ⟨hrc, l2, o2, rfl⟩
 unfold numericP
 cases hnp : numberP (tL t) with
 | no er r =>
  rw [hnp] at hrc
  obtain rfl := hrc
  have her := err_pos hnp
  generalize hei : ((er : Nat) : Int) = ei
  (conv => whnf)
  refine br.of (fun h => ?_) (fun h => ?_) <;> (conv => whnf)
  ·simp only [beq_iff_eq] at h
   omega
  ·refine ⟨?_, rfl⟩
   show _ = SE.ret (pv (.bool (match numberP (tL t) with | .ok v _ => strEq v t | .no _ _ => false)))
   rw [hnp]; rfl
 | ok v r =>
  rw [hnp] at hrc
  obtain rfl := hrc
  (conv => whnf)
  refine ⟨?_, rfl⟩
  show _ = SE.ret (pv (.bool (match numberP (tL t) with | .ok v _ => strEq v t | .no _ _ => false)))
  rw [hnp]; rfl
theorem bare_ (j : J) (k : Int) (y : Bool) (t : ByteArray) (A : Option Addr) (n c : Nat) (B : Option Addr) (m d : Nat) (H : Hp) (hj : JAt H j [.int .i64 k, .bool y, .string t, .slice A n c, .slice B m d]) : CallO Tryz.prog 231 [agJ k y t A n c B m d] H [] fun e H' G' => H' = H ∧ e = .ret (pv (.bool (bareJ j))) ∧ G' = [] := by
 cases hj with
 | mk hn1 hx1 hv1 hn2 hx2 hv2 =>
 rename_i js ms xs zs
 have hbj : bareJ (.mk k y t js ms) = ((k == 2 || !y) && (k == 3 || k == 4 || strEq t ⟨#[]⟩) && (k == 5 || js.length == 0) && (k == 6 || ms.length == 0)) := rfl
 rw [hbj, ← hn1, ← hn2]
 generalize hnI : ((n : Nat) : Int) = nI
 generalize hmI : ((m : Nat) : Int) = mI
 have hn3 : (n == 0) = (nI == 0) := by rw [← hnI]; cases n <;> simp <;> omega
 have hm3 : (m == 0) = (mI == 0) := by rw [← hmI]; cases m <;> simp <;> omega
 rw [hn3, hm3]
 refine CallO.of_body tab Tryz.func231 rfl (nt := Tryz.f231.ntmps) rfl (by kernel_rfl) ?_
 (conv => whnf)
 repeat' (refine br.of (fun h => ?_) (fun h => ?_) <;> (conv => whnf))
 all_goals
  clear hn3 hm3 hbj
  subst hnI hmI hn1 hn2
  refine ⟨rfl, congrArg (fun b => SE.ret (pv (.bool b))) ?_, rfl⟩
  simp only [*, Bool.not_true, Bool.not_false, Bool.true_or, Bool.or_true, Bool.false_or, Bool.or_false, Bool.true_and, Bool.and_true, Bool.false_and, Bool.and_false]
end Go.Kx.Rt
namespace Go.Kx.Rt
open Go.Proofs Go.Kx Go.RowKit Go.Kx.Js Go.Kx.Pr
set_option maxRecDepth 20000
set_option linter.unusedSimpArgs false
mutual
def smJ : J → Prop
 | .mk _ _ t js ms => t.size ≤ 190000 ∧ js.length ≤ 1000000 ∧ ms.length ≤ 1000000 ∧ smJs js ∧ smMs ms
def smJs : List J → Prop
 | [] => True
 | j :: r => smJ j ∧ smJs r
def smMs : List (ByteArray × J) → Prop
 | [] => True
 | (s, j) :: r => s.size ≤ 190000 ∧ smJ j ∧ smMs r
end
theorem smJs_get {js : List J} (h : smJs js) {i : Nat} {j : J} (hi : js[i]? = some j) : smJ j := by
 induction js generalizing i with
 | nil => simp at hi
 | cons a r ih =>
  simp only [smJs] at h
  cases i with
  | zero => simp at hi; subst hi; exact h.1
  | succ i => exact ih h.2 (i := i) (by simpa using hi)
theorem smMs_get {ms : List (ByteArray × J)} (h : smMs ms) {i : Nat} {s : ByteArray} {j : J} (hi : ms[i]? = some (s, j)) : s.size ≤ 190000 ∧ smJ j := by
 induction ms generalizing i with
 | nil => simp at hi
 | cons a r ih =>
  obtain ⟨s0, j0⟩ := a
  simp only [smMs] at h
  cases i with
  | zero => simp at hi; obtain ⟨rfl, rfl⟩ := hi; exact ⟨h.1, h.2.1⟩
  | succ i => exact ih h.2.2 (i := i) (by simpa using hi)
def RtSays (j : J) : Prop := ∀ (k : Int) (y : Bool) (t : ByteArray) (A : Option Addr) (n c : Nat) (B : Option Addr) (m d : Nat) (H : Hp), JAt H j [.int .i64 k, .bool y, .string t, .slice A n c, .slice B m d] →
 CallO Tryz.prog 170 [agJ k y t A n c B m d] H [] fun e H' G' => e = .ret (pv (.bool (rightJ j))) ∧ H.Le H' ∧ G' = []
theorem RtSays.use {j : J} (h : RtSays j) {k : Int} {y : Bool} {t : ByteArray} {A : Option Addr} {n c : Nat} {B : Option Addr} {m d : Nat} {H : Hp} (hj : JAt H j [.int .i64 k, .bool y, .string t, .slice A n c, .slice B m d]) :
 CallO Tryz.prog 170 [agJ k y t A n c B m d] H [] fun e H' G' => e = .ret (pv (.bool (rightJ j))) ∧ H.Le H' ∧ G' = [] := h k y t A n c B m d H hj
def nmC (ms : List (ByteArray × J)) : List Value := ms.map fun p => Value.string p.1
theorem nmC_take {ms : List (ByteArray × J)} {i : Nat} {s : ByteArray} {j : J} (h : ms[i]? = some (s, j)) : nmC (ms.take (i + 1)) = nmC (ms.take i) ++ [.string s] := by
 unfold nmC
 rw [List.take_add_one, h]; simp
theorem rightMs_take {ms : List (ByteArray × J)} {i : Nat} {s : ByteArray} {j : J} (h : ms[i]? = some (s, j)) (hi : rightMs (ms.take i) = true) : rightMs (ms.take (i + 1)) = (toldP s && rightJ j) := by
 induction ms generalizing i with
 | nil => simp at h
 | cons a r ih =>
  obtain ⟨s0, j0⟩ := a
  cases i with
  | zero => simp at h; obtain ⟨rfl, rfl⟩ := h; simp [rightMs]
  | succ i =>
   simp only [List.take_succ_cons, rightMs, Bool.and_eq_true] at hi ⊢
   rw [ih (by simpa using h) hi.2, hi.1.1, hi.1.2]; rfl
theorem rightMs_of_take {ms : List (ByteArray × J)} {i : Nat} (h : rightMs (ms.take i) = false) : rightMs ms = false := by
 induction ms generalizing i with
 | nil => simp [rightMs] at h
 | cons a r ih =>
  obtain ⟨s0, j0⟩ := a
  cases i with
  | zero => simp [rightMs] at h
  | succ i =>
   simp only [List.take_succ_cons, rightMs, Bool.and_eq_false_iff] at h ⊢
   rcases h with h | h
   ·exact .inl h
   ·exact .inr (ih h)
theorem sort0 (H : Hp) : CallO Tryz.prog 298 [pv (.slice none 0 0)] H [] fun e H' G' => e = .ret (.tu []) ∧ H' = H ∧ G' = [] := by
 refine (CallO.of_calls (P := Tryz.prog) (args := [.slice none 0 0]) (R := fun v => v = .tuple #[]) fun w _ _ => (Go.Proofs.Any.slices_Sort_string_none Tryz.laysSort none 0 w).mono ?_).mono ?_
 ·rintro e w' ⟨rfl, rfl⟩
  exact ⟨_, rfl, rfl, rfl, rfl, rfl, Nat.le_refl _, fun _ _ _ => rfl⟩
 ·rintro e H' G' hle ⟨v, rfl, rfl, rfl, rfl⟩
  exact ⟨rfl, rfl, rfl⟩
theorem compact0 (H : Hp) : CallO Tryz.prog 299 [pv (.slice none 0 0)] H [] fun e H' G' => e = .ret (pv (.slice none 0 0)) ∧ H' = H ∧ G' = [] := by
 refine (CallO.of_calls (P := Tryz.prog) (args := [.slice none 0 0]) (R := fun v => v = .slice none 0 0) fun w _ _ => (Any.slices_Compact_string_empty Tryz.laysCompact none 0 w).mono ?_).mono ?_
 ·rintro e w' ⟨rfl, rfl⟩
  exact ⟨_, rfl, rfl, rfl, rfl, rfl, Nat.le_refl _, fun _ _ _ => rfl⟩
 ·rintro e H' G' hle ⟨v, rfl, rfl, rfl, rfl⟩
  exact ⟨rfl, rfl, rfl⟩
theorem nmC_strs (ms : List (ByteArray × J)) : nmC ms = So.strs ((ms.map (·.1)).map fun s => s.data.toList) := by
 unfold nmC So.strs
 simp only [List.map_map]
 rfl
theorem named_ (k : Int) (y : Bool) (t : ByteArray) (js : List J) (ms : List (ByteArray × J)) (hsm : smMs ms) (hml : ms.length ≤ 1000000) (hms : ∀ (i : Nat) (s : ByteArray) (j : J), ms[i]? = some (s, j) → RtSays j) (A : Option Addr) (n c : Nat) (B : Option Addr) (m d : Nat) (H : Hp) (hj : JAt H (.mk k y t js ms) [.int .i64 k, .bool y, .string t, .slice A n c, .slice B m d]) :
  CallO Tryz.prog 236 [agJ k y t A n c B m d] H [] fun e H' G' => e = .ret (pv (.bool (rightMs ms && noTwice (ms.map (·.1))))) ∧ H.Le H' ∧ G' = [] := by
 cases hj with
 | mk hn1 hx1 hv1 hn2 hx2 hv2 =>
 rename_i xs zs
 cases ms with
 | nil =>
  subst hn2
  refine CallO.of_body tab Tryz.func236 rfl (nt := Tryz.f236.ntmps) rfl (by kernel_rfl) ?_
  (conv => whnf)
  refine WS.loop (fun k' F H3 G => k' = 0 ∧ F = [(1, .si (.ce (.ptr 0 0))), (3, pv (.slice none 0 0)), (8, pv (.int .i64 0)), (9, pv (.int .i64 0))] ∧ H.Le H3 ∧ G = [.box 114 [.val (.int .i64 k), .val (.bool y), .val (.string t), .val (.slice A n c), .val (.slice B 0 d)]]) 1 ?_ ?_
  ·refine ⟨0, by omega, _, _, [0], ⟨rfl, rfl, .refl _, rfl⟩, ?_⟩
   exact ⟨rfl, ⟨rfl, trivial⟩, rfl, rfl, rfl, rfl, trivial⟩
  rintro k' F H3 G hle3 ⟨rfl, rfl, hle4, rfl⟩
  refine codeL.go tab ?_
  (conv => whnf)
  refine ⟨⟨_, Tryz.func298, rfl, by kernel_rfl⟩, CallS.use (sort0 H3) [] rfl rfl trivial ?_⟩
  rintro e H4 G' hle5 ⟨rfl, rfl, rfl⟩
  (conv => whnf)
  refine WS.draw tab mixed (.take 0 (.take 3 (.take 4 (.take 5 (.alt 1 (.take 2 (.take 6 (.take 7 .done))) .no))))) (by kernel_rfl) [] ?_
  (conv => whnf)
  repeat' (first | exact trivial | exact rfl | exact hle4 | (refine ⟨⟨_, Tryz.func299, rfl, by kernel_rfl⟩, CallS.use (compact0 H4) [] rfl rfl trivial ?_⟩; rintro e H5 G' hle6 ⟨rfl, rfl, rfl⟩; (conv => whnf)) | (refine And.intro ?_ ?_ <;> (conv => whnf)))
  have hno : (rightMs [] && noTwice (([] : List (ByteArray × J)).map (·.1))) = true := by
   simp [rightMs, noTwice, Lib.compact, Lib.compactUpTo]
  rw [hno]
  rfl
 | cons m0 mr =>
 generalize hms0 : m0 :: mr = ms at *
 refine CallO.of_body tab Tryz.func236 rfl (nt := Tryz.f236.ntmps) rfl (by kernel_rfl) ?_
 (conv => whnf)
 refine WS.nilRow 3 9 1 rfl ?_
 (conv => whnf)
 subst hn2
 refine WS.loop (fun k' F H3 G => ∃ i : Nat, i ≤ List.length ms ∧ rightMs (ms.take i) = true ∧ k' = List.length ms - i ∧ F = [(1, .si (.ce (.ptr 0 0))), (3, .si (.ce (.self 1))), (7, pv (.slice B (List.length ms) d)), (8, pv (.int .i64 (List.length ms))), (9, pv (.int .i64 i))] ∧ H.Le H3 ∧ G = [.box 114 [.val (.int .i64 k), .val (.bool y), .val (.string t), .val (.slice A n c), .val (.slice B (List.length ms) d)], .row 9 1 i (nmC (ms.take i))]) (List.length ms + 1) ?_ ?_
 ·refine ⟨List.length ms, by omega, _, _, [0, 1], ⟨0, by omega, by rw [List.take_zero]; rfl, rfl, rfl, .refl _, rfl⟩, ?_⟩
  exact ⟨rfl, ⟨rfl, rfl, trivial⟩, rfl, rfl, rfl, rfl, rfl, trivial⟩
 rintro k' F H3 G hle3 ⟨i, hi, hrt, rfl, rfl, hle4, rfl⟩
 refine codeL.go tab ?_
 (conv => whnf)
 refine br.of (fun h7 => ?_) (fun h7 => ?_) <;> (conv => whnf)
 ·have h7 := of_decide_eq_true h7
  have hil : i < (List.length ms) := by omega
  have hget : ms[i]? = some (ms[i]'hil) := List.getElem?_eq_getElem _
  generalize ms[i]'hil = e0 at hget
  obtain ⟨s0, j0⟩ := e0
  obtain ⟨cs, hj0, hcs⟩ := hx2.get hget
  obtain ⟨A2, n2, c2, B2, m2, d2, rfl⟩ := hj0.cells
  have hlen0 : zs.length ≠ 0 := by rw [hx2.length]; omega
  refine ⟨⟨by omega, by omega⟩, hv2.addr2 hlen0, ?_⟩
  (conv => whnf)
  refine ⟨_, rfl, ((hv2.mono (hle4))).cells2 hlen0 hcs (by show (i : Int).toNat * 6 = _; omega), ?_⟩
  (conv => whnf)
  obtain ⟨hs0, hj1⟩ := smMs_get hsm hget
  have hr0 := hms i s0 j0 hget
  refine ⟨⟨_, Tryz.func233, rfl, by kernel_rfl⟩, CallS.use (told_ s0 (by omega) H3) [] rfl rfl trivial ?_⟩
  rintro e H4 G' hle5 ⟨rfl, rfl⟩
  have hrt2 := rightMs_take hget hrt
  cases htd : toldP s0
  all_goals
   rw [htd] at hrt2
   (conv => whnf)
  ·refine ⟨?_, hle4.trans hle5, rfl⟩
   rw [rightMs_of_take (by rw [hrt2]; rfl)]; rfl
  refine ⟨⟨_, Tryz.func170, rfl, by kernel_rfl⟩, CallS.use (hr0.use (hj0.mono (hle4.trans hle5))) [] rfl rfl trivial ?_⟩
  rintro e H5 G' hle6 ⟨rfl, hle7, rfl⟩
  cases hrj : rightJ j0
  all_goals
   rw [hrj] at hrt2
   (conv => whnf)
  ·refine ⟨?_, hle4.trans (hle5.trans hle7), rfl⟩
   rw [rightMs_of_take (by rw [hrt2]; rfl)]; rfl
  refine ⟨by decide, ?_⟩
  (conv => whnf)
  refine .inl ?_
  intro g H6 hle8 hrd
  (conv => whnf)
  refine ⟨[.string s0], rfl, hrd, fun u hu => by rw [List.mem_singleton] at hu; subst hu; rfl, ?_⟩
  (conv => whnf)
  refine ⟨by show (i + 1) * 17 ≤ _; omega, ?_⟩
  (conv => whnf)
  rw [wrap64 (x := (i : Int) + 1) (by omega) (by omega)]
  refine ⟨List.length ms - (i + 1), by omega, _, [.box 114 [.val (.int .i64 k), .val (.bool y), .val (.string t), .val (.slice A n c), .val (.slice B (List.length ms) d)], .row 9 1 (i + 1) (nmC (ms.take (i + 1)))], [0, 3], ⟨i + 1, by omega, hrt2, rfl, rfl, hle4.trans (hle5.trans (hle7.trans hle8)), rfl⟩, ?_⟩
  rw [nmC_take hget]
  exact ⟨rfl, ⟨rfl, rfl, trivial⟩, rfl, rfl, rfl, rfl, rfl, trivial⟩
 have h7 := of_decide_eq_false h7
 obtain rfl : i = List.length ms := by omega
 rw [List.take_of_length_le (Nat.le_refl _)] at hrt ⊢
 rw [nmC_strs]
 generalize hN : (ms.map (·.1)).map (fun s => s.data.toList) = N
 have hNl : N.length = ms.length := by rw [← hN]; simp
 rw [← hNl]
 refine ⟨⟨_, Tryz.func298, rfl, by kernel_rfl⟩, CallS.use (So.sort_ N (by omega) (by rw [hNl, ← hms0]; simp) H3) [1] rfl rfl ⟨rfl, trivial⟩ ?_⟩
 rintro e H4 G' hle5 ⟨rfl, rfl, rfl⟩
 (conv => whnf)
 refine WS.draw tab mixed (.take 0 (.take 3 (.take 4 (.take 5 (.alt 1 (.take 2 (.take 6 (.take 7 .done))) .no))))) (by kernel_rfl) [1] ?_
 (conv => whnf)
 repeat' (first | exact trivial | exact rfl | exact hle4 | (refine ⟨⟨_, Tryz.func299, rfl, by kernel_rfl⟩, CallS.use (So.compact_ (So.sortL N) (by rw [So.sortL_length]; omega) (by rw [So.sortL_length, hNl, ← hms0]; simp) H4) [1] (by rw [So.sortL_length]; rfl) rfl ⟨by rw [So.sortL_length]; rfl, trivial⟩ ?_⟩; rintro e H5 G' hle6 ⟨⟨Ac, cc, rfl⟩, rfl, rfl⟩; (conv => whnf)) | (refine And.intro ?_ ?_ <;> (conv => whnf)))
 have hno : noTwice (ms.map (·.1)) = ((Lib.compact (So.sortL N)).length == N.length) := by
  unfold noTwice
  rw [hN, hNl]; simp
  rfl
 rw [hrt, hno]
 generalize (Lib.compact (So.sortL N)).length = a
 generalize N.length = b
 refine congrArg (fun b => SE.ret (pv (.bool b))) ?_
 rw [Bool.true_and, Bool.eq_iff_iff]
 simp only [beq_iff_eq]
 omega
end Go.Kx.Rt
namespace Go.Kx.Rt
open Go.Proofs Go.Kx Go.RowKit Go.Kx.Js Go.Kx.Pr Go.Kx.Bu
set_option maxRecDepth 20000
set_option linter.unusedSimpArgs false
theorem rightJs_of_get {js : List J} {i : Nat} {j : J} (hi : js[i]? = some j) (h : rightJ j = false) : rightJs js = false := by
 cases hr : rightJs js with
 | false => rfl
 | true => rw [rightJs_get hr hi] at h; cases h
theorem rightJs_all {js : List J} (h : ∀ (i : Nat) (j : J), js[i]? = some j → rightJ j = true) : rightJs js = true := by
 induction js with
 | nil => rfl
 | cons a r ih =>
  simp only [rightJs, Bool.and_eq_true]
  exact ⟨h 0 a rfl, ih fun i j hi => h (i + 1) j (by simpa using hi)⟩
theorem right1 (j : J) (hr : RtSays j) (k : Int) (y : Bool) (t : ByteArray) (A : Option Addr) (n c : Nat) (B : Option Addr) (m d : Nat) (H : Hp) (hj : JAt H j [.int .i64 k, .bool y, .string t, .slice A n c, .slice B m d]) :
  CallO Tryz.prog 235 [agJ k y t A n c B m d] H [] fun e H' G' => e = .ret (pv (.bool (!rightJ j))) ∧ H.Le H' ∧ G' = [] := by
 refine CallO.of_body tab Tryz.func235 rfl (nt := Tryz.f235.ntmps) rfl (by kernel_rfl) ?_
 (conv => whnf)
 refine ⟨⟨_, Tryz.func170, rfl, by kernel_rfl⟩, CallS.use (hr.use hj) [] rfl rfl trivial ?_⟩
 rintro e H5 G' hle6 ⟨rfl, hle7, rfl⟩
 (conv => whnf)
 exact ⟨rfl, hle7, rfl⟩
theorem index_ (js : List J) (hl : js.length ≤ 1000000) (hjs : ∀ (i : Nat) (j : J), js[i]? = some j → RtSays j) (A : Option Addr) (xs : List Value) (c : Nat) (H : Hp) (hx1 : JsAt H js xs) (hv1 : RdV H A xs) :
  CallO Tryz.prog 297 [pv (.slice A js.length c), .si (.ce (.fn (.func 235) 0 []))] H [] fun e H' G' => (∃ i : Int, (rightJs js = true → i = -1) ∧ (rightJs js = false → 0 ≤ i) ∧ e = .ret (pv (.int .i64 i))) ∧ H.Le H' ∧ G' = [] := by
 refine CallO.of_body tab Tryz.func297 rfl (nt := Tryz.f297.ntmps) rfl (by kernel_rfl) ?_
 (conv => whnf)
 refine WS.loop (fun k' F H3 G => ∃ i : Nat, i ≤ List.length js ∧ (∀ (q : Nat) (j : J), q < i → js[q]? = some j → rightJ j = true) ∧ k' = List.length js - i ∧ F = [(0, pv (.slice A js.length c)), (1, .si (.ce (.fn (.func 235) 0 []))), (7, pv (.int .i64 (List.length js))), (8, pv (.int .i64 i))] ∧ H.Le H3 ∧ G = []) (List.length js + 1) ?_ ?_
 ·refine ⟨List.length js, by omega, _, _, [], ⟨0, by omega, fun q j hq => absurd hq (by omega), rfl, rfl, .refl _, rfl⟩, ?_⟩
  exact ⟨rfl, trivial, rfl, rfl, rfl, rfl, trivial⟩
 rintro k' F H3 G hle3 ⟨i, hi, hrt, rfl, rfl, hle4, rfl⟩
 refine codeL.go tab ?_
 (conv => whnf)
 refine br.of (fun h7 => ?_) (fun h7 => ?_) <;> (conv => whnf)
 ·have h7 := of_decide_eq_true h7
  have hil : i < (List.length js) := by omega
  have hget : js[i]? = some (js[i]'hil) := List.getElem?_eq_getElem _
  generalize js[i]'hil = j0 at hget
  obtain ⟨cs, hj0, hcs⟩ := hx1.get hget
  obtain ⟨A2, n2, c2, B2, m2, d2, rfl⟩ := hj0.cells
  have hlen0 : xs.length ≠ 0 := by rw [hx1.length]; omega
  refine ⟨⟨by omega, by omega⟩, hv1.addr2 hlen0, ?_⟩
  (conv => whnf)
  refine ⟨_, rfl, ((hv1.mono (hle4))).cells2 hlen0 hcs (by show (i : Int).toNat * 5 = _; omega), ?_⟩
  (conv => whnf)
  refine ⟨⟨_, Tryz.func235, rfl, by kernel_rfl⟩, CallS.use (right1 j0 (hjs i j0 hget) j0.kind j0.yes j0.text A2 n2 c2 B2 m2 d2 H3 (hj0.mono hle4)) [] rfl rfl trivial ?_⟩
  rintro e H4 G' hle5 ⟨rfl, hle6, rfl⟩
  cases hrj : rightJ j0
  all_goals (conv => whnf)
  ·refine ⟨⟨_, fun hall => ?_, fun _ => ?_, rfl⟩, hle4.trans hle6, rfl⟩
   ·rw [rightJs_of_get hget hrj] at hall; cases hall
   ·omega
  rw [wrap64 (x := (i : Int) + 1) (by omega) (by omega)]
  refine ⟨List.length js - (i + 1), by omega, _, _, [], ⟨i + 1, by omega, fun q j hq hqj => ?_, rfl, rfl, hle4.trans hle6, rfl⟩, ?_⟩
  ·rcases Nat.lt_or_ge q i with hqi | hqi
   ·exact hrt q j hqi hqj
   ·obtain rfl : q = i := by omega
    rw [hget] at hqj
    injection hqj with hqj
    rw [← hqj]; exact hrj
  ·exact ⟨rfl, trivial, rfl, rfl, rfl, rfl, trivial⟩
 have h7 := of_decide_eq_false h7
 obtain rfl : i = List.length js := by omega
 have hall : rightJs js = true := rightJs_all fun q j hq => hrt q j (List.getElem?_eq_some_iff.1 hq).1 hq
 exact ⟨⟨_, fun _ => rfl, fun h => (by rw [hall] at h; cases h), rfl⟩, hle4, rfl⟩
theorem contains_ (js : List J) (hl : js.length ≤ 1000000) (hjs : ∀ (i : Nat) (j : J), js[i]? = some j → RtSays j) (A : Option Addr) (xs : List Value) (c : Nat) (H : Hp) (hx1 : JsAt H js xs) (hv1 : RdV H A xs) :
  CallO Tryz.prog 234 [pv (.slice A js.length c), .si (.ce (.fn (.func 235) 0 []))] H [] fun e H' G' => e = .ret (pv (.bool (!rightJs js))) ∧ H.Le H' ∧ G' = [] := by
 refine CallO.of_body tab Tryz.func234 rfl (nt := Tryz.f234.ntmps) rfl (by kernel_rfl) ?_
 (conv => whnf)
 refine ⟨⟨_, Tryz.func297, rfl, by kernel_rfl⟩, CallS.use (index_ js hl hjs A xs c H hx1 hv1) [] rfl rfl trivial ?_⟩
 rintro e H4 G' hle5 ⟨⟨i, h1, h2, rfl⟩, hle6, rfl⟩
 (conv => whnf)
 refine ⟨congrArg (fun b => SE.ret (pv (.bool b))) ?_, hle6, rfl⟩
 cases hr : rightJs js
 ·have := h2 hr
  exact decide_eq_true this
 ·rw [h1 hr]; rfl
theorem right0 (k : Int) (y : Bool) (t : ByteArray) (js : List J) (ms : List (ByteArray × J)) (hsm : smJ (.mk k y t js ms)) (hjs : ∀ (i : Nat) (j : J), js[i]? = some j → RtSays j) (hms : ∀ (i : Nat) (s : ByteArray) (j : J), ms[i]? = some (s, j) → RtSays j) : RtSays (.mk k y t js ms) := by
 intro k' y' t' A n c B m d H hj
 obtain ⟨rfl, rfl, rfl⟩ : k' = k ∧ y' = y ∧ t' = t := by cases hj; exact ⟨rfl, rfl, rfl⟩
 have hj0 := hj
 cases hj with
 | mk hn1 hx1 hv1 hn2 hx2 hv2 =>
 rename_i xs zs
 refine CallO.of_body tab Tryz.func170 rfl (nt := Tryz.f170.ntmps) rfl (by kernel_rfl) ?_
 (conv => whnf)
 refine ⟨⟨_, Tryz.func231, rfl, by kernel_rfl⟩, CallS.use (bare_ _ k' y' t' A n c B m d H hj0) [] rfl rfl trivial ?_⟩
 rintro e H5 G' hle6 ⟨rfl, rfl, rfl⟩
 have hrj : rightJ (.mk k' y' t' js ms) = (bareJ (.mk k' y' t' js ms) && (if k' = 1 then true else if k' = 2 then true else if k' = 3 then numericP t' else if k' = 4 then toldP t' else if k' = 5 then rightJs js else if k' = 6 then rightMs ms && noTwice (ms.map (·.1)) else false)) := by rw [rightJ]
 rw [hrj]
 simp only [smJ] at hsm
 obtain ⟨hts, hjl, hml, hsj, hsmm⟩ := hsm
 cases hb : bareJ (.mk k' y' t' js ms)
 all_goals (conv => whnf)
 ·exact ⟨rfl, .refl _, rfl⟩
 have leaf : ∀ (b : Bool) (e : SE) (H' : Hp) (G' : List SB), (if k' = 1 then true else if k' = 2 then true else if k' = 3 then numericP t' else if k' = 4 then toldP t' else if k' = 5 then rightJs js else if k' = 6 then rightMs ms && noTwice (ms.map (·.1)) else false) = b → e = .ret (pv (.bool b)) → H5.Le H' → G' = [] → e = .ret (pv (.bool (true && (if k' = 1 then true else if k' = 2 then true else if k' = 3 then numericP t' else if k' = 4 then toldP t' else if k' = 5 then rightJs js else if k' = 6 then rightMs ms && noTwice (ms.map (·.1)) else false)))) ∧ H5.Le H' ∧ G' = [] := by
  intro b e H' G' h1 h2 h3 h4
  rw [h1, Bool.true_and]
  exact ⟨h2, h3, h4⟩
 refine br.of (fun h1 => ?_) (fun h1 => ?_) <;> (conv => whnf)
 ·refine br.of (fun _ => ?_) (fun h => absurd (h1.symm.trans h) (by decide))
  simp only [beq_iff_eq] at h1
  (conv => whnf)
  exact leaf true _ _ _ (by rw [if_pos h1]) rfl (.refl _) rfl
 simp only [beq_eq_false_iff_ne, ne_eq] at h1
 refine br.of (fun h2 => ?_) (fun h2 => ?_) <;> (conv => whnf)
 ·simp only [beq_iff_eq] at h2
  exact leaf true _ _ _ (by rw [if_neg h1, if_pos h2]) rfl (.refl _) rfl
 simp only [beq_eq_false_iff_ne, ne_eq] at h2
 refine br.of (fun h3 => ?_) (fun h3 => ?_) <;> (conv => whnf)
 ·simp only [beq_iff_eq] at h3
  refine ⟨⟨_, Tryz.func232, rfl, by kernel_rfl⟩, CallS.use (numeric_ t' hts H5) [] rfl rfl trivial ?_⟩
  rintro e H6 G' hle7 ⟨rfl, rfl⟩
  (conv => whnf)
  exact leaf _ _ _ _ (by rw [if_neg h1, if_neg h2, if_pos h3]) rfl hle7 rfl
 simp only [beq_eq_false_iff_ne, ne_eq] at h3
 refine br.of (fun h4 => ?_) (fun h4 => ?_) <;> (conv => whnf)
 ·simp only [beq_iff_eq] at h4
  refine ⟨⟨_, Tryz.func233, rfl, by kernel_rfl⟩, CallS.use (told_ t' (by omega) H5) [] rfl rfl trivial ?_⟩
  rintro e H6 G' hle7 ⟨rfl, rfl⟩
  (conv => whnf)
  exact leaf _ _ _ _ (by rw [if_neg h1, if_neg h2, if_neg h3, if_pos h4]) rfl hle7 rfl
 simp only [beq_eq_false_iff_ne, ne_eq] at h4
 refine br.of (fun h5 => ?_) (fun h5 => ?_) <;> (conv => whnf)
 ·simp only [beq_iff_eq] at h5
  subst hn1
  refine ⟨⟨_, Tryz.func234, rfl, by kernel_rfl⟩, CallS.use (contains_ js hjl hjs A xs c H5 hx1 hv1) [] rfl rfl trivial ?_⟩
  rintro e H6 G' hle7 ⟨rfl, hle8, rfl⟩
  (conv => whnf)
  exact leaf _ _ _ _ (by rw [if_neg h1, if_neg h2, if_neg h3, if_neg h4, if_pos h5]) (by rw [Bool.not_not]; rfl) hle8 rfl
 simp only [beq_eq_false_iff_ne, ne_eq] at h5
 refine br.of (fun h6 => ?_) (fun h6 => ?_) <;> (conv => whnf)
 ·simp only [beq_iff_eq] at h6
  refine ⟨⟨_, Tryz.func236, rfl, by kernel_rfl⟩, CallS.use (named_ k' y' t' js ms hsmm hml hms A n c B m d H5 hj0) [] rfl rfl trivial ?_⟩
  rintro e H6 G' hle7 ⟨rfl, hle8, rfl⟩
  (conv => whnf)
  exact leaf _ _ _ _ (by rw [if_neg h1, if_neg h2, if_neg h3, if_neg h4, if_neg h5, if_pos h6]) rfl hle8 rfl
 simp only [beq_eq_false_iff_ne, ne_eq] at h6
 exact leaf _ _ _ _ (by rw [if_neg h1, if_neg h2, if_neg h3, if_neg h4, if_neg h5, if_neg h6]) rfl (.refl _) rfl
theorem right_ : ∀ (N : Nat) (j : J), SizeOf.sizeOf j < N → smJ j → RtSays j
 | 0, j, h, _ => by omega
 | N + 1, .mk k y t js ms, h, hsm => by
  have hs := hsm
  simp only [smJ] at hs
  refine right0 k y t js ms hsm (fun i j hi => right_ N j ?_ (smJs_get hs.2.2.2.1 hi)) (fun i s j hi => right_ N j ?_ (smMs_get hs.2.2.2.2 hi).2)
  ·have := List.sizeOf_lt_of_mem (List.mem_of_getElem? hi)
   simp only [J.mk.sizeOf_spec] at h
   omega
  ·have := List.sizeOf_lt_of_mem (List.mem_of_getElem? hi)
   simp only [J.mk.sizeOf_spec] at h
   simp only [Prod.mk.sizeOf_spec] at this
   omega
def printP (j : J) : ByteArray × Int := if rightJ j then (⟨(wrJ j).toArray⟩, 0) else (⟨#[]⟩, 10)
theorem print_ (j : J) (hsm : smJ j) (hlen : 6 * (wrJ j).length ≤ 8000000) (k : Int) (y : Bool) (t : ByteArray) (A : Option Addr) (n c : Nat) (B : Option Addr) (m d : Nat) (H : Hp) (hj : JAt H j [.int .i64 k, .bool y, .string t, .slice A n c, .slice B m d]) :
  CallO Tryz.prog 106 [agJ k y t A n c B m d] H [] fun e H' G' => e = .ret (.tu [.ce (.val (.string (printP j).1)), .ce (.val (.int .i64 (printP j).2))]) ∧ H.Le H' ∧ G' = [] := by
 refine CallO.of_body tab Tryz.func106 rfl (nt := Tryz.f106.ntmps) rfl (by kernel_rfl) ?_
 (conv => whnf)
 refine ⟨⟨_, Tryz.func170, rfl, by kernel_rfl⟩, CallS.use (right_ _ j (Nat.lt_succ_self _) hsm k y t A n c B m d H hj) [] rfl rfl trivial ?_⟩
 rintro e H5 G' hle6 ⟨rfl, hle7, rfl⟩
 unfold printP
 cases hr : rightJ j
 all_goals (conv => whnf)
 ·exact ⟨rfl, hle7, rfl⟩
 refine ⟨⟨_, Tryz.func171, rfl, by kernel_rfl⟩, CallS.nilIn 1 1 5 1 rfl rfl (CallS.use ((Wr.write_ _ j (Nat.lt_succ_self _) hr).use false [] (by simpa using hlen) (hj.mono hle7)) [1, 2] rfl rfl ⟨rfl, rfl, trivial⟩ ?_)⟩
 rintro e H6 G' hle8 ⟨rfl, hle9, rfl⟩
 (conv => whnf)
 refine ⟨⟨_, Tryz.func169, rfl, by kernel_rfl⟩, CallS.use (string_ true ([] ++ wrJ j) (by simp only [List.nil_append]; omega) H6) [1, 3] rfl rfl ⟨rfl, rfl, trivial⟩ ?_⟩
 rintro e H7 G' hle10 ⟨rfl, rfl, hG⟩
 rcases hG with rfl | rfl
 all_goals
  (conv => whnf)
  exact ⟨rfl, hle7.trans hle9, rfl⟩
end Go.Kx.Rt
namespace Go.Proofs
open Go.Shelf
def Tryz.laysItoa_ren : Go.Shelf.Ren := ⟨fun | 171 => 84 | 243 => 139 | 246 => 200 | 283 => 269 | 284 => 270 | 285 => 271 | 286 => 272 | 129 => 316 | 317 => 315 | 318 => 317 | 319 => 318 | 320 => 319 | 337 => 349 | 338 => 350 | n => n, fun | 3 => 3 | 9 => 9 | 2 => 2 | 4 => 4 | 171 => 342 | 0 => 0 | 53 => 304 | 37 => 94 | 5 => 5 | 173 => 345 | 212 => 384 | 51 => 279 | 20 => 20 | 213 => 385 | 46 => 284 | 232 => 430 | 233 => 431 | n => n, fun | 17 => 2 | 18 => 6 | 19 => 7 | n => n⟩
theorem Tryz.laysItoa : Go.Proofs.LaysM.n171 Tryz.prog Tryz.laysItoa_ren where
 mixed := by kernel_rfl
 f129 := Tryz.func316.trans (congrArg some (by kernel_rfl))
 f171 := Tryz.func84.trans (congrArg some (by kernel_rfl))
 f243 := Tryz.func139.trans (congrArg some (by kernel_rfl))
 f246 := Tryz.func200.trans (congrArg some (by kernel_rfl))
 f283 := Tryz.func269.trans (congrArg some (by kernel_rfl))
 f284 := Tryz.func270.trans (congrArg some (by kernel_rfl))
 f285 := Tryz.func271.trans (congrArg some (by kernel_rfl))
 f286 := Tryz.func272.trans (congrArg some (by kernel_rfl))
 f317 := Tryz.func315.trans (congrArg some (by kernel_rfl))
 f318 := Tryz.func317.trans (congrArg some (by kernel_rfl))
 f319 := Tryz.func318.trans (congrArg some (by kernel_rfl))
 f320 := Tryz.func319.trans (congrArg some (by kernel_rfl))
 f337 := Tryz.func349.trans (congrArg some (by kernel_rfl))
 f338 := Tryz.func350.trans (congrArg some (by kernel_rfl))
 t0 := Tryz.underlying0
 a0 := Tryz.isAgg0
 z0 := Tryz.sizeOf0
 v0 := Tryz.zeroValue0
 t2 := Tryz.underlying2
 a2 := Tryz.isAgg2
 z2 := Tryz.sizeOf2
 v2 := Tryz.zeroValue2
 t3 := Tryz.underlying3
 a3 := Tryz.isAgg3
 z3 := Tryz.sizeOf3
 v3 := Tryz.zeroValue3
 t4 := Tryz.underlying4
 a4 := Tryz.isAgg4
 z4 := Tryz.sizeOf4
 v4 := Tryz.zeroValue4
 t5 := Tryz.underlying5
 a5 := Tryz.isAgg5
 z5 := Tryz.sizeOf5
 v5 := Tryz.zeroValue5
 t9 := Tryz.underlying9
 a9 := Tryz.isAgg9
 z9 := Tryz.sizeOf9
 v9 := Tryz.zeroValue9
 t20 := Tryz.underlying20
 a20 := Tryz.isAgg20
 z20 := Tryz.sizeOf20
 v20 := Tryz.zeroValue20
 t37 := Tryz.underlying94
 a37 := Tryz.isAgg94
 z37 := Tryz.sizeOf94
 v37 := Tryz.zeroValue94
 t46 := Tryz.underlying284
 a46 := Tryz.isAgg284
 z46 := Tryz.sizeOf284
 v46 := Tryz.zeroValue284
 t51 := Tryz.underlying279
 a51 := Tryz.isAgg279
 z51 := Tryz.sizeOf279
 v51 := Tryz.zeroValue279
 t53 := Tryz.underlying304
 a53 := Tryz.isAgg304
 z53 := Tryz.sizeOf304
 v53 := Tryz.zeroValue304
 t171 := Tryz.underlying342
 a171 := Tryz.isAgg342
 z171 := Tryz.sizeOf342
 v171 := Tryz.zeroValue342
 t173 := Tryz.underlying345
 a173 := Tryz.isAgg345
 z173 := Tryz.sizeOf345
 v173 := Tryz.zeroValue345
 t212 := Tryz.underlying384
 a212 := Tryz.isAgg384
 z212 := Tryz.sizeOf384
 v212 := Tryz.zeroValue384
 t213 := Tryz.underlying385
 a213 := Tryz.isAgg385
 z213 := Tryz.sizeOf385
 t232 := Tryz.underlying430
 a232 := Tryz.isAgg430
 z232 := Tryz.sizeOf430
 v232 := Tryz.zeroValue430
 t233 := Tryz.underlying431
 a233 := Tryz.isAgg431
 z233 := Tryz.sizeOf431
 v233 := Tryz.zeroValue431
 g17 := by kernel_rfl
 g18 := by kernel_rfl
 g19 := by kernel_rfl
 i0 := by kernel_rfl
 i2 := by kernel_rfl
 i3 := by kernel_rfl
 i4 := by kernel_rfl
 i5 := by kernel_rfl
 i9 := by kernel_rfl
 i20 := by kernel_rfl
 i37 := by kernel_rfl
 i46 := by kernel_rfl
 i51 := by kernel_rfl
 i53 := by kernel_rfl
 i171 := by kernel_rfl
 i173 := by kernel_rfl
 i212 := by kernel_rfl
 i232 := by kernel_rfl
 i233 := by kernel_rfl
 m17 := by kernel_rfl
 m18 := by kernel_rfl
 m19 := by kernel_rfl

end Go.Proofs
namespace Go.Kx.Lb
open Go.Proofs Go.Kx Go.RowKit
set_option maxRecDepth 20000

def itoaB (n : Int) : ByteArray := ⟨(Lib.itoa n).toArray⟩
theorem tabIs {w : World} (h : GlW w) : Lib.TabIs Tryz.prog w "internal/strconv.uint64pow10" .u64 Lib.pow10Tab := by
 obtain ⟨t, z, h1⟩ := h 2 pow10Cells.toArray rfl
 have hg : Tryz.prog.globalNamed "internal/strconv.uint64pow10" = some 2 := Tryz.laysItoa.m17
 unfold Lib.TabIs World.var?
 rw [hg]
 simp only [Option.bind_some, h1]
 rfl
theorem itoa (n : Int) (h0 : -9223372036854775808 ≤ n) (h1 : n ≤ 9223372036854775807) (H : Hp) (G : List SB) : CallO Tryz.prog 84 [pv (.int .i64 n)] H G fun e H' G' => e = .ret (pv (.string (itoaB n))) ∧ H' = H ∧ G' = G := by
 refine (CallO.of_calls (args := [.int .i64 n]) (R := fun v => v = .string (itoaB n)) fun w hg _ => ?_).mono ?_
 ·refine (Any.strconv_Itoa Tryz.laysItoa n h0 h1 w (tabIs hg)).mono fun e w' ⟨he, k, os, hw⟩ => ⟨_, he, rfl, ?_⟩
  subst hw
  exact ⟨rfl, rfl, rfl, by simp [«Sort».grow, World.drewN], fun j hj _ => by simp [«Sort».grow, World.drewN, Array.getElem?_append_left hj]⟩
 ·rintro e H' G' hle ⟨v, rfl, rfl, rfl, rfl⟩
  exact ⟨rfl, rfl, rfl⟩
theorem decDigits_big {u : Nat} (h : ¬ u < 10) : Lib.decDigits u = Lib.decDigits (u / 10) ++ [UInt8.ofNat (48 + u % 10)] := by rw [Lib.decDigits, dif_neg h]
theorem parse_snoc (c : UInt8) (d : Nat) (hc : c.toNat = 48 + d) (hd : d < 10) : ∀ (l : List UInt8) (acc v : Nat), Lib.parseUint10 acc l = .ok v → v < 922337203685477580 → Lib.parseUint10 acc (l ++ [c]) = .ok (v * 10 + d)
 | [], acc, v, h, hv => by
  simp only [Lib.parseUint10] at h
  injection h with h
  subst h
  simp only [List.nil_append, Lib.parseUint10]
  rw [if_pos (by omega), if_neg (by omega), if_neg (by omega), hc]
  congr 1; omega
 | b :: r, acc, v, h, hv => by
  simp only [List.cons_append, Lib.parseUint10] at h ⊢
  split at h
  ·rename_i h1
   rw [if_pos h1]
   split at h
   ·cases h
   ·rename_i h2
    rw [if_neg h2]
    split at h
    ·cases h
    ·rename_i h3
     rw [if_neg h3]
     exact parse_snoc c d hc hd r _ v h hv
  ·cases h
theorem parse_dec (u : Nat) (hu : u < 9000000000000000000) : Lib.parseUint10 0 (Lib.decDigits u) = .ok u := by
 induction u using Nat.strongRecOn with
 | _ u ih =>
  by_cases h : u < 10
  ·rw [Lib.decDigits_one h]
   have := parse_snoc (UInt8.ofNat (48 + u)) u (by rw [UInt8.toNat_ofNat']; omega) h [] 0 0 rfl (by omega)
   simpa using this
  ·rw [decDigits_big h]
   have := parse_snoc (UInt8.ofNat (48 + u % 10)) (u % 10) (by rw [UInt8.toNat_ofNat']; omega) (by omega) _ 0 (u / 10) (ih (u / 10) (by omega) (by omega)) (by omega)
   rw [this]
   congr 1; omega
theorem decDigits_ne (u : Nat) : Lib.decDigits u ≠ [] := by
 by_cases h : u < 10
 ·rw [Lib.decDigits_one h]; simp
 ·rw [decDigits_big h]; simp
theorem decDigits_head (u : Nat) : ∃ c r, Lib.decDigits u = c :: r ∧ 48 ≤ c.toNat ∧ c.toNat ≤ 57 := by
 induction u using Nat.strongRecOn with
 | _ u ih =>
  by_cases h : u < 10
  ·exact ⟨_, [], Lib.decDigits_one h, by rw [UInt8.toNat_ofNat']; omega, by rw [UInt8.toNat_ofNat']; omega⟩
  ·obtain ⟨c, r, h1, h2, h3⟩ := ih (u / 10) (by omega)
   exact ⟨c, _, by rw [decDigits_big h, h1]; rfl, h2, h3⟩
theorem atoi_dec (u : Nat) (hu : u < 9000000000000000000) : Lib.atoiAll (Lib.decDigits u) = .ok (u : Int) := by
 have hp := parse_dec u hu
 obtain ⟨c, r, h1, h2, h3⟩ := decDigits_head u
 rw [h1] at hp ⊢
 unfold Lib.atoiAll
 simp only [if_neg (show ¬ (c.toNat = 43 ∨ c.toNat = 45) by omega)]
 unfold Lib.parseMag
 rw [if_neg (by simp), hp]
 simp only [show ¬ (c.toNat = 45) by omega]
 rw [if_neg (by omega), if_neg (by simp), if_neg (by simp)]
end Go.Kx.Lb
namespace Go.Kx.Ob
open Go.Proofs Go.Kx Go.RowKit Go.Kx.Js Go.Kx.Pr Go.Kx.Rt
set_option maxRecDepth 20000
set_option linter.unusedSimpArgs false
def T : Tab := [(114, { k := TK.st [(0, 3, 1), (1, 4, 1), (2, 9, 1), (3, 111, 1), (4, 112, 1)], agg := true, size := 5, bytes := 80, zero := [Z.i IntKind.i64, Z.b, Z.s, Z.sl, Z.sl] }), (313, { k := TK.st [(0, 9, 1), (1, 114, 5)], agg := true, size := 6, bytes := 96, zero := [Z.s, Z.i IntKind.i64, Z.b, Z.s, Z.sl, Z.sl] }), (9, { k := TK.string, agg := false, size := 1, bytes := 16, zero := [Z.s] }), (3, { k := TK.int IntKind.i64, agg := false, size := 1, bytes := 8, zero := [Z.i IntKind.i64] }), (4, { k := TK.bool, agg := false, size := 1, bytes := 1, zero := [Z.b] }), (2, { k := TK.int IntKind.i64, agg := false, size := 1, bytes := 8, zero := [Z.i IntKind.i64] }), (149, { k := TK.ifc, agg := false, size := 1, bytes := 16, zero := [Z.ifc] }), (112, { k := TK.slice 313, agg := false, size := 1, bytes := 24, zero := [Z.sl] }), (111, { k := TK.slice 114, agg := false, size := 1, bytes := 24, zero := [Z.sl] })]
set_option maxRecDepth 100000 in
theorem tab : TabOk Tryz.prog T := tabOk_mk (ts := [114, 313, 9, 3, 4, 2, 149, 112, 111]) (by kernel_rfl)
theorem mixed : Tryz.prog.follows .mixedOrders = true := by kernel_rfl
def strJ (s : ByteArray) : J := .mk 4 false s [] []
def numJ (n : Int) : J := .mk 3 false (Lb.itoaB n) [] []
def objJ (ms : List (ByteArray × J)) : J := .mk 6 false ⟨#[]⟩ [] ms
theorem RdV.nil (H : Hp) : RdV H none [] := by
 exact ⟨fun _ => rfl, fun a e => (nomatch e)⟩
theorem ones_J {H : Hp} {j : J} {cs : List Value} (h : JAt H j cs) : ∀ u ∈ cs, u.oneCell' = true := by
 obtain ⟨A, n, c, B, m, d, rfl⟩ := h.cells
 intro u hu
 simp only [List.mem_cons, List.mem_nil_iff, or_false] at hu
 rcases hu with rfl | rfl | rfl | rfl | rfl <;> rfl
theorem ones_Ms {H : Hp} : ∀ {ms : List (ByteArray × J)} {zs : List Value}, MsAt H ms zs → ∀ u ∈ zs, u.oneCell' = true
 | _, _, .nil => fun u hu => by simp at hu
 | _, _, .cons h1 h2 => fun u hu => by
  rcases List.mem_append.1 hu with hu | hu
  ·rcases List.mem_cons.1 hu with rfl | hu
   ·rfl
   ·exact ones_J h1 u hu
  ·exact ones_Ms h2 u hu
theorem str_ (s : ByteArray) (H : Hp) : CallO Tryz.prog 58 [pv (.string s)] H [] fun e H' G' => e = .ret (agJ 4 false s none 0 0 none 0 0) ∧ H' = H ∧ G' = [] := by
 refine CallO.of_body tab Tryz.func58 rfl (nt := Tryz.f58.ntmps) rfl (by kernel_rfl) ?_
 (conv => whnf)
 exact ⟨rfl, rfl, rfl⟩
theorem num_ (n : Int) (h0 : -9223372036854775808 ≤ n) (h1 : n ≤ 9223372036854775807) (H : Hp) : CallO Tryz.prog 62 [pv (.int .i64 n)] H [] fun e H' G' => e = .ret (agJ 3 false (Lb.itoaB n) none 0 0 none 0 0) ∧ H' = H ∧ G' = [] := by
 refine CallO.of_body tab Tryz.func62 rfl (nt := Tryz.f62.ntmps) rfl (by kernel_rfl) ?_
 (conv => whnf)
 refine ⟨⟨_, Tryz.func84, rfl, by kernel_rfl⟩, CallS.use (Lb.itoa n h0 h1 H []) [] rfl rfl trivial ?_⟩
 rintro e H1 G' hle1 ⟨rfl, rfl, rfl⟩
 (conv => whnf)
 exact ⟨rfl, rfl, rfl⟩
theorem clone0 (A : Option Addr) (n c : Nat) (zs : List Value) (hz : zs.length = n * 6) (hone : ∀ u ∈ zs, u.oneCell' = true) (h0 : 0 < n) (hn : n ≤ 1000000) (H : Hp) (hv : RdV H A zs) :
  CallO Tryz.prog 309 [pv (.slice A n c)] H [] fun e _ G' => e = .ret (.si (.ce (.self 0))) ∧ G' = [.row 313 6 n zs] := by
 refine CallO.of_body tab Tryz.func309 rfl (nt := Tryz.f309.ntmps) rfl (by kernel_rfl) ?_
 (conv => whnf)
 cases A with
 | none =>
  have := hv.1 rfl
  rw [this] at hz
  simp at hz
  omega
 | some a =>
  (conv => whnf)
  refine ⟨by decide, .inl ?_⟩
  intro g H2 hle hrd
  (conv => whnf)
  refine ⟨zs, hz, (hv.2 a rfl).mono hle, hone, fun h => absurd h (by omega), fun _ => ⟨rfl, [], rfl, hrd, ?_, ?_⟩⟩
  ·show (0 + n) * 97 ≤ _
   omega
  (conv => whnf)
  exact ⟨rfl, by rw [Nat.zero_add]; rfl⟩
theorem cloneNil (H : Hp) : CallO Tryz.prog 309 [pv (.slice none 0 0)] H [] fun e H' G' => e = .ret (pv (.slice none 0 0)) ∧ H' = H ∧ G' = [] := by
 refine CallO.of_body tab Tryz.func309 rfl (nt := Tryz.f309.ntmps) rfl (by kernel_rfl) ?_
 (conv => whnf)
 exact ⟨rfl, rfl, rfl⟩
theorem obj_ (ms : List (ByteArray × J)) (hml : ms.length ≤ 1000000) (A : Option Addr) (c : Nat) (zs : List Value) (H : Hp) (hm : MsAt H ms zs) (hv : RdV H A zs) (h0 : 0 < ms.length) :
  CallO Tryz.prog 261 [pv (.slice A ms.length c)] H [] fun e H' G' => (∃ B d, e = .ret (agJ 6 false ⟨#[]⟩ none 0 0 B ms.length d) ∧ JAt H' (objJ ms) [.int .i64 6, .bool false, .string ⟨#[]⟩, .slice none 0 0, .slice B ms.length d]) ∧ G' = [] := by
 have hcl : CallO Tryz.prog 309 [pv (.slice A ms.length c)] H [] fun e H' G' => (∃ B d, e = .ret (pv (.slice B ms.length d)) ∧ RdV H' B zs) ∧ G' = [] := by
  refine CallO.sub (CallO.frz (K := fun e H' G' => (∃ B d, e = .ret (pv (.slice B ms.length d)) ∧ RdV H' B zs) ∧ G' = [.dead]) (clone0 A ms.length c zs hm.length (ones_Ms hm) h0 hml H hv) ?_) ?_
  ·rintro e H' G' hle ⟨rfl, rfl⟩
   refine ⟨0, 313, 6, _, _, rfl, fun hz => absurd hz (by omega), fun x H2 hle2 hfr => ?_⟩
   rcases hfr with ⟨rfl, h1, h2⟩ | ⟨g, o, cap, rfl, _, h2⟩
   ·omega
   ·exact ⟨⟨_, cap, rfl, fun e => (nomatch e), fun a e => by injection e with e; subst e; exact h2⟩, rfl⟩
  ·rintro e H' G' hle ⟨⟨B, d, rfl, hv⟩, rfl⟩
   exact ⟨_, [], [], rfl, trivial, rfl, ⟨B, d, rfl, hv⟩, rfl⟩
 refine CallO.of_body tab Tryz.func261 rfl (nt := Tryz.f261.ntmps) rfl (by kernel_rfl) ?_
 (conv => whnf)
 refine ⟨⟨_, Tryz.func309, rfl, by kernel_rfl⟩, CallS.use hcl [] rfl rfl trivial ?_⟩
 rintro e H1 G' hle1 ⟨⟨B, d, rfl, hv1⟩, rfl⟩
 (conv => whnf)
 exact ⟨⟨B, d, rfl, .mk rfl .nil (RdV.nil _) rfl (hm.mono hle1) hv1⟩, rfl⟩
theorem objNil (H : Hp) : CallO Tryz.prog 261 [pv (.slice none 0 0)] H [] fun e H' G' => e = .ret (agJ 6 false ⟨#[]⟩ none 0 0 none 0 0) ∧ H' = H ∧ G' = [] := by
 refine CallO.of_body tab Tryz.func261 rfl (nt := Tryz.f261.ntmps) rfl (by kernel_rfl) ?_
 (conv => whnf)
 refine ⟨⟨_, Tryz.func309, rfl, by kernel_rfl⟩, CallS.use (cloneNil H) [] rfl rfl trivial ?_⟩
 rintro e H1 G' hle1 ⟨rfl, rfl, rfl⟩
 (conv => whnf)
 exact ⟨rfl, rfl, rfl⟩
end Go.Kx.Ob
