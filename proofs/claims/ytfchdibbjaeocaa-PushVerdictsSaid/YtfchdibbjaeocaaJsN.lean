/- Values as texts: arrays and objects. No condition of its own. -/
import Derived.Test.YtfchdibbjaeocaaJsM
namespace Go.Kx
section
variable {P : Program}
/-- A nil cell told as an empty row, ahead of a call. -/
theorem CallO.nilIn {f : FuncId} {svs : List SV} {H : Hp} {G : List SB} {K : SE → Hp → List SB → Prop} (k i : Nat) {t : TypeId} {cs : List SC} (et sz : Nat) (hk : G[k]? = some (.box t cs)) (hi : cs[i]? = some (.val (.slice none 0 0)))
    (h : CallO P f svs H (G.set k (.box t (cs.set i (.self G.length))) ++ [.row et sz 0 []]) K) : CallO P f svs H G K := by
  intro w0 M hgd H0 ρ w vs hs hv
  refine (h w0 M hgd H0 _ w vs (hs.nilCell et sz hk hi) (hv.mono fun _ _ => SV.Is.mono (Pre.append _ _))).mono fun e w' he => ?_
  cases e with
  | returned v => obtain ⟨sv, ρ', H', G', h1, h2, h3, h4, h5⟩ := he; exact ⟨sv, ρ', H', G', h1, (Pre.append _ _).trans h2, h3, h4, h5⟩
  | panicked ch => obtain ⟨ρ', H', G', h1, h2, h4, h5⟩ := he; exact ⟨ρ', H', G', h1, (Pre.append _ _).trans h2, h4, h5⟩
  | outgrown => exact he
theorem CallS.nilIn {f : FuncId} {svs : List SV} {H : Hp} {G : List SB} {K : SE → Hp → List SB → Prop} (k i : Nat) {t : TypeId} {cs : List SC} (et sz : Nat) (hk : G[k]? = some (.box t cs)) (hi : cs[i]? = some (.val (.slice none 0 0)))
    (h : CallS P f svs H (G.set k (.box t (cs.set i (.self G.length))) ++ [.row et sz 0 []]) K) : CallS P f svs H G K := ⟨CallO.nilIn k i et sz hk hi h.to⟩
end
end Go.Kx
namespace Go.Kx.Js
open Go.Proofs Go.Kx Go.RowKit
set_option maxRecDepth 20000
def arrP (val : List UInt8 → Res J) (l : List UInt8) : Res (List J) := (enterP 91 l).bind fun _ r => rowP (elP val) 93 (r.length + 1) true [] r
def objP (val : List UInt8 → Res J) (l : List UInt8) : Res Ms := (enterP 123 l).bind fun _ r => rowP (memP val) 125 (r.length + 1) true [] r
def agA (c : SC) : SV := .si (.ag [.val (.int .i64 5), .val (.bool false), .val (.string ⟨#[]⟩), c, .val (.slice none 0 0)])
def agO (c : SC) : SV := .si (.ag [.val (.int .i64 6), .val (.bool false), .val (.string ⟨#[]⟩), .val (.slice none 0 0), c])
def OutA0 (s : ByteArray) (d o : Int) (res : Res (List J)) (e : SE) (H' : Hp) (G' : List SB) : Prop :=
  match res with
  | .ok js r => Sfx r (tL s) ∧ ∃ xs, JsAt H' js xs ∧ ((e = .ret (agA (.self 4)) ∧ G' = [rdB s r d o, rB, vA (.self 4), vA (.self 4), rowA js xs]) ∨ (e = .ret (agA (.self 5)) ∧ G' = [rdB s r d o, rB, vA (.self 5), vA (.self 5), .dead, rowA js xs]) ∨ (e = .ret (agA (.self 6)) ∧ G' = [rdB s r d o, rB, vA (.self 6), vA (.self 6), .dead, .dead, rowA js xs]))
  | .no er r => e = .pan [{ v := faultV er (pos s r), recovered := false }] ∧ ∃ l' o', G' = [rdB s l' d o']
theorem array0 (s : ByteArray) (hs : s.size ≤ 190000) (d o : Int) (ho : 0 ≤ o ∧ o ≤ 900) (val : List UInt8 → Res J) (hv : VSays s d (o + 1) val) (hvs : ∀ x l y r, elP val x l = .ok y r → Sfx r l ∧ List.length y = List.length x + 1) (l : List UInt8) (hl : Sfx l (tL s)) (H : Hp) (hod : o ≠ d) :
    CallO Try.prog 33 [me] H [rdB s l d o] fun e H' G' => OutA0 s d o (arrP val l) e H' G' := by
  refine CallO.of_body tab Try.func33 rfl (nt := Try.f33.ntmps) rfl (by kernel_rfl) ?_
  (conv => whnf)
  refine ⟨⟨_, Try.func44, rfl, by kernel_rfl⟩, CallS.use (enter_ 91 (by decide) s l hl (by omega) d o (by omega) H) [0] rfl rfl ⟨rfl, trivial⟩ ?_⟩
  rintro e H2 G' hle2 ⟨rfl, _, hout⟩
  replace hout := hout hod
  unfold arrP
  cases hen : enterP 91 l with
  | no er r =>
    rw [hen] at hout
    obtain ⟨rfl, l2, o2, rfl⟩ := hout
    (conv => whnf)
    exact ⟨rfl, l2, o2, rfl⟩
  | ok u l1 =>
    rw [hen] at hout
    obtain ⟨hl1, ⟨sv, rfl, rfl⟩, rfl⟩ := hout
    (conv => whnf)
    refine ⟨⟨_, Try.func45, rfl, by kernel_rfl⟩, CallS.nilIn 3 3 27 5 rfl rfl (CallS.use (rowA_ s hs d (o + 1) (by omega) val hv hvs l1 hl1 _) [0, 1, 3, 4] rfl rfl ⟨rfl, rfl, rfl, rfl, trivial⟩ ?_)⟩
    intro e H3 G' hle3 hout
    cases hrow : rowP (elP val) 93 (l1.length + 1) true [] l1 with
    | no er r =>
      have hgo : ∀ (e : SE) (H' : Hp) (G' : List SB), OutA0 s d o (.no er r) e H' G' → OutA0 s d o ((Res.ok u l1).bind fun _ r => rowP (elP val) 93 (r.length + 1) true [] r) e H' G' := fun e H' G' h => by
        show OutA0 s d o (rowP (elP val) 93 (l1.length + 1) true [] l1) e H' G'
        rw [hrow]; exact h
      rw [hrow] at hout
      obtain ⟨rfl, l2, o2, q, js', xs', rfl⟩ := hout
      match q with
      | 0 => (conv => whnf); exact hgo _ _ _ ⟨rfl, l2, o2, rfl⟩
      | 1 => (conv => whnf); exact hgo _ _ _ ⟨rfl, l2, o2, rfl⟩
      | _ + 2 => (conv => whnf); exact hgo _ _ _ ⟨rfl, l2, o2, rfl⟩
    | ok js r =>
      have hgo : ∀ (e : SE) (H' : Hp) (G' : List SB), OutA0 s d o (.ok js r) e H' G' → OutA0 s d o ((Res.ok u l1).bind fun _ r => rowP (elP val) 93 (r.length + 1) true [] r) e H' G' := fun e H' G' h => by
        show OutA0 s d o (rowP (elP val) 93 (l1.length + 1) true [] l1) e H' G'
        rw [hrow]; exact h
      rw [hrow] at hout
      obtain ⟨hr, rfl, xs, q, hx, rfl⟩ := hout
      have ho1 : o + 1 - 1 = o := by omega
      rw [ho1]
      match q with
      | 0 => (conv => whnf); exact hgo _ _ _ ⟨hr, xs, hx, .inl ⟨rfl, rfl⟩⟩
      | 1 => (conv => whnf); exact hgo _ _ _ ⟨hr, xs, hx, .inr (.inl ⟨rfl, rfl⟩)⟩
      | _ + 2 => (conv => whnf); exact hgo _ _ _ ⟨hr, xs, hx, .inr (.inr ⟨rfl, rfl⟩)⟩
theorem array_ (s : ByteArray) (hs : s.size ≤ 190000) (d o : Int) (ho : 0 ≤ o ∧ o ≤ 900) (val : List UInt8 → Res J) (hv : VSays s d (o + 1) val) (hvs : ∀ x l y r, elP val x l = .ok y r → Sfx r l ∧ List.length y = List.length x + 1) (l : List UInt8) (hl : Sfx l (tL s)) (H : Hp) (hod : o ≠ d) :
    CallO Try.prog 33 [me] H [rdB s l d o] fun e H' G' => Out s d o RJ ((arrP val l).bind fun js r => .ok (jArr js) r) e H' G' := by
  refine CallO.sub (K0 := fun e H' G' => match arrP val l with
    | .ok js r => Sfx r (tL s) ∧ (∃ sv, e = .ret sv ∧ RJ H' (jArr js) sv) ∧ ∃ L, G' = rdB s r d o :: L
    | .no er r => e = .pan [{ v := faultV er (pos s r), recovered := false }] ∧ ∃ l' o', G' = [rdB s l' d o']) (CallO.frz (array0 s hs d o ho val hv hvs l hl H hod) ?_) ?_
  · intro e H' G' hle hout
    cases hp : arrP val l with
    | no er r =>
      rw [hp] at hout
      obtain ⟨rfl, l2, o2, rfl⟩ := hout
      exact ⟨rfl, l2, o2, rfl⟩
    | ok js r =>
      rw [hp] at hout
      obtain ⟨hr, xs, hx, hcase⟩ := hout
      have h0 : List.length js = 0 → xs = [] := fun h => List.eq_nil_of_length_eq_zero (by rw [hx.length, h])
      have key : ∀ (x : Value) (H2 : Hp), H'.Le H2 → Frozen H2 x (List.length js) xs → RJ H2 (jArr js) (agA (.val x)) := fun x H2 hle2 hfr => by
        obtain ⟨A, c, rfl, hrv⟩ := RdV.of_frozen hfr
        exact ⟨5, false, ⟨#[]⟩, A, js.length, c, none, 0, 0, rfl, .mk rfl (hx.mono hle2) hrv rfl .nil (.nil _)⟩
      rcases hcase with ⟨rfl, rfl⟩ | ⟨rfl, rfl⟩ | ⟨rfl, rfl⟩
      · exact ⟨4, _, _, _, _, rfl, h0, fun x H2 hle2 hfr => ⟨hr, ⟨_, rfl, key x H2 hle2 hfr⟩, _, rfl⟩⟩
      · exact ⟨5, _, _, _, _, rfl, h0, fun x H2 hle2 hfr => ⟨hr, ⟨_, rfl, key x H2 hle2 hfr⟩, _, rfl⟩⟩
      · exact ⟨6, _, _, _, _, rfl, h0, fun x H2 hle2 hfr => ⟨hr, ⟨_, rfl, key x H2 hle2 hfr⟩, _, rfl⟩⟩
  · intro e H' G' hle hout
    cases hp : arrP val l with
    | no er r =>
      rw [hp] at hout
      obtain ⟨rfl, l2, o2, rfl⟩ := hout
      exact ⟨rfl, l2, o2, rfl⟩
    | ok js r =>
      rw [hp] at hout
      obtain ⟨hr, ⟨sv, rfl, k, y, t, A, n, c, B, m, f, rfl, hj⟩, L, rfl⟩ := hout
      exact ⟨agJ k y t A n c B m f, [rdB s r d o], [0], rfl, ⟨rfl, trivial⟩, rfl, hr, ⟨_, rfl, k, y, t, A, n, c, B, m, f, rfl, hj⟩, rfl⟩
def OutO0 (s : ByteArray) (d o : Int) (res : Res (List (ByteArray × J))) (e : SE) (H' : Hp) (G' : List SB) : Prop :=
  match res with
  | .ok js r => Sfx r (tL s) ∧ ∃ xs, MsAt H' js xs ∧ ((e = .ret (agO (.self 4)) ∧ G' = [rdB s r d o, rB, vO (.self 4), vO (.self 4), rowO js xs]) ∨ (e = .ret (agO (.self 5)) ∧ G' = [rdB s r d o, rB, vO (.self 5), vO (.self 5), .dead, rowO js xs]) ∨ (e = .ret (agO (.self 6)) ∧ G' = [rdB s r d o, rB, vO (.self 6), vO (.self 6), .dead, .dead, rowO js xs]))
  | .no er r => e = .pan [{ v := faultV er (pos s r), recovered := false }] ∧ ∃ l' o', G' = [rdB s l' d o']
theorem object0 (s : ByteArray) (hs : s.size ≤ 190000) (d o : Int) (ho : 0 ≤ o ∧ o ≤ 900) (val : List UInt8 → Res J) (hv : VSays s d (o + 1) val) (hvs : ∀ x l y r, memP val x l = .ok y r → Sfx r l ∧ List.length y = List.length x + 1) (l : List UInt8) (hl : Sfx l (tL s)) (H : Hp) (hod : o ≠ d) :
    CallO Try.prog 34 [me] H [rdB s l d o] fun e H' G' => OutO0 s d o (objP val l) e H' G' := by
  refine CallO.of_body tab Try.func34 rfl (nt := Try.f34.ntmps) rfl (by kernel_rfl) ?_
  (conv => whnf)
  refine ⟨⟨_, Try.func44, rfl, by kernel_rfl⟩, CallS.use (enter_ 123 (by decide) s l hl (by omega) d o (by omega) H) [0] rfl rfl ⟨rfl, trivial⟩ ?_⟩
  rintro e H2 G' hle2 ⟨rfl, _, hout⟩
  replace hout := hout hod
  unfold objP
  cases hen : enterP 123 l with
  | no er r =>
    rw [hen] at hout
    obtain ⟨rfl, l2, o2, rfl⟩ := hout
    (conv => whnf)
    exact ⟨rfl, l2, o2, rfl⟩
  | ok u l1 =>
    rw [hen] at hout
    obtain ⟨hl1, ⟨sv, rfl, rfl⟩, rfl⟩ := hout
    (conv => whnf)
    refine ⟨⟨_, Try.func45, rfl, by kernel_rfl⟩, CallS.nilIn 3 4 56 6 rfl rfl (CallS.use (rowO_ s hs d (o + 1) (by omega) val hv hvs l1 hl1 _) [0, 1, 3, 4] rfl rfl ⟨rfl, rfl, rfl, rfl, trivial⟩ ?_)⟩
    intro e H3 G' hle3 hout
    cases hrow : rowP (memP val) 125 (l1.length + 1) true [] l1 with
    | no er r =>
      have hgo : ∀ (e : SE) (H' : Hp) (G' : List SB), OutO0 s d o (.no er r) e H' G' → OutO0 s d o ((Res.ok u l1).bind fun _ r => rowP (memP val) 125 (r.length + 1) true [] r) e H' G' := fun e H' G' h => by
        show OutO0 s d o (rowP (memP val) 125 (l1.length + 1) true [] l1) e H' G'
        rw [hrow]; exact h
      rw [hrow] at hout
      obtain ⟨rfl, l2, o2, q, js', xs', rfl⟩ := hout
      match q with
      | 0 => (conv => whnf); exact hgo _ _ _ ⟨rfl, l2, o2, rfl⟩
      | 1 => (conv => whnf); exact hgo _ _ _ ⟨rfl, l2, o2, rfl⟩
      | _ + 2 => (conv => whnf); exact hgo _ _ _ ⟨rfl, l2, o2, rfl⟩
    | ok js r =>
      have hgo : ∀ (e : SE) (H' : Hp) (G' : List SB), OutO0 s d o (.ok js r) e H' G' → OutO0 s d o ((Res.ok u l1).bind fun _ r => rowP (memP val) 125 (r.length + 1) true [] r) e H' G' := fun e H' G' h => by
        show OutO0 s d o (rowP (memP val) 125 (l1.length + 1) true [] l1) e H' G'
        rw [hrow]; exact h
      rw [hrow] at hout
      obtain ⟨hr, rfl, xs, q, hx, rfl⟩ := hout
      have ho1 : o + 1 - 1 = o := by omega
      rw [ho1]
      match q with
      | 0 => (conv => whnf); exact hgo _ _ _ ⟨hr, xs, hx, .inl ⟨rfl, rfl⟩⟩
      | 1 => (conv => whnf); exact hgo _ _ _ ⟨hr, xs, hx, .inr (.inl ⟨rfl, rfl⟩)⟩
      | _ + 2 => (conv => whnf); exact hgo _ _ _ ⟨hr, xs, hx, .inr (.inr ⟨rfl, rfl⟩)⟩
theorem object_ (s : ByteArray) (hs : s.size ≤ 190000) (d o : Int) (ho : 0 ≤ o ∧ o ≤ 900) (val : List UInt8 → Res J) (hv : VSays s d (o + 1) val) (hvs : ∀ x l y r, memP val x l = .ok y r → Sfx r l ∧ List.length y = List.length x + 1) (l : List UInt8) (hl : Sfx l (tL s)) (H : Hp) (hod : o ≠ d) :
    CallO Try.prog 34 [me] H [rdB s l d o] fun e H' G' => Out s d o RJ ((objP val l).bind fun js r => .ok (jObj js) r) e H' G' := by
  refine CallO.sub (K0 := fun e H' G' => match objP val l with
    | .ok js r => Sfx r (tL s) ∧ (∃ sv, e = .ret sv ∧ RJ H' (jObj js) sv) ∧ ∃ L, G' = rdB s r d o :: L
    | .no er r => e = .pan [{ v := faultV er (pos s r), recovered := false }] ∧ ∃ l' o', G' = [rdB s l' d o']) (CallO.frz (object0 s hs d o ho val hv hvs l hl H hod) ?_) ?_
  · intro e H' G' hle hout
    cases hp : objP val l with
    | no er r =>
      rw [hp] at hout
      obtain ⟨rfl, l2, o2, rfl⟩ := hout
      exact ⟨rfl, l2, o2, rfl⟩
    | ok js r =>
      rw [hp] at hout
      obtain ⟨hr, xs, hx, hcase⟩ := hout
      have h0 : List.length js = 0 → xs = [] := fun h => List.eq_nil_of_length_eq_zero (by rw [hx.length, h])
      have key : ∀ (x : Value) (H2 : Hp), H'.Le H2 → Frozen H2 x (List.length js) xs → RJ H2 (jObj js) (agO (.val x)) := fun x H2 hle2 hfr => by
        obtain ⟨A, c, rfl, hrv⟩ := RdV.of_frozen hfr
        exact ⟨6, false, ⟨#[]⟩, none, 0, 0, A, js.length, c, rfl, .mk rfl .nil (.nil _) rfl (hx.mono hle2) hrv⟩
      rcases hcase with ⟨rfl, rfl⟩ | ⟨rfl, rfl⟩ | ⟨rfl, rfl⟩
      · exact ⟨4, _, _, _, _, rfl, h0, fun x H2 hle2 hfr => ⟨hr, ⟨_, rfl, key x H2 hle2 hfr⟩, _, rfl⟩⟩
      · exact ⟨5, _, _, _, _, rfl, h0, fun x H2 hle2 hfr => ⟨hr, ⟨_, rfl, key x H2 hle2 hfr⟩, _, rfl⟩⟩
      · exact ⟨6, _, _, _, _, rfl, h0, fun x H2 hle2 hfr => ⟨hr, ⟨_, rfl, key x H2 hle2 hfr⟩, _, rfl⟩⟩
  · intro e H' G' hle hout
    cases hp : objP val l with
    | no er r =>
      rw [hp] at hout
      obtain ⟨rfl, l2, o2, rfl⟩ := hout
      exact ⟨rfl, l2, o2, rfl⟩
    | ok js r =>
      rw [hp] at hout
      obtain ⟨hr, ⟨sv, rfl, k, y, t, A, n, c, B, m, f, rfl, hj⟩, L, rfl⟩ := hout
      exact ⟨agJ k y t A n c B m f, [rdB s r d o], [0], rfl, ⟨rfl, trivial⟩, rfl, hr, ⟨_, rfl, k, y, t, A, n, c, B, m, f, rfl, hj⟩, rfl⟩
end Go.Kx.Js
