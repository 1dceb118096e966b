/- BookCounters: any call with arguments that read as data, the listed variables as listed, returns true and leaves all as it was; the row. No condition of its own. -/
import Derived.Test.YtbjiioclhgdeeaaGreatDoorMB18
import Derived.JoinedOf
namespace Go.Proofs.YtbjiioclhgdeeaaGreatDoor.RowBookCounters
open Go.Deep Go.ChangeMaps Go.ChangeShapes Go.WideShapes Go.ChangeAt Go.RowKit Go.Kx Go.Proofs RowLaid
section
variable {H : Type} {enc : TypeId × Value → H} {W : World}
theorem flatS (os : List ByteArray) : os.flatMap (fun b : ByteArray => [Value.string b]) = os.map .string := by
 induction os with
 | nil => rfl
 | cons b r ih => rw [List.flatMap_cons, ih]; rfl
theorem open_strs {n : Nat} {v : Value} {x : DataW H × List MemPlace} (h : DataW.trod enc Tryz.prog W 0 (fun _ => true) true n 22 [v] = some x) :
  ∃ (A : Option Addr) (os : List ByteArray) (c : Nat), v = .slice A os.length c ∧ os.length ≤ c ∧ Bk.NmsAt (heapOf W) A os := by
 obtain ⟨A, c, os, hcs, hrd⟩ := rd_slice (fun b : ByteArray => [Value.string b]) (sz := 1) (fun _ => rfl) (by decide) Tryz.underlying22 (by kernel_rfl) (fun n cs x h => by
  obtain ⟨s, e, _, _⟩ := DataW.trod_string Tryz.underlying9 h
  exact ⟨s, e⟩) h
 injection hcs with hcs _
 subst hcs
 refine ⟨A, os, c, rfl, ?_, ?_⟩
 ·rcases open_slice Tryz.underlying22 h with ⟨h1, _⟩ | ⟨a, len, cap, m, k, D, Pl, h1, _, hl, _, hmm, rfl, _⟩
  ·injection h1 with h1 _
   injection h1 with _ h1 h2
   omega
  ·injection h1 with h1 _
   injection h1 with _ h1 h2
   omega
 ·rw [flatS os] at hrd
  rcases hrd with h | ⟨b, o, h, hr⟩
  ·exact .inl h
  ·exact .inr ⟨b, o, h, b, o, h, hr⟩
end
set_option maxRecDepth 100000 in
theorem walk : LawWalkL Tryz.prog 3 Tryz.f3 laid := by
 intro H enc W args base ds p hA hval hsz hL
 rw [Tryz.params3] at hA hval hsz
 obtain ⟨v0, vs0, d0, ds0, p0, q0, hargs, rfl, rfl, h0, r0⟩ := trodAll_cons hA
 obtain ⟨v1, vs1, d1, ds1, p1, q1, rfl, rfl, rfl, h1, r1⟩ := trodAll_cons r0
 obtain ⟨v2, vs2, d2, ds2, p2, q2, rfl, rfl, rfl, h2, r2⟩ := trodAll_cons r1
 obtain ⟨rfl, rfl, rfl⟩ := trodAll_nil r2
 obtain rfl : args = #[v0, v1, v2] := by cases args; simp_all
 obtain ⟨lim, rfl, rfl, _, _⟩ := open_int Tryz.underlying3 (hval 0 3 v0 rfl rfl) h0
 obtain ⟨B1, l1, p1, rfl⟩ := okWide_slice Tryz.underlying22 (hval 1 22 v1 rfl rfl)
 obtain ⟨B2, l2, p2, rfl⟩ := okWide_slice Tryz.underlying22 (hval 2 22 v2 rfl rfl)
 obtain ⟨f1, s1⟩ := h1
 obtain ⟨f2, s2⟩ := h2
 obtain ⟨A1, xs1, c1, e1, hc1, hA1⟩ := open_strs (v := .slice B1 l1 p1) (show DataW.trod enc Tryz.prog W 0 (fun _ => true) true f1 22 [.slice B1 l1 p1] = some _ from s1)
 obtain ⟨A2, xs2, c2, e2, hc2, hA2⟩ := open_strs (v := .slice B2 l2 p2) (show DataW.trod enc Tryz.prog W 0 (fun _ => true) true f2 22 [.slice B2 l2 p2] = some _ from s2)
 injection e1 with a1 a2 a3
 subst a1 a2 a3
 injection e2 with a1 a2 a3
 subst a1 a2 a3
 exact law_of (gd hL) (L17.counters_ lim B1 B2 xs1 xs2 p1 p2 hc1 hc2 (heapOf W) (errH hL) hA1 hA2) (.cons rfl (.cons rfl (.cons rfl .nil))) (fun e _ _ h => h)
theorem spec (H : Type) (ds : List (DataW H)) (hl : ds.length = 3) : Rows.bookCountersSpec.fn H ds = { results := [.lit (.bool true)], args := ds } := by
 match ds, hl with
 | [_, _, _], _ => rfl
set_option maxRecDepth 100000 in
theorem lifted (os : Os) (started : os.Started) (H : Type) (enc : TypeId × Value → H) :
  ReturnsInHanded {} Tryz.checked os 3 .any (fun w args => (Rows.bookCountersSpec.pre enc Tryz.prog Tryz.f3 Rows.bookCountersRow.domain false w args ∧ laidMetH Tryz.prog laid w) ∧ sizedMet enc Tryz.prog Tryz.f3 (OpenSpec.ofChange Rows.bookCountersSpec) false w args) (Rows.bookCountersSpec.post enc Tryz.prog Tryz.f3 false true false false) :=
 law_lifted_laid (C := Tryz.checked) (s := Rows.bookCountersSpec) (conds := Rows.bookCountersRow.domain) (tb := 4) own laidOut (by kernel_rfl) Tryz.func3 rfl (by kernel_rfl) Tryz.underlying4 (by kernel_rfl) spec walk os started H enc
  (ChangeSpec.witness_at (enc := enc) (C := Tryz.checked) (os := os) (X := fun w _ => laidMetH Tryz.prog laid w) false (laidWorld os) #[.int .i64 0, .slice Option.none 0 0, .slice Option.none 0 0] 8 rfl (vars os) (by kernel_rfl) (by kernel_rfl) (by kernel_rfl) (by kernel_rfl) (laidWorld_met os _))
theorem over : Rows.bookCountersRow.holds Tryz.pinned (OpenSpec.ofChange Rows.bookCountersSpec) :=
 OpenClaim.holds_of_wide 3 Tryz.f3 rfl rfl rfl rfl rfl rfl rfl ⟨rfl, rfl, rfl, rfl, rfl⟩ rfl rfl rfl rfl rfl (by kernel_rfl) Tryz.func3 closed
  (of_decide_eq_true (by kernel_rfl)) (by unfold Func.isWrapper; first | (rw [if_pos (by decide +kernel)]; kernel_rfl) | (rw [if_neg (by decide +kernel)]; exact ⟨rfl, rfl⟩))
  (fun os started H enc _ => lifted os started H enc)
end Go.Proofs.YtbjiioclhgdeeaaGreatDoor.RowBookCounters
