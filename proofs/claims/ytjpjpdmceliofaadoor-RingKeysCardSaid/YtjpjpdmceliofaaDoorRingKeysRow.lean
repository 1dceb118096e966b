/- RingKeys: any call with arguments that read as data, the listed variables as listed, returns true and leaves all as it was; the row, and its tied card. No condition of its own. -/
import Derived.Test.YtjpjpdmceliofaaDoorRingG
import Derived.Test.YtjpjpdmceliofaaDoorRingN
import Derived.Test.YtjpjpdmceliofaaDoorCards
import Derived.Test.YtjpjpdmceliofaaDoorTie
import Derived.JoinedOf
import Derived.SevenTiedAt
namespace Go.Proofs.YtjpjpdmceliofaaDoor.RowRingKeys
open Go.Deep Go.ChangeMaps Go.ChangeShapes Go.WideShapes Go.ChangeAt Go.RowKit Go.Kx Go.Proofs RowRing

theorem open8 {H : Type} {enc : TypeId × Value → H} {w : World} {base : Nat} {spare : Nat → Bool} {held : Bool} {n : Nat} {cs : List Value} {x : DataW H × List MemPlace} (h : DataW.trod enc Tryd.prog w base spare held n 5 cs = some x) : ∃ y : UInt8, cs = [Value.int .u8 y.toNat] := by
  obtain ⟨a, e, _, wa⟩ := DataW.trod_int Tryd.underlying5 h
  subst e
  have h1 : IntKind.u8.min ≤ a ∧ a ≤ IntKind.u8.max := by simpa [Lit.wf] using wa
  rw [show IntKind.u8.min = 0 by decide, show IntKind.u8.max = 255 by decide] at h1
  refine ⟨UInt8.ofNat a.toNat, ?_⟩
  rw [UInt8.toNat_ofNat']
  congr 2
  omega
theorem flat8 (os : List UInt8) : os.flatMap (fun b : UInt8 => [Value.int .u8 b.toNat]) = Sha.bCells os := by
  unfold Sha.bCells
  induction os with
  | nil => rfl
  | cons b r ih => rw [List.flatMap_cons, ih]; rfl
set_option maxRecDepth 100000 in
theorem walk : LawWalkL Tryd.prog 3 Tryd.f3 laid := by
  intro H enc W args base ds p hA hval hsz hL
  rw [Tryd.params3] at hA hval
  obtain ⟨v0, vs0, d0, ds0, p0, q0, hargs, rfl, rfl, h0, r0⟩ := trodAll_cons hA
  obtain ⟨v1, vs1, d1, ds1, p1, q1, rfl, rfl, rfl, h1, r1⟩ := trodAll_cons r0
  obtain ⟨v2, vs2, d2, ds2, p2, q2, rfl, rfl, rfl, h2, r2⟩ := trodAll_cons r1
  obtain ⟨v3, vs3, d3, ds3, p3, q3, rfl, rfl, rfl, h3, r3⟩ := trodAll_cons r2
  obtain ⟨rfl, rfl, rfl⟩ := trodAll_nil r3
  obtain rfl : args = #[v0, v1, v2, v3] := by cases args; simp_all
  obtain ⟨count, rfl, rfl, _, wc⟩ := open_int Tryd.underlying3 (hval 1 3 v1 rfl rfl) h1
  obtain ⟨turns, rfl, rfl, _, wt⟩ := open_int Tryd.underlying3 (hval 2 3 v2 rfl rfl) h2
  obtain ⟨kid, rfl, rfl, _, wk⟩ := open_string Tryd.underlying9 (hval 3 9 v3 rfl rfl) h3
  obtain ⟨A0, len, cap, rfl⟩ := okWide_slice Tryd.underlying22 (hval 0 22 v0 rfl rfl)
  obtain ⟨fs, hs⟩ := h0
  obtain ⟨A, cap', os, hcs, hrd⟩ := rd_slice (fun b : UInt8 => [Value.int .u8 b.toNat]) (sz := 1) (fun _ => rfl) (by decide) Tryd.underlying22 (by kernel_rfl) (fun n cs x h => open8 h) hs
  injection hcs with hcs _
  injection hcs with e1 e2 e3
  subst e1 e2 e3
  refine law_of (gd hL) (Ring.Law.ringKeys os A0 os.length cap count turns kid (heapOf W) (errH hL) fun hn => ?_) (.cons rfl (.cons rfl (.cons rfl (.cons rfl .nil)))) (fun e _ _ h => h)
  rcases hrd with rfl | hrd
  · simp at hn
  · have e : os.flatMap (fun b : UInt8 => [Value.int .u8 b.toNat]) = Sha.bCells os := flat8 os
    rw [e] at hrd
    obtain ⟨b, o, rfl, hr⟩ := hrd
    exact Sha.BytesAt.lit rfl ⟨b, o, rfl, hr⟩
theorem spec (H : Type) (ds : List (DataW H)) (hl : ds.length = 4) : Rows.ringKeysSpec.fn H ds = { results := [.lit (.bool true)], args := ds } := by
  match ds, hl with
  | [_, _, _, _], _ => rfl
set_option maxRecDepth 100000 in
theorem lifted (os : Os) (started : os.Started) (H : Type) (enc : TypeId × Value → H) :
    ReturnsInHanded {} Tryd.checked os 3 .any (fun w args => (Rows.ringKeysSpec.pre enc Tryd.prog Tryd.f3 Rows.ringKeysRow.domain false w args ∧ laidMetH Tryd.prog laid w) ∧ sizedMet enc Tryd.prog Tryd.f3 (OpenSpec.ofChange Rows.ringKeysSpec) false w args) (Rows.ringKeysSpec.post enc Tryd.prog Tryd.f3 false true false false) :=
  law_lifted_laid (C := Tryd.checked) (s := Rows.ringKeysSpec) (conds := Rows.ringKeysRow.domain) (tb := 4) own laidOut (by kernel_rfl) Tryd.func3 rfl (by kernel_rfl) Tryd.underlying4 (by kernel_rfl) spec walk os started H enc
    (ChangeSpec.witness_at (enc := enc) (C := Tryd.checked) (os := os) (X := fun w _ => laidMetH Tryd.prog laid w) false (laidWorld os) #[.slice Option.none 0 0, .int .i64 0, .int .i64 0, .string ⟨#[]⟩] 8 rfl (by kernel_rfl) (by kernel_rfl) (by kernel_rfl) (by kernel_rfl) (by kernel_rfl) (laidWorld_met os _))
theorem over : Rows.ringKeysRow.holds Tryd.pinned (OpenSpec.ofChange Rows.ringKeysSpec) :=
  OpenClaim.holds_of_wide 3 Tryd.f3 rfl rfl rfl rfl rfl rfl rfl ⟨rfl, rfl, rfl, rfl, rfl⟩ rfl rfl rfl rfl rfl (by kernel_rfl) Tryd.func3 (by kernel_rfl)
    (of_decide_eq_true (by kernel_rfl)) (by unfold Func.isWrapper; first | (rw [if_pos (by decide +kernel)]; kernel_rfl) | (rw [if_neg (by decide +kernel)]; exact ⟨rfl, rfl⟩))
    (fun os started H enc _ => lifted os started H enc)
end Go.Proofs.YtjpjpdmceliofaaDoor.RowRingKeys
namespace Go.Proofs.YtjpjpdmceliofaaDoor
theorem ringKeys_card : Rows.RingKeysCardSaid :=
  Claim7.holds_tied_plain_at .later [] [.data, .data, .data, .sentinel, .sentinel] true (true, "e5e59c7188cb92cbb772a41309ca1a1ff3a78735763d525a7a96e0a331283bf9") true
    RowRingKeys.over (fun _ h => by cases h) (by kernel_rfl) (fun _ h => by cases h) ringKeys_row_tie rfl ⟨rfl, rfl⟩ (by kernel_rfl) rfl
    (fun f fn hf hfn => by
      obtain rfl : f = 3 := Option.some.inj ((show Tryd.prog.funcNamed "klaxon/klaxonlaw14.RingKeys" = some 3 by kernel_rfl).symm.trans hf) |>.symm
      obtain rfl : fn = Tryd.f3 := (Option.some.inj (Tryd.func3.symm.trans hfn)).symm
      exact ⟨by kernel_rfl, fun j t ht => by
        rw [Tryd.params3] at ht
        have h3 : t = 22 ∨ t = 3 ∨ t = 9 := by
          rcases j with _ | _ | _ | _ | j
          · left; simpa using ht.symm
          · right; left; simpa using ht.symm
          · right; left; simpa using ht.symm
          · right; right; simpa using ht.symm
          · simp at ht
        rcases h3 with rfl | rfl | rfl
        · exact (show Tryd.prog.wantsStandIn 22 = false by kernel_rfl)
        · exact (show Tryd.prog.wantsStandIn 3 = false by kernel_rfl)
        · exact (show Tryd.prog.wantsStandIn 9 = false by kernel_rfl)⟩)
    (by kernel_rfl)
#print axioms ringKeys_card
end Go.Proofs.YtjpjpdmceliofaaDoor
