/- SetTokens: any call with arguments that read as data, the listed variables as listed, returns true and leaves all as it was; the row, and its tied card. No condition of its own. -/
import Derived.Test.YtfchdibbjaeocaaGreatDoorMT18
import Derived.Test.YtfchdibbjaeocaaGreatDoorCards
import Derived.Test.YtfchdibbjaeocaaGreatDoorTie
import Derived.JoinedOf
import Derived.SevenTiedAt
namespace Go.Proofs.YtfchdibbjaeocaaGreatDoor.RowSetTokens
open Go.Deep Go.ChangeMaps Go.ChangeShapes Go.WideShapes Go.ChangeAt Go.RowKit Go.Kx Go.Proofs RowLaid

theorem open8 {H : Type} {enc : TypeId × Value → H} {w : World} {base : Nat} {spare : Nat → Bool} {held : Bool} {n : Nat} {cs : List Value} {x : DataW H × List MemPlace} (h : DataW.trod enc Tryz.prog w base spare held n 5 cs = some x) : ∃ y : UInt8, cs = [Value.int .u8 y.toNat] := by
  obtain ⟨a, e, _, wa⟩ := DataW.trod_int Tryz.underlying5 h
  subst e
  have h1 : IntKind.u8.min ≤ a ∧ a ≤ IntKind.u8.max := by simpa [Lit.wf] using wa
  rw [show IntKind.u8.min = 0 by decide, show IntKind.u8.max = 255 by decide] at h1
  refine ⟨UInt8.ofNat a.toNat, ?_⟩
  rw [UInt8.toNat_ofNat']
  congr 2
  omega
theorem flat8 (os : List UInt8) : os.flatMap (fun b : UInt8 => [Value.int .u8 b.toNat]) = bCells os := by
  unfold bCells
  induction os with
  | nil => rfl
  | cons b r ih => rw [List.flatMap_cons, ih]; rfl
theorem bytesZ {W : World} {A : Option Addr} {os : List UInt8} (hrd : os = [] ∨ RdN (heapOf W) A 0 (os.flatMap fun b : UInt8 => [Value.int .u8 b.toNat])) : BytesZ (heapOf W) A os.length os := by
  rw [flat8 os] at hrd
  refine ⟨rfl, fun e => ?_, fun a e => ?_⟩
  · rcases hrd with h | ⟨b, o, h, _⟩
    · exact h
    · rw [e] at h; cases h
  · rcases hrd with h | h
    · exact .inl (by rw [h]; rfl)
    · rw [e] at h; exact .inr h
set_option maxRecDepth 100000 in
theorem walk : LawWalkL Tryz.prog 7 Tryz.f7 laid := by
  intro H enc W args base ds p hA hval hsz hL
  rw [Tryz.params7] at hA hval
  obtain ⟨v0, vs0, d0, ds0, p0, q0, hargs, rfl, rfl, h0, r0⟩ := trodAll_cons hA
  obtain ⟨v1, vs1, d1, ds1, p1, q1, rfl, rfl, rfl, h1, r1⟩ := trodAll_cons r0
  obtain ⟨rfl, rfl, rfl⟩ := trodAll_nil r1
  obtain rfl : args = #[v0, v1] := by cases args; simp_all
  obtain ⟨typ, rfl, rfl, _, wk⟩ := open_string Tryz.underlying9 (hval 0 9 v0 rfl rfl) h0
  obtain ⟨A0, len, cap, rfl⟩ := okWide_slice Tryz.underlying55 (hval 1 55 v1 rfl rfl)
  obtain ⟨fs, hs⟩ := h1
  obtain ⟨A, cap', os, hcs, hrd⟩ := rd_slice (fun b : UInt8 => [Value.int .u8 b.toNat]) (sz := 1) (fun _ => rfl) (by decide) Tryz.underlying55 (by kernel_rfl) (fun n cs x h => open8 h) hs
  injection hcs with hcs _
  injection hcs with e1 e2 e3
  subst e1 e2 e3
  refine law_of (gd hL) (L13.setTokens typ os A0 cap (heapOf W) (errH hL) (bytesZ hrd)) (.cons rfl (.cons rfl .nil)) (fun e _ _ h => h)
theorem spec (H : Type) (ds : List (DataW H)) (hl : ds.length = 2) : Rows.setTokensSpec.fn H ds = { results := [.lit (.bool true)], args := ds } := by
  match ds, hl with
  | [_, _], _ => rfl
set_option maxRecDepth 100000 in
theorem lifted (os : Os) (started : os.Started) (H : Type) (enc : TypeId × Value → H) :
    ReturnsInHanded {} Tryz.checked os 7 .any (fun w args => (Rows.setTokensSpec.pre enc Tryz.prog Tryz.f7 Rows.setTokensRow.domain false w args ∧ laidMetH Tryz.prog laid w) ∧ sizedMet enc Tryz.prog Tryz.f7 (OpenSpec.ofChange Rows.setTokensSpec) false w args) (Rows.setTokensSpec.post enc Tryz.prog Tryz.f7 false true false false) :=
  law_lifted_laid (C := Tryz.checked) (s := Rows.setTokensSpec) (conds := Rows.setTokensRow.domain) (tb := 4) own laidOut (by kernel_rfl) Tryz.func7 rfl (by kernel_rfl) Tryz.underlying4 (by kernel_rfl) spec walk os started H enc
    (ChangeSpec.witness_at (enc := enc) (C := Tryz.checked) (os := os) (X := fun w _ => laidMetH Tryz.prog laid w) false (laidWorld os) #[.string ⟨#[]⟩, .slice Option.none 0 0] 8 rfl (by kernel_rfl) (by kernel_rfl) (by kernel_rfl) (by kernel_rfl) (by kernel_rfl) (laidWorld_met os _))
theorem over : Rows.setTokensRow.holds Tryz.pinned (OpenSpec.ofChange Rows.setTokensSpec) :=
  OpenClaim.holds_of_wide 7 Tryz.f7 rfl rfl rfl rfl rfl rfl rfl ⟨rfl, rfl, rfl, rfl, rfl⟩ rfl rfl rfl rfl rfl (by kernel_rfl) Tryz.func7 (by kernel_rfl)
    (of_decide_eq_true (by kernel_rfl)) (by unfold Func.isWrapper; first | (rw [if_pos (by decide +kernel)]; kernel_rfl) | (rw [if_neg (by decide +kernel)]; exact ⟨rfl, rfl⟩))
    (fun os started H enc _ => lifted os started H enc)
end Go.Proofs.YtfchdibbjaeocaaGreatDoor.RowSetTokens
namespace Go.Proofs.YtfchdibbjaeocaaGreatDoor
theorem setTokens_card : Rows.SetTokensCardSaid :=
  Claim7.holds_tied_plain_at .later [] [.data, .data, .data, .data, .sentinel, .sentinel, .pinned] true (true, "f13b97b84cdc3754a716503188d89966f67a35ff2fe0f07f6bab0a3a6b74aa9f") true
    RowSetTokens.over (fun _ h => by cases h) (by kernel_rfl) (fun _ h => by cases h) setTokens_row_tie rfl ⟨rfl, rfl⟩ (by kernel_rfl) rfl
    (fun f fn hf hfn => by
      obtain rfl : f = 7 := Option.some.inj ((show Tryz.prog.funcNamed "klaxon/klaxonlaw13.SetTokens" = some 7 by kernel_rfl).symm.trans hf) |>.symm
      obtain rfl : fn = Tryz.f7 := (Option.some.inj (Tryz.func7.symm.trans hfn)).symm
      exact ⟨by kernel_rfl, fun j t ht => by
        rw [Tryz.params7] at ht
        have h3 : t = 9 ∨ t = 55 := by
          rcases j with _ | _ | j
          · left; simpa using ht.symm
          · right; simpa using ht.symm
          · simp at ht
        rcases h3 with rfl | rfl
        · exact (show Tryz.prog.wantsStandIn 9 = false by kernel_rfl)
        · exact (show Tryz.prog.wantsStandIn 55 = false by kernel_rfl)⟩)
    (by kernel_rfl)
#print axioms setTokens_card
end Go.Proofs.YtfchdibbjaeocaaGreatDoor
