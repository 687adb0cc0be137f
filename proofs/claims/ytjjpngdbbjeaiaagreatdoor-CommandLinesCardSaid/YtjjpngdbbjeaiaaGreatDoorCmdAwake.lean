/- The probes of the laws of layer 27: a walk. -/
import Derived.Test.YtjjpngdbbjeaiaaGreatDoorCmd5
import Derived.Test.YtjjpngdbbjeaiaaGreatDoorCmd6
import Derived.Test.YtjjpngdbbjeaiaaGreatDoorCmd7
namespace Go
def awV1 : V4 := ⟨1, 0, 0, ⟨#[]⟩⟩
def awV2 : V4 := ⟨2, 0, 0, ⟨#[]⟩⟩
theorem awv1 : awV1.IsShow [49, 46, 48, 46, 48] := by
  refine ⟨by decide, ?_⟩
  show showL 1 0 0 [] = _
  unfold showL showCore
  rw [dig10_lt 1 (by decide), dig10_lt 0 (by decide)]
  decide
theorem awv2 : awV2.IsShow [50, 46, 48, 46, 48] := by
  refine ⟨by decide, ?_⟩
  show showL 2 0 0 [] = _
  unfold showL showCore
  rw [dig10_lt 2 (by decide), dig10_lt 0 (by decide)]
  decide
def awCmd : Cmd := ⟨wPublish, [[97, 110, 110], [49, 46, 48, 46, 48]], [109, 111, 100, 117, 108, 101, 32, 112]⟩
def awL1 : List UInt8 := [112, 117, 98, 108, 105, 115, 104, 32, 97, 110, 110, 32, 49, 46, 48, 46, 48, 10, 109, 111, 100, 117, 108, 101, 32, 112]
def awL2 : List UInt8 := [114, 101, 103, 105, 115, 116, 101, 114, 32, 97, 110, 110]
def awL3 : List UInt8 := [112, 32, 94, 49, 46, 48, 46, 48, 10, 61, 113, 32, 50, 46, 48, 46, 48, 10]
theorem aw_c1 : cparse awL1 = (awCmd, 0) := by
  have h1 : sepAt 32 (headAt 10 awL1) = wPublish :: [[97, 110, 110], [49, 46, 48, 46, 48]] := by decide
  rw [cparse_as (by decide) h1]
  have h2 : rightB wPublish [[97, 110, 110], [49, 46, 48, 46, 48]] = true := by
    show allFit _ [110, 118] = true
    simp only [allFit]
    rw [show fitsB [97, 110, 110] 110 = nameOk [97, 110, 110] from rfl, show fitsB [49, 46, 48, 46, 48] 118 = isVer [49, 46, 48, 46, 48] from rfl, isVer_true.2 ⟨_, awv1⟩]
    decide
  rw [h2, show hasBody wPublish = true by decide, show hasAt 10 awL1 = true by decide, show tailAt 10 awL1 = [109, 111, 100, 117, 108, 101, 32, 112] by decide]
  rfl
theorem aw_c2 : cparse awL2 = (Cmd.zero, 270) := by
  have h1 : sepAt 32 (headAt 10 awL2) = wRegister :: [[97, 110, 110]] := by decide
  rw [cparse_as (by decide) h1]
  have h2 : rightB wRegister [[97, 110, 110]] = false := rfl
  rw [h2]; rfl
theorem aw_s1 : cshow awCmd = (awL1, 0) := cmd_forms aw_c1
theorem aw_a3 : asksL awL3 = some ([⟨[112], near awV1⟩], [⟨[113], awV2⟩]) := by
  have h1 : linesOf awL3 = [[112, 32, 94, 49, 46, 48, 46, 48], [61, 113, 32, 50, 46, 48, 46, 48]] := by decide
  have hr : rparseF [94, 49, 46, 48, 46, 48] = some (near awV1) := by
    rcases rparseF_of (.inl ⟨rfl, .inr (.inl ⟨_, awV1, rfl, awv1, rfl⟩)⟩ : RParseIs [94, 49, 46, 48, 46, 48] (near awV1) 0) with ⟨_, h⟩ | ⟨h, _⟩
    · exact h
    · cases h
  have hv : vparseF [50, 46, 48, 46, 48] = some awV2 := by
    have := vparseF_of (parse_yes (l := [50, 46, 48, 46, 48]) (a := 2) (b := 0) (c := 0) (p := []) ⟨awv2.1, awv2.2⟩)
    rcases this with ⟨_, h⟩ | ⟨h, _⟩
    · exact h
    · cases h
  have g1 : lineL [112, 32, 94, 49, 46, 48, 46, 48] = some ([⟨[112], near awV1⟩], []) := by
    have := line_need (l := [112, 32, 94, 49, 46, 48, 46, 48]) (bs := near awV1) (by decide) (by rw [show tailAt 32 [112, 32, 94, 49, 46, 48, 46, 48] = [94, 49, 46, 48, 46, 48] by decide]; exact hr) (by decide)
    rw [this, show headAt 32 [112, 32, 94, 49, 46, 48, 46, 48] = [112] by decide]
  have g2 : lineL [61, 113, 32, 50, 46, 48, 46, 48] = some ([], [⟨[113], awV2⟩]) := by
    have := line_pick (l := [61, 113, 32, 50, 46, 48, 46, 48]) (v := awV2) (by decide) (by rw [show tailAt 32 [61, 113, 32, 50, 46, 48, 46, 48] = [50, 46, 48, 46, 48] by decide]; exact hv) (by decide)
    rw [this, show (headAt 32 [61, 113, 32, 50, 46, 48, 46, 48]).drop 1 = [113] by decide]
  unfold asksL
  rw [h1, linesL, linesL, linesL, g1, g2]
  rfl
end Go
namespace Go.Proofs.YtjjpngdbbjeaiaaGreatDoor
open Go.RowKit
theorem cparse_lit (l : List UInt8) (c : Cmd) (er : Int) (h : cparse l = (c, er)) (w : World) (hE : Env w) :
    Calls Tryz.prog 25 #[.string (S l)] w fun e w' => ∃ a cap, e = .returned (.tuple #[.agg #[.string (S c.word), .slice a c.args.length cap, .string (S c.body)], .int .i64 er]) ∧ Strs w' (.slice a c.args.length cap) c.args ∧ Below w.heap.size w w' := by
  refine (cparse_any (S l) w hE).mono ?_
  rintro e w' ⟨v, he, hv, ⟨a, cap, rfl⟩, hb⟩
  rw [S_data, h] at he hv
  exact ⟨a, cap, he, hv, hb⟩
theorem cshow_lit (c : Cmd) (l : List UInt8) (er : Int) (h : cshow c = (l, er)) (v : Value) (w : World) (hE : Env w) (hv : Strs w v c.args) (hlen : ∃ a cap, v = .slice a c.args.length cap) (hs : ∀ l ∈ c.args, l.length < 4294967281) (hB : rightB c.word c.args = true → c.body.length ≤ 4294967281) :
    Calls Tryz.prog 29 #[.agg #[.string (S c.word), v, .string (S c.body)]] w fun e w' => e = .returned (.tuple #[.string (S l), .int .i64 er]) ∧ Below w.heap.size w w' := by
  refine (cshow_any (S c.word) v c.args (S c.body) w hE hv hlen hs (by rw [S_size]; exact hB)).mono ?_
  rintro e w' ⟨he, hb⟩
  refine ⟨?_, hb⟩
  rw [he]
  show Ending.returned (.tuple #[.string (S (cshow c).1), .int .i64 (cshow c).2]) = _
  rw [h]
theorem asks_lit (l : List UInt8) (x : List Want × List Pck) (h : asksL l = some x) (hl : l.length ≤ 90000) (w : World) (hE : Env w) :
    Calls Tryz.prog 31 #[.string (S l)] w fun e w' => ∃ (a : Option Addr) (cap : Nat) (a' : Option Addr) (cap' : Nat), e = .returned (.tuple #[.slice a x.1.length cap, .slice a' x.2.length cap', .int .i64 0]) ∧ Pcks w' (.slice a' x.2.length cap') x.2 ∧ Below w.heap.size w w' := by
  refine (asks_any (S l) w hE (by rw [S_size]; exact hl)).mono ?_
  rintro e w' ⟨vn, vp, ns, ps, er, he, hn, hp, ⟨a, cap, rfl⟩, ⟨a', cap', rfl⟩, hx, hb⟩
  rw [S_data, h] at hx
  rcases hx with ⟨rfl, hx⟩ | ⟨_, hx, _⟩
  · injection hx with hx
    subst hx
    exact ⟨a, cap, a', cap', by rw [he, List.length_map], hp, hb⟩
  · cases hx
theorem pcks_first {w : World} {a : Option Addr} {cap n : Nat} {p : Pck} {ps : List Pck} (h : Pcks w (.slice a n cap) (p :: ps)) : ∃ b o, a = some ⟨b, o, none⟩ ∧ w.cell? ⟨b, o, none⟩ = some (.string (S p.name)) := by
  obtain ⟨_, _, ⟨_, _, _, h4, _⟩ | ⟨b, off, cap', h3, _, _, h6⟩⟩ := h
  · cases h4
  · injection h3 with h3
    exact ⟨b, off, h3, by have := h6 0 (by simp); rw [Nat.add_zero] at this; rw [this]; rfl⟩
set_option maxRecDepth 100000 in
set_option maxHeartbeats 1000000 in
theorem awake_any (w : World) (hE : Env w) :
    Calls Tryz.prog 28 #[] w fun e w' => e = .returned (.bool true) ∧ Below w.heap.size w w' := by
  have HE := Lib.hid hE
  clear hE
  go_enter Tryz.func28, Tryz.ntmps28
  go_wp2_with fail
  refine (cparse_lit awL1 awCmd 0 aw_c1 _ HE.out).mono ?_
  rintro e w1 ⟨a, cap, rfl, hv1, hb1⟩
  have hb2 := hb1.alloc hb1.size (.cells #[.string ⟨#[112, 117, 98, 108, 105, 115, 104]⟩, .slice a 2 cap, .string ⟨#[109, 111, 100, 117, 108, 101, 32, 112]⟩] 52)
  have HV := Lib.hid (hv1.below ((Below.refl w1.heap.size w1).alloc (Nat.le_refl _) (.cells #[.string ⟨#[112, 117, 98, 108, 105, 115, 104]⟩, .slice a 2 cap, .string ⟨#[109, 111, 100, 117, 108, 101, 32, 112]⟩] 52)) (Nat.le_refl _))
  have HS := Lib.hid (cshow_lit awCmd awL1 0 aw_s1 (.slice a 2 cap) _ (HE.out.below hb2) HV.out ⟨_, _, rfl⟩ (by decide) (fun _ => by decide))
  clear hv1
  rw [show awCmd.args.length = 2 from rfl, show S awCmd.word = ⟨#[112, 117, 98, 108, 105, 115, 104]⟩ from rfl, show S awCmd.body = ⟨#[109, 111, 100, 117, 108, 101, 32, 112]⟩ from rfl]
  rw [show S awCmd.word = ⟨#[112, 117, 98, 108, 105, 115, 104]⟩ from rfl, show S awCmd.body = ⟨#[109, 111, 100, 117, 108, 101, 32, 112]⟩ from rfl, show S awL1 = ⟨#[112, 117, 98, 108, 105, 115, 104, 32, 97, 110, 110, 32, 49, 46, 48, 46, 48, 10, 109, 111, 100, 117, 108, 101, 32, 112]⟩ from rfl] at HS
  go_wp2_with fail
  refine HS.out.mono ?_
  rintro e w3 ⟨rfl, hb3⟩
  have hb4 := below_then hb2 hb3
  have hx3 := box_of hb3
  go_wp2_with fail
  refine (cparse_lit awL2 Cmd.zero 270 aw_c2 _ (HE.out.below hb4)).mono ?_
  rintro e w5 ⟨a5, cap5, rfl, _, hb5⟩
  have hb6 := (below_then hb4 hb5).alloc (below_then hb4 hb5).size (.cells #[.string ⟨#[]⟩, .slice a5 0 cap5, .string ⟨#[]⟩] 52)
  have hx5 := (box_then hx3 hb5)
  rw [show Cmd.zero.args.length = 0 from rfl, show S Cmd.zero.word = ⟨#[]⟩ from rfl, show S Cmd.zero.body = ⟨#[]⟩ from rfl]
  go_wp2_with fail
  refine (asks_lit awL3 _ aw_a3 (by decide) _ (HE.out.below hb6)).mono ?_
  rintro e w7 ⟨na, ncap, pa, pcap, rfl, hp, hb7⟩
  obtain ⟨pb, po, rfl, hc⟩ := pcks_first hp
  have hbF := below_then hb6 hb7
  have hx7 := box_then (hx5.alloc (by have := hx5.size; simp at this; omega) (.cells #[.string ⟨#[]⟩, .slice a5 0 cap5, .string ⟨#[]⟩] 52)) hb7
  have c0 := box_cells hx7 0
  have c1 := box_cells hx7 1
  have c2 := box_cells hx7 2
  simp at c0 c1 c2
  rw [show S [113] = ⟨#[113]⟩ from rfl] at hc
  clear hp
  go_wp2_with fail
  go_ret
  exact ⟨rfl, hbF⟩
end Go.Proofs.YtjjpngdbbjeaiaaGreatDoor
