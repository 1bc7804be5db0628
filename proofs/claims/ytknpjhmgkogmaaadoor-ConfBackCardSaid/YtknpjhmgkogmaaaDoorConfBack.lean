/-
  ConfBack answers true, whatever the config, the ask and the number of blanks are. Condition: the seven variables that the row lists lie as their initialisers lay them.
-/
import Derived.Test.YtknpjhmgkogmaaaDoorConf12
import Derived.Test.YtknpjhmgkogmaaaDoorConf14
import Derived.Test.YtknpjhmgkogmaaaDoorConf5
import Derived.Test.YtknpjhmgkogmaaaDoorConf10
import Derived.Test.YtknpjhmgkogmaaaDoorOpenAsk
import Derived.BigQuiet
import Derived.Lay
import Derived.MakeChecks
import Derived.Test.YtknpjhmgkogmaaaDoorDoor
import Derived.Test.YtknpjhmgkogmaaaDoorOpen
import Derived.Test.YtknpjhmgkogmaaaDoorCards
import Derived.Test.YtknpjhmgkogmaaaDoorTie
set_option linter.unusedVariables false
namespace Go.Proofs.YtknpjhmgkogmaaaDoor.confBack
open Go.RowKit Go.Sort Go.Proofs.YtknpjhmgkogmaaaDoor.Own Go.Proofs.YtknpjhmgkogmaaaDoor.Conv Go.Proofs.YtknpjhmgkogmaaaDoor.Line Go.Proofs.YtknpjhmgkogmaaaDoor.Calm Go.Proofs.YtknpjhmgkogmaaaDoor.Oct

set_option maxRecDepth 100000 in
set_option maxHeartbeats 8000000 in
theorem body_f (w : World) (hT : Door.Tabs w) (sc od th fu de mo bu : Int) (st : Bool) (z : Int) (hz : 0 ≤ z ∧ z < 256) (h1 : isCfg sc od th fu de = false) :
    Calls Tryd.prog 6 #[.agg #[.int .i64 sc, .int .i64 od, .int .i64 th, .int .i64 fu, .int .i64 de], .agg #[.int .i64 mo, .int .i64 bu, .bool st], .int .u8 z] w fun e w' => e = .returned (.bool true) ∧ Below w.heap.size w w' := by
  have hR1 := refcheck_is sc od th fu de
  have hR2 := refcheckask_is mo bu st
  rw [h1] at hR1
  have HR1 := Lib.hid hR1
  have HR2 := Lib.hid hR2
  have hx0 := (Box.new w #[.int .i64 sc, .int .i64 od, .int .i64 th, .int .i64 fu, .int .i64 de] 23).alloc (.cells #[.int .i64 mo, .int .i64 bu, .bool st] 25)
  have hy0 := Box.new (w.alloc (.cells #[.int .i64 sc, .int .i64 od, .int .i64 th, .int .i64 fu, .int .i64 de] 23)) #[.int .i64 mo, .int .i64 bu, .bool st] 25
  have hk0 : Kept No w ((w.alloc (.cells #[.int .i64 sc, .int .i64 od, .int .i64 th, .int .i64 fu, .int .i64 de] 23)).alloc (.cells #[.int .i64 mo, .int .i64 bu, .bool st] 25)) := ((Kept.refl _ _).alloc _).alloc _
  simp only [World.size_alloc] at hy0
  have HT := Lib.hid hT
  clear hR1 hR2 hT h1
  go_enter Tryd.func6, Tryd.ntmps6
  go_upto_region 1 with fail
  generalize (w.alloc _).alloc _ = w0 at *
  go_wp2_with fail
  refine (alive_is w0 (HT.out.kept hk0)).mono ?_
  rintro e w1 ⟨rfl, k1⟩
  have hx1 := hx0.kept k1 id
  have hy1 := hy0.kept k1 id
  have hk1 := hk0.trans k1 (fun _ _ f => f)
  clear hx0 hy0 hk0 k1
  obtain ⟨c0, c1, c2, c3, c4⟩ := cells5 hx1
  obtain ⟨d0, d1, d2⟩ := cells3 hy1
  go_wp2_with fail
  refine (HR1.out w1).mono ?_
  rintro e w2 ⟨rfl, k2⟩
  have hx2 := hx1.kept k2 id
  have hy2 := hy1.kept k2 id
  have hk2 := hk1.trans k2 (fun _ _ f => f)
  clear c0 c1 c2 c3 c4 d0 d1 d2 hx1 hy1 hk1 k2
  obtain ⟨c0, c1, c2, c3, c4⟩ := cells5 hx2
  obtain ⟨d0, d1, d2⟩ := cells3 hy2
  go_wp2_with fail
  go_ret
  exact ⟨rfl, hk2.below (Nat.le_refl _) (fun _ _ => id)⟩

set_option maxRecDepth 100000 in
set_option maxHeartbeats 8000000 in
theorem body_tf (w : World) (hT : Door.Tabs w) (sc od th fu de mo bu : Int) (st : Bool) (z : Int) (hz : 0 ≤ z ∧ z < 256) (h1 : isCfg sc od th fu de = true) (h2 : isAsk mo bu = false) :
    Calls Tryd.prog 6 #[.agg #[.int .i64 sc, .int .i64 od, .int .i64 th, .int .i64 fu, .int .i64 de], .agg #[.int .i64 mo, .int .i64 bu, .bool st], .int .u8 z] w fun e w' => e = .returned (.bool true) ∧ Below w.heap.size w w' := by
  have hR1 := refcheck_is sc od th fu de
  have hR2 := refcheckask_is mo bu st
  rw [h1] at hR1
  rw [h2] at hR2
  have HR1 := Lib.hid hR1
  have HR2 := Lib.hid hR2
  have hx0 := (Box.new w #[.int .i64 sc, .int .i64 od, .int .i64 th, .int .i64 fu, .int .i64 de] 23).alloc (.cells #[.int .i64 mo, .int .i64 bu, .bool st] 25)
  have hy0 := Box.new (w.alloc (.cells #[.int .i64 sc, .int .i64 od, .int .i64 th, .int .i64 fu, .int .i64 de] 23)) #[.int .i64 mo, .int .i64 bu, .bool st] 25
  have hk0 : Kept No w ((w.alloc (.cells #[.int .i64 sc, .int .i64 od, .int .i64 th, .int .i64 fu, .int .i64 de] 23)).alloc (.cells #[.int .i64 mo, .int .i64 bu, .bool st] 25)) := ((Kept.refl _ _).alloc _).alloc _
  simp only [World.size_alloc] at hy0
  have HT := Lib.hid hT
  clear hR1 hR2 hT h1 h2
  go_enter Tryd.func6, Tryd.ntmps6
  go_upto_region 1 with fail
  generalize (w.alloc _).alloc _ = w0 at *
  go_wp2_with fail
  refine (alive_is w0 (HT.out.kept hk0)).mono ?_
  rintro e w1 ⟨rfl, k1⟩
  have hx1 := hx0.kept k1 id
  have hy1 := hy0.kept k1 id
  have hk1 := hk0.trans k1 (fun _ _ f => f)
  clear hx0 hy0 hk0 k1
  obtain ⟨c0, c1, c2, c3, c4⟩ := cells5 hx1
  obtain ⟨d0, d1, d2⟩ := cells3 hy1
  go_wp2_with fail
  refine (HR1.out w1).mono ?_
  rintro e w2 ⟨rfl, k2⟩
  have hx2 := hx1.kept k2 id
  have hy2 := hy1.kept k2 id
  have hk2 := hk1.trans k2 (fun _ _ f => f)
  clear c0 c1 c2 c3 c4 d0 d1 d2 hx1 hy1 hk1 k2
  obtain ⟨c0, c1, c2, c3, c4⟩ := cells5 hx2
  obtain ⟨d0, d1, d2⟩ := cells3 hy2
  go_wp2_with fail
  refine (HR2.out w2).mono ?_
  rintro e w3 ⟨rfl, k3⟩
  have hx3 := hx2.kept k3 id
  have hy3 := hy2.kept k3 id
  have hk3 := hk2.trans k3 (fun _ _ f => f)
  clear c0 c1 c2 c3 c4 d0 d1 d2 hx2 hy2 hk2 k3
  obtain ⟨c0, c1, c2, c3, c4⟩ := cells5 hx3
  obtain ⟨d0, d1, d2⟩ := cells3 hy3
  go_wp2_with fail
  go_ret
  exact ⟨rfl, hk3.below (Nat.le_refl _) (fun _ _ => id)⟩

set_option maxRecDepth 100000 in
set_option maxHeartbeats 8000000 in
theorem body_tt (w : World) (hT : Door.Tabs w) (sc od th fu de mo bu : Int) (st : Bool) (z : Int) (hz : 0 ≤ z ∧ z < 256) (h1 : isCfg sc od th fu de = true) (h2 : isAsk mo bu = true) :
    Calls Tryd.prog 6 #[.agg #[.int .i64 sc, .int .i64 od, .int .i64 th, .int .i64 fu, .int .i64 de], .agg #[.int .i64 mo, .int .i64 bu, .bool st], .int .u8 z] w fun e w' => e = .returned (.bool true) ∧ Below w.heap.size w w' := by
  have hR1 := refcheck_is sc od th fu de
  have hR2 := refcheckask_is mo bu st
  rw [h1] at hR1
  rw [h2] at hR2
  have HR1 := Lib.hid hR1
  have HR2 := Lib.hid hR2
  have hx0 := (Box.new w #[.int .i64 sc, .int .i64 od, .int .i64 th, .int .i64 fu, .int .i64 de] 23).alloc (.cells #[.int .i64 mo, .int .i64 bu, .bool st] 25)
  have hy0 := Box.new (w.alloc (.cells #[.int .i64 sc, .int .i64 od, .int .i64 th, .int .i64 fu, .int .i64 de] 23)) #[.int .i64 mo, .int .i64 bu, .bool st] 25
  have hk0 : Kept No w ((w.alloc (.cells #[.int .i64 sc, .int .i64 od, .int .i64 th, .int .i64 fu, .int .i64 de] 23)).alloc (.cells #[.int .i64 mo, .int .i64 bu, .bool st] 25)) := ((Kept.refl _ _).alloc _).alloc _
  simp only [World.size_alloc] at hy0
  have HT := Lib.hid hT
  obtain ⟨b, hb⟩ : ∃ b, putL sc od th fu de mo bu st = b := ⟨_, rfl⟩
  obtain ⟨hoc, hl10, hgw, ⟨g0, g1, g2, g3, g4, g5, g6⟩, g7⟩ := get_put h1 h2 st hb
  have hrp := fun w => refput_is sc od th fu de mo bu st h1 h2 w
  have hrl := fun w => refline_is sc od th fu de mo bu st h1 h2 w
  have hcl := confW_len (st := st) h1 h2
  have hcw := conf_words h1 h2 st
  have HPC := Lib.hid (fun w w' e h => parse_conf (w := w) (w' := w') (e := e) h1 h2 st h)
  rw [hb] at hrp
  obtain ⟨l0, hl0⟩ : ∃ l, Lib.join (confW sc od th fu de mo bu st) [32] = l := ⟨_, rfl⟩
  rw [hl0] at hrl hcl hcw
  have HRP := Lib.hid hrp
  have HRL := Lib.hid hrl
  have HCW := Lib.hid hcw
  have HGET := Lib.hid (fun w u h => by
    have := get_is w u 10 b hoc h (by omega)
    unfold GetPost at this
    rw [hgw, g0, g1, g2, g3, g4, g5, g6, g7] at this
    exact this)
  have HB10 := Lib.hid hl10
  clear hb hoc hl10 hgw g0 g1 g2 g3 g4 g5 g6 g7 hrp hrl hcw hl0
  clear hR1 hR2 hT h1 h2
  go_enter Tryd.func6, Tryd.ntmps6
  go_upto_region 1 with fail
  generalize (w.alloc _).alloc _ = w0 at *
  go_wp2_with fail
  refine (alive_is w0 (HT.out.kept hk0)).mono ?_
  rintro e w1 ⟨rfl, k1⟩
  have hx1 := hx0.kept k1 id
  have hy1 := hy0.kept k1 id
  have hk1 := hk0.trans k1 (fun _ _ f => f)
  clear hx0 hy0 hk0 k1
  obtain ⟨c0, c1, c2, c3, c4⟩ := cells5 hx1
  obtain ⟨d0, d1, d2⟩ := cells3 hy1
  go_wp2_with fail
  refine (HR1.out w1).mono ?_
  rintro e w2 ⟨rfl, k2⟩
  have hx2 := hx1.kept k2 id
  have hy2 := hy1.kept k2 id
  have hk2 := hk1.trans k2 (fun _ _ f => f)
  clear c0 c1 c2 c3 c4 d0 d1 d2 hx1 hy1 hk1 k2
  obtain ⟨c0, c1, c2, c3, c4⟩ := cells5 hx2
  obtain ⟨d0, d1, d2⟩ := cells3 hy2
  go_wp2_with fail
  refine (HR2.out w2).mono ?_
  rintro e w3 ⟨rfl, k3⟩
  have hx3 := hx2.kept k3 id
  have hy3 := hy2.kept k3 id
  have hk3 := hk2.trans k3 (fun _ _ f => f)
  clear c0 c1 c2 c3 c4 d0 d1 d2 hx2 hy2 hk2 k3
  obtain ⟨c0, c1, c2, c3, c4⟩ := cells5 hx3
  obtain ⟨d0, d1, d2⟩ := cells3 hy3
  clear HR1 HR2
  go_wp2_with fail
  refine (HRP.out w3).mono ?_
  rintro e w4 ⟨vb, nb, rfl, hs4, k4⟩
  have hx4 := hx3.kept k4 id
  have hy4 := hy3.kept k4 id
  have hk4 := hk3.trans k4 (fun _ _ f => f)
  clear c0 c1 c2 c3 c4 d0 d1 d2 hx3 hy3 hk3 k4
  obtain rfl : nb = 10 := by
    have := hs4.len
    rw [bv_len, HB10.out] at this
    omega
  go_wp2_with fail
  refine (HGET.out w4 vb hs4.rd).mono ?_
  rintro e w5 ⟨k5, ⟨hne, _⟩ | ⟨_, rfl⟩⟩
  · exact absurd rfl hne
  have hx5 := hx4.kept k5 id
  have hy5 := hy4.kept k5 id
  have hk5 := hk4.trans k5 (fun _ _ f => f)
  clear hx4 hy4 hk4 hs4 k5 HGET HRP
  go_upto_region 6 with fail
  have hd6 := (Box.new w5 #[.int .i64 sc, .int .i64 od, .int .i64 th, .int .i64 fu, .int .i64 de] 23).alloc (.cells #[.int .i64 mo, .int .i64 bu, .bool st] 25)
  have hb6 := Box.new (w5.alloc (.cells #[.int .i64 sc, .int .i64 od, .int .i64 th, .int .i64 fu, .int .i64 de] 23)) #[.int .i64 mo, .int .i64 bu, .bool st] 25
  have hx6 := (hx5.alloc (.cells #[.int .i64 sc, .int .i64 od, .int .i64 th, .int .i64 fu, .int .i64 de] 23)).alloc (.cells #[.int .i64 mo, .int .i64 bu, .bool st] 25)
  have hy6 := (hy5.alloc (.cells #[.int .i64 sc, .int .i64 od, .int .i64 th, .int .i64 fu, .int .i64 de] 23)).alloc (.cells #[.int .i64 mo, .int .i64 bu, .bool st] 25)
  have hk6 := (hk5.alloc (.cells #[.int .i64 sc, .int .i64 od, .int .i64 th, .int .i64 fu, .int .i64 de] 23)).alloc (.cells #[.int .i64 mo, .int .i64 bu, .bool st] 25)
  simp only [World.size_alloc] at hb6
  generalize (w5.alloc _).alloc _ = w6 at *
  generalize w5.heap.size = bd at *
  clear hx5 hy5 hk5
  obtain ⟨c0, c1, c2, c3, c4⟩ := cells5 hx6
  obtain ⟨d0, d1, d2⟩ := cells3 hy6
  go_wp2_with fail
  refine (HRL.out w6).mono ?_
  rintro e w7 ⟨rfl, k7⟩
  have hx7 := hx6.kept k7 id
  have hy7 := hy6.kept k7 id
  have hd7 := hd6.kept k7 id
  have hb7 := hb6.kept k7 id
  have hk7 := hk6.trans k7 (fun _ _ f => f)
  clear c0 c1 c2 c3 c4 d0 d1 d2 hx6 hy6 hd6 hb6 hk6 k7 HRL
  go_wp2_with fail
  go_loopw [11, 12] (fun s i wr => ∃ (l : List UInt8) (k : Nat), k ≤ 3 ∧ s = .string ⟨l.toArray⟩ ∧ i = .int .i64 k ∧ Hid (wordsL l = confW sc od th fu de mo bu st ∧ l.length ≤ 1000 + 2 * k) ∧ Box wr w.heap.size #[.int .i64 sc, .int .i64 od, .int .i64 th, .int .i64 fu, .int .i64 de] 23 ∧ Box wr (w.heap.size + 1) #[.int .i64 mo, .int .i64 bu, .bool st] 25 ∧ Box wr bd #[.int .i64 sc, .int .i64 od, .int .i64 th, .int .i64 fu, .int .i64 de] 23 ∧ Box wr (bd + 1) #[.int .i64 mo, .int .i64 bu, .bool st] 25 ∧ Kept No w wr) (fun _ i _ => 3 - (intOf i).toNat)
  case atStart => exact ⟨l0, 0, by omega, rfl, rfl, Lib.hid ⟨HCW.out, by omega⟩, hx7, hy7, hd7, hb7, hk7⟩
  case round =>
    obtain ⟨l, k, hk3, rfl, rfl, HL, hx, hy, hd, hb, hK⟩ := hrel
    clear hx7 hy7 hd7 hb7 hk7
    obtain ⟨zn, rfl⟩ : ∃ zn : Nat, z = zn := ⟨z.toNat, by omega⟩
    by_cases hlt : (k : Int) < (zn : Int) % 4
    · obtain ⟨sx, hsx⟩ : ∃ s : ByteArray, (⟨l.toArray⟩ : ByteArray) = s := ⟨_, rfl⟩
      have z1 : (⟨#[32]⟩ : ByteArray).size = 1 := rfl
      have y0 : sx.size ≤ 1006 := by rw [← hsx, mk_size]; have := HL.out.2; omega
      obtain ⟨s1, hq1⟩ : ∃ s : ByteArray, (⟨#[32]⟩ : ByteArray) ++ sx = s := ⟨_, rfl⟩
      have y1 : s1.size ≤ 1007 := by rw [← hq1, ByteArray.size_append]; omega
      obtain ⟨s2, hq2⟩ : ∃ s : ByteArray, s1 ++ (⟨#[32]⟩ : ByteArray) = s := ⟨_, rfl⟩
      have HS2 : Hid (s2 = ⟨([32] ++ l ++ [32]).toArray⟩) := Lib.hid (by
        rw [← hq2, ← hq1, ← hsx, show (⟨#[32]⟩ : ByteArray) = ⟨([32] : List UInt8).toArray⟩ from rfl, app_mk, app_mk])
      rw [hsx]
      clear hsx
      go_wp2_with fail
      go_roundw
      case rel =>
        refine ⟨[32] ++ l ++ [32], k + 1, by omega, by rw [HS2.out], by go_num, Lib.hid ⟨by rw [words_pad]; exact HL.out.1, ?_⟩, hx, hy, hd, hb, hK⟩
        have := HL.out.2
        simp
        omega
      case measure => simp [intOf]; omega
    · have HP := Lib.hid (parse_is l (by have := HL.out.2; omega) wr (HT.out.kept hK))
      obtain ⟨sx, hsx⟩ : ∃ s : ByteArray, (⟨l.toArray⟩ : ByteArray) = s := ⟨_, rfl⟩
      rw [hsx, HL.out.1] at HP
      rw [hsx]
      clear hsx
      go_wp2_with fail
      refine HP.out.mono ?_
      rintro e w8 hpp
      obtain ⟨rfl, k8⟩ := HPC.out _ _ _ hpp
      have hx8 := hx.kept k8 id
      have hy8 := hy.kept k8 id
      have hd8 := hd.kept k8 id
      have hb8 := hb.kept k8 id
      have hk8 := hK.trans k8 (fun _ _ f => f)
      clear hx hy hd hb hK k8 hpp HP HPC
      go_upto_region 12 with fail
      have he9 := (Box.new w8 #[.int .i64 sc, .int .i64 od, .int .i64 th, .int .i64 fu, .int .i64 de] 23).alloc (.cells #[.int .i64 mo, .int .i64 bu, .bool st] 25)
      have hf9 := Box.new (w8.alloc (.cells #[.int .i64 sc, .int .i64 od, .int .i64 th, .int .i64 fu, .int .i64 de] 23)) #[.int .i64 mo, .int .i64 bu, .bool st] 25
      have hx9 := (hx8.alloc (.cells #[.int .i64 sc, .int .i64 od, .int .i64 th, .int .i64 fu, .int .i64 de] 23)).alloc (.cells #[.int .i64 mo, .int .i64 bu, .bool st] 25)
      have hy9 := (hy8.alloc (.cells #[.int .i64 sc, .int .i64 od, .int .i64 th, .int .i64 fu, .int .i64 de] 23)).alloc (.cells #[.int .i64 mo, .int .i64 bu, .bool st] 25)
      have hd9 := (hd8.alloc (.cells #[.int .i64 sc, .int .i64 od, .int .i64 th, .int .i64 fu, .int .i64 de] 23)).alloc (.cells #[.int .i64 mo, .int .i64 bu, .bool st] 25)
      have hb9 := (hb8.alloc (.cells #[.int .i64 sc, .int .i64 od, .int .i64 th, .int .i64 fu, .int .i64 de] 23)).alloc (.cells #[.int .i64 mo, .int .i64 bu, .bool st] 25)
      have hk9 := (hk8.alloc (.cells #[.int .i64 sc, .int .i64 od, .int .i64 th, .int .i64 fu, .int .i64 de] 23)).alloc (.cells #[.int .i64 mo, .int .i64 bu, .bool st] 25)
      simp only [World.size_alloc] at hf9
      generalize (w8.alloc _).alloc _ = w9 at *
      generalize w8.heap.size = be at *
      clear hx8 hy8 hd8 hb8 hk8
      obtain ⟨c0, c1, c2, c3, c4⟩ := cells5 hx9
      obtain ⟨d0, d1, d2⟩ := cells3 hy9
      obtain ⟨e0, e1, e2, e3, e4⟩ := cells5 hd9
      obtain ⟨f0, f1, f2⟩ := cells3 hb9
      obtain ⟨g0, g1, g2, g3, g4⟩ := cells5 he9
      obtain ⟨i0, i1, i2⟩ := cells3 hf9
      go_wp2_with fail
      go_ret
      exact ⟨rfl, hk9.below (Nat.le_refl _) (fun _ _ => id)⟩

theorem walk (w : World) (hT : Door.Tabs w) (xs : List Int) (hl : xs.length = Tryd.prog.cellsOf 23) (wf : ∀ z ∈ xs, (Lit.int .i64 z).wf = true) (mo bu : Int) (st : Bool) (w1 : (Lit.int .i64 mo).wf = true) (w2 : (Lit.int .i64 bu).wf = true) (z : Int) (wz : (Lit.int .u8 z).wf = true) :
    Calls Tryd.prog 6 #[.agg (vals xs).toArray, .agg #[.int .i64 mo, .int .i64 bu, .bool st], .int .u8 z] w fun e w' => e = .returned (.bool true) ∧ Below w.heap.size w w' := by
  have h5 : xs.length = 5 := hl.trans (by kernel_rfl)
  have hz := Open.wf_u8_bd wz
  match xs, h5 with
  | [sc, od, th, fu, de], _ =>
    cases h1 : isCfg sc od th fu de
    · exact body_f w hT sc od th fu de mo bu st z hz h1
    · cases h2 : isAsk mo bu
      · exact body_tf w hT sc od th fu de mo bu st z hz h1 h2
      · exact body_tt w hT sc od th fu de mo bu st z hz h1 h2

section
open Go.ChangeShapes Go.WideShapes Go.ChangeAt Go.ChangeMaps Go.RowKit Go.Proofs.YtknpjhmgkogmaaaDoor.Own Go.Proofs.YtknpjhmgkogmaaaDoor.Open Go.Proofs.YtknpjhmgkogmaaaDoor.Door

theorem own : ownKnob Tryd.prog.godebug = none := by kernel_rfl
theorem laidOut : laidOutB Tryd.prog = true := by kernel_rfl

theorem door_met (os : Os) (args : Array Value) : laidMetH Tryd.prog Rows.confBackRow.laid ((World.laidAll Tryd.prog os Rows.confBackRow.laid).forCall (fun _ _ => 0) ⟨#[], args, []⟩).memory := by
  rw [MakeChecks.laidMetH_plain _ _ _ (by kernel_rfl)]
  exact laidMet_laidAll _ (by kernel_rfl) (by kernel_rfl)

set_option maxRecDepth 100000 in
theorem lifted (os : Os) (started : os.Started) (H : Type) (enc : TypeId × Value → H) :
    ReturnsInHanded {} Tryd.checked os 6 .any (fun w args => (Rows.confBackSpec.pre enc Tryd.prog Tryd.f6 [] false w args ∧ laidMetH Tryd.prog Rows.confBackRow.laid w) ∧ sizedMet enc Tryd.prog Tryd.f6 (OpenSpec.ofChange Rows.confBackSpec) false w args) (Rows.confBackSpec.post enc Tryd.prog Tryd.f6 false true false false) := by
  refine returnsInHanded_of_change_and (C := Tryd.checked) (X := fun w _ => laidMetH Tryd.prog Rows.confBackRow.laid w) (fun _ _ _ hh h => h.of_heap hh) own started (by kernel_rfl) Tryd.func6
    (ChangeSpec.witness_shaped (enc := enc) (C := Tryd.checked) (os := os) (X := fun w _ => laidMetH Tryd.prog Rows.confBackRow.laid w) false (World.laidAll Tryd.prog os Rows.confBackRow.laid) #[.agg #[.int .i64 0, .int .i64 0, .int .i64 0, .int .i64 0, .int .i64 0], .agg #[.int .i64 0, .int .i64 0, .bool false], .int .u8 0] 8 (World.laidAll_os _ _ _) (World.shaped_of_ZipB (by kernel_rfl) (by kernel_rfl)) (by kernel_rfl) (by kernel_rfl) (by kernel_rfl) (door_met os _)) ?_
  intro W base args ds gs before hval0 hW _ _ hL _
  have hval : ∀ (j : Nat) t v, Tryd.f6.params[j]? = some t → args[j]? = some v → Value.okWide Tryd.prog W .any base t v := hval0
  have hW' := hW
  obtain ⟨p, q, hA0, hV, rfl, hfz, hnd⟩ := hW
  have hA : DataW.TrodAll enc Tryd.prog W 0 (fun _ => true) true Tryd.f6.params.toList args.toList ds p := hA0
  rw [Tryd.params6] at hA hval
  have hA1 := hA
  obtain ⟨v0, vs0, d0, ds0, p0, q0, hargs, rfl, rfl, h0, r0⟩ := trodAll_cons hA
  obtain ⟨v1, vs1, d1, ds1, p1, q1, rfl, rfl, rfl, h1, r1⟩ := trodAll_cons r0
  obtain ⟨v2, vs2, d2, ds2, p2, q2, rfl, rfl, rfl, h2, r2⟩ := trodAll_cons r1
  obtain ⟨rfl, rfl, rfl⟩ := trodAll_nil r2
  obtain rfl : args = #[v0, v1, v2] := by cases args; simp_all
  obtain ⟨rfl, rfl⟩ := trodVars_none hV
  obtain ⟨z0, rfl, l0, wf0⟩ := open_agg_i64 Tryd.underlying23 (by kernel_rfl) (hval 0 23 v0 rfl rfl) h0
  obtain ⟨ka1, kb1, kc1, rfl, wka1, wkb1⟩ := open_ask Tryd.underlying25 (by kernel_rfl) (by kernel_rfl) (by kernel_rfl) (by kernel_rfl) Tryd.underlying3 Tryd.underlying3 Tryd.underlying4 (hval 1 25 v1 rfl rfl) h1
  obtain ⟨a2, rfl, rfl, rfl, w2⟩ := open_int Tryd.underlying5 (hval 2 5 v2 rfl rfl) h2
  clear hA0 hval0
  simp only [List.append_nil] at hW' hA1
  refine (walk W (tabs_of hL) z0 l0 wf0 ka1 kb1 kc1 wka1 wkb1 a2 w2).mono fun e W' ⟨he, hb⟩ => ?_
  subst he
  exact ⟨_, rfl, ⟨_, _, _, [], _, [], hW', trodAll_mk1 (shut_bool Tryd.underlying4 _), below_args laidOut hb (by kernel_rfl) hA1 (fun x hx => by simpa using hW'.lt x hx), rfl, hb.frame _, fun h => by cases h⟩⟩

theorem said : Rows.ConfBackSaid :=
  OpenClaim.holds_of_wide 6 Tryd.f6 rfl rfl rfl rfl rfl rfl rfl ⟨rfl, rfl, rfl, rfl, rfl⟩ rfl rfl rfl rfl rfl (by kernel_rfl) Tryd.func6 (by kernel_rfl)
    (of_decide_eq_true (by kernel_rfl)) (by unfold Func.isWrapper; first | (rw [if_pos (by decide +kernel)]; kernel_rfl) | (rw [if_neg (by decide +kernel)]; exact ⟨rfl, rfl⟩))
    (fun os started H enc _ => lifted os started H enc)

theorem proved : Rows.ConfBackCardSaid :=
  Claim7.holds_tied_plain_at .later [] [.data, .data, .data, .data, .sentinel, .sentinel, .pinned] true Rows.confBackCard.stood.harness true
    said (fun _ h => by cases h) (by kernel_rfl) (fun _ h => by cases h) confBack_row_tie rfl ⟨rfl, rfl⟩ (by kernel_rfl) rfl
    (fun f fn hf hfn => by
      obtain rfl : f = 6 := Option.some.inj ((show Tryd.prog.funcNamed "warrener/warrenerlaw14.ConfBack" = some 6 by kernel_rfl).symm.trans hf) |>.symm
      obtain rfl : fn = Tryd.f6 := (Option.some.inj (Tryd.func6.symm.trans hfn)).symm
      exact ⟨by kernel_rfl, fun j t ht => by
        have hm : t ∈ Tryd.f6.params := Array.mem_of_getElem? ht
        have hall : (Tryd.f6.params.all fun u => !Tryd.prog.wantsStandIn u) = true := by kernel_rfl
        have := Array.all_eq_true_iff_forall_mem.1 hall t hm
        exact (show Tryd.prog.wantsStandIn t = false by simpa using this)⟩)
    (by kernel_rfl)
end
end Go.Proofs.YtknpjhmgkogmaaaDoor.confBack
