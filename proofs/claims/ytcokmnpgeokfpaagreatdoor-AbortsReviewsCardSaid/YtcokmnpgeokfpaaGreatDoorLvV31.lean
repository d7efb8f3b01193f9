/-
  The chapter's examples hold (layer 31): the closed run, with what the five texts encode to by contracts of their own.
-/
import Derived.Test.YtcokmnpgeokfpaaGreatDoorProg
import Derived.Test.YtcokmnpgeokfpaaGreatDoorVxD
import Derived.KernelRfl
set_option linter.unusedVariables false
set_option linter.unusedSimpArgs false
namespace Go.Proofs.YtcokmnpgeokfpaaGreatDoor
open Go.RowKit Go.Vx
/-- u1(c0=09) -/
def tx1 : List Nat := [117, 49, 40, 99, 48, 61, 48, 57, 41]
def by1 : List Int := [0x21, 3, 0x80, 1, 9]
/-- a2(c0=09 c1=05) -/
def tx2 : List Nat := [97, 50, 40, 99, 48, 61, 48, 57, 32, 99, 49, 61, 48, 53, 41]
def by2 : List Int := [0x62, 6, 0x80, 1, 9, 0x81, 1, 5]
/-- a2(c0=00 c1=05) -/
def tx3 : List Nat := [97, 50, 40, 99, 48, 61, 48, 48, 32, 99, 49, 61, 48, 53, 41]
def by3 : List Int := [0x62, 6, 0x80, 1, 0, 0x81, 1, 5]
/-- a1(c2(u2=01 u10=07 u4=) c1(u2=02) c5()) -/
def tx4 : List Nat := [97, 49, 40, 99, 50, 40, 117, 50, 61, 48, 49, 32, 117, 49, 48, 61, 48, 55, 32, 117, 52, 61, 41, 32, 99, 49, 40, 117, 50, 61, 48, 50, 41, 32, 99, 53, 40, 41, 41]
def by4 : List Int := [0x61, 17, 0xa2, 8, 2, 1, 1, 10, 1, 7, 4, 0, 0xa1, 3, 2, 1, 2, 0xa5, 0]
def tabL : Tab := [(tx1, by1), (tx2, by2), (tx3, by3), (tx4, by4)]
set_option maxHeartbeats 0 in
theorem enc1_ok (W0 : World) : FTo Tryz.prog W0 49 #[.string (mkB tx1)] (mkW 0 [] []) (.returned (.slice (some ⟨0, 0, none⟩) by1.length by1.length)) (mkW 1 [] [(0, .cells (u8s by1) 5 1)]) :=
  FTo.closedE (fn := Tryz.f49) (n := 100000) (args := [.string (mkB tx1)]) [59] [(0, .cells (u8s by1) 5 1)] _ Tryz.func49 rfl (by kernel_rfl) (by kernel_rfl)
set_option maxHeartbeats 0 in
theorem enc2_ok (W0 : World) : FTo Tryz.prog W0 49 #[.string (mkB tx2)] (mkW 0 [] []) (.returned (.slice (some ⟨0, 0, none⟩) by2.length by2.length)) (mkW 1 [] [(0, .cells (u8s by2) 5 1)]) :=
  FTo.closedE (fn := Tryz.f49) (n := 100000) (args := [.string (mkB tx2)]) [89] [(0, .cells (u8s by2) 5 1)] _ Tryz.func49 rfl (by kernel_rfl) (by kernel_rfl)
set_option maxHeartbeats 0 in
theorem enc3_ok (W0 : World) : FTo Tryz.prog W0 49 #[.string (mkB tx3)] (mkW 0 [] []) (.returned (.slice (some ⟨0, 0, none⟩) by3.length by3.length)) (mkW 1 [] [(0, .cells (u8s by3) 5 1)]) :=
  FTo.closedE (fn := Tryz.f49) (n := 100000) (args := [.string (mkB tx3)]) [89] [(0, .cells (u8s by3) 5 1)] _ Tryz.func49 rfl (by kernel_rfl) (by kernel_rfl)
set_option maxHeartbeats 0 in
theorem enc4_ok (W0 : World) : FTo Tryz.prog W0 49 #[.string (mkB tx4)] (mkW 0 [] []) (.returned (.slice (some ⟨0, 0, none⟩) by4.length by4.length)) (mkW 1 [] [(0, .cells (u8s by4) 5 1)]) :=
  FTo.closedE (fn := Tryz.f49) (n := 100000) (args := [.string (mkB tx4)]) [234] [(0, .cells (u8s by4) 5 1)] _ Tryz.func49 rfl (by kernel_rfl) (by kernel_rfl)
theorem tab_ok (W0 : World) : ∀ p, p ∈ tabL → FTo Tryz.prog W0 49 #[.string (mkB p.1)] (mkW 0 [] []) (.returned (.slice (some ⟨0, 0, none⟩) p.2.length p.2.length)) (mkW 1 [] [(0, .cells (u8s p.2) 5 1)]) := by
  intro p hp
  simp only [tabL, List.mem_cons, List.not_mem_nil, or_false] at hp
  rcases hp with rfl | rfl | rfl | rfl
  · exact enc1_ok W0
  · exact enc2_ok W0
  · exact enc3_ok W0
  · exact enc4_ok W0
set_option maxHeartbeats 0 in
theorem runLv_good : isTrue (runE Tryz.prog (extT 49 5 tabL) 100000 Tryz.f15 []) = true := by kernel_rfl
/-- the examples hold -/
theorem lives_pto {W : World} : PTo Tryz.prog W 15 #[] (.returned (.bool true)) :=
  PTo.closedY (fn := Tryz.f15) Tryz.func15 rfl (fun w0 S hS => extT_ok (tab_ok W) hS) runLv_good
end Go.Proofs.YtcokmnpgeokfpaaGreatDoor
