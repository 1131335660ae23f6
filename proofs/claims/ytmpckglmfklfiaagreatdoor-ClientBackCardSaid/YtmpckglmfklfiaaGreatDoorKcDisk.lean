/-
  A new disk of 341 blocks, written out.
-/
import Derived.Test.YtmpckglmfklfiaaGreatDoorChecked
import Derived.Test.YtmpckglmfklfiaaGreatDoorEvPart2
set_option linter.unusedVariables false
namespace Go.Proofs.YtmpckglmfklfiaaGreatDoor
open Go Go.Ev
noncomputable section
def q (b n c : Nat) : Value := .slice (some ⟨b, 0, none⟩) n c
def F : Value := .bool false
def T : Value := .bool true
def qs (e d n : Nat) (t : List Value) : List Value := Nat.rec (motive := fun _ => List Value) t (fun k r => q (Nat.sub e (Nat.mul d k)) 256 256 :: r) n
def rp {α : Type} (x : α) (n : Nat) (t : List α) : List α := Nat.rec (motive := fun _ => List α) t (fun _ r => x :: r) n
def n0 (x : Tr Ob) : Tr Ob := .n none x .e .e .e .e .e .e .e
def n1 (x y : Tr Ob) : Tr Ob := .n none x y .e .e .e .e .e .e
def n2 (x y : Tr Ob) : Tr Ob := .n none x .e y .e .e .e .e .e
def n3 (x y : Tr Ob) : Tr Ob := .n none x .e .e y .e .e .e .e
def n4 (x : Tr Ob) : Tr Ob := .n none .e x .e .e .e .e .e .e
def m0 (o : Ob) (x : Tr Ob) : Tr Ob := .n (some o) x .e .e .e .e .e .e .e
def cq (a : Nat) (t : Nat) : Ob := .cells [q a 256 256] t .ex
def cs (a n : Nat) (t : Nat) : Ob := .cells [sl a n] t .ex
def cn (a : Int) (t : Nat) : Ob := .cells [num a] t .ex
def rw0 : List Value := [(sl 4098 341),(.slice none 0 0),(num 0),(num (-1))]
def rw1 : List Value := (bs (rp 0 256 []))
def o1 : Ob := .cells rw1 0 .ex
def l1 : Tr Ob := tl o1
def o3 : Ob := .dead
def l3 : Tr Ob := tl o3
def rw2 : List Value := (qs 4092 12 341 [])
def disk_heap : Tr Ob :=
 (.n none (.n none (.n none (.n (some (cq 72 0)) .e .e (tl (cq 1608 0)) .e .e (tl (cq 3144 0)) .e .e) (.n none (tl (cq 648 0)) .e .e (tl (cq 2184 0)) 
 .e .e (tl (cq 3720 0)) .e) (.n none .e (tl (cq 1224 0)) .e .e (tl (cq 2760 0)) .e .e .e) (.n (some (cq 264 0)) .e .e (tl (cq 1800 0)) .e .e (tl (cq 
 3336 0)) .e .e) (.n none (tl (cq 840 0)) .e .e (tl (cq 2376 0)) .e .e (tl (cq 3912 0)) .e) (.n none .e (tl (cq 1416 0)) .e .e (tl (cq 2952 0)) .e .e 
 .e) (.n (some (cq 456 0)) .e .e (tl (cq 1992 0)) .e .e (tl (cq 3528 0)) .e .e) (n3 (tl (cq 1032 0)) (tl (cq 2568 0)))) (.n none (.n none .e (tl (cq 
 1104 0)) .e .e (tl (cq 2640 0)) .e .e .e) (.n (some (cq 144 0)) .e .e (tl (cq 1680 0)) .e .e (tl (cq 3216 0)) .e .e) (.n none (tl (cq 720 0)) .e .e 
 (tl (cq 2256 0)) .e .e (tl (cq 3792 0)) .e) (.n none .e (tl (cq 1296 0)) .e .e (tl (cq 2832 0)) .e .e .e) (.n (some (cq 336 0)) .e .e (tl (cq 1872 0)) 
 .e .e (tl (cq 3408 0)) .e .e) (.n none (tl (cq 912 0)) .e .e (tl (cq 2448 0)) .e .e (tl (cq 3984 0)) .e) (.n none .e (tl (cq 1488 0)) .e .e (tl (cq 
 3024 0)) .e .e .e) (.n (some (cq 528 0)) .e .e (tl (cq 2064 0)) .e .e (tl (cq 3600 0)) .e .e)) (.n (some (cq 24 0)) (.n none (tl (cq 600 0)) .e .e (tl 
 (cq 2136 0)) .e .e (tl (cq 3672 0)) .e) (.n none .e (tl (cq 1176 0)) .e .e (tl (cq 2712 0)) .e .e .e) (.n (some (cq 216 0)) .e .e (tl (cq 1752 0)) .e 
 .e (tl (cq 3288 0)) .e .e) (.n none (tl (cq 792 0)) .e .e (tl (cq 2328 0)) .e .e (tl (cq 3864 0)) .e) (.n none .e (tl (cq 1368 0)) .e .e (tl (cq 2904 
 0)) .e .e .e) (.n (some (cq 408 0)) .e .e (tl (cq 1944 0)) .e .e (tl (cq 3480 0)) .e .e) (.n none (tl (cq 984 0)) .e .e (tl (cq 2520 0)) .e .e (tl (cq 
 4056 0)) .e) (.n none .e (tl (cq 1560 0)) .e .e (tl (cq 3096 0)) .e .e .e)) (.n none (.n (some (cq 96 0)) .e .e (tl (cq 1632 0)) .e .e (tl (cq 3168 
 0)) .e .e) (.n none (tl (cq 672 0)) .e .e (tl (cq 2208 0)) .e .e (tl (cq 3744 0)) .e) (.n none .e (tl (cq 1248 0)) .e .e (tl (cq 2784 0)) .e .e .e) 
 (.n (some (cq 288 0)) .e .e (tl (cq 1824 0)) .e .e (tl (cq 3360 0)) .e .e) (.n none (tl (cq 864 0)) .e .e (tl (cq 2400 0)) .e .e (tl (cq 3936 0)) .e) 
 (.n none .e (tl (cq 1440 0)) .e .e (tl (cq 2976 0)) .e .e .e) (.n (some (cq 480 0)) .e .e (tl (cq 2016 0)) .e .e (tl (cq 3552 0)) .e .e) (n3 (tl (cq 
 1056 0)) (tl (cq 2592 0)))) (.n none (.n none .e (tl (cq 1128 0)) .e .e (tl (cq 2664 0)) .e .e .e) (.n (some (cq 168 0)) .e .e (tl (cq 1704 0)) .e .e 
 (tl (cq 3240 0)) .e .e) (.n none (tl (cq 744 0)) .e .e (tl (cq 2280 0)) .e .e (tl (cq 3816 0)) .e) (.n none .e (tl (cq 1320 0)) .e .e (tl (cq 2856 0)) 
 .e .e .e) (.n (some (cq 360 0)) .e .e (tl (cq 1896 0)) .e .e (tl (cq 3432 0)) .e .e) (.n none (tl (cq 936 0)) .e .e (tl (cq 2472 0)) .e .e (tl (cq 
 4008 0)) .e) (.n none .e (tl (cq 1512 0)) .e .e (tl (cq 3048 0)) .e .e .e) (.n (some (cq 552 0)) .e .e (tl (cq 2088 0)) .e .e (tl (cq 3624 0)) .e .e)) 
 (.n (some (cq 48 0)) (.n none (tl (cq 624 0)) .e .e (tl (cq 2160 0)) .e .e (tl (cq 3696 0)) .e) (.n none .e (tl (cq 1200 0)) .e .e (tl (cq 2736 0)) .e 
 .e .e) (.n (some (cq 240 0)) .e .e (tl (cq 1776 0)) .e .e (tl (cq 3312 0)) .e .e) (.n none (tl (cq 816 0)) .e .e (tl (cq 2352 0)) .e .e (tl (cq 3888 
 0)) .e) (.n none .e (tl (cq 1392 0)) .e .e (tl (cq 2928 0)) .e .e .e) (.n (some (cq 432 0)) .e .e (tl (cq 1968 0)) .e .e (tl (cq 3504 0)) .e .e) (.n 
 none (tl (cq 1008 0)) .e .e (tl (cq 2544 0)) .e .e (tl (cq 4080 0)) .e) (.n none .e (tl (cq 1584 0)) .e .e (tl (cq 3120 0)) .e .e .e)) (.n none (.n 
 (some (cq 120 0)) .e .e (tl (cq 1656 0)) .e .e (tl (cq 3192 0)) .e .e) (.n none (tl (cq 696 0)) .e .e (tl (cq 2232 0)) .e .e (tl (cq 3768 0)) .e) (.n 
 none .e (tl (cq 1272 0)) .e .e (tl (cq 2808 0)) .e .e .e) (.n (some (cq 312 0)) .e .e (tl (cq 1848 0)) .e .e (tl (cq 3384 0)) .e .e) (.n none (tl (cq 
 888 0)) .e .e (tl (cq 2424 0)) .e .e (tl (cq 3960 0)) .e) (.n none .e (tl (cq 1464 0)) .e .e (tl (cq 3000 0)) .e .e .e) (.n (some (cq 504 0)) .e .e 
 (tl (cq 2040 0)) .e .e (tl (cq 3576 0)) .e .e) (n3 (tl (cq 1080 0)) (tl (cq 2616 0)))) (.n none (.n none .e (tl (cq 1152 0)) .e .e (tl (cq 2688 0)) .e 
 .e .e) (.n (some (cq 192 0)) .e .e (tl (cq 1728 0)) .e .e (tl (cq 3264 0)) .e .e) (.n none (tl (cq 768 0)) .e .e (tl (cq 2304 0)) .e .e (tl (cq 3840 
 0)) .e) (.n none .e (tl (cq 1344 0)) .e .e (tl (cq 2880 0)) .e .e .e) (.n (some (cq 384 0)) .e .e (tl (cq 1920 0)) .e .e (tl (cq 3456 0)) .e .e) (.n 
 none (tl (cq 960 0)) .e .e (tl (cq 2496 0)) .e .e (tl (cq 4032 0)) .e) (.n none .e (tl (cq 1536 0)) .e .e (tl (cq 3072 0)) .e .e .e) (.n (some (cq 576 
 0)) .e .e (tl (cq 2112 0)) .e .e (tl (cq 3648 0)) .e .e))) (.n none (.n none (.n none .e l3 .e .e l3 .e .e .e) (.n (some o3) .e .e l3 .e .e l3 .e .e) 
 (.n none l3 .e .e l3 .e .e l3 .e) (.n none .e l3 .e .e l3 .e .e .e) (.n (some o3) .e .e l3 .e .e l3 .e .e) (.n none l3 .e .e l3 .e .e l3 .e) (.n none 
 .e l3 .e .e l3 .e .e .e) (.n (some o3) .e .e l3 .e .e l3 .e .e)) (.n (some o3) (.n none l3 .e .e l3 .e .e l3 .e) (.n none .e l3 .e .e l3 .e .e .e) (.n 
 (some o3) .e .e l3 .e .e l3 .e .e) (.n none l3 .e .e l3 .e .e l3 .e) (.n none .e l3 .e .e l3 .e .e .e) (.n (some o3) .e .e l3 .e .e l3 .e .e) (.n none 
 l3 .e .e l3 .e .e l3 .e) (.n none .e l3 .e .e l3 .e .e .e)) (.n none (.n (some o3) .e .e l3 .e .e l3 .e .e) (.n none l3 .e .e l3 .e .e l3 .e) (.n none 
 .e l3 .e .e l3 .e .e .e) (.n (some o3) .e .e l3 .e .e l3 .e .e) (.n none l3 .e .e l3 .e .e l3 .e) (.n none .e l3 .e .e l3 .e .e .e) (.n (some o3) .e 
 .e l3 .e .e l3 .e .e) (n3 l3 l3)) (.n none (.n none .e l3 .e .e l3 .e .e .e) (.n (some o3) .e .e l3 .e .e l3 .e .e) (.n none l3 .e .e l3 .e .e l3 .e) 
 (.n none .e l3 .e .e l3 .e .e .e) (.n (some o3) .e .e l3 .e .e l3 .e .e) (.n none l3 .e .e l3 .e .e l3 .e) (.n none .e l3 .e .e l3 .e .e .e) (.n (some 
 o3) .e .e l3 .e .e l3 .e .e)) (.n (some o3) (.n none l3 .e .e l3 .e .e l3 .e) (.n none .e l3 .e .e l3 .e .e .e) (.n (some o3) .e .e l3 .e .e l3 .e .e) 
 (.n none l3 .e .e l3 .e .e l3 .e) (.n none .e l3 .e .e l3 .e .e .e) (.n (some o3) .e .e l3 .e .e l3 .e .e) (.n none l3 .e .e l3 .e .e l3 .e) (.n none 
 .e l3 .e .e l3 .e .e .e)) (.n none (.n (some o3) .e .e l3 .e .e l3 .e .e) (.n none l3 .e .e l3 .e .e l3 .e) (.n none .e l3 .e .e l3 .e .e .e) (.n 
 (some o3) .e .e l3 .e .e l3 .e .e) (.n none l3 .e .e l3 .e .e l3 .e) (.n none .e l3 .e .e l3 .e .e .e) (.n (some o3) .e .e l3 .e .e l3 .e .e) (n3 l3 
 l3)) (.n none (.n none .e l3 .e .e l3 .e .e .e) (.n (some o3) .e .e l3 .e .e l3 .e .e) (.n none l3 .e .e l3 .e .e l3 .e) (.n none .e l3 .e .e l3 .e .e 
 .e) (.n (some o3) .e .e l3 .e .e l3 .e .e) (.n none l3 .e .e l3 .e .e l3 .e) (.n none .e l3 .e .e l3 .e .e .e) (.n (some o3) .e .e l3 .e .e l3 .e .e)) 
 (.n (some o3) (.n none l3 .e .e l3 .e .e l3 .e) (.n none .e l3 .e .e l3 .e .e .e) (.n (some o3) .e .e l3 .e .e l3 .e .e) (.n none l3 .e .e l3 .e .e l3 
 .e) (.n none .e l3 .e .e l3 .e .e .e) (.n (some o3) .e .e l3 .e .e l3 .e .e) (.n none l3 .e .e l3 .e .e (tl (.cells rw2 1769473 .gr)) .e) (.n none .e 
 l3 .e .e l3 .e .e .e))) .e (.n none (.n (some o1) (.n none l1 .e .e l1 .e .e l1 .e) (.n none .e l1 .e .e l1 .e .e .e) (.n (some o1) .e .e l1 .e .e l1 
 .e .e) (.n none l1 .e .e l1 .e .e l1 .e) (.n none .e l1 .e .e l1 .e .e .e) (.n (some o1) .e .e l1 .e .e l1 .e .e) (.n none l1 .e .e l1 .e .e l1 .e) 
 (.n none .e l1 .e .e l1 .e .e .e)) (.n none (.n (some o1) .e .e l1 .e .e l1 .e .e) (.n none l1 .e .e l1 .e .e l1 .e) (.n none .e l1 .e .e l1 .e .e .e) 
 (.n (some o1) .e .e l1 .e .e l1 .e .e) (.n none l1 .e .e l1 .e .e l1 .e) (.n none .e l1 .e .e l1 .e .e .e) (.n (some o1) .e .e l1 .e .e l1 .e .e) (n3 
 l1 l1)) (.n none (.n none .e l1 .e .e l1 .e .e .e) (.n (some o1) .e .e l1 .e .e l1 .e .e) (.n none l1 .e .e l1 .e .e l1 .e) (.n none .e l1 .e .e l1 .e 
 .e .e) (.n (some o1) .e .e l1 .e .e l1 .e .e) (.n none l1 .e .e l1 .e .e l1 .e) (.n none .e l1 .e .e l1 .e .e .e) (.n (some o1) .e .e l1 .e .e l1 .e 
 .e)) (.n (some o1) (.n none l1 .e .e l1 .e .e l1 .e) (.n none .e l1 .e .e l1 .e .e .e) (.n (some o1) .e .e l1 .e .e l1 .e .e) (.n none l1 .e .e l1 .e 
 .e l1 .e) (.n none .e l1 .e .e l1 .e .e .e) (.n (some o1) .e .e l1 .e .e l1 .e .e) (.n none l1 .e .e l1 .e .e l1 .e) (.n none .e l1 .e .e l1 .e .e 
 .e)) (.n none (.n (some o1) .e .e l1 .e .e l1 .e .e) (.n none l1 .e .e l1 .e .e l1 .e) (.n none .e l1 .e .e l1 .e .e .e) (.n (some o1) .e .e l1 .e .e 
 l1 .e .e) (.n none l1 .e .e l1 .e .e l1 .e) (.n none .e l1 .e .e l1 .e .e .e) (.n (some o1) .e .e l1 .e .e l1 .e .e) (n3 l1 l1)) (.n none (.n none .e 
 l1 .e .e l1 .e .e .e) (.n (some o1) .e .e l1 .e .e l1 .e .e) (.n none l1 .e .e l1 .e .e l1 .e) (.n none .e l1 .e .e l1 .e .e .e) (.n (some o1) .e .e 
 l1 .e .e l1 .e .e) (.n none l1 .e .e l1 .e .e l1 .e) (.n none .e l1 .e .e l1 .e .e .e) (.n (some o1) .e .e l1 .e .e l1 .e .e)) (.n (some o1) (.n none 
 l1 .e .e l1 .e .e l1 .e) (.n none .e l1 .e .e l1 .e .e .e) (.n (some o1) .e .e l1 .e .e l1 .e .e) (.n none l1 .e .e l1 .e .e l1 .e) (.n none .e l1 .e 
 .e l1 .e .e .e) (.n (some o1) .e .e l1 .e .e l1 .e .e) (.n none l1 .e .e l1 .e .e l1 .e) (.n none .e l1 .e .e l1 .e .e .e)) (.n none (.n (some o1) .e 
 .e l1 .e .e l1 .e .e) (.n none l1 .e .e l1 .e .e l1 .e) (.n none .e l1 .e .e l1 .e .e .e) (.n (some o1) .e .e l1 .e .e l1 .e .e) (.n none l1 .e .e l1 
 .e .e l1 .e) (.n none .e l1 .e .e l1 .e .e .e) (.n (some o1) .e .e l1 .e .e l1 .e .e) (n3 l1 l1))) (.n (some (.cells rw0 0 .ex)) (.n (some (cq 12 0)) 
 (.n none (tl (cq 588 0)) .e .e (tl (cq 2124 0)) .e .e (tl (cq 3660 0)) .e) (.n none .e (tl (cq 1164 0)) .e .e (tl (cq 2700 0)) .e .e .e) (.n (some (cq 
 204 0)) .e .e (tl (cq 1740 0)) .e .e (tl (cq 3276 0)) .e .e) (.n none (tl (cq 780 0)) .e .e (tl (cq 2316 0)) .e .e (tl (cq 3852 0)) .e) (.n none .e 
 (tl (cq 1356 0)) .e .e (tl (cq 2892 0)) .e .e .e) (.n (some (cq 396 0)) .e .e (tl (cq 1932 0)) .e .e (tl (cq 3468 0)) .e .e) (.n none (tl (cq 972 0)) 
 .e .e (tl (cq 2508 0)) .e .e (tl (cq 4044 0)) .e) (.n none .e (tl (cq 1548 0)) .e .e (tl (cq 3084 0)) .e .e .e)) (.n none (.n (some (cq 84 0)) .e .e 
 (tl (cq 1620 0)) .e .e (tl (cq 3156 0)) .e .e) (.n none (tl (cq 660 0)) .e .e (tl (cq 2196 0)) .e .e (tl (cq 3732 0)) .e) (.n none .e (tl (cq 1236 0)) 
 .e .e (tl (cq 2772 0)) .e .e .e) (.n (some (cq 276 0)) .e .e (tl (cq 1812 0)) .e .e (tl (cq 3348 0)) .e .e) (.n none (tl (cq 852 0)) .e .e (tl (cq 
 2388 0)) .e .e (tl (cq 3924 0)) .e) (.n none .e (tl (cq 1428 0)) .e .e (tl (cq 2964 0)) .e .e .e) (.n (some (cq 468 0)) .e .e (tl (cq 2004 0)) .e .e 
 (tl (cq 3540 0)) .e .e) (n3 (tl (cq 1044 0)) (tl (cq 2580 0)))) (.n none (.n none .e (tl (cq 1116 0)) .e .e (tl (cq 2652 0)) .e .e .e) (.n (some (cq 
 156 0)) .e .e (tl (cq 1692 0)) .e .e (tl (cq 3228 0)) .e .e) (.n none (tl (cq 732 0)) .e .e (tl (cq 2268 0)) .e .e (tl (cq 3804 0)) .e) (.n none .e 
 (tl (cq 1308 0)) .e .e (tl (cq 2844 0)) .e .e .e) (.n (some (cq 348 0)) .e .e (tl (cq 1884 0)) .e .e (tl (cq 3420 0)) .e .e) (.n none (tl (cq 924 0)) 
 .e .e (tl (cq 2460 0)) .e .e (tl (cq 3996 0)) .e) (.n none .e (tl (cq 1500 0)) .e .e (tl (cq 3036 0)) .e .e .e) (.n (some (cq 540 0)) .e .e (tl (cq 
 2076 0)) .e .e (tl (cq 3612 0)) .e .e)) (.n (some (cq 36 0)) (.n none (tl (cq 612 0)) .e .e (tl (cq 2148 0)) .e .e (tl (cq 3684 0)) .e) (.n none .e 
 (tl (cq 1188 0)) .e .e (tl (cq 2724 0)) .e .e .e) (.n (some (cq 228 0)) .e .e (tl (cq 1764 0)) .e .e (tl (cq 3300 0)) .e .e) (.n none (tl (cq 804 0)) 
 .e .e (tl (cq 2340 0)) .e .e (tl (cq 3876 0)) .e) (.n none .e (tl (cq 1380 0)) .e .e (tl (cq 2916 0)) .e .e .e) (.n (some (cq 420 0)) .e .e (tl (cq 
 1956 0)) .e .e (tl (cq 3492 0)) .e .e) (.n none (tl (cq 996 0)) .e .e (tl (cq 2532 0)) .e .e (tl (cq 4068 0)) .e) (.n none .e (tl (cq 1572 0)) .e .e 
 (tl (cq 3108 0)) .e .e .e)) (.n none (.n (some (cq 108 0)) .e .e (tl (cq 1644 0)) .e .e (tl (cq 3180 0)) .e .e) (.n none (tl (cq 684 0)) .e .e (tl (cq 
 2220 0)) .e .e (tl (cq 3756 0)) .e) (.n none .e (tl (cq 1260 0)) .e .e (tl (cq 2796 0)) .e .e .e) (.n (some (cq 300 0)) .e .e (tl (cq 1836 0)) .e .e 
 (tl (cq 3372 0)) .e .e) (.n none (tl (cq 876 0)) .e .e (tl (cq 2412 0)) .e .e (tl (cq 3948 0)) .e) (.n none .e (tl (cq 1452 0)) .e .e (tl (cq 2988 0)) 
 .e .e .e) (.n (some (cq 492 0)) .e .e (tl (cq 2028 0)) .e .e (tl (cq 3564 0)) .e .e) (n3 (tl (cq 1068 0)) (tl (cq 2604 0)))) (.n none (.n none .e (tl 
 (cq 1140 0)) .e .e (tl (cq 2676 0)) .e .e .e) (.n (some (cq 180 0)) .e .e (tl (cq 1716 0)) .e .e (tl (cq 3252 0)) .e .e) (.n none (tl (cq 756 0)) .e 
 .e (tl (cq 2292 0)) .e .e (tl (cq 3828 0)) .e) (.n none .e (tl (cq 1332 0)) .e .e (tl (cq 2868 0)) .e .e .e) (.n (some (cq 372 0)) .e .e (tl (cq 1908 
 0)) .e .e (tl (cq 3444 0)) .e .e) (.n none (tl (cq 948 0)) .e .e (tl (cq 2484 0)) .e .e (tl (cq 4020 0)) .e) (.n none .e (tl (cq 1524 0)) .e .e (tl 
 (cq 3060 0)) .e .e .e) (.n (some (cq 564 0)) .e .e (tl (cq 2100 0)) .e .e (tl (cq 3636 0)) .e .e)) (.n (some (cq 60 0)) (.n none (tl (cq 636 0)) .e .e 
 (tl (cq 2172 0)) .e .e (tl (cq 3708 0)) .e) (.n none .e (tl (cq 1212 0)) .e .e (tl (cq 2748 0)) .e .e .e) (.n (some (cq 252 0)) .e .e (tl (cq 1788 0)) 
 .e .e (tl (cq 3324 0)) .e .e) (.n none (tl (cq 828 0)) .e .e (tl (cq 2364 0)) .e .e (tl (cq 3900 0)) .e) (.n none .e (tl (cq 1404 0)) .e .e (tl (cq 
 2940 0)) .e .e .e) (.n (some (cq 444 0)) .e .e (tl (cq 1980 0)) .e .e (tl (cq 3516 0)) .e .e) (.n none (tl (cq 1020 0)) .e .e (tl (cq 2556 0)) .e .e 
 (tl (cq 4092 0)) .e) (.n none .e (tl (cq 1596 0)) .e .e (tl (cq 3132 0)) .e .e .e)) (.n none (.n (some (cq 132 0)) .e .e (tl (cq 1668 0)) .e .e (tl 
 (cq 3204 0)) .e .e) (.n none (tl (cq 708 0)) .e .e (tl (cq 2244 0)) .e .e (tl (cq 3780 0)) .e) (.n none .e (tl (cq 1284 0)) .e .e (tl (cq 2820 0)) .e 
 .e .e) (.n (some (cq 324 0)) .e .e (tl (cq 1860 0)) .e .e (tl (cq 3396 0)) .e .e) (.n none (tl (cq 900 0)) .e .e (tl (cq 2436 0)) .e .e (tl (cq 3972 
 0)) .e) (.n none .e (tl (cq 1476 0)) .e .e (tl (cq 3012 0)) .e .e .e) (.n (some (cq 516 0)) .e .e (tl (cq 2052 0)) .e .e (tl (cq 3588 0)) .e .e) (n3 
 (tl (cq 1092 0)) (tl (cq 2628 0))))) (.n none (.n none (.n (some o3) .e .e l3 .e .e l3 .e .e) (.n none l3 .e .e l3 .e .e l3 .e) (.n none .e l3 .e .e 
 l3 .e .e .e) (.n (some o3) .e .e l3 .e .e l3 .e .e) (.n none l3 .e .e l3 .e .e l3 .e) (.n none .e l3 .e .e l3 .e .e .e) (.n (some o3) .e .e l3 .e .e 
 l3 .e .e) (n3 l3 l3)) (.n none (.n none .e l3 .e .e l3 .e .e .e) (.n (some o3) .e .e l3 .e .e l3 .e .e) (.n none l3 .e .e l3 .e .e l3 .e) (.n none .e 
 l3 .e .e l3 .e .e .e) (.n (some o3) .e .e l3 .e .e l3 .e .e) (.n none l3 .e .e l3 .e .e l3 .e) (.n none .e l3 .e .e l3 .e .e .e) (.n (some o3) .e .e 
 l3 .e .e l3 .e .e)) (.n (some o3) (.n none l3 .e .e l3 .e .e l3 .e) (.n none .e l3 .e .e l3 .e .e .e) (.n (some o3) .e .e l3 .e .e l3 .e .e) (.n none 
 l3 .e .e l3 .e .e l3 .e) (.n none .e l3 .e .e l3 .e .e .e) (.n (some o3) .e .e l3 .e .e l3 .e .e) (.n none l3 .e .e l3 .e .e l3 .e) (.n none .e l3 .e 
 .e l3 .e .e .e)) (.n none (.n (some o3) .e .e l3 .e .e l3 .e .e) (.n none l3 .e .e l3 .e .e l3 .e) (.n none .e l3 .e .e l3 .e .e .e) (.n (some o3) .e 
 .e l3 .e .e l3 .e .e) (.n none l3 .e .e l3 .e .e l3 .e) (.n none .e l3 .e .e l3 .e .e .e) (.n (some o3) .e .e l3 .e .e l3 .e .e) (n3 l3 l3)) (.n none 
 (.n none .e l3 .e .e l3 .e .e .e) (.n (some o3) .e .e l3 .e .e l3 .e .e) (.n none l3 .e .e l3 .e .e l3 .e) (.n none .e l3 .e .e l3 .e .e .e) (.n (some 
 o3) .e .e l3 .e .e l3 .e .e) (.n none l3 .e .e l3 .e .e l3 .e) (.n none .e l3 .e .e l3 .e .e .e) (.n (some o3) .e .e l3 .e .e l3 .e .e)) (.n (some o3) 
 (.n none l3 .e .e l3 .e .e l3 .e) (.n none .e l3 .e .e l3 .e .e .e) (.n (some o3) .e .e l3 .e .e l3 .e .e) (.n none l3 .e .e l3 .e .e l3 .e) (.n none 
 .e l3 .e .e l3 .e .e .e) (.n (some o3) .e .e l3 .e .e l3 .e .e) (.n none l3 .e .e l3 .e .e l3 .e) (.n none .e l3 .e .e l3 .e .e .e)) (.n none (.n 
 (some o3) .e .e l3 .e .e l3 .e .e) (.n none l3 .e .e l3 .e .e l3 .e) (.n none .e l3 .e .e l3 .e .e .e) (.n (some o3) .e .e l3 .e .e l3 .e .e) (.n none 
 l3 .e .e l3 .e .e l3 .e) (.n none .e l3 .e .e l3 .e .e .e) (.n (some o3) .e .e l3 .e .e l3 .e .e) (n3 l3 l3)) (.n none (.n none .e l3 .e .e l3 .e .e 
 .e) (.n (some o3) .e .e l3 .e .e l3 .e .e) (.n none l3 .e .e l3 .e .e l3 .e) (.n none .e l3 .e .e l3 .e .e .e) (.n (some o3) .e .e l3 .e .e l3 .e .e) 
 (.n none l3 .e .e l3 .e .e l3 .e) (.n none .e l3 .e .e l3 .e .e .e) (.n (some o3) .e .e l3 .e .e l3 .e .e))) .e (.n none (.n none (.n none .e l1 .e .e 
 l1 .e .e .e) (.n (some o1) .e .e l1 .e .e l1 .e .e) (.n none l1 .e .e l1 .e .e l1 .e) (.n none .e l1 .e .e l1 .e .e .e) (.n (some o1) .e .e l1 .e .e 
 l1 .e .e) (.n none l1 .e .e l1 .e .e l1 .e) (.n none .e l1 .e .e l1 .e .e .e) (.n (some o1) .e .e l1 .e .e l1 .e .e)) (.n (some o1) (.n none l1 .e .e 
 l1 .e .e l1 .e) (.n none .e l1 .e .e l1 .e .e .e) (.n (some o1) .e .e l1 .e .e l1 .e .e) (.n none l1 .e .e l1 .e .e l1 .e) (.n none .e l1 .e .e l1 .e 
 .e .e) (.n (some o1) .e .e l1 .e .e l1 .e .e) (.n none l1 .e .e l1 .e .e l1 .e) (.n none .e l1 .e .e l1 .e .e .e)) (.n none (.n (some o1) .e .e l1 .e 
 .e l1 .e .e) (.n none l1 .e .e l1 .e .e l1 .e) (.n none .e l1 .e .e l1 .e .e .e) (.n (some o1) .e .e l1 .e .e l1 .e .e) (.n none l1 .e .e l1 .e .e l1 
 .e) (.n none .e l1 .e .e l1 .e .e .e) (.n (some o1) .e .e l1 .e .e l1 .e .e) (n3 l1 l1)) (.n none (.n none .e l1 .e .e l1 .e .e .e) (.n (some o1) .e 
 .e l1 .e .e l1 .e .e) (.n none l1 .e .e l1 .e .e l1 .e) (.n none .e l1 .e .e l1 .e .e .e) (.n (some o1) .e .e l1 .e .e l1 .e .e) (.n none l1 .e .e l1 
 .e .e l1 .e) (.n none .e l1 .e .e l1 .e .e .e) (.n (some o1) .e .e l1 .e .e l1 .e .e)) (.n (some o1) (.n none l1 .e .e l1 .e .e l1 .e) (.n none .e l1 
 .e .e l1 .e .e .e) (.n (some o1) .e .e l1 .e .e l1 .e .e) (.n none l1 .e .e l1 .e .e l1 .e) (.n none .e l1 .e .e l1 .e .e .e) (.n (some o1) .e .e l1 
 .e .e l1 .e .e) (.n none l1 .e .e l1 .e .e l1 .e) (.n none .e l1 .e .e l1 .e .e .e)) (.n none (.n (some o1) .e .e l1 .e .e l1 .e .e) (.n none l1 .e .e 
 l1 .e .e l1 .e) (.n none .e l1 .e .e l1 .e .e .e) (.n (some o1) .e .e l1 .e .e l1 .e .e) (.n none l1 .e .e l1 .e .e l1 .e) (.n none .e l1 .e .e l1 .e 
 .e .e) (.n (some o1) .e .e l1 .e .e l1 .e .e) (n3 l1 l1)) (.n none (.n none .e l1 .e .e l1 .e .e .e) (.n (some o1) .e .e l1 .e .e l1 .e .e) (.n none 
 l1 .e .e l1 .e .e l1 .e) (.n none .e l1 .e .e l1 .e .e .e) (.n (some o1) .e .e l1 .e .e l1 .e .e) (.n none l1 .e .e l1 .e .e l1 .e) (.n none .e l1 .e 
 .e l1 .e .e .e) (.n (some o1) .e .e l1 .e .e l1 .e .e)) (.n (some o1) (.n none l1 .e .e l1 .e .e l1 .e) (.n none .e l1 .e .e l1 .e .e .e) (.n (some 
 o1) .e .e l1 .e .e l1 .e .e) (.n none l1 .e .e l1 .e .e l1 .e) (.n none .e l1 .e .e l1 .e .e .e) (.n (some o1) .e .e l1 .e .e l1 .e .e) (n3 l1 l1) (.n 
 none .e l1 .e .e l1 .e .e .e))))
def disk_st : St := ⟨disk_heap, 4099⟩
def disk_v : Value := (.tuple ⟨[(ptr 5 0), (num 0)]⟩)
theorem disk_run : callC (envOf Tryz.prog []) (runC (envOf Tryz.prog []) 20000) 57 [.int .i64 341] (bare 4) = some [(disk_v, disk_st)] := by kernel_rfl
end
end Go.Proofs.YtmpckglmfklfiaaGreatDoor
