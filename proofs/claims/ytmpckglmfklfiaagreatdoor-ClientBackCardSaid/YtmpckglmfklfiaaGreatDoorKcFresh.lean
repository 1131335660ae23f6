/-
  A new server on a new disk, written out.
-/
import Derived.Test.YtmpckglmfklfiaaGreatDoorKcDisk
import Derived.Test.YtmpckglmfklfiaaGreatDoorEvPart2


import Derived.Test.YtmpckglmfklfiaaGreatDoorEvPart3

set_option linter.unusedVariables false
namespace Go.Proofs.YtmpckglmfklfiaaGreatDoor
open Go Go.Ev
noncomputable section
def rw3 : List Value := [(sl 4098 341),(.slice none 0 0),(num 8),(num (-1))]
def rw4 : List Value := ((sl 7613 256)::(sl 7637 256)::(sl 7661 256)::(qs 3600 12 297 ((sl 7695 256)::(sl 7412 256)::(sl 7460 256)::(sl 7508 256)::(qs 4092 12 37 []))))
def o348 : Ob := .iter ⟨⟨[86]⟩⟩ 1
def l348 : Tr Ob := tl o348
def o352 : Ob := .cells [(num 0)] 2097152 .ex
def l352 : Tr Ob := tl o352
def o353 : Ob := .cells [(.slice none 0 0)] 0 .ex
def l353 : Tr Ob := tl o353
def o354 : Ob := .cells [] 0 .ex
def l354 : Tr Ob := tl o354
def o355 : Ob := .cells rw1 393217 .gr
def l355 : Tr Ob := tl o355
def rw5 : List Value := [(ptr 4108 0),(num 300),(ptr 5794 0),F,(.map none)]
def rw6 : List Value := [(num 75),(.map (some 4129)),(num 1),(num 1),(num 2),(sl 4641 75)]
def o361 : Ob := .cells (bs [0]) 0 .ex
def l361 : Tr Ob := tl o361
def o362 : Ob := .cells (bs [0,0]) 393217 .gr
def l362 : Tr Ob := tl o362
def rw7 : List Value := (bs (3::(rp 0 255 [])))
def rw8 : List Value := ((sl 4197 256)::(qs 4637 6 74 []))
def rw9 : List Value := [(num 75),(.map (some 4647)),(num 0),(num 0),(num 0),(sl 4641 75)]
def o440 : Ob := .map [] 0
def l440 : Tr Ob := tl o440
def o443 : Ob := .cells [(num 2),(num 1),(Ev.strOf [86]),T] 0 .ex
def l443 : Tr Ob := tl o443
def rw10 : List Value := [(num 75),(.map (some 4669)),(num 0),(num 0),(num 0),(sl 4641 75)]
def o446 : Ob := .cells (bs [0,0,0,16]) 393217 .gr
def l446 : Tr Ob := tl o446
def rw11 : List Value := [(num 75),(.map (some 4727)),(num 0),(num 0),(num 0),(sl 4641 75)]
def rw12 : List Value := [(num 1),(num 1),(num 0),(sl 4924 2),(sl 4937 2),(.slice none 0 0)]
def o452 : Ob := .cells [(num 2),(num 1),(Ev.strOf [86]),T] 5636096 .ex
def l452 : Tr Ob := tl o452
def rw13 : List Value := [(sl 4816 5),(sl 4857 5)]
def o454 : Ob := .cells (bs [2]) 0 .ex
def l454 : Tr Ob := tl o454
def o456 : Ob := .cells (bs [2,0,0,0,2]) 393217 .gr
def l456 : Tr Ob := tl o456
def o457 : Ob := .cells (bs [1]) 0 .ex
def l457 : Tr Ob := tl o457
def o458 : Ob := .cells (bs [0,0,0,1,86]) 393217 .gr
def l458 : Tr Ob := tl o458
def rw14 : List Value := [(num 75),(.map (some 4867)),(num 1),(num 1),(num 1),(sl 4641 75)]
def rw15 : List Value := [(num 1),(num 1),(num 0),(sl 4894 1),(sl 4899 1),(.slice none 0 0)]
def o465 : Ob := .cells [(sl 4904 5)] 0 .ex
def l465 : Tr Ob := tl o465
def rw16 : List Value := [(sl 4735 1),(sl 4904 5)]
def rw17 : List Value := [(sl 4740 4),(sl 4909 5)]
def rw18 : List Value := (rp T 76 (rp F 224 []))
def o471 : Ob := .cells [(num 0)] 0 .ex
def l471 : Tr Ob := tl o471
def o473 : Ob := .cells [(num 1)] 0 .ex
def l473 : Tr Ob := tl o473
def o475 : Ob := .cells [(num 2)] 0 .ex
def l475 : Tr Ob := tl o475
def o477 : Ob := .cells [(num 3)] 0 .ex
def l477 : Tr Ob := tl o477
def o479 : Ob := .cells [(num 4)] 0 .ex
def l479 : Tr Ob := tl o479
def o481 : Ob := .cells [(num 5)] 0 .ex
def l481 : Tr Ob := tl o481
def o483 : Ob := .cells [(num 6)] 0 .ex
def l483 : Tr Ob := tl o483
def o485 : Ob := .cells [(num 7)] 0 .ex
def l485 : Tr Ob := tl o485
def o487 : Ob := .cells [(num 8)] 0 .ex
def l487 : Tr Ob := tl o487
def o489 : Ob := .cells [(num 9)] 0 .ex
def l489 : Tr Ob := tl o489
def o491 : Ob := .cells [(num 10)] 0 .ex
def l491 : Tr Ob := tl o491
def o493 : Ob := .cells [(num 11)] 0 .ex
def l493 : Tr Ob := tl o493
def o495 : Ob := .cells [(num 12)] 0 .ex
def l495 : Tr Ob := tl o495
def o497 : Ob := .cells [(num 13)] 0 .ex
def l497 : Tr Ob := tl o497
def o499 : Ob := .cells [(num 14)] 0 .ex
def l499 : Tr Ob := tl o499
def o501 : Ob := .cells [(num 15)] 0 .ex
def l501 : Tr Ob := tl o501
def o503 : Ob := .cells [(num 16)] 0 .ex
def l503 : Tr Ob := tl o503
def o505 : Ob := .cells [(num 17)] 0 .ex
def l505 : Tr Ob := tl o505
def o507 : Ob := .cells [(num 18)] 0 .ex
def l507 : Tr Ob := tl o507
def o509 : Ob := .cells [(num 19)] 0 .ex
def l509 : Tr Ob := tl o509
def o511 : Ob := .cells [(num 20)] 0 .ex
def l511 : Tr Ob := tl o511
def o513 : Ob := .cells [(num 21)] 0 .ex
def l513 : Tr Ob := tl o513
def o515 : Ob := .cells [(num 22)] 0 .ex
def l515 : Tr Ob := tl o515
def o517 : Ob := .cells [(num 23)] 0 .ex
def l517 : Tr Ob := tl o517
def o519 : Ob := .cells [(num 24)] 0 .ex
def l519 : Tr Ob := tl o519
def o521 : Ob := .cells [(num 25)] 0 .ex
def l521 : Tr Ob := tl o521
def o523 : Ob := .cells [(num 26)] 0 .ex
def l523 : Tr Ob := tl o523
def o525 : Ob := .cells [(num 27)] 0 .ex
def l525 : Tr Ob := tl o525
def o527 : Ob := .cells [(num 28)] 0 .ex
def l527 : Tr Ob := tl o527
def o529 : Ob := .cells [(num 29)] 0 .ex
def l529 : Tr Ob := tl o529
def o531 : Ob := .cells [(num 30)] 0 .ex
def l531 : Tr Ob := tl o531
def o533 : Ob := .cells [(num 31)] 0 .ex
def l533 : Tr Ob := tl o533
def o535 : Ob := .cells [(num 32)] 0 .ex
def l535 : Tr Ob := tl o535
def o537 : Ob := .cells [(num 33)] 0 .ex
def l537 : Tr Ob := tl o537
def o539 : Ob := .cells [(num 34)] 0 .ex
def l539 : Tr Ob := tl o539
def o541 : Ob := .cells [(num 35)] 0 .ex
def l541 : Tr Ob := tl o541
def o543 : Ob := .cells [(num 36)] 0 .ex
def l543 : Tr Ob := tl o543
def o545 : Ob := .cells [(num 37)] 0 .ex
def l545 : Tr Ob := tl o545
def o547 : Ob := .cells [(num 38)] 0 .ex
def l547 : Tr Ob := tl o547
def o549 : Ob := .cells [(num 39)] 0 .ex
def l549 : Tr Ob := tl o549
def o551 : Ob := .cells [(num 40)] 0 .ex
def l551 : Tr Ob := tl o551
def o553 : Ob := .cells [(num 41)] 0 .ex
def l553 : Tr Ob := tl o553
def o555 : Ob := .cells [(num 42)] 0 .ex
def l555 : Tr Ob := tl o555
def o557 : Ob := .cells [(num 43)] 0 .ex
def l557 : Tr Ob := tl o557
def o559 : Ob := .cells [(num 44)] 0 .ex
def l559 : Tr Ob := tl o559
def o561 : Ob := .cells [(num 45)] 0 .ex
def l561 : Tr Ob := tl o561
def o563 : Ob := .cells [(num 46)] 0 .ex
def l563 : Tr Ob := tl o563
def o565 : Ob := .cells [(num 47)] 0 .ex
def l565 : Tr Ob := tl o565
def o567 : Ob := .cells [(num 48)] 0 .ex
def l567 : Tr Ob := tl o567
def o569 : Ob := .cells [(num 49)] 0 .ex
def l569 : Tr Ob := tl o569
def o571 : Ob := .cells [(num 50)] 0 .ex
def l571 : Tr Ob := tl o571
def o573 : Ob := .cells [(num 51)] 0 .ex
def l573 : Tr Ob := tl o573
def o575 : Ob := .cells [(num 52)] 0 .ex
def l575 : Tr Ob := tl o575
def o577 : Ob := .cells [(num 53)] 0 .ex
def l577 : Tr Ob := tl o577
def o579 : Ob := .cells [(num 54)] 0 .ex
def l579 : Tr Ob := tl o579
def o581 : Ob := .cells [(num 55)] 0 .ex
def l581 : Tr Ob := tl o581
def o583 : Ob := .cells [(num 56)] 0 .ex
def l583 : Tr Ob := tl o583
def o585 : Ob := .cells [(num 57)] 0 .ex
def l585 : Tr Ob := tl o585
def o587 : Ob := .cells [(num 58)] 0 .ex
def l587 : Tr Ob := tl o587
def o589 : Ob := .cells [(num 59)] 0 .ex
def l589 : Tr Ob := tl o589
def o591 : Ob := .cells [(num 60)] 0 .ex
def l591 : Tr Ob := tl o591
def o593 : Ob := .cells [(num 61)] 0 .ex
def l593 : Tr Ob := tl o593
def o595 : Ob := .cells [(num 62)] 0 .ex
def l595 : Tr Ob := tl o595
def o597 : Ob := .cells [(num 63)] 0 .ex
def l597 : Tr Ob := tl o597
def o599 : Ob := .cells [(num 64)] 0 .ex
def l599 : Tr Ob := tl o599
def o601 : Ob := .cells [(num 65)] 0 .ex
def l601 : Tr Ob := tl o601
def o603 : Ob := .cells [(num 66)] 0 .ex
def l603 : Tr Ob := tl o603
def o605 : Ob := .cells [(num 67)] 0 .ex
def l605 : Tr Ob := tl o605
def o607 : Ob := .cells [(num 68)] 0 .ex
def l607 : Tr Ob := tl o607
def o609 : Ob := .cells [(num 69)] 0 .ex
def l609 : Tr Ob := tl o609
def o611 : Ob := .cells [(num 70)] 0 .ex
def l611 : Tr Ob := tl o611
def o613 : Ob := .cells [(num 71)] 0 .ex
def l613 : Tr Ob := tl o613
def o615 : Ob := .cells [(num 72)] 0 .ex
def l615 : Tr Ob := tl o615
def o617 : Ob := .cells [(num 73)] 0 .ex
def l617 : Tr Ob := tl o617
def o619 : Ob := .cells [(num 74)] 0 .ex
def l619 : Tr Ob := tl o619
def o621 : Ob := .cells [(num 75)] 0 .ex
def l621 : Tr Ob := tl o621
def rw19 : List Value := [(ptr 4656 0),(q 4943 300 300),(.map (some 5792)),(.map none)]
def rw20 : List Value := (rp F 300 [])
def rw21 : List Value := (bs (rp 255 9 (240::(rp 0 28 []))))
def rw22 : List Value := [(q 5836 4 4),(sl 5826 2),(q 5834 38 38)]
def rw23 : List Value := (bs (86::79::76::49::1::44::(rp 255 9 (240::(rp 0 240 [])))))
def o631 : Ob := .cells rw23 393217 .gr
def l631 : Tr Ob := tl o631
def o634 : Ob := .cells (bs [0,2]) 393217 .gr
def l634 : Tr Ob := tl o634
def o635 : Ob := .cells (bs [0,1]) 393217 .gr
def l635 : Tr Ob := tl o635
def rw24 : List Value := (bs (3::1::0::2::0::1::(rp 0 250 [])))
def o636 : Ob := .cells rw24 393217 .gr
def l636 : Tr Ob := tl o636
def o640 : Ob := .cells (bs [5]) 0 .ex
def l640 : Tr Ob := tl o640
def rw25 : List Value := (bs (1::1::0::2::0::0::1::0::4::0::0::0::16::5::2::0::0::0::2::5::0::0::0::1::86::(rp 0 231 [])))
def o641 : Ob := .cells rw25 393217 .gr
def l641 : Tr Ob := tl o641
def rw26 : List Value := ((sl 5909 256)::(sl 6038 256)::(qs 6473 6 73 []))
def rw27 : List Value := [(num 0),(num 1),(num 2),(num 3),(num 4),(num 5),(num 6),(num 7),(num 8),(num 9),(num 10),(num 11),(num 12),(num 13),(num 14),(num 15),(num 16),(num 17),(num 18),(num 19),(num 20),(num 21),(num 22),(num 23),(num 24),(num 25),(num 26),(num 27),(num 28),(num 29),(num 30),(num 31),(num 32),(num 33),(num 34),(num 35),(num 36),(num 37),(num 38),(num 39),(num 40),(num 41),(num 42),(num 43),(num 44),(num 45),(num 46),(num 47),(num 48),(num 49),(num 50),(num 51),(num 52),(num 53),(num 54),(num 55),(num 56),(num 57),(num 58),(num 59),(num 60),(num 61),(num 62),(num 63),(num 64),(num 65),(num 66),(num 67),(num 68),(num 69),(num 70),(num 71),(num 72),(num 73),(num 74),(num 75)]
def rw28 : List Value := [(num 0),(sl 5844 256),(num 1),(sl 5909 256),(num 2),(sl 6038 256)]
def o800 : Ob := .cells [(num 0),(sl 5844 256)] 13959168 .ex
def l800 : Tr Ob := tl o800
def o801 : Ob := .cells [(num 1),(sl 5909 256)] 13959168 .ex
def l801 : Tr Ob := tl o801
def o802 : Ob := .cells [(num 2),(sl 6038 256)] 13959168 .ex
def l802 : Tr Ob := tl o802
def rw29 : List Value := [(num 301),(sl 7412 256),(num 302),(sl 7460 256),(num 303),(sl 7508 256)]
def rw30 : List Value := (bs (86::79::76::49::1::44::(rp 255 9 (240::(rp 0 240 (3::1::0::2::0::1::(rp 0 250 (1::1::0::2::0::0::1::0::4::0::0::0::16::5::2::0::0::0::2::5::0::0::0::1::86::(rp 0 231 [74,82,78,76,0,3,0,0,0,1,0,2])))))))))
def rw31 : List Value := (bs (74::82::78::76::0::3::0::0::0::1::0::2::50::144::(rp 0 242 [])))
def o817 : Ob := .cells rw31 393217 .gr
def l817 : Tr Ob := tl o817
def rw32 : List Value := [(num 0),(sl 7613 256),(num 1),(sl 7637 256),(num 2),(sl 7661 256)]
def rw33 : List Value := [(ptr 4126 0),(num 300),(.slice none 0 0),(ptr 4101 0),(ptr 7710 0),(.map (some 7715)),(num 1),(.map (some 7716)),(.map (some 7717))]
def rw34 : List Value := [(ptr 7736 0),(q 7744 0 0),(ptr 7741 0),(ptr 7754 0),(.slice none 0 0),(num 0),(.slice none 0 0),(.slice none 0 0)]
def fresh_heap : Tr Ob :=
 (.n none (.n none (.n none (.n (some (cq 72 0)) .e (n0 l352) (tl (cq 1608 0)) .e (n0 l354) (m0 (cq 3144 0) (tl (cs 7250 256 1769472))) .e .e) (.n none 
 (tl (cq 648 0)) (n0 l527) (n0 l354) (m0 (cq 2184 0) l1) .e (n0 l355) (tl (cq 3720 0)) l3) (.n none .e (tl (cq 1224 0)) .e (n0 l3) (m0 (cq 2760 0) 
 l352) .e .e .e) (.n (some (cq 264 0)) .e .e (m0 (cq 1800 0) l3) .e (n0 l545) (m0 (cq 3336 0) l362) .e l1) (.n none (m0 (cq 840 0) (tl (.cells rw17 
 1769473 .gr))) (n0 l3) .e (m0 (cq 2376 0) l1) .e .e (tl (cq 3912 0)) l3) (.n none .e (m0 (cq 1416 0) l353) (n0 l640) .e (tl (cq 2952 0)) (n0 (tl 
 (.cells (bs [144]) 0 .ex))) .e .e) (.n (some (cq 456 0)) (n0 l354) (n0 (tl (cs 5586 256 1769472))) (m0 (cq 1992 0) l1) (n0 l355) (n0 l3) (tl (cq 3528 
 0)) .e l1) (.n none (tl (cq 1032 0)) (n0 l355) (n0 l3) (tl (cq 2568 0)) (n0 l353) .e .e l3)) (.n none (.n none .e (m0 (cq 1104 0) l355) (n0 l3) (n0 
 l3) (m0 (cq 2640 0) l353) .e .e .e) (.n (some (cq 144 0)) .e .e (m0 (cq 1680 0) l353) .e (n0 (tl (cs 6810 256 1769472))) (tl (cq 3216 0)) .e l1) (.n 
 none (tl (cq 720 0)) (n0 l354) .e (m0 (cq 2256 0) l1) (n0 l355) .e (tl (cq 3792 0)) l3) (.n none .e (tl (cq 1296 0)) .e (n0 l3) (tl (cq 2832 0)) .e .e 
 .e) (.n (some (cq 336 0)) (n0 (tl (.cells [(ptr 4126 0)] 0 .ex))) (n0 l352) (m0 (cq 1872 0) l3) (n0 (tl (.cells [(.map (some 5798))] 0 .ex))) (n0 
 l354) (tl (cq 3408 0)) .e l1) (.n none (m0 (cq 912 0) l3) (n0 l575) .e (tl (cq 2448 0)) .e .e (tl (cq 3984 0)) l3) (.n none (n0 l353) (tl (cq 1488 0)) 
 .e .e (m0 (cq 3024 0) l352) (n0 l354) .e .e) (.n (some (cq 528 0)) (n0 (tl (cs 5146 256 1769472))) .e (m0 (cq 2064 0) l1) (n0 l3) (n0 l593) (tl (cq 
 3600 0)) l353 l1)) (.n (some (cq 24 0)) (.n none (tl (cq 600 0)) .e (n0 l352) (m0 (cq 2136 0) l1) (n0 l513) (n0 l354) (tl (cq 3672 0)) l3) (.n none .e 
 (m0 (cq 1176 0) l3) (n0 l353) (n0 l3) (tl (cq 2712 0)) .e .e .e) (.n (some (cq 216 0)) .e (n0 l353) (tl (cq 1752 0)) .e .e (tl (cq 3288 0)) .e l1) (.n 
 none (tl (cq 792 0)) (n0 (tl (cs 5410 256 1769472))) (n0 (tl (cs 6038 256 0))) (m0 (cq 2328 0) l1) (n0 l3) .e (tl (cq 3864 0)) l3) (.n none .e (m0 (cq 
 1368 0) l355) .e (n0 l3) (m0 (cq 2904 0) l353) .e .e .e) (.n (some (cq 408 0)) (n0 l352) .e (m0 (cq 1944 0) l1) (n0 l354) (n0 (tl (cs 7074 256 
 1769472))) (tl (cq 3480 0)) .e l1) (.n none (m0 (cq 984 0) l495) (n0 l354) (n0 l3) (tl (cq 2520 0)) (n0 l355) (n0 l802) (tl (cq 4056 0)) l3) (.n none 
 .e (tl (cq 1560 0)) .e (n0 l352) (tl (cq 3096 0)) .e l1 .e)) (.n none (.n (some (cq 96 0)) .e .e (m0 (cq 1632 0) l355) .e .e (m0 (cq 3168 0) l353) .e 
 .e) (.n none (m0 (cq 672 0) (tl (.cells rw13 0 .ex))) (n0 l352) .e (m0 (cq 2208 0) l1) (n0 l354) (n0 (tl (cs 7338 256 1769472))) (tl (cq 3744 0)) l3) 
 (.n none (n0 l361) (m0 (cq 1248 0) l543) .e (n0 l3) (tl (cq 2784 0)) .e .e .e) (.n (some (cq 288 0)) .e .e (tl (cq 1824 0)) .e (n0 l352) (tl (cq 3360 
 0)) .e l1) (.n none (m0 (cq 864 0) (tl (cs 4970 256 1769472))) .e .e (tl (cq 2400 0)) (n0 l561) .e (tl (cq 3936 0)) l3) (.n none (n0 l355) (m0 (cq 
 1440 0) l3) .e (n0 l353) (tl (cq 2976 0)) (n0 l817) .e .e) (.n (some (cq 480 0)) .e (n0 l353) (m0 (cq 2016 0) l1) (n0 (tl (cs 6634 256 1769472))) .e 
 (tl (cq 3552 0)) .e l1) (.n none (m0 (cq 1056 0) l354) (n0 (tl (cs 5674 256 1769472))) (n0 l3) (m0 (cq 2592 0) l355) (n0 l3) .e (tl (.map [((num 1) , 
 (ptr 4748 0))] 1)) (tl (.cells rw8 1769473 .gr)))) (.n none (.n none .e (m0 (cq 1128 0) (tl (cs 5234 256 1769472))) .e (n0 l3) (m0 (cq 2664 0) l3) (n0 
 l609) .e .e) (.n (some (cq 168 0)) .e (n0 l355) (tl (cq 1704 0)) .e (n0 l353) (tl (cq 3240 0)) .e l1) (.n none (tl (cq 744 0)) .e .e (m0 (cq 2280 0) 
 l1) (n0 (tl (cs 6898 256 1769472))) .e (tl (cq 3816 0)) l3) (.n none (n0 l354) (m0 (cq 1320 0) l354) .e (n0 l3) (m0 (cq 2856 0) l355) .e .e .e) (.n 
 (some (cq 360 0)) .e .e (tl (cq 1896 0)) (n0 l473) .e (m0 (cq 3432 0) l634) .e l1) (.n none (tl (cq 936 0)) (n0 l352) (n0 l3) (m0 (cq 2472 0) l481) 
 (n0 l354) (n0 l800) (tl (cq 4008 0)) l3) (.n none (n0 l3) (m0 (cq 1512 0) l591) .e .e (tl (cq 3048 0)) (n0 l354) .e .e) (.n (some (cq 552 0)) (n0 
 l353) .e (m0 (cq 2088 0) l1) .e (n0 l352) (tl (cq 3624 0)) .e .e)) (.n (some (cq 48 0)) (.n none (m0 (cq 624 0) l446) .e .e (m0 (cq 2160 0) l1) (n0 
 l352) .e (tl (cq 3696 0)) l3) (.n none (n0 l3) (tl (cq 1200 0)) .e (n0 l3) (m0 (cq 2736 0) l529) (n0 l354) .e .e) (.n (some (cq 240 0)) .e (n0 l3) (m0 
 (cq 1776 0) l361) .e .e (tl (cq 3312 0)) .e l1) (.n none (tl (cq 816 0)) (n0 l353) (n0 l3) (m0 (cq 2352 0) l1) .e .e (tl (cq 3888 0)) l3) (.n none (n0 
 l354) (m0 (cq 1392 0) (tl (cs 5498 256 1769472))) .e .e (m0 (cq 2928 0) l3) .e .e .e) (.n (some (cq 432 0)) .e (n0 l355) (m0 (cq 1968 0) l1) .e (n0 
 l353) (tl (cq 3504 0)) .e l1) (.n none (m0 (cq 1008 0) l352) .e (n0 l3) (m0 (cq 2544 0) l354) (n0 (tl (cs 7162 256 1769472))) (n0 (tl (.cells [(num 
 0),(sl 7613 256)] 13959168 .ex))) (tl (cq 4080 0)) l3) (.n none (n0 l511) (m0 (cq 1584 0) l354) .e .e (m0 (cq 3120 0) l355) (n0 l443) .e .e)) (.n none 
 (.n (some (cq 120 0)) .e (n0 l354) (m0 (cq 1656 0) (tl (cs 5762 256 1769472))) .e (n0 l355) (m0 (cq 3192 0) l3) .e l1) (.n none (tl (cq 696 0)) .e .e 
 (m0 (cq 2232 0) l1) .e .e (tl (cq 3768 0)) l3) (.n none (n0 l458) (m0 (cq 1272 0) l352) .e (n0 l3) (m0 (cq 2808 0) l354) .e .e .e) (.n (some (cq 312 
 0)) .e (n0 l559) (tl (cq 1848 0)) .e .e (m0 (cq 3384 0) l635) .e l1) (.n none (m0 (cq 888 0) l353) .e .e (tl (cq 2424 0)) (n0 l352) .e (tl (cq 3960 
 0)) l3) (.n none (n0 (tl (cs 5058 256 1769472))) (tl (cq 1464 0)) .e (n0 l3) (m0 (cq 3000 0) l577) (n0 l354) .e .e) (.n (some (cq 504 0)) (n0 l355) 
 (n0 l3) (m0 (cq 2040 0) l1) (n0 l353) .e (m0 (cq 3576 0) (tl (.cells [(num 2),(sl 7661 256)] 13959168 .ex))) .e l1) (.n none (tl (cq 1080 0)) (n0 
 l353) (n0 l3) (m0 (cq 2616 0) (tl (cs 6722 256 1769472))) .e .e .e .e)) (.n none (.n none .e (m0 (cq 1152 0) l353) .e (n0 l3) (tl (cq 2688 0)) (n0 
 l352) .e .e) (.n (some (cq 192 0)) .e (n0 (tl (cs 5322 256 1769472))) (tl (cq 1728 0)) .e (n0 l3) (tl (cq 3264 0)) .e l1) (.n none (m0 (cq 768 0) (tl 
 (.cells rw14 16908288 .ex))) (n0 l355) .e (m0 (cq 2304 0) l1) (n0 l353) .e (tl (cq 3840 0)) l3) (.n none .e (tl (cq 1344 0)) .e (n0 l3) (m0 (cq 2880 
 0) (tl (cs 6986 256 1769472))) .e .e .e) (.n (some (cq 384 0)) (n0 l479) (n0 l354) (tl (cq 1920 0)) (n0 l353) (n0 l355) (tl (cq 3456 0)) .e l1) (.n 
 none (tl (cq 960 0)) .e (n0 l3) (m0 (cq 2496 0) l352) .e (n0 l801) (tl (cq 4032 0)) l3) (.n none .e (m0 (cq 1536 0) l352) .e (n0 l497) (m0 (cq 3072 0) 
 l354) .e .e .e) (.n (some (cq 576 0)) (n0 l3) (n0 l607) (m0 (cq 2112 0) l1) .e .e (tl (cq 3648 0)) l361 .e))) (.n none (.n none (.n none .e (m0 o3 
 l353) .e .e l3 (n0 l352) (n0 (tl (.cells [(.slice none 0 0),(.slice none 0 0),(.slice none 0 0)] 0 .ex))) .e) (.n (some o3) (n0 (tl (cs 4740 4 0))) 
 (n0 (tl (cs 5267 256 1769472))) l3 (n0 (tl (cq 6281 0))) (n0 l3) (m0 o3 l615) .e .e) (.n none l3 (n0 l355) (n0 (tl (.cells rw21 0 .ex))) l3 (n0 l353) 
 .e l3 .e) (.n none .e l3 .e .e (m0 o3 (tl (cs 6931 256 1769472))) (n0 l3) .e (tl (cq 4361 0))) (.n (some o3) .e (n0 l354) l3 (n0 (tl (cq 6473 0))) (n0 
 l355) l3 .e .e) (.n none l3 .e .e l3 .e .e l3 .e) (.n none .e (m0 o3 l352) (n0 (tl (cq 6089 0))) (n0 l487) (m0 o3 l354) .e .e (tl (cq 4553 0))) (.n 
 (some o3) (n0 l3) (n0 l597) l3 .e .e l3 .e .e)) (.n (some o3) (.n none l3 (n0 l517) (n0 l354) l3 .e (n0 l355) l3 .e) (.n none .e l3 .e .e (m0 o3 l352) 
 .e .e (tl (cq 4241 0))) (.n (some o3) .e .e l3 (n0 (tl (cq 6353 0))) (n0 l535) l3 .e .e) (.n none l3 (n0 l3) .e l3 .e .e l3 .e) (.n none (n0 l352) (m0 
 o3 l353) .e .e l3 .e .e (tl (cq 4433 0))) (.n (some o3) (n0 l354) (n0 (tl (cs 5531 256 1769472))) l3 (n0 (tl (.cells rw28 13959170 .gr))) (n0 l3) l3 
 .e .e) (.n none l3 (n0 l355) .e l3 (n0 l353) .e l3 .e) (.n none (n0 l352) l3 (n0 (tl (cq 6161 0))) (n0 l354) (m0 o3 (tl (cs 7195 256 1769472))) .e .e 
 (tl (cq 4625 0)))) (.n none (.n (some o3) (n0 l361) .e (m0 o3 l353) (n0 (tl (cq 6233 0))) (n0 (tl (cs 6755 256 1769472))) l3 .e .e) (.n none l3 (n0 
 l354) (n0 l551) l3 (n0 l355) (n0 l3) l3 .e) (.n none (n0 l3) l3 .e .e l3 (n0 (tl (.cells (bs [0,3]) 393217 .gr))) .e (tl (cq 4313 0))) (.n (some o3) 
 (n0 l354) (n0 l352) l3 (n0 (tl (cq 6425 0))) (n0 l354) l3 .e .e) (.n none (m0 o3 l3) (n0 l565) .e (m0 o3 l354) .e .e l3 .e) (.n none (n0 l353) l3 (n0 
 (tl (cq 6041 0))) .e (m0 o3 l352) .e .e (tl (cq 4505 0))) (.n (some o3) (n0 (tl (cs 5091 256 1769472))) .e l3 (n0 l3) (n0 l583) l3 .e .e) (.n none (m0 
 o3 l355) (n0 l3) .e (m0 o3 l353) .e (n0 (tl (.cells rw33 0 .ex))) .e .e)) (.n none (.n none .e (m0 o3 l3) (n0 l613) .e l3 .e .e .e) (.n (some o3) .e 
 (n0 l353) (m0 o3 (tl (.cells rw19 0 .ex))) (n0 (tl (cq 6305 0))) .e (m0 o3 l352) .e .e) (.n none l3 (n0 (tl (cs 5355 256 1769472))) (n0 (tl (cs 5909 
 256 0))) l3 (n0 l3) .e l3 .e) (.n none .e (m0 o3 l355) .e .e (m0 o3 l353) .e .e (tl (cq 4385 0))) (.n (some o3) (n0 l352) .e l3 .e (n0 (tl (cs 7019 
 256 1769472))) l3 .e .e) (.n none (m0 o3 l485) (n0 l354) .e l3 (n0 l355) (n0 (tl (.cells [(num 300),(sl 7585 256)] 13959170 .gr))) l3 .e) (.n none .e 
 l3 (n0 (tl (cq 6113 0))) (n0 l352) l3 .e .e (tl (cq 4577 0))) (.n (some o3) .e (n0 l352) l3 (n0 l503) (n0 l354) l3 .e .e)) (.n (some o3) (.n none l3 
 (n0 l352) .e l3 (n0 l354) (n0 (tl (cs 7283 256 1769472))) l3 .e) (.n none .e (m0 o3 l533) .e .e l3 (n0 l355) .e (tl (cq 4265 0))) (.n (some o3) .e .e 
 l3 (n0 (tl (cq 6377 0))) (n0 l352) l3 .e .e) (.n none l3 .e .e l3 (n0 l551) .e l3 .e) (.n none (n0 l355) (m0 o3 l3) .e (n0 (tl (cs 6515 256 1769472))) 
 l3 (n0 l3) .e (tl (cq 4457 0))) (.n (some o3) .e (n0 l353) l3 (n0 (tl (cs 6579 256 1769472))) .e l3 .e .e) (.n none (m0 o3 l354) (n0 (tl (cs 5619 256 
 1769472))) .e (m0 o3 l355) (n0 l3) .e l3 .e) (.n none .e (m0 o3 l355) (n0 (tl (cq 6185 0))) .e (m0 o3 l353) .e .e l3)) (.n none (.n (some o3) .e (n0 
 l355) (m0 o3 l3) (n0 (tl (cq 6257 0))) (n0 l353) l3 .e .e) (.n none l3 .e .e l3 (n0 (tl (cs 6843 256 1769472))) .e l3 .e) (.n none .e (m0 o3 l354) .e 
 .e (m0 o3 l355) .e .e (tl (cq 4337 0))) (.n (some o3) .e .e l3 (n0 (tl (cq 6449 0))) .e l3 .e .e) (.n none l3 (n0 l352) (n0 l3) l3 (n0 l354) (n0 (tl 
 (.cells [(num 302),(sl 7460 256)] 13959168 .ex))) l3 .e) (.n none (n0 l3) (m0 o3 l581) (n0 (tl (cq 6065 0))) .e l3 .e .e (tl (cq 4529 0))) (.n (some 
 o3) (n0 l353) .e l3 .e (n0 l352) l3 .e .e) (.n none (m0 o3 (tl (cs 5179 256 1769472))) .e .e (m0 o3 l3) (n0 l599) .e (tl (cs 4197 256 0)) .e)) (.n 
 none (.n none (n0 l3) l3 (n0 l352) .e (m0 o3 l519) (n0 l354) .e (tl (cq 4217 0))) (.n (some o3) .e (n0 l3) l3 (n0 (tl (cq 6329 0))) .e (m0 o3 l800) .e 
 .e) (.n none l3 (n0 l353) .e l3 .e .e l3 .e) (.n none .e (m0 o3 (tl (cs 5443 256 1769472))) .e .e (m0 o3 l3) (n0 l3) .e (tl (cq 4409 0))) (.n (some 
 o3) .e (n0 l355) l3 (n0 (tl (.cells [(num 1),(sl 5909 256)] 0 .ex))) (n0 l353) l3 .e .e) (.n none (m0 o3 l352) .e .e (m0 o3 l354) (n0 (tl (cs 7107 256 
 1769472))) .e l3 .e) (.n none (n0 l501) (m0 o3 l354) (n0 (tl (cq 6137 0))) .e (m0 o3 l355) .e .e (tl (cq 4601 0))) (.n (some o3) .e .e l3 (n0 l352) .e 
 l3 .e .e)) (.n (some o3) (.n none l3 .e (n0 l355) l3 .e (n0 l353) l3 .e) (.n none (n0 l361) (m0 o3 l352) (n0 (tl (.cells (bs [1,44]) 393217 .gr))) .e 
 (m0 o3 l354) (n0 l802) .e (tl (cq 4289 0))) (.n (some o3) .e (n0 l549) l3 (n0 (tl (cq 6401 0))) .e l3 .e .e) (.n none l3 .e .e l3 (n0 l352) .e l3 .e) 
 (.n none (n0 (tl (cs 5003 256 1769472))) l3 .e .e (m0 o3 l567) (n0 l3) .e (tl (cq 4481 0))) (.n (some o3) (n0 l355) (n0 l3) l3 (n0 l353) .e l3 .e .e) 
 (.n none l3 (n0 l353) .e (m0 o3 (tl (cs 6667 256 1769472))) .e .e (tl (.cells rw4 1769473 .gr)) .e) (.n none (n0 l354) (m0 o3 (tl (cs 5707 256 
 1769472))) (n0 (tl (cq 6209 0))) (n0 l355) (m0 o3 l3) .e .e .e))) (.n none (.n none (.n none .e .e (n0 l355) (n0 l3) .e (n0 l353) .e l361) (.n none .e 
 (n0 l352) .e .e (n0 l354) (n0 (tl (cs 7316 256 1769472))) .e l1) (.n none .e (n0 l539) .e (n0 l1) .e .e .e l3) (.n none .e .e .e (n0 l3) (n0 l352) (n0 
 l3) .e .e) (.n none .e .e .e .e (n0 l557) (n0 (tl (.cells [(num 303),(sl 7508 256)] 0 .ex))) .e l1) (.n none (n0 l355) (n0 l3) .e .e .e .e .e l3) (.n 
 none .e (n0 l353) .e (n0 (tl (cs 6612 256 1769472))) .e .e .e .e) (.n none (n0 l354) (n0 (tl (cs 5652 256 1769472))) (n0 l1) (n0 l355) (n0 l3) (n0 
 l354) .e l1)) (.n none (.n none (n0 l3) (n0 (tl (cs 5212 256 1769472))) .e (n0 l1) (n0 l3) (n0 l605) .e .e) (.n none (n0 l452) (n0 l355) (n0 l3) (n0 
 l3) (n0 l353) .e .e .e) (.n none .e .e (n0 l3) .e (n0 (tl (cs 6876 256 1769472))) .e .e l1) (.n none .e (n0 l354) (n0 l635) (n0 l1) (n0 l355) .e .e 
 l3) (n3 (n0 l1) (n0 (tl (.cells rw27 262145 .gr)))) (.n none .e (n0 l352) .e (n0 l477) (n0 l354) .e .e l1) (.n none (n0 l3) (n0 l587) (n0 l3) .e .e .e 
 .e l3) (.n none (n0 l353) .e .e .e (n0 l352) (n0 (tl (.cells [(num 300),(sl 7695 256)] 13959168 .ex))) l3 .e)) (.n none (.n none .e .e .e .e (n0 l352) 
 .e .e .e) (.n none .e .e .e (n0 l1) (n0 l525) (n0 l354) .e l3) (.n none .e (n0 l3) .e (n0 l3) .e (n0 l3) .e .e) (.n none .e (n0 l353) .e .e .e (n0 (tl 
 (.cells [(num 302),(sl 7460 256)] 0 .ex))) .e l1) (.n none (n0 l354) (n0 (tl (cs 5476 256 1769472))) (n0 l3) .e (n0 l3) .e .e l3) (.n none .e (n0 
 l355) .e .e (n0 l353) .e .e .e) (.n none (n0 l352) .e (n0 l1) (n0 l354) (n0 (tl (cs 7140 256 1769472))) .e .e l1) (.n none (n0 l507) (n0 l354) (n0 l3) 
 .e (n0 l355) .e .e l3)) (.n none (.n none .e (n0 l354) (n0 (tl (cs 5740 256 1769472))) (n0 l3) (n0 l355) (n0 l3) .e l362) (.n none (n0 l454) .e .e .e 
 .e (n0 l353) .e l1) (.n none .e (n0 l352) .e (n0 l1) (n0 l354) .e .e l3) (.n none (n0 (tl (.cells [(sl 4740 4)] 1769473 .gr))) (n0 l555) .e (n0 l3) .e 
 .e .e .e) (.n none (n0 l353) .e .e .e (n0 l352) .e .e l1) (.n none (n0 (tl (cs 5036 256 1769472))) .e (n0 l3) (n0 l3) (n0 l573) .e .e l3) (.n none (n0 
 l355) (n0 l3) .e (n0 l353) .e .e .e .e) (.n none .e (n0 l353) (n0 l1) (n0 (tl (cs 6700 256 1769472))) .e (n0 l440) (tl (.cells rw6 0 .ex)) .e)) (.n 
 none (.n none .e (n0 l353) .e (n0 l1) .e (n0 l352) .e l3) (.n none .e (n0 (tl (cs 5300 256 1769472))) .e (n0 l3) (n0 l3) (n0 l621) .e .e) (.n none (n0 
 l361) (n0 l355) .e .e (n0 l353) (n0 (tl (.cells [(num 301),(sl 7412 256)] 0 .ex))) .e l1) (.n none .e .e .e (n0 l1) (n0 (tl (cs 6964 256 1769472))) .e 
 .e l3) (.n none (n0 l475) (n0 l354) .e (n0 l352) (n0 l355) (n0 l3) .e .e) (.n none .e .e (n0 l1) (n0 l352) .e .e .e l1) (.n none .e (n0 l352) (n0 l3) 
 (n0 l493) (n0 l354) .e .e l3) (n1 (n0 l3) (n0 l603))) (.n none (.n none .e (n0 l523) (n0 l354) .e .e (n0 l355) .e l1) (.n none .e .e .e (n0 l1) (n0 
 l352) .e .e l3) (.n none .e .e .e (n0 l3) (n0 l541) .e .e .e) (.n none .e (n0 l3) .e .e .e .e .e l1) (.n none .e (n0 l353) (n0 l3) (n0 l355) .e .e .e 
 l3) (.n none (n0 l354) (n0 (tl (cs 5564 256 1769472))) .e (n0 l355) (n0 l3) .e .e .e) (.n none .e (n0 l355) (n0 l1) .e (n0 l353) .e .e l1) (.n none 
 (n0 l352) .e (n0 l3) (n0 l354) (n0 (tl (cs 7228 256 1769472))) (n0 (tl (.cells [(q 7729 1 1),(num 16)] 0 .ex))) .e .e)) (.n none (.n none (n0 l354) .e 
 (n0 l353) (n0 l3) (n0 (tl (cs 6788 256 1769472))) .e .e .e) (.n none (n0 l3) (n0 l354) .e .e (n0 l355) .e .e l1) (.n none .e .e (n0 l454) (n0 l1) .e 
 .e .e l3) (.n none .e (n0 l352) (n0 l634) (n0 l3) (n0 l354) (n0 l3) .e .e) (.n none (n0 l3) (n0 l571) .e .e .e .e .e l1) (.n none (n0 l353) .e (n0 l3) 
 .e (n0 l352) .e .e l3) (.n none (n0 (tl (cs 5124 256 1769472))) .e .e (n0 l3) (n0 l589) (n0 l1) .e .e) (.n none (n0 l355) (n0 l3) (n0 l1) (n0 l353) .e 
 .e .e (tl (.cells rw10 16908288 .ex)))) (.n none (.n none .e (n0 l3) (n0 l619) (n0 l1) .e .e .e l3) (.n none .e (n0 l353) .e (n0 l3) .e .e .e .e) (.n 
 none (n0 (tl (.map [((num 1) , (ptr 4888 0))] 1))) (n0 (tl (cs 5388 256 1769472))) .e .e (n0 l3) .e .e l1) (.n none .e (n0 l355) (n0 l361) (n0 l1) (n0 
 l353) .e .e l3) (.n none (n0 l352) .e .e (n0 l3) (n0 (tl (cs 7052 256 1769472))) .e .e .e) (.n none (n0 l491) (n0 l354) (n0 l1) .e (n0 l355) .e .e l1) 
 (.n none .e .e (n0 l3) (n0 l352) .e .e .e l3) (.n none .e (n0 l352) .e (n0 l509) (n0 l354) .e .e .e))) (.n none (.n (some o1) (.n none l1 (n0 l3) (n0 
 l609) l1 .e .e l1 .e) (.n none (n0 (tl (.cells rw12 0 .ex))) (m0 o1 l353) .e .e l1 (n0 l352) .e (tl (cq 4235 0))) (.n (some o1) (n0 l454) (n0 (tl (cs 
 5333 256 1769472))) (m0 o1 (tl (.cells (bs [86,79,76,49]) 0 .sx))) (n0 (tl (cq 6347 0))) (n0 l3) l1 .e .e) (.n none l1 (n0 l355) .e l1 (n0 l353) .e l1 
 .e) (.n none (n0 l452) l1 .e .e (m0 o1 (tl (cs 6997 256 1769472))) .e .e (tl (cq 4427 0))) (.n (some o1) (n0 l481) (n0 l354) l1 .e (n0 l355) (m0 o1 
 (tl (.cells (bs [50,144]) 393217 .gr))) .e .e) (.n none l1 .e .e (m0 o1 l352) .e (n0 (tl (.cells [(num 1),(sl 7637 256)] 0 .ex))) l1 .e) (.n none .e 
 (m0 o1 l352) (n0 (tl (cq 6155 0))) (n0 l499) (m0 o1 l354) .e (tl (.cells [(ptr 5 0),(num 300),F] 0 .ex)) (tl (cq 4619 0)))) (.n none (.n (some o1) .e 
 (n0 l352) l1 (n0 (tl (cq 6227 0))) (n0 l354) (m0 o1 (tl (cs 7261 256 1769472))) .e .e) (.n none l1 (n0 l529) (n0 l354) l1 .e (n0 l355) l1 .e) (.n none 
 .e l1 (n0 l631) .e (m0 o1 l352) .e .e (tl (cq 4307 0))) (.n (some o1) .e .e (m0 o1 l3) (n0 (tl (cq 6419 0))) (n0 l547) l1 .e .e) (.n none l1 (n0 l3) 
 .e (m0 o1 l471) .e (n0 l641) l1 .e) (.n none .e (m0 o1 l353) (n0 l3) (n0 (tl (cs 6557 256 1769472))) l1 .e .e (tl (cq 4499 0))) (.n (some o1) (n0 
 l354) (n0 (tl (cs 5597 256 1769472))) l1 (n0 l355) (n0 l3) l1 .e .e) (.n none l1 (n0 l355) .e l1 (n0 l353) .e l354 .e)) (.n none (.n none .e (m0 o1 
 l355) (n0 l3) .e (m0 o1 l353) .e .e .e) (.n (some o1) .e .e (m0 o1 l3) (n0 (tl (cq 6299 0))) (n0 (tl (cs 6821 256 1769472))) l1 .e .e) (.n none l1 (n0 
 l354) .e l1 (n0 l355) .e l1 .e) (.n none .e l1 .e .e l1 .e .e (tl (cq 4379 0))) (.n (some o1) .e (n0 l352) (m0 o1 l3) .e (n0 l354) (m0 o1 l361) .e .e) 
 (.n none (m0 o1 l3) (n0 l577) .e l1 .e .e l1 .e) (.n none (n0 l353) l1 (n0 (tl (cq 6107 0))) .e (m0 o1 l352) .e .e (tl (cq 4571 0))) (.n (some o1) (n0 
 (tl (cs 5157 256 1769472))) .e l1 (n0 l3) (n0 l595) (m0 o1 l440) .e .e)) (.n (some o1) (.n none (m0 o1 l361) .e (n0 l352) l1 (n0 l515) (n0 l354) l1 
 l3) (.n none .e (m0 o1 l3) .e .e l1 .e .e (tl (cq 4259 0))) (.n (some o1) (n0 l3) (n0 l353) l1 (n0 (tl (cq 6371 0))) .e l1 .e .e) (.n none (m0 o1 
 l354) (n0 (tl (cs 5421 256 1769472))) .e l1 (n0 l3) (n0 l636) l1 .e) (.n none .e (m0 o1 l355) .e .e (m0 o1 l353) .e .e (tl (cq 4451 0))) (.n (some o1) 
 (n0 l352) .e l1 (n0 l354) (n0 (tl (cs 7085 256 1769472))) l1 .e .e) (.n none (m0 o1 l497) (n0 l354) .e l1 (n0 l355) (n0 (tl (.cells [(num 2),(sl 7661 
 256)] 0 .ex))) l1 .e) (.n none .e l1 (n0 (tl (cq 6179 0))) (n0 l352) l1 (n0 l440) .e .e)) (.n none (.n (some o1) .e .e (m0 o1 l355) (n0 (tl (cq 6251 
 0))) .e (m0 o1 l353) .e .e) (.n none l1 (n0 l352) .e l1 (n0 l354) (n0 (tl (cs 7349 256 1769472))) l1 .e) (.n none .e (m0 o1 l545) .e .e l1 .e .e (tl 
 (cq 4331 0))) (.n (some o1) .e .e l1 (n0 (tl (cq 6443 0))) (n0 l352) (m0 o1 l361) .e .e) (.n none (m0 o1 (tl (cs 4981 256 1769472))) .e .e (m0 o1 
 l353) (n0 l563) .e l1 .e) (.n none (n0 l355) (m0 o1 l3) (n0 (tl (cq 6059 0))) (n0 l353) l1 .e .e (tl (cq 4523 0))) (.n (some o1) .e (n0 l353) l1 (n0 
 (tl (cs 6645 256 1769472))) .e l1 .e .e) (.n none (m0 o1 l354) (n0 (tl (cs 5685 256 1769472))) .e (m0 o1 l355) (n0 l3) .e .e l348)) (.n none (.n none 
 .e (m0 o1 (tl (cs 5245 256 1769472))) .e .e (m0 o1 l3) (n0 l611) .e (tl (cq 4211 0))) (.n (some o1) .e (n0 l355) l1 (n0 (tl (cq 6323 0))) (n0 l353) l1 
 .e .e) (.n none l1 .e (n0 l3) l1 (n0 (tl (cs 6909 256 1769472))) (n0 l631) l1 .e) (.n none .e (m0 o1 l354) .e .e (m0 o1 l355) .e .e (tl (cq 4403 0))) 
 (.n (some o1) .e .e l1 .e .e l1 .e .e) (.n none l1 (n0 l352) .e (m0 o1 l483) (n0 l354) (n0 (tl (.cells [(num 0),(sl 7613 256)] 0 .ex))) l1 .e) (.n 
 none (n0 l3) (m0 o1 l593) (n0 (tl (cq 6131 0))) .e l1 .e .e (tl (cq 4595 0))) (.n (some o1) (n0 l353) .e l1 .e (n0 l352) l1 .e .e)) (.n (some o1) (.n 
 none l1 .e .e l1 (n0 l352) .e l1 .e) (.n none .e l1 .e .e (m0 o1 l531) .e .e (tl (cq 4283 0))) (.n (some o1) (n0 (tl (.cells rw13 19922944 .ex))) (n0 
 l3) l1 (n0 (tl (cq 6395 0))) .e (m0 o1 l361) .e .e) (.n none (m0 o1 (tl (.cells rw16 1769473 .gr))) (n0 l353) (n0 l3) l1 .e .e l1 .e) (.n none (n0 
 l354) (m0 o1 (tl (cs 5509 256 1769472))) .e .e (m0 o1 l3) .e .e (tl (cq 4475 0))) (.n (some o1) .e (n0 l355) l1 .e (n0 l353) l1 .e .e) (.n none (m0 o1 
 l352) .e .e (m0 o1 l354) (n0 (tl (cs 7173 256 1769472))) .e l1 .e) (.n none (n0 l513) (m0 o1 l354) (n0 (tl (cq 6203 0))) .e (m0 o1 l355) .e .e .e)) 
 (.n none (.n (some o1) (n0 l446) (n0 l354) (m0 o1 (tl (cs 5773 256 1769472))) (n0 (tl (cq 6275 0))) (n0 l355) (m0 o1 l3) .e .e) (.n none l1 .e (n0 (tl 
 (.cells rw20 0 .ex))) l1 .e (n0 (tl (.cells (bs [74,82,78,76]) 0 .sx))) l1 .e) (.n none .e (m0 o1 l352) .e .e (m0 o1 l354) .e .e (tl (cq 4355 0))) (.n 
 (some o1) (n0 (tl (cs 4909 5 0))) (n0 l561) l1 (n0 (tl (cq 6467 0))) .e l1 .e .e) (.n none (m0 o1 l353) .e .e (m0 o1 l354) (n0 l352) .e l1 .e) (.n 
 none (n0 (tl (cs 5069 256 1769472))) l1 (n0 (tl (cq 6083 0))) (n0 l3) (m0 o1 l579) .e .e (tl (cq 4547 0))) (.n (some o1) (n0 l355) (n0 l3) l1 (n0 
 l353) .e l1 .e .e) (.n none l1 (n0 l353) .e (m0 o1 (tl (cs 6733 256 1769472))) .e .e l3 .e))) (.n (some (.cells rw3 0 .ex)) (.n (some (cq 12 0)) (.n 
 none (tl (cq 588 0)) (n0 l354) (n0 (tl (cs 5718 256 1769472))) (m0 (cq 2124 0) l1) (n0 l355) (n0 l3) (tl (cq 3660 0)) .e) (.n none .e (tl (cq 1164 0)) 
 (n0 l355) (n0 l3) (tl (cq 2700 0)) (n0 l353) .e .e) (.n (some (cq 204 0)) .e (n0 l352) (tl (cq 1740 0)) .e (n0 l354) (m0 (cq 3276 0) l361) .e l1) (.n 
 none (tl (cq 780 0)) (n0 l551) .e (m0 (cq 2316 0) l1) .e .e (tl (cq 3852 0)) l3) (.n none .e (tl (cq 1356 0)) (n0 l361) (n0 (tl (.cells rw26 1769473 
 .gr))) (m0 (cq 2892 0) l352) .e .e .e) (.n (some (cq 396 0)) (n0 (tl (cs 5014 256 1769472))) .e (tl (cq 1932 0)) .e (n0 l569) (m0 (cq 3468 0) l3) .e 
 l1) (.n none (m0 (cq 972 0) l355) (n0 l3) (n0 l3) (m0 (cq 2508 0) l353) .e .e (tl (cq 4044 0)) l3) (.n none .e (m0 (cq 1548 0) l353) .e (n0 (tl (cs 
 6678 256 1769472))) (tl (cq 3084 0)) .e .e .e)) (.n none (.n (some (cq 84 0)) .e (n0 l353) (tl (cq 1620 0)) .e .e (m0 (cq 3156 0) l352) .e .e) (.n 
 none (m0 (cq 660 0) l443) (n0 (tl (cs 5278 256 1769472))) .e (m0 (cq 2196 0) l1) (n0 l3) (n0 l617) (tl (cq 3732 0)) l3) (.n none .e (m0 (cq 1236 0) 
 l355) .e (n0 l3) (m0 (cq 2772 0) l353) .e .e .e) (.n (some (cq 276 0)) .e .e (m0 (cq 1812 0) l636) .e (n0 (tl (cs 6942 256 1769472))) (tl (cq 3348 0)) 
 .e l1) (.n none (m0 (cq 852 0) l471) (n0 l354) .e (m0 (cq 2388 0) (tl (cs 6494 256 1769472))) (n0 l355) (n0 (tl (.cells rw29 13959170 .gr))) (tl (cq 
 3924 0)) l3) (.n none .e (tl (cq 1428 0)) (n0 l3) (n0 l352) (tl (cq 2964 0)) .e .e .e) (.n (some (cq 468 0)) .e (n0 l352) (m0 (cq 2004 0) l1) (n0 
 l489) (n0 l354) (m0 (cq 3540 0) l636) .e l1) (.n none (m0 (cq 1044 0) l3) (n0 l599) (n0 l3) (tl (cq 2580 0)) .e .e .e l3)) (.n none (.n none (n0 l3) 
 (m0 (cq 1116 0) l519) (n0 l354) (n0 l3) (tl (cq 2652 0)) (n0 l355) .e .e) (.n (some (cq 156 0)) .e .e (tl (cq 1692 0)) .e (n0 l352) (tl (cq 3228 0)) 
 .e l1) (.n none (tl (cq 732 0)) .e .e (m0 (cq 2268 0) l1) (n0 l537) .e (tl (cq 3804 0)) l3) (.n none .e (m0 (cq 1308 0) l3) .e (n0 l3) (tl (cq 2844 
 0)) .e .e .e) (.n (some (cq 348 0)) .e (n0 l353) (tl (cq 1884 0)) .e .e (tl (cq 3420 0)) .e l1) (.n none (m0 (cq 924 0) l354) (n0 (tl (cs 5542 256 
 1769472))) (n0 l3) (m0 (cq 2460 0) l355) (n0 l3) (n0 l354) (tl (cq 3996 0)) l3) (.n none .e (m0 (cq 1500 0) l355) .e .e (m0 (cq 3036 0) l353) .e .e 
 .e) (.n (some (cq 540 0)) (n0 l352) .e (m0 (cq 2076 0) l1) (n0 l354) (n0 (tl (cs 7206 256 1769472))) (tl (cq 3612 0)) .e l1)) (.n (some (cq 36 0)) (.n 
 none (tl (cq 612 0)) .e (n0 l353) (m0 (cq 2148 0) l1) (n0 (tl (cs 6766 256 1769472))) .e (tl (cq 3684 0)) (tl (.cells rw7 393217 .gr))) (.n none .e 
 (m0 (cq 1188 0) l354) .e (n0 l3) (m0 (cq 2724 0) l355) (n0 l3) .e .e) (.n (some (cq 228 0)) .e .e (tl (cq 1764 0)) .e .e (tl (cq 3300 0)) .e l1) (.n 
 none (tl (cq 804 0)) (n0 l352) .e (m0 (cq 2340 0) l1) (n0 l354) (n0 l3) (tl (cq 3876 0)) l3) (.n none (n0 l3) (m0 (cq 1380 0) l567) .e (n0 (tl (.cells 
 [(num 0),(sl 5844 256)] 0 .ex))) (tl (cq 2916 0)) .e .e .e) (.n (some (cq 420 0)) (n0 l353) .e (m0 (cq 1956 0) l1) .e (n0 l352) (m0 (cq 3492 0) (tl 
 (.cells [(num 300),(sl 7585 256)] 13959168 .ex))) .e l1) (.n none (m0 (cq 996 0) (tl (cs 5102 256 1769472))) .e (n0 l3) (m0 (cq 2532 0) l3) (n0 l585) 
 .e (tl (cq 4068 0)) l3) (.n none (n0 l355) (m0 (cq 1572 0) l3) .e (n0 l353) (tl (cq 3108 0)) (n0 l440) .e (tl (.cells rw9 16908288 .ex)))) (.n none 
 (.n (some (cq 108 0)) .e (n0 l3) (m0 (cq 1644 0) l615) .e .e (tl (cq 3180 0)) .e l1) (.n none (tl (cq 684 0)) (n0 l353) .e (m0 (cq 2220 0) l1) .e (n0 
 l352) (tl (cq 3756 0)) l3) (.n none .e (m0 (cq 1260 0) (tl (cs 5366 256 1769472))) .e (n0 l3) (m0 (cq 2796 0) l3) .e .e .e) (.n (some (cq 300 0)) (n0 
 l458) (n0 l355) (tl (cq 1836 0)) .e (n0 l353) (tl (cq 3372 0)) .e l1) (.n none (m0 (cq 876 0) l352) .e .e (tl (cq 2412 0)) (n0 (tl (cs 7030 256 
 1769472))) .e (tl (cq 3948 0)) l3) (.n none (n0 l487) (m0 (cq 1452 0) l354) .e .e (m0 (cq 2988 0) l355) .e .e .e) (.n (some (cq 492 0)) .e .e (m0 (cq 
 2028 0) l1) (n0 l352) .e (m0 (cq 3564 0) l641) .e l1) (.n none (tl (cq 1068 0)) (n0 l352) (n0 l3) (m0 (cq 2604 0) l505) (n0 l354) .e .e .e)) (.n none 
 (.n none (n0 (tl (.cells rw11 16908288 .ex))) (m0 (cq 1140 0) l352) .e (n0 l3) (m0 (cq 2676 0) l354) (n0 (tl (cs 7294 256 1769472))) .e .e) (.n (some 
 (cq 180 0)) .e (n0 l535) (m0 (cq 1716 0) l457) .e .e (m0 (cq 3252 0) l355) .e l1) (.n none (m0 (cq 756 0) l457) .e .e (m0 (cq 2292 0) l1) (n0 l352) 
 (n0 l3) (tl (cq 3828 0)) l3) (.n none .e (tl (cq 1332 0)) .e (n0 l3) (m0 (cq 2868 0) l553) .e .e .e) (.n (some (cq 372 0)) (n0 l355) (n0 l3) (tl (cq 
 1908 0)) .e .e (tl (cq 3444 0)) .e l1) (.n none (tl (cq 948 0)) (n0 l353) (n0 l3) (m0 (cq 2484 0) (tl (cs 6590 256 1769472))) .e .e (tl (cq 4020 0)) 
 l3) (.n none (n0 l354) (m0 (cq 1524 0) (tl (cs 5630 256 1769472))) .e (n0 l355) (m0 (cq 3060 0) l3) (n0 (tl (.cells [(num 1),(sl 7637 256)] 13959168 
 .ex))) .e .e) (.n (some (cq 564 0)) .e (n0 l355) (m0 (cq 2100 0) l1) .e (n0 l353) (tl (cq 3636 0)) .e l443)) (.n (some (cq 60 0)) (.n none (tl (cq 636 
 0)) (n0 l355) (n0 l3) (m0 (cq 2172 0) l1) (n0 l353) .e (tl (cq 3708 0)) l3) (.n none .e (tl (cq 1212 0)) .e (n0 l3) (m0 (cq 2748 0) (tl (cs 6854 256 
 1769472))) .e .e .e) (.n (some (cq 252 0)) .e (n0 l354) (tl (cq 1788 0)) .e (n0 l355) (tl (cq 3324 0)) .e l1) (.n none (tl (cq 828 0)) .e .e (m0 (cq 
 2364 0) l1) .e .e (tl (cq 3900 0)) l3) (.n none .e (m0 (cq 1404 0) l352) (n0 l3) (n0 l3) (m0 (cq 2940 0) l354) .e .e .e) (.n (some (cq 444 0)) (n0 l3) 
 (n0 l583) (m0 (cq 1980 0) l1) .e .e (m0 (cq 3516 0) l631) .e l1) (.n none (m0 (cq 1020 0) l353) .e (n0 l3) (tl (cq 2556 0)) (n0 l352) .e (tl (cq 4092 
 0)) l3) (.n none (n0 (tl (cs 5190 256 1769472))) (tl (cq 1596 0)) .e (n0 l3) (m0 (cq 3132 0) l601) (n0 (tl (.cells [(.slice none 0 0),(.slice none 0 
 0),(num 1),(num 0)] 0 .ex))) .e l440)) (.n none (.n (some (cq 132 0)) .e .e (m0 (cq 1668 0) l352) .e (n0 l521) (m0 (cq 3204 0) l354) .e l1) (.n none 
 (m0 (cq 708 0) l3) (n0 l3) .e (m0 (cq 2244 0) l1) .e .e (tl (cq 3780 0)) l3) (.n none .e (m0 (cq 1284 0) l353) .e (n0 l3) (tl (cq 2820 0)) .e .e .e) 
 (.n (some (cq 324 0)) .e (n0 (tl (cs 5454 256 1769472))) (tl (cq 1860 0)) .e (n0 l3) (tl (cq 3396 0)) .e l1) (.n none (tl (cq 900 0)) (n0 l355) .e (tl 
 (cq 2436 0)) (n0 l353) .e (tl (cq 3972 0)) l3) (.n none (n0 l352) (tl (cq 1476 0)) .e (n0 l354) (m0 (cq 3012 0) (tl (cs 7118 256 1769472))) .e .e .e) 
 (.n (some (cq 516 0)) (n0 l503) (n0 l354) (m0 (cq 2052 0) l1) .e (n0 l355) (tl (cq 3588 0)) (tl (.cells [T,(num 1),(num 0),(.slice none 0 0)] 0 .ex)) 
 l1) (.n none (tl (cq 1092 0)) .e (n0 l3) (m0 (cq 2628 0) l352) .e .e .e l361))) (.n none (.n none (.n (some o3) .e .e (m0 o3 l352) (n0 (tl (cq 6221 
 0))) (n0 l511) (m0 o3 l354) .e l362) (.n none l3 (n0 l3) (n0 l621) l3 .e .e l3 .e) (.n none .e (m0 o3 l353) .e .e l3 .e .e (tl (cq 4301 0))) (.n (some 
 o3) .e (n0 (tl (cs 5399 256 1769472))) l3 (n0 (tl (cq 6413 0))) (n0 l3) l3 .e .e) (.n none l3 (n0 l355) .e (m0 o3 l3) (n0 l353) .e l3 .e) (.n none (n0 
 l352) l3 .e .e (m0 o3 (tl (cs 7063 256 1769472))) (n0 l817) .e (tl (cq 4493 0))) (.n (some o3) (n0 l493) (n0 l354) l3 .e (n0 l355) l3 .e .e) (.n none 
 l3 .e .e (m0 o3 l352) .e .e (tl (cn 300 0)) .e)) (.n none (.n none .e l3 (n0 l355) .e l3 (n0 l353) .e l361) (.n (some o3) .e (n0 l352) l3 (n0 (tl (cq 
 6293 0))) (n0 l354) (m0 o3 (tl (cs 7327 256 1769472))) .e .e) (.n none l3 (n0 l541) .e l3 .e .e l3 .e) (.n none .e l3 .e .e (m0 o3 l352) .e .e (tl (cq 
 4373 0))) (.n (some o3) (n0 (tl (cs 4959 256 1769472))) .e (m0 o3 l457) (n0 l352) (n0 l559) l3 .e .e) (.n none (m0 o3 l355) (n0 l3) (n0 l641) (m0 o3 
 l353) .e .e l3 .e) (.n none .e (m0 o3 l353) (n0 (tl (cq 6101 0))) (n0 (tl (cs 6623 256 1769472))) l3 (n0 l3) .e (tl (cq 4565 0))) (.n (some o3) (n0 
 l354) (n0 (tl (cs 5663 256 1769472))) l3 (n0 l355) (n0 l3) l3 .e .e)) (.n (some o3) (.n none l3 (n0 (tl (cs 5223 256 1769472))) .e l3 (n0 l3) (n0 
 l607) l3 .e) (.n none .e (m0 o3 l355) .e .e (m0 o3 l353) .e .e (tl (cq 4253 0))) (.n (some o3) .e .e l3 (n0 (tl (cq 6365 0))) (n0 (tl (cs 6887 256 
 1769472))) l3 .e .e) (.n none (m0 o3 (tl (.cells [(sl 4735 1)] 1769473 .gr))) (n0 l354) .e l3 (n0 l355) .e l3 .e) (.n none .e l3 .e (n0 l355) l3 .e .e 
 (tl (cq 4445 0))) (.n (some o3) .e (n0 l352) l3 (n0 l479) (n0 l354) l3 .e .e) (.n none (m0 o3 l3) (n0 l589) .e l3 .e .e l3 .e) (.n none (n0 l353) l3 
 (n0 (tl (cq 6173 0))) .e (m0 o3 l352) (n0 (tl (.cells [(.slice none 0 0),(.slice none 0 0),(.map (some 7708))] 0 .ex))) (tl (.cells rw5 0 .ex)) (tl 
 (cq 4637 0)))) (.n none (.n (some o3) .e .e l3 (n0 (tl (cq 6245 0))) (n0 l352) l3 .e .e) (.n none l3 .e (n0 (tl (.map [((num 0) , (sl 5844 256)),((num 
 1) , (sl 5909 256)),((num 2) , (sl 6038 256)),((num 3) , (q 6041 256 256)),((num 4) , (q 6047 256 256)),((num 5) , (q 6053 256 256)),((num 6) , (q 
 6059 256 256)),((num 7) , (q 6065 256 256)),((num 8) , (q 6071 256 256)),((num 9) , (q 6077 256 256)),((num 10) , (q 6083 256 256)),((num 11) , (q 
 6089 256 256)),((num 12) , (q 6095 256 256)),((num 13) , (q 6101 256 256)),((num 14) , (q 6107 256 256)),((num 15) , (q 6113 256 256)),((num 16) , (q 
 6119 256 256)),((num 17) , (q 6125 256 256)),((num 18) , (q 6131 256 256)),((num 19) , (q 6137 256 256)),((num 20) , (q 6143 256 256)),((num 21) , (q 
 6149 256 256)),((num 22) , (q 6155 256 256)),((num 23) , (q 6161 256 256)),((num 24) , (q 6167 256 256)),((num 25) , (q 6173 256 256)),((num 26) , (q 
 6179 256 256)),((num 27) , (q 6185 256 256)),((num 28) , (q 6191 256 256)),((num 29) , (q 6197 256 256)),((num 30) , (q 6203 256 256)),((num 31) , (q 
 6209 256 256)),((num 32) , (q 6215 256 256)),((num 33) , (q 6221 256 256)),((num 34) , (q 6227 256 256)),((num 35) , (q 6233 256 256)),((num 36) , (q 
 6239 256 256)),((num 37) , (q 6245 256 256)),((num 38) , (q 6251 256 256)),((num 39) , (q 6257 256 256)),((num 40) , (q 6263 256 256)),((num 41) , (q 
 6269 256 256)),((num 42) , (q 6275 256 256)),((num 43) , (q 6281 256 256)),((num 44) , (q 6287 256 256)),((num 45) , (q 6293 256 256)),((num 46) , (q 
 6299 256 256)),((num 47) , (q 6305 256 256)),((num 48) , (q 6311 256 256)),((num 49) , (q 6317 256 256)),((num 50) , (q 6323 256 256)),((num 51) , (q 
 6329 256 256)),((num 52) , (q 6335 256 256)),((num 53) , (q 6341 256 256)),((num 54) , (q 6347 256 256)),((num 55) , (q 6353 256 256)),((num 56) , (q 
 6359 256 256)),((num 57) , (q 6365 256 256)),((num 58) , (q 6371 256 256)),((num 59) , (q 6377 256 256)),((num 60) , (q 6383 256 256)),((num 61) , (q 
 6389 256 256)),((num 62) , (q 6395 256 256)),((num 63) , (q 6401 256 256)),((num 64) , (q 6407 256 256)),((num 65) , (q 6413 256 256)),((num 66) , (q 
 6419 256 256)),((num 67) , (q 6425 256 256)),((num 68) , (q 6431 256 256)),((num 69) , (q 6437 256 256)),((num 70) , (q 6443 256 256)),((num 71) , (q 
 6449 256 256)),((num 72) , (q 6455 256 256)),((num 73) , (q 6461 256 256)),((num 74) , (q 6467 256 256)),((num 75) , (q 6473 256 256))] 76))) l3 (n0 
 l527) (n0 l354) l3 .e) (.n none .e (m0 o3 l3) (n0 (tl (.cells (bs [3,1]) 0 .ex))) .e l3 .e .e (tl (cq 4325 0))) (.n (some o3) .e (n0 l353) (m0 o3 (tl 
 (.cells (bs [1,1]) 0 .ex))) (n0 (tl (cq 6437 0))) .e l3 .e .e) (.n none (m0 o3 l354) (n0 (tl (cs 5487 256 1769472))) .e l3 (n0 l3) (n0 l454) l3 .e) 
 (.n none .e (m0 o3 l355) (n0 (tl (cq 6053 0))) .e (m0 o3 l353) .e .e (tl (cq 4517 0))) (.n (some o3) (n0 l352) .e l3 (n0 l354) (n0 (tl (cs 7151 256 
 1769472))) l3 .e .e) (.n none (m0 o3 l509) (n0 l354) .e l3 (n0 l355) .e .e .e)) (.n none (.n none (n0 (tl (.cells (bs [16]) 0 .ex))) (m0 o3 l354) (n0 
 (tl (cs 5751 256 1769472))) .e (m0 o3 l355) (n0 l3) .e (tl (cq 4205 0))) (.n (some o3) (n0 l361) .e l3 (n0 (tl (cq 6317 0))) .e (m0 o3 l353) .e .e) 
 (.n none (m0 o3 l3) (n0 l352) .e l3 (n0 l354) .e l3 .e) (.n none (n0 l465) (m0 o3 l557) (n0 l361) .e l3 .e .e (tl (cq 4397 0))) (.n (some o3) (n0 
 l353) .e l3 (n0 l3) (n0 l352) (m0 o3 (tl (.cells [(num 301),(sl 7412 256)] 13959168 .ex))) .e .e) (.n none (m0 o3 (tl (cs 5047 256 1769472))) .e .e 
 (m0 o3 l3) (n0 l575) .e l3 .e) (.n none (n0 l355) (m0 o3 l3) (n0 (tl (cq 6125 0))) (n0 l353) l3 (n0 (tl (.cells rw32 13959170 .gr))) .e (tl (cq 4589 
 0))) (.n (some o3) .e (n0 l353) l3 (n0 (tl (cs 6711 256 1769472))) .e l3 .e (tl (.map [((num 2) , (.agg ⟨ [(num 2),(num 1),(Ev.strOf [86]),T] ⟩))] 
 1)))) (.n (some o3) (.n none l3 (n0 l353) .e l3 .e (n0 l352) l3 .e) (.n none .e (m0 o3 (tl (cs 5311 256 1769472))) .e .e (m0 o3 l3) (n0 (tl (.map 
 [((num 0) , T),((num 1) , T),((num 2) , T)] 3))) .e (tl (cq 4277 0))) (.n (some o3) .e (n0 l355) l3 (n0 (tl (cq 6389 0))) (n0 l353) l3 .e .e) (.n none 
 l3 .e .e l3 (n0 (tl (cs 6975 256 1769472))) (n0 l457) l3 .e) (.n none (n0 l477) (m0 o3 l354) .e .e (m0 o3 l355) (n0 (tl (.cells [(num 303),(sl 7508 
 256)] 13959168 .ex))) .e (tl (cq 4469 0))) (.n (some o3) .e .e l3 (n0 l352) .e l3 .e .e) (.n none l3 (n0 l352) .e (m0 o3 l495) (n0 l354) .e l3 .e) (.n 
 none (n0 l3) (m0 o3 l605) (n0 (tl (cq 6197 0))) .e l3 .e (tl (.cells (bs [3,0]) 0 .ex)) .e)) (.n none (.n (some o3) .e (n0 l525) (m0 o3 l354) (n0 (tl 
 (cq 6269 0))) .e (m0 o3 l355) .e .e) (.n none l3 .e .e l3 (n0 l352) (n0 l801) l3 .e) (.n none .e l3 (n0 l634) .e (m0 o3 l543) .e .e (tl (cq 4349 0))) 
 (.n (some o3) .e (n0 l3) l3 (n0 (tl (cq 6461 0))) .e l3 .e .e) (.n none l3 (n0 l353) (n0 l3) (m0 o3 l475) .e .e l3 .e) (.n none (n0 l354) (m0 o3 (tl 
 (cs 5575 256 1769472))) (n0 (tl (cq 6077 0))) (n0 l355) (m0 o3 l3) (n0 l3) .e (tl (cq 4541 0))) (.n (some o3) .e (n0 l355) l3 .e (n0 l353) l3 .e .e) 
 (.n none (m0 o3 l352) .e .e (m0 o3 l354) (n0 (tl (cs 7239 256 1769472))) .e .e .e)) (.n none (.n none .e l3 (n0 l353) .e (m0 o3 (tl (cs 6799 256 
 1769472))) .e .e (tl (cq 4229 0))) (.n (some o3) .e (n0 l354) l3 (n0 (tl (cq 6341 0))) (n0 l355) l3 .e .e) (.n none (m0 o3 l3) .e (n0 l361) l3 .e (n0 
 l361) l3 .e) (.n none .e (m0 o3 l352) (n0 l3) .e (m0 o3 l354) .e .e (tl (cq 4421 0))) (.n (some o3) (n0 l3) (n0 l573) l3 .e .e l3 .e .e) (.n none (m0 
 o3 l353) .e .e l3 (n0 l352) .e l3 .e) (.n none (n0 (tl (cs 5135 256 1769472))) l3 (n0 (tl (cq 6149 0))) (n0 l3) (m0 o3 l591) (n0 (tl (.cells [(num 
 300),(sl 7695 256)] 0 .ex))) .e (tl (cq 4613 0))) (.n (some o3) (n0 l355) (n0 l3) l3 (n0 l353) .e (m0 o3 (tl (.cells rw34 0 .ex))) .e .e))) (.n none 
 (.n none (.n none .e .e (n0 l353) .e (n0 (tl (cs 6744 256 1769472))) .e .e l3) (.n none .e (n0 l354) (n0 (tl (cs 5784 256 1769472))) (n0 l1) (n0 l355) 
 (n0 l3) .e l3) (n3 (n0 (tl (.cells (bs [0,0,0,2]) 393217 .gr))) (n0 l3)) (.n none .e (n0 l352) .e .e (n0 l354) (n0 l801) .e l1) (.n none (n0 (tl 
 (.cells rw18 0 .ex))) (n0 l563) .e (n0 (tl (.map [((num 0) , (sl 6494 256)),((num 1) , (sl 6515 256)),((num 2) , (sl 6536 256))] 3))) .e .e .e l3) (.n 
 none (n0 l353) .e .e (n0 (tl (.cells [(num 2),(sl 6038 256)] 0 .ex))) (n0 l352) .e .e .e) (.n none (n0 (tl (cs 5080 256 1769472))) .e (n0 l1) (n0 l3) 
 (n0 l581) .e .e l1) (.n none (n0 l355) (n0 l3) (n0 l3) (n0 l353) .e (n0 l355) (tl (cs 4120 256 1769472)) l3)) (.n none (.n none .e (n0 l3) (n0 l611) 
 (n0 l3) .e .e .e .e) (.n none .e (n0 l353) .e .e .e (n0 l352) .e l1) (.n none (n0 l361) (n0 (tl (cs 5344 256 1769472))) .e (n0 l1) (n0 l3) (n0 (tl 
 (.cells (bs [3]) 0 .ex))) .e l3) (.n none .e (n0 l355) .e (n0 l3) (n0 l353) .e .e .e) (.n none (n0 l352) .e .e (n0 l353) (n0 (tl (cs 7008 256 
 1769472))) .e .e l1) (.n none (n0 l483) (n0 l354) (n0 l3) .e (n0 l355) .e .e l3) (.n none .e .e .e (n0 l352) .e .e .e .e) (.n none .e (n0 l352) (n0 
 l1) (n0 l501) (n0 l354) .e .e l1)) (.n none (.n none .e (n0 l352) .e (n0 l1) (n0 l354) (n0 (tl (cs 7272 256 1769472))) .e .e) (.n none .e (n0 l531) .e 
 (n0 l3) .e (n0 l355) .e .e) (.n none .e .e .e .e (n0 l352) (n0 l800) .e l1) (.n none (n0 l354) .e .e (n0 l1) (n0 l549) .e .e l3) (.n none (n0 l355) 
 (n0 l3) .e .e .e (n0 l3) .e .e) (.n none .e (n0 l353) (n0 l1) (n0 (tl (cs 6568 256 1769472))) .e .e .e l1) (.n none (n0 l354) (n0 (tl (cs 5608 256 
 1769472))) (n0 l3) (n0 l355) (n0 l3) .e .e l3) (.n none .e (n0 l355) .e .e (n0 l353) .e .e .e)) (.n none (.n none (n0 l3) (n0 l355) (n0 l3) .e (n0 
 l353) .e .e l1) (.n none .e .e .e (n0 l1) (n0 (tl (cs 6832 256 1769472))) .e .e l3) (.n none .e (n0 l354) .e (n0 l3) (n0 l355) .e .e .e) (.n none .e 
 .e .e .e .e .e .e l1) (.n none .e (n0 l352) (n0 (tl (.cells (bs [4]) 0 .ex))) .e (n0 l354) .e .e l3) (n1 (n0 l3) (n0 l579)) (.n none (n0 l353) .e (n0 
 l1) .e (n0 l352) .e .e l1) (.n none (n0 (tl (cs 5168 256 1769472))) .e (n0 l3) (n0 l3) (n0 l597) .e .e l440)) (.n none (.n none .e .e (n0 l352) (n0 
 l3) (n0 l517) (n0 l354) .e .e) (.n none .e (n0 l3) .e .e .e .e .e l1) (.n none .e (n0 l353) .e (n0 l1) .e .e .e l3) (.n none .e (n0 (tl (cs 5432 256 
 1769472))) .e (n0 l3) (n0 l3) (n0 l3) .e .e) (.n none .e (n0 l355) .e (n0 l354) (n0 l353) .e .e l1) (.n none (n0 l352) .e (n0 l3) (n0 l354) (n0 (tl 
 (cs 7096 256 1769472))) .e .e l3) (.n none (n0 l499) (n0 l354) .e .e (n0 l355) .e .e .e) (.n none .e .e (n0 l1) (n0 l352) .e .e .e .e)) (.n none (.n 
 none (n0 l440) .e (n0 l355) (n0 l1) .e (n0 l353) .e l3) (.n none .e (n0 l352) .e (n0 l3) (n0 l354) .e .e .e) (.n none .e (n0 l547) .e .e .e .e .e l1) 
 (.n none (n0 l465) .e .e (n0 l1) (n0 l352) .e .e l3) (.n none (n0 (tl (cs 4992 256 1769472))) .e .e .e (n0 l565) .e .e .e) (.n none (n0 l355) (n0 l3) 
 (n0 l1) (n0 l353) .e .e .e l1) (.n none .e (n0 l353) (n0 l3) (n0 (tl (cs 6656 256 1769472))) .e .e .e l3) (.n none (n0 l354) (n0 (tl (cs 5696 256 
 1769472))) .e (n0 l355) (n0 l3) .e .e .e)) (.n none (.n none (n0 (tl (.cells (bs [0]) 393217 .gr))) (n0 (tl (cs 5256 256 1769472))) .e .e (n0 l3) (n0 
 l613) .e l1) (.n none .e (n0 l355) (n0 (tl (.cells (bs [44]) 0 .ex))) (n0 l1) (n0 l353) .e .e l3) (.n none .e .e (n0 l3) (n0 l3) (n0 (tl (cs 6920 256 
 1769472))) (n0 l3) .e .e) (.n none .e (n0 l354) .e .e (n0 l355) (n0 l802) .e l1) (.n none .e .e .e (n0 (tl (cs 6536 256 1769472))) .e (n0 (tl (.cells 
 (bs [50]) 0 .ex))) .e l3) (.n none .e (n0 l352) .e (n0 l485) (n0 l354) .e .e .e) (.n none (n0 l3) (n0 l595) (n0 l1) .e .e .e .e l1) (.n none (n0 l353) 
 .e (n0 l3) .e (n0 l352) .e .e .e)) (.n none (.n none .e .e .e (n0 l3) (n0 l352) .e .e .e) (.n none .e .e .e .e (n0 l533) .e .e l1) (.n none .e (n0 l3) 
 .e (n0 l1) .e .e .e l3) (.n none .e (n0 l353) .e (n0 l3) .e .e .e .e) (.n none (n0 l354) (n0 (tl (cs 5520 256 1769472))) .e .e (n0 l3) .e .e l1) (.n 
 none .e (n0 l355) (n0 l3) .e (n0 l353) .e .e l3) (.n none (n0 l352) .e .e (n0 l354) (n0 (tl (cs 7184 256 1769472))) .e .e .e) (.n none (n0 l515) (n0 
 l354) (n0 l1) .e (n0 l355) .e .e .e))) (.n none (.n none (.n none (n0 l361) l1 .e .e (m0 o1 l352) .e .e .e) (.n (some o1) .e .e (m0 o1 l352) (n0 (tl 
 (cq 6287 0))) (n0 l523) (m0 o1 l354) .e .e) (.n none (m0 o1 l456) (n0 l3) (n0 (tl (.cells rw22 0 .ex))) l1 .e (n0 l3) l1 .e) (.n none .e (m0 o1 l353) 
 (n0 l457) .e l1 .e .e (tl (cq 4367 0))) (.n (some o1) .e (n0 (tl (cs 5465 256 1769472))) (m0 o1 l362) .e (n0 l3) (m0 o1 l354) .e .e) (.n none l1 (n0 
 l355) .e l1 (n0 l353) .e l1 .e) (.n none (n0 l352) l1 (n0 (tl (cq 6095 0))) (n0 l354) (m0 o1 (tl (cs 7129 256 1769472))) .e .e (tl (cq 4559 0))) (.n 
 (some o1) (n0 l505) (n0 l354) l1 .e (n0 l355) (m0 o1 (tl (.cells [(num 300),(sl 7695 256)] 13959170 .gr))) l352 .e)) (.n (some o1) (.n none l1 (n0 
 l354) (n0 (tl (cs 5729 256 1769472))) l1 (n0 l355) (n0 l3) l1 .e) (.n none .e l1 (n0 l355) .e l1 (n0 l353) .e (tl (cq 4247 0))) (.n (some o1) .e (n0 
 l352) l1 (n0 (tl (cq 6359 0))) (n0 l354) l1 .e .e) (.n none (m0 o1 (tl (.cells rw15 0 .ex))) (n0 l553) .e l1 .e .e l1 .e) (.n none (n0 l353) l1 .e .e 
 (m0 o1 l352) .e .e (tl (cq 4439 0))) (.n (some o1) (n0 (tl (cs 5025 256 1769472))) .e l1 (n0 l3) (n0 l571) (m0 o1 (tl (.cells [(num 300),(sl 7585 
 256)] 0 .ex))) .e .e) (.n none (m0 o1 l355) (n0 l3) .e (m0 o1 l353) .e .e l1 .e) (.n none .e (m0 o1 l353) (n0 (tl (cq 6167 0))) (n0 (tl (cs 6689 256 
 1769472))) l1 .e l355 (tl (cq 4631 0)))) (.n none (.n (some o1) .e (n0 l353) l1 (n0 (tl (cq 6239 0))) .e (m0 o1 l352) .e l361) (.n none l1 (n0 (tl (cs 
 5289 256 1769472))) (n0 l440) l1 (n0 l3) (n0 l619) l1 .e) (.n none .e (m0 o1 l355) .e .e (m0 o1 l353) .e .e (tl (cq 4319 0))) (.n (some o1) .e .e l1 
 (n0 (tl (cq 6431 0))) (n0 (tl (cs 6953 256 1769472))) (m0 o1 l354) .e .e) (.n none (m0 o1 l473) (n0 l354) .e l1 (n0 l355) .e l1 .e) (.n none .e l1 (n0 
 (tl (cq 6047 0))) (n0 l352) l1 .e .e (tl (cq 4511 0))) (.n (some o1) .e (n0 l352) l1 (n0 l491) (n0 l354) l1 .e .e) (.n none (m0 o1 l3) (n0 l601) .e l1 
 .e .e .e .e)) (.n none (.n none .e (m0 o1 l521) (n0 l354) .e l1 (n0 l355) .e (tl (cq 4199 0))) (.n (some o1) .e .e l1 (n0 (tl (cq 6311 0))) (n0 l352) 
 l1 .e .e) (.n none l1 .e .e l1 (n0 l539) .e l1 .e) (.n none (n0 l456) (m0 o1 l3) .e .e l1 .e .e (tl (cq 4391 0))) (.n (some o1) .e (n0 l353) l1 (n0 
 l3) .e l1 .e .e) (.n none (m0 o1 l354) (n0 (tl (cs 5553 256 1769472))) .e (m0 o1 l355) (n0 l3) .e l1 .e) (.n none .e (m0 o1 l355) (n0 (tl (cq 6119 
 0))) .e (m0 o1 l353) .e .e (tl (cq 4583 0))) (.n (some o1) (n0 l352) .e l1 (n0 l354) (n0 (tl (cs 7217 256 1769472))) l1 .e .e)) (.n (some o1) (.n none 
 l1 .e (n0 l353) l1 (n0 (tl (cs 6777 256 1769472))) .e l1 .e) (.n none .e (m0 o1 l354) .e .e (m0 o1 l355) (n0 l3) .e (tl (cq 4271 0))) (.n (some o1) .e 
 .e l1 (n0 (tl (cq 6383 0))) .e (m0 o1 l354) .e .e) (.n none l1 (n0 l352) .e l1 (n0 l354) .e l1 .e) (.n none (n0 l3) (m0 o1 l569) .e .e l1 .e .e (tl 
 (cq 4463 0))) (.n (some o1) (n0 l353) .e l1 .e (n0 l352) l1 .e .e) (.n none (m0 o1 (tl (cs 5113 256 1769472))) .e .e (m0 o1 l3) (n0 l587) .e l1 .e) 
 (.n none (n0 l355) (m0 o1 l3) (n0 (tl (cq 6191 0))) (n0 l353) l1 .e .e (tl (.cells [(ptr 4131 0),(.map (some 4654)),(num 16)] 0 .ex)))) (.n none (.n 
 (some o1) .e (n0 l3) (m0 o1 l617) (n0 (tl (cq 6263 0))) .e l1 .e .e) (.n none (m0 o1 l361) (n0 l353) (n0 l3) l1 .e .e l1 .e) (.n none (n0 l3) (m0 o1 
 (tl (cs 5377 256 1769472))) .e .e (m0 o1 l3) .e .e (tl (cq 4343 0))) (.n (some o1) .e (n0 l355) (m0 o1 l454) (n0 (tl (cq 6455 0))) (n0 l353) l1 .e .e) 
 (.n none (m0 o1 l352) .e (n0 l640) l1 (n0 (tl (cs 7041 256 1769472))) (n0 (tl (.cells rw30 393217 .gr))) l1 .e) (.n none (n0 l489) (m0 o1 l354) (n0 
 (tl (cq 6071 0))) .e (m0 o1 l355) .e .e (tl (cq 4535 0))) (.n (some o1) .e .e l1 (n0 l352) .e l1 .e .e) (.n none l1 (n0 l352) .e (m0 o1 l507) (n0 
 l354) (n0 (tl (.cells [(ptr 7731 0),(.slice none 0 0),(.slice none 0 0)] 0 .ex))) .e .e)) (.n none (.n none (n0 l354) (m0 o1 l352) .e .e (m0 o1 l354) 
 (n0 (tl (cs 7305 256 1769472))) .e (tl (cq 4223 0))) (.n (some o1) .e (n0 l537) l1 (n0 (tl (cq 6335 0))) .e l1 .e .e) (.n none l1 .e .e l1 (n0 l352) 
 .e l1 .e) (.n none .e l1 .e .e (m0 o1 l555) .e .e (tl (cq 4415 0))) (.n (some o1) (n0 l355) (n0 l3) l1 (n0 l352) .e l1 .e .e) (.n none l1 (n0 l353) .e 
 (m0 o1 (tl (cs 6601 256 1769472))) .e .e l1 .e) (.n none (n0 l354) (m0 o1 (tl (cs 5641 256 1769472))) (n0 (tl (cq 6143 0))) (n0 l355) (m0 o1 l3) .e .e 
 (tl (cq 4607 0))) (.n (some o1) .e (n0 l355) l1 .e (n0 l353) (m0 o1 l354) .e l3)) (.n (some o1) (.n none (m0 o1 (tl (cs 4735 1 0))) (n0 l355) (n0 l3) 
 l1 (n0 l353) .e l1 .e) (.n none .e l1 .e .e (m0 o1 (tl (cs 6865 256 1769472))) .e .e (tl (cq 4295 0))) (.n (some o1) .e (n0 l354) l1 (n0 (tl (cq 6407 
 0))) (n0 l355) l1 .e .e) (.n none l1 .e .e l1 .e .e l1 .e) (.n none .e (m0 o1 l352) .e (n0 l355) (m0 o1 l354) .e .e (tl (cq 4487 0))) (.n (some o1) 
 (n0 l3) (n0 l585) l1 .e .e l1 .e .e) (.n none (m0 o1 l353) .e .e l1 (n0 l352) .e l348 .e) (.n none (n0 (tl (cs 5201 256 1769472))) l1 (n0 (tl (cq 6215 
 0))) (n0 l3) (m0 o1 l603) .e .e .e))))
def fresh_st : St := ⟨fresh_heap, 7756⟩
def fresh_v : Value := (.tuple ⟨[(ptr 7706 0), (ptr 7750 0)]⟩)
def primsA : List (FuncId × Prim) := [(217, pSum), (351, pCompare), (399, pIndexByteString), (287, pInsert (tag 26 1) 24), (162, pSortedKeys [192] (tag 3 1)), (245, pMapsClone), (415, pMapsClone), (127, pNoneSl), (185, pNonePtr)]
def primsB : List (FuncId × Prim) := (57, pAt 4 [.int .i64 341] disk_v disk_st) :: primsA
theorem fresh_run : callC (envOf Tryz.prog primsB) (runC (envOf Tryz.prog primsB) 20000) 21 [] (bare 4) = some [(fresh_v, fresh_st)] := by kernel_rfl
end
end Go.Proofs.YtmpckglmfklfiaaGreatDoor
